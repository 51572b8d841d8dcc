/- The engine, and texts over it, joined: EOpI EOpV EOpJ EOpK EOpL EMap EMapS EOpM EOpN. -/
import Derived.Test.YthdeehkmlaejfaaEngA
import Derived.Lib.AppendZerosOnto
import Derived.MapKept
import Derived.RangeFuncRecord
import Derived.Laws.IdiomRangeMap
import Derived.WideKeyRuns
/- The engine, part 11: append, as it is told. -/
namespace Go.Proofs.Ythdeehkmlaejfaa.E
open Go
set_option linter.unusedSimpArgs false
set_option linter.unusedVariables false

def joined (n : Nat) (g1 g2 : Nat → List AV) : Nat → List AV := fun k => if k < n then g1 k else g2 (k - n)

def aAppend (tt : List TE) (t : Nat) (x y : AV) (σ : St) : Option (Bool × AV × St) :=
  match look tt t with
  | none => none
  | some e => match e.td with
    | .slice el => match look tt el with
      | none => none
      | some ee =>
        match Nat.ble 1 ee.size, Nat.ble ee.size 32768, Nat.ble ee.bytes 32768, Nat.beq ee.zero.length ee.size with
        | true, true, true, true =>
          match rowOf ee.size x σ, rowOf ee.size y σ with
          | some (c1, n, g1), some (c2, m, g2) =>
            match x with
            | .s l _ _ _ => some (c1 && (c2 && Nat.ble (n + m) 4294967295), .s σ.length ee.size 0 (n + m), σ.set l .gone ++ [.tab ee.size (n + m) (joined n g1 g2)])
            | .v _ => some (c2 && Nat.ble m 4294967295, .s σ.length ee.size 0 m, σ ++ [.tab ee.size m g2])
            | .z => some (c2 && Nat.ble m 4294967295, .s σ.length ee.size 0 m, σ ++ [.tab ee.size m g2])
            | _ => none
          | _, _ => none
        | _, _, _, _ => none
    | _ => none

theorem Keep.drew (F : Nat → Nat → Prop) (W : World) : Keep F W W.drew := ⟨rfl, rfl, rfl, Nat.le_refl _, fun _ _ _ => rfl, fun _ c _ _ h => ⟨c, h, rfl, fun _ _ => rfl⟩, fun _ r h => ⟨r.state, r.pending, h⟩⟩

/-- Elements in a list of values. -/
def Reads (R : Nat → Prop) (W : World) (sz n : Nat) (get : Nat → List AV) (xs : List Value) : Prop :=
  xs.length = n * sz ∧ ∀ (k j : Nat) (u : AV), k < n → (get k)[j]? = some u → ∃ x, xs[k * sz + j]? = some x ∧ CR R W u x

theorem Reads.joined {R : Nat → Prop} {W : World} {sz n m : Nat} {g1 g2 : Nat → List AV} {xs ys : List Value} (h1 : Reads R W sz n g1 xs) (h2 : Reads R W sz m g2 ys) (hl : ∀ k, k < n → (g1 k).length = sz) : Reads R W sz (n + m) (joined n g1 g2) (xs ++ ys) := by
  refine ⟨by rw [List.length_append, h1.1, h2.1, Nat.add_mul], fun k j u hk hu => ?_⟩
  unfold E.joined at hu
  split at hu
  · rename_i hkn
    obtain ⟨x, hx, hv⟩ := h1.2 k j u hkn hu
    exact ⟨x, by rw [List.getElem?_append_left]; exact hx; exact (List.getElem?_eq_some_iff.1 hx).1, hv⟩
  · rename_i hkn
    obtain ⟨x, hx, hv⟩ := h2.2 (k - n) j u (by omega) hu
    refine ⟨x, ?_, hv⟩
    have : k * sz = n * sz + (k - n) * sz := by rw [← Nat.add_mul]; congr 1; omega
    rw [List.getElem?_append_right (by rw [h1.1, this]; omega), h1.1, show k * sz + j - n * sz = (k - n) * sz + j by omega]
    exact hx

theorem joined_len {n m sz : Nat} {g1 g2 : Nat → List AV} (h1 : ∀ k, k < n → (g1 k).length = sz) (h2 : ∀ k, k < m → (g2 k).length = sz) : ∀ k, k < n + m → (joined n g1 g2 k).length = sz := by
  intro k hk
  unfold joined
  split
  · exact h1 k ‹_›
  · exact h2 _ (by omega)

/-- A new root that holds a row and some room; the root src may be gone. -/
theorem Rel.fresh {F0 : Nat → Nat → Prop} {W0 : World} {R : Nat → Prop} {φ : Phi} {σ : St} {f : List AV} {tmps : Array Value} {W : World} (h : Rel F0 W0 R φ σ f tmps W) {sz n : Nat} {get : Nat → List AV} {xs : List Value} (h0 : 0 < sz) (hm : n * sz < 281474976710656)
    (hl : ∀ k, k < n → (get k).length = sz) (hr : Reads R W sz n get xs) {c : Array Value} {T : TypeId} {rest : List Value} (hc : c.toList = xs ++ rest) {cap : Nat} (hcap : n ≤ cap) (hsz : c.size = cap * sz) {src : Nat}
    {σ' : St} (hlen : σ'.length = σ.length + 1) (hσ : ∀ m B, σ'[m]? = some B → (m = σ.length ∧ B = .tab sz n get) ∨ B = .gone ∨ (m ≠ src ∧ m ≠ σ.length ∧ σ[m]? = some B)) :
    Rel F0 W0 R (upd φ σ.length (some (W.heap.size, 0))) σ' f tmps (W.drew.alloc (.cells c T)) ∧ VR R (upd φ σ.length (some (W.heap.size, 0))) (W.drew.alloc (.cells c T)) (.s σ.length sz 0 n) (.slice (some ⟨W.heap.size, 0, none⟩) n cap) := by
  have hk : Keep (fun _ _ => False) W (W.drew.alloc (.cells c T)) := (Keep.drew _ W).trans (Keep.alloc (fun _ _ => False) W.drew _) fun _ _ h => h.elim
  have hcalm : Calm R W (W.drew.alloc (.cells c T)) := hk.calm fun _ _ h => h.elim
  refine ⟨Rel.turn h (l := σ.length) (src := src) (B' := .tab sz n get) (G := fun _ _ => False) hk (upd_ext _ (h.sim.dom _ (Nat.le_refl _))) (fun m hm h => upd_none hm h) (fun b k hg => hg.elim) ?_ (fun b k hw => ?_) hσ fun m hm => ?_, ?_⟩
  · refine ⟨h0, hm, hl, .inr ⟨W.heap.size, 0, upd_same _ _ _, Free.new W.drew _ _, fun k j u hkn hu => ?_⟩⟩
    obtain ⟨x, hx, hv⟩ := hr.2 k j u hkn hu
    refine ⟨x, ?_, hv.mono (fun _ h => h) hcalm⟩
    have := World.cell?_alloc_new W.drew c T (k * sz + j)
    rw [Nat.zero_add]
    refine this.trans ?_
    rw [← Array.getElem?_toList, hc, List.getElem?_append_left]
    · exact hx
    · exact (List.getElem?_eq_some_iff.1 hx).1
  · obtain ⟨o, e⟩ := hw
    rw [upd_same] at e
    obtain ⟨rfl, rfl⟩ := Prod.mk.inj (Option.some.inj (Option.some.inj e))
    exact .inr (Nat.le_refl _)
  · unfold upd
    rw [if_neg (by omega)]
    exact h.sim.dom m (by omega)
  · have := VR.s (R := R) (W := W.drew.alloc (.cells c T)) (l := σ.length) (sz := sz) (o := 0) (φ := upd φ σ.length (some (W.heap.size, 0))) (upd_same _ _ _) hcap (by
      have : room (W.drew.alloc (.cells c T)) W.heap.size = c.size := by unfold room; rw [show (W.drew.alloc (.cells c T)).heap[W.heap.size]? = some (.cells c T) from heap_new W.drew _]
      rw [this, hsz]; simp)
    simpa using this

theorem zc_size (z : Array Value) (n : Nat) : (Builtin.zeroCells z n).size = n * z.size := by simp [Builtin.zeroCells]

theorem aAppend_ok {P : Program} {tt : List TE} (ht : TTok P tt) {F0 : Nat → Nat → Prop} {W0 : World} {R : Nat → Prop} {φ : Phi} {σ : St} {f : List AV} {tmps : Array Value} {W : World} (h : Rel F0 W0 R φ σ f tmps W)
    {t ty : Nat} {x y : AV} {v w : Value} (hx : VR R φ W x v) (hy : VR R φ W y w) {c : Bool} {u : AV} {σ' : St} (ha : aAppend tt t x y σ = some (c, u, σ')) (hc : c = true) :
    ∃ z W' φ', (Builtin.append_ #[t, t] ty #[v, w]).run P W = .ok z W' ∧ Ext φ φ' ∧ Rel F0 W0 R φ' σ' f tmps W' ∧ VR R φ' W' u z := by
  unfold aAppend at ha
  cases he : look tt t with
  | none => simp [he] at ha
  | some e =>
    simp only [he] at ha
    have hlk := (look_ok ht he).1
    cases htd : e.td <;> simp only [htd] at ha <;> try (cases ha; done)
    rename_i el
    rw [htd] at hlk
    have hund : P.underlying t = some (.slice el) := hlk
    cases hee : look tt el with
    | none => simp [hee] at ha
    | some ee =>
      simp only [hee] at ha
      split at ha
      case h_2 => cases ha
      rename_i q1 q2 q3 q4
      have q1 := Nat.le_of_ble_eq_true q1
      have q2 := Nat.le_of_ble_eq_true q2
      have q3 := Nat.le_of_ble_eq_true q3
      have q4 := Nat.eq_of_beq_eq_true q4
      obtain ⟨_, i, z, hi, hsz, hby, hz, hzc⟩ := look_ok ht hee
      have hzs : z.cells.size = ee.size := by rw [← q4, ← hzc]; simp
      split at ha
      case h_2 => cases ha
      rename_i c1 n g1 c2 m g2 r1 r2
      -- what is common to all ways
      have main : ∀ (l : Nat) (A : Option Addr) (cap : Nat), v = .slice A n cap → c2 = true → n + m ≤ 4294967295 → n ≤ cap → (∀ k, k < n → (g1 k).length = ee.size) →
          (∀ B, σ[l]? = some B → ∃ N g, B = .tab ee.size N g) →
          ((n = 0 ∧ cap = 0) ∨ ∃ b k0, A = some ⟨b, k0, none⟩ ∧ (∀ (k j : Nat) (u : AV), k < n → (g1 k)[j]? = some u → ∃ y, W.cell? ⟨b, k0 + (k * ee.size + j), none⟩ = some y ∧ CR R W u y) ∧
            ((n = 0 ∧ cap = 0 ∧ ∃ f0, φ l = some (some (b, f0))) ∨ (∃ f0, φ l = some (some (b, f0))) ∧ k0 + cap * ee.size ≤ room W b) ∧ σ[l]?.isSome = true) →
          ∀ (σ1 : St), σ1.length = σ.length + 1 → (∀ m' B, σ1[m']? = some B → (m' = σ.length ∧ B = .tab ee.size (n + m) (joined n g1 g2)) ∨ B = .gone ∨ (m' ≠ l ∧ m' ≠ σ.length ∧ σ[m']? = some B)) →
          ∃ z W' φ', (Builtin.append_ #[t, t] ty #[v, w]).run P W = .ok z W' ∧ Ext φ φ' ∧ Rel F0 W0 R φ' σ1 f tmps W' ∧ VR R φ' W' (.s σ.length ee.size 0 (n + m)) z := by
        intro l A cap hv hc2 hsum hncap hg1 htab hA σ1 hlen hσ
        have hdomU : ∀ p, ∀ m', σ1.length ≤ m' → upd φ σ.length p m' = none := fun p m' hm' => by unfold upd; rw [if_neg (by omega)]; exact h.sim.dom m' (by omega)
        have hxt : ∀ p, Ext φ (upd φ σ.length p) := fun p => upd_ext p (h.sim.dom _ (Nat.le_refl _))
        obtain ⟨hg2, hm2, B, cb, hw, hB⟩ := rowOf_ok h.sim (by omega) hy r2 hc2
        subst hv hw
        have hbig : (n + m) * ee.size < 281474976710656 := Nat.lt_of_le_of_lt (Nat.mul_le_mul hsum q2) (by decide)
        have hbyt : (n + m) * i.bytes ≤ 140737488355328 := by rw [hby]; exact Nat.le_trans (Nat.mul_le_mul hsum q3) (by decide)
        -- the values that come
        obtain ⟨news, hn1, hn2, hn3⟩ : ∃ news : List Value, news.length = m * ee.size ∧ (m = 0 ∨ ∃ b o, B = some ⟨b, o, none⟩ ∧ ∀ (k : Nat) (x : Value), news[k]? = some x → W.cell? ⟨b, o + k, none⟩ = some x) ∧
            (∀ (k j : Nat) (u : AV), k < m → (g2 k)[j]? = some u → ∃ x, news[k * ee.size + j]? = some x ∧ CR R W u x) := by
          rcases hB with rfl | ⟨b, o, rfl, hcell⟩
          · exact ⟨[], by simp, .inl rfl, fun k j u hk => by omega⟩
          · obtain ⟨xs, e1, e2, e3⟩ := row_values hg2 hcell
            exact ⟨xs, e1, .inr ⟨b, o, rfl, e2⟩, e3⟩
        have hR2 : Reads R W ee.size m g2 news := ⟨hn1, hn3⟩
        have hjl := joined_len hg1 hg2
        by_cases hroom : n + m ≤ cap
        · -- there is room
          rcases hA with ⟨rfl, rfl⟩ | ⟨b, k0, rfl, hcell, hph, hso⟩
          · obtain rfl : m = 0 := by omega
            have hnil0 : news = [] := List.eq_nil_of_length_eq_zero (by simpa using hn1)
            refine ⟨.slice A (0 + 0) 0, W, upd φ σ.length none, run_app_room (W' := W) hund hi rfl (by rw [hsz]; exact hn1) hn2 (by omega) (by subst hnil0; cases A <;> simp [storeCells]), hxt _, ?_, .nil (upd_same _ _ _)⟩
            have hk := Keep.refl (fun _ _ => False) W
            refine Rel.turn h (l := σ.length) (src := l) (B' := .tab ee.size (0 + 0) (joined 0 g1 g2)) (G := fun _ _ => False) hk (hxt _) (fun m hm h => upd_none hm h) (fun b k hg => hg.elim) ⟨by omega, by omega, hjl, .inl ⟨upd_same _ _ _, rfl⟩⟩ (fun b k hw => ?_) hσ (hdomU _)
            obtain ⟨o, e⟩ := hw
            rw [upd_same] at e; cases e
          · obtain ⟨Bl, hBl⟩ := Option.isSome_iff_exists.1 hso
            obtain ⟨N, g, rfl⟩ := htab Bl hBl
            have hb := h.sim.blk l _ hBl
            obtain ⟨_, _, _, hb⟩ := hb
            have hfb : Free W b := by
              rcases hb with ⟨e2, _⟩ | ⟨b', o', e2, hfree, _⟩
              · rcases hph with ⟨_, _, f0, e⟩ | ⟨⟨f0, e⟩, _⟩ <;> (rw [e] at e2; cases e2)
              · rcases hph with ⟨_, _, f0, e⟩ | ⟨⟨f0, e⟩, _⟩ <;> (rw [e] at e2; obtain ⟨rfl, rfl⟩ := Prod.mk.inj (Option.some.inj (Option.some.inj e2)); exact hfree)
            have hown : ∀ k, own φ l (.tab ee.size N g) b k := by
              intro k
              rcases hph with ⟨_, _, f0, e⟩ | ⟨⟨f0, e⟩, _⟩ <;> exact ⟨f0, e⟩
            rcases Nat.eq_zero_or_pos m with rfl | hmpos
            · -- nothing is put behind
              have hnil : news = [] := List.eq_nil_of_length_eq_zero (by simpa using hn1)
              subst hnil
              have hk := Keep.refl (fun _ _ => False) W
              refine ⟨.slice (some ⟨b, k0, none⟩) (n + 0) cap, W, upd φ σ.length (some (b, k0)), run_app_room (W' := W) hund hi rfl (by rw [hsz]; exact hn1) hn2 (by omega) (by simp [storeCells]), hxt _, ?_, ?_⟩
              · refine Rel.turn h (l := σ.length) (src := l) (B' := .tab ee.size (n + 0) (joined n g1 g2)) (G := fun _ _ => False) hk (hxt _) (fun m hm h => upd_none hm h) (fun b k hg => hg.elim) ⟨by omega, hbig, hjl, .inr ⟨b, k0, upd_same _ _ _, hfb, fun k j u hk hu => ?_⟩⟩ (fun b' k' hw => ?_) hσ (hdomU _)
                · unfold E.joined at hu
                  rw [if_pos (by omega)] at hu
                  exact hcell k j u (by omega) hu
                · obtain ⟨o, e⟩ := hw
                  rw [upd_same] at e
                  obtain ⟨rfl, rfl⟩ := Prod.mk.inj (Option.some.inj (Option.some.inj e))
                  exact .inl ⟨_, hBl, hown k'⟩
              · rcases hph with ⟨rfl, rfl, f0, e⟩ | ⟨_, hr⟩
                · exact .z (upd_same _ _ _)
                · have := VR.s (R := R) (W := W) (l := σ.length) (sz := ee.size) (o := 0) (φ := upd φ σ.length (some (b, k0))) (upd_same _ _ _) hroom (by simpa using hr)
                  simpa using this
            · rcases hph with ⟨rfl, rfl, _⟩ | ⟨⟨f0, hφ⟩, hr⟩
              · omega
              -- the cells behind are written
              have hex : ∀ k, k < news.length → ∃ x, W.cell? ⟨b, k0 + n * ee.size + (0 + k), none⟩ = some x := by
                intro k hk
                obtain ⟨cc, T, hcc⟩ := hfb
                have hrm : room W b = cc.size := by unfold room; rw [hcc]
                have hlt : k0 + n * ee.size + (0 + k) < cc.size := by
                  have : (n + m) * ee.size ≤ cap * ee.size := Nat.mul_le_mul_right _ hroom
                  rw [Nat.add_mul] at this
                  rw [hn1] at hk; omega
                exact ⟨cc[k0 + n * ee.size + (0 + k)], by unfold World.cell?; simp only [hcc]; simp [hlt]⟩
              have hscal : ∀ x ∈ news, scal x = true := by
                intro x hx
                obtain ⟨q, hq⟩ := List.getElem?_of_mem hx
                have hql : q < m * ee.size := by rw [← hn1]; exact (List.getElem?_eq_some_iff.1 hq).1
                have hk : q / ee.size < m := (Nat.div_lt_iff_lt_mul (by omega)).2 hql
                have hj : q % ee.size < (g2 (q / ee.size)).length := by rw [hg2 _ hk]; exact Nat.mod_lt _ (by omega)
                obtain ⟨x', hx', hv'⟩ := hn3 (q / ee.size) (q % ee.size) _ hk (List.getElem?_eq_getElem hj)
                rw [show q / ee.size * ee.size + q % ee.size = q by rw [Nat.mul_comm]; exact Nat.div_add_mod q ee.size, hq] at hx'
                rw [Option.some.inj hx']; exact hv'.2
              obtain ⟨W', s1, s2, s3⟩ := run_storeCells (P := P) (b := b) (o := k0 + n * ee.size) news 0 W hscal hex hfb
              have hcalm := s2.calm (R := R) (fun b' k' hg hR => by
                obtain ⟨rfl, _⟩ := hg
                exact h.sim.ro l _ hBl b' k' (hown k') hR)
              refine ⟨.slice (some ⟨b, k0, none⟩) (n + m) cap, W', upd φ σ.length (some (b, k0)), run_app_room (W' := W') hund hi rfl (by rw [hsz]; exact hn1) hn2 (by omega) (by rw [hsz]; simp only [add_none]; exact s1), hxt _, ?_, ?_⟩
              · refine Rel.turn h (l := σ.length) (src := l) (B' := .tab ee.size (n + m) (joined n g1 g2)) s2 (hxt _) (fun m hm h => upd_none hm h) (fun b' k' hg => ⟨_, hBl, by obtain ⟨rfl, _⟩ := hg; exact hown k'⟩) ⟨by omega, hbig, hjl, .inr ⟨b, k0, upd_same _ _ _, hfb.keep s2, fun k j u hk hu => ?_⟩⟩ (fun b' k' hw => ?_) hσ (hdomU _)
                · unfold E.joined at hu
                  split at hu
                  · rename_i hkn
                    obtain ⟨x, hx, hv⟩ := hcell k j u hkn hu
                    have hj : j < ee.size := by
                      rcases Nat.lt_or_ge j (g1 k).length with g | g
                      · rw [hg1 k hkn] at g; exact g
                      · rw [List.getElem?_eq_none g] at hu; cases hu
                    have : (k + 1) * ee.size ≤ n * ee.size := Nat.mul_le_mul_right _ hkn
                    rw [Nat.succ_mul] at this
                    exact ⟨x, s2.cell (by rintro ⟨_, g1, _⟩; omega) hx, hv.mono (fun _ hb => hb) hcalm⟩
                  · rename_i hkn
                    obtain ⟨x, hx, hv⟩ := hn3 (k - n) j u (by omega) hu
                    have := s3 _ x hx
                    have e : k * ee.size = n * ee.size + (k - n) * ee.size := by rw [← Nat.add_mul]; congr 1; omega
                    exact ⟨x, by rw [show k0 + (k * ee.size + j) = k0 + n * ee.size + (0 + ((k - n) * ee.size + j)) by omega]; exact this, hv.mono (fun _ hb => hb) hcalm⟩
                · obtain ⟨o, e⟩ := hw
                  rw [upd_same] at e
                  obtain ⟨rfl, rfl⟩ := Prod.mk.inj (Option.some.inj (Option.some.inj e))
                  exact .inl ⟨_, hBl, hown k'⟩
              · have := VR.s (R := R) (W := W') (l := σ.length) (sz := ee.size) (o := 0) (φ := upd φ σ.length (some (b, k0))) (upd_same _ _ _) hroom (Nat.le_trans (by simpa using hr) (s2.room_le b))
                simpa using this
        · -- it grows
          have hmpos : 0 < m := by omega
          rcases hn2 with rfl | ⟨bn, on, rfl, hnews⟩
          · omega
          have hnews' : ∀ j x, news[j]? = some x → W.cell? ((⟨bn, on, none⟩ : Addr).add j) = some x := fun j x hx => by rw [add_none]; exact hnews j x hx
          rcases hA with ⟨rfl, rfl⟩ | ⟨b, k0, rfl, hcell, hph, hso⟩
          · cases A with
            | none =>
              have hrun := run_append_nil (P := P) W t ty el i z hund hi hz ⟨bn, on, none⟩ m cb news (by rw [hsz]; exact hn1) hnews' hmpos (by omega) (by simp only [Nat.zero_add] at hbyt; omega)
              have hge := grownCap_ge W m 0 el
              obtain ⟨f1, f2⟩ := Rel.fresh h (src := l) (sz := ee.size) (n := 0 + m) (get := joined 0 g1 g2) (xs := news) (c := news.toArray ++ Builtin.zeroCells z.cells (grownCap W m 0 el - m)) (T := el) (rest := (Builtin.zeroCells z.cells (grownCap W m 0 el - m)).toList) (cap := grownCap W m 0 el)
                (by omega) hbig hjl (by have := Reads.joined (g1 := g1) (n := 0) (xs := []) ⟨by simp, fun k j u hk => by omega⟩ hR2 (fun k hk => by omega); simpa using this) (by simp) (by omega) (by
                  rw [Array.size_append, zc_size, hzs, List.size_toArray, hn1, ← Nat.add_mul]; congr 1; omega) hlen hσ
              exact ⟨_, _, _, hrun, hxt _, f1, by simpa using f2⟩
            | some a =>
              have hrun := run_append_grow (P := P) W t ty el i z hund hi hz a 0 0 [] (by simp) (fun j x hx => by simp at hx) ⟨bn, on, none⟩ m cb news (by rw [hsz]; exact hn1) hnews' (by omega) (by omega) (growslice_fits (by omega) (by simpa using hbyt))
              have hge := grownCap_ge W (0 + m) 0 el
              obtain ⟨f1, f2⟩ := Rel.fresh h (src := l) (sz := ee.size) (n := 0 + m) (get := joined 0 g1 g2) (xs := news) (c := (#[] : Array Value) ++ news.toArray ++ Builtin.zeroCells z.cells (grownCap W (0 + m) 0 el - (0 + m))) (T := el) (rest := (Builtin.zeroCells z.cells (grownCap W (0 + m) 0 el - (0 + m))).toList) (cap := grownCap W (0 + m) 0 el)
                (by omega) hbig hjl (by have := Reads.joined (g1 := g1) (n := 0) (xs := []) ⟨by simp, fun k j u hk => by omega⟩ hR2 (fun k hk => by omega); simpa using this) (by simp) (by omega) (by
                  rw [Array.size_append, Array.size_append, zc_size, hzs, List.size_toArray, List.size_toArray, hn1, List.length_nil, Nat.zero_add, ← Nat.add_mul]; congr 1; omega) hlen hσ
              exact ⟨_, _, _, hrun, hxt _, f1, by simpa using f2⟩
          · obtain ⟨olds, o1, o2, o3⟩ := row_values hg1 hcell
            have hrun := run_append_grow (P := P) W t ty el i z hund hi hz ⟨b, k0, none⟩ n cap olds (by rw [hsz]; exact o1) (fun j x hx => by rw [add_none]; exact o2 j x hx) ⟨bn, on, none⟩ m cb news (by rw [hsz]; exact hn1) hnews' (by omega) (by omega) (growslice_fits (by omega) hbyt)
            have hge := grownCap_ge W (n + m) cap el
            obtain ⟨f1, f2⟩ := Rel.fresh h (src := l) (sz := ee.size) (n := n + m) (get := joined n g1 g2) (xs := olds ++ news) (c := olds.toArray ++ news.toArray ++ Builtin.zeroCells z.cells (grownCap W (n + m) cap el - (n + m))) (T := el) (rest := (Builtin.zeroCells z.cells (grownCap W (n + m) cap el - (n + m))).toList) (cap := grownCap W (n + m) cap el)
              (by omega) hbig hjl (Reads.joined ⟨o1, o3⟩ hR2 hg1) (by simp) (by omega) (by
                rw [Array.size_append, Array.size_append, zc_size, hzs, List.size_toArray, List.size_toArray, hn1, o1, ← Nat.add_mul, ← Nat.add_mul]; congr 1; omega) hlen hσ
            exact ⟨_, _, _, hrun, hxt _, f1, f2⟩
      cases x with
      | s l sz o n' =>
        simp only [Option.some.injEq, Prod.mk.injEq] at ha
        obtain ⟨rfl, rfl, rfl⟩ := ha
        simp only [Bool.and_eq_true] at hc
        obtain ⟨hc1, hc2, hc3⟩ := hc
        have hc3 := Nat.le_of_ble_eq_true hc3
        obtain ⟨hg1, _, A', cap', hv, hA'⟩ := rowOf_ok h.sim (by omega) hx r1 hc1
        simp only [rowOf] at r1
        split at r1
        case h_2 => cases r1
        rename_i sz'' N g hl
        split at r1
        case h_2 => cases r1
        rename_i e1 e2
        obtain ⟨rfl, hh⟩ := Prod.mk.inj (Option.some.inj r1)
        obtain ⟨rfl, rfl⟩ := Prod.mk.inj hh
        have e1 := Nat.eq_of_beq_eq_true e1
        have e2 := Nat.eq_of_beq_eq_true e2
        subst e1 e2
        have htab : ∀ B, σ[l]? = some B → ∃ N g, B = .tab ee.size N g := fun B hB => by rw [hl] at hB; exact ⟨N, g, (Option.some.inj hB).symm⟩
        have hsome : σ[l]?.isSome = true := by rw [hl]; rfl
        have hσ : ∀ (m' : Nat) (B : Blk), (σ.set l Blk.gone ++ [Blk.tab ee.size (n' + m) (joined n' (fun k => g (o + k)) g2)])[m']? = some B → (m' = σ.length ∧ B = .tab ee.size (n' + m) (joined n' (fun k => g (o + k)) g2)) ∨ B = .gone ∨ (m' ≠ l ∧ m' ≠ σ.length ∧ σ[m']? = some B) := fun m' B hB => by
          rcases append_get hB with ⟨h1, h2⟩ | ⟨h1, h2⟩
          · exact .inl ⟨by simpa using h1, h2⟩
          · by_cases hne : m' = l
            · subst hne; exact .inr (.inl (set_get_self h2))
            · exact .inr (.inr ⟨hne, by simpa using h1, set_get h2 hne⟩)
        have hlen : (σ.set l Blk.gone ++ [Blk.tab ee.size (n' + m) (joined n' (fun k => g (o + k)) g2)]).length = σ.length + 1 := by simp
        cases hx with
        | imm hi => cases hi
        | nil hφ => exact main l _ 0 rfl hc2 hc3 (Nat.le_refl _) hg1 htab (.inl ⟨rfl, rfl⟩) _ hlen hσ
        | z hφ => exact main l _ 0 rfl hc2 hc3 (Nat.le_refl _) hg1 htab (.inr ⟨_, _, rfl, fun k j u hk => by omega, .inl ⟨rfl, rfl, _, hφ⟩, hsome⟩) _ hlen hσ
        | s hφ hn hr =>
          rename_i b f0 cap
          refine main l _ cap rfl hc2 hc3 hn hg1 htab (.inr ⟨b, f0 + o * ee.size, rfl, fun k j u hk hu => ?_, .inr ⟨⟨_, hφ⟩, by rw [Nat.add_mul] at hr; omega⟩, hsome⟩) _ hlen hσ
          rcases hA' with rfl | ⟨b', o', hA', hcell⟩
          · omega
          · injection hv with hv1 hv2 hv3
            rw [hA'] at hv1
            injection hv1 with hv1
            injection hv1 with hb ho
            rw [hb, ho]
            exact hcell k j u hk hu
      | z =>
        simp only [Option.some.injEq, Prod.mk.injEq] at ha
        obtain ⟨rfl, rfl, rfl⟩ := ha
        simp only [Bool.and_eq_true] at hc
        obtain ⟨hc2, hc3⟩ := hc
        have hc3 := Nat.le_of_ble_eq_true hc3
        simp only [rowOf] at r1
        obtain ⟨_, hh⟩ := Prod.mk.inj (Option.some.inj r1)
        obtain rfl := (Prod.mk.inj hh).1
        have hno : σ[σ.length]? = none := List.getElem?_eq_none (Nat.le_refl _)
        have hj : joined 0 g1 g2 = g2 := by funext k; simp [joined]
        cases hx with
        | imm hi => cases hi with
          | z a =>
            have := main σ.length a 0 rfl hc2 (by omega) (Nat.le_refl _) (fun k hk => by omega) (fun B hB => by rw [hno] at hB; cases hB) (.inl ⟨rfl, rfl⟩)
              (σ ++ [.tab ee.size m g2]) (by simp) (fun m' B hB => by
                rw [hj, Nat.zero_add]
                rcases append_get hB with ⟨h1, h2⟩ | ⟨h1, h2⟩
                · exact .inl ⟨h1, h2⟩
                · exact .inr (.inr ⟨h1, h1, h2⟩))
            simpa using this
      | v z' =>
        simp only [Option.some.injEq, Prod.mk.injEq] at ha
        obtain ⟨rfl, rfl, rfl⟩ := ha
        simp only [Bool.and_eq_true] at hc
        obtain ⟨hc2, hc3⟩ := hc
        have hc3 := Nat.le_of_ble_eq_true hc3
        have hz' : z' = .slice none 0 0 ∧ n = 0 := by
          cases z' with
          | slice A len cap =>
            cases A with
            | none => cases len with
              | zero => cases cap with
                | zero =>
                  simp only [rowOf] at r1
                  obtain ⟨_, hh⟩ := Prod.mk.inj (Option.some.inj r1)
                  exact ⟨rfl, (Prod.mk.inj hh).1.symm⟩
                | succ _ => simp [rowOf] at r1
              | succ _ => simp [rowOf] at r1
            | some _ => simp [rowOf] at r1
          | _ => simp [rowOf] at r1
        obtain ⟨rfl, rfl⟩ := hz'
        have hno : σ[σ.length]? = none := List.getElem?_eq_none (Nat.le_refl _)
        have hj : joined 0 g1 g2 = g2 := by funext k; simp [joined]
        have := main σ.length none 0 hx.val hc2 (by omega) (Nat.le_refl _) (fun k hk => by omega) (fun B hB => by rw [hno] at hB; cases hB) (.inl ⟨rfl, rfl⟩)
          (σ ++ [.tab ee.size m g2]) (by simp) (fun m' B hB => by
            rw [hj, Nat.zero_add]
            rcases append_get hB with ⟨h1, h2⟩ | ⟨h1, h2⟩
            · exact .inl ⟨h1, h2⟩
            · exact .inr (.inr ⟨h1, h1, h2⟩))
        simpa using this
      | _ => simp at ha

/-- The elements of a row of single cells. -/
def litRow (tt : List TE) (t : Nat) (z : Value) (sz o n : Nat) (cs : List AV) : Option (List AV) :=
  match z with
  | .slice none 0 0 => match look tt t with
    | some e => match e.td with
      | .slice el => match look tt el with
        | some ee => match Nat.ble 1 ee.size, Nat.ble ee.size 32768, Nat.ble ee.bytes 32768, Nat.beq ee.zero.length ee.size, Nat.beq sz ee.size, Nat.ble 1 n, Nat.ble n 4294967295, Nat.ble ((o + n) * sz) cs.length with
          | true, true, true, true, true, true, true, true => some ((cs.drop (o * sz)).take (n * sz))
          | _, _, _, _, _, _, _, _ => none
        | none => none
      | _ => none
    | none => none
  | _ => none
/-- append; to nil also of a row of single cells. -/
def aApp (tt : List TE) (t : Nat) (x y : AV) (σ : St) : Option (Bool × AV × St) :=
  match x, y with
  | .v z, .s l sz o n => match σ[l]? with
    | some (.lit cs) => match litRow tt t z sz o n cs with
      | some cells => some (true, .s σ.length sz 0 n, σ ++ [.lit cells])
      | none => none
    | _ => aAppend tt t (.v z) (.s l sz o n) σ
  | x, y => aAppend tt t x y σ
theorem aApp_ok {P : Program} {tt : List TE} (ht : TTok P tt) {F0 : Nat → Nat → Prop} {W0 : World} {R : Nat → Prop} {φ : Phi} {σ : St} {f : List AV} {tmps : Array Value} {W : World} (h : Rel F0 W0 R φ σ f tmps W)
    {t ty : Nat} {x y : AV} {v w : Value} (hx : VR R φ W x v) (hy : VR R φ W y w) {c : Bool} {u : AV} {σ' : St} (ha : aApp tt t x y σ = some (c, u, σ')) (hc : c = true) :
    ∃ z W' φ', (Builtin.append_ #[t, t] ty #[v, w]).run P W = .ok z W' ∧ Ext φ φ' ∧ Rel F0 W0 R φ' σ' f tmps W' ∧ VR R φ' W' u z := by
  unfold aApp at ha
  split at ha
  case h_2 => exact aAppend_ok ht h hx hy ha hc
  rename_i z l sz o n
  split at ha
  case h_2 => exact aAppend_ok ht h hx hy ha hc
  rename_i cs hl
  split at ha
  case h_2 => cases ha
  rename_i cells hcells
  simp only [Option.some.injEq, Prod.mk.injEq] at ha
  obtain ⟨_, rfl, rfl⟩ := ha
  unfold litRow at hcells
  split at hcells
  case h_2 => cases hcells
  split at hcells
  case h_2 => cases hcells
  rename_i e he
  split at hcells
  case h_2 => cases hcells
  rename_i el htd
  split at hcells
  case h_2 => cases hcells
  rename_i ee hee
  split at hcells
  case h_2 => cases hcells
  rename_i q1 q2 q3 q4 q5 q6 q7 q8
  obtain rfl := Option.some.inj hcells
  have hlk := (look_ok ht he).1
  rw [htd] at hlk
  have hund : P.underlying t = some (.slice el) := hlk
  have q1 := Nat.le_of_ble_eq_true q1
  have q2 := Nat.le_of_ble_eq_true q2
  have q3 := Nat.le_of_ble_eq_true q3
  have q4 := Nat.eq_of_beq_eq_true q4
  obtain rfl := Nat.eq_of_beq_eq_true q5
  have q6 := Nat.le_of_ble_eq_true q6
  have q7 := Nat.le_of_ble_eq_true q7
  have q8 := Nat.le_of_ble_eq_true q8
  obtain ⟨_, i, z, hi, hsz, hby, hz, hzc⟩ := look_ok ht hee
  have hzs : z.cells.size = ee.size := by rw [← q4, ← hzc]; simp
  obtain rfl := hx.val
  have hbig : n * ee.size < 281474976710656 := Nat.lt_of_le_of_lt (Nat.mul_le_mul q7 q2) (by decide)
  have hbyt : n * i.bytes ≤ 140737488355328 := by rw [hby]; exact Nat.le_trans (Nat.mul_le_mul q7 q3) (by decide)
  obtain ⟨b, f0, hφ, hfree, hcell⟩ := h.sim.blk l _ hl
  cases hy with
  | imm hi => cases hi
  | nil _ => omega
  | z _ => omega
  | s hφ' hn hr =>
  rename_i b' f' cap
  rw [hφ] at hφ'
  obtain ⟨rfl, rfl⟩ := Prod.mk.inj (Option.some.inj (Option.some.inj hφ'))
  have hol : (o + n) * ee.size = o * ee.size + n * ee.size := Nat.add_mul _ _ _
  have hget : ∀ (k : Nat) (u : AV), ((cs.drop (o * ee.size)).take (n * ee.size))[k]? = some u → k < n * ee.size ∧ cs[o * ee.size + k]? = some u := fun k u hu => by
    rw [List.getElem?_take] at hu
    split at hu
    · rename_i hk
      rw [List.getElem?_drop] at hu
      exact ⟨hk, hu⟩
    · cases hu
  have hlen : ((cs.drop (o * ee.size)).take (n * ee.size)).length = n * ee.size := by simp; omega
  obtain ⟨xs, h1, h2, h3⟩ := cells_values (W := W) (V := VR R φ W) (b := b) (o := f0 + o * ee.size) ((cs.drop (o * ee.size)).take (n * ee.size)) fun m u hu => by
    obtain ⟨_, hu'⟩ := hget m u hu
    obtain ⟨x, hx, hv⟩ := hcell _ u hu'
    exact ⟨x, by rw [Nat.add_assoc]; exact hx, hv⟩
  rw [hlen] at h1
  have hrun := run_append_nil (P := P) W t ty el i z hund hi hz ⟨b, f0 + o * ee.size, none⟩ n cap xs (by rw [hsz]; exact h1) (fun j x hx => by rw [add_none]; exact h2 j x hx) (by omega) (by omega) (by omega)
  have hge := grownCap_ge W n 0 el
  have hk : Keep (fun _ _ => False) W (W.drew.alloc (.cells (xs.toArray ++ Builtin.zeroCells z.cells (grownCap W n 0 el - n)) el)) := (Keep.drew _ W).trans (Keep.alloc (fun _ _ => False) W.drew _) fun _ _ h => h.elim
  have hcalm := hk.calm (R := R) fun _ _ h => h.elim
  refine ⟨_, _, upd φ σ.length (some (W.heap.size, 0)), hrun, upd_ext _ (h.sim.dom _ (Nat.le_refl _)), ?_, ?_⟩
  · refine Rel.turn h (l := σ.length) (src := σ.length) (B' := .lit ((cs.drop (o * ee.size)).take (n * ee.size))) (G := fun _ _ => False) hk (upd_ext _ (h.sim.dom _ (Nat.le_refl _))) (fun m hm h => upd_none hm h) (fun b k hg => hg.elim) ?_ (fun b k hw => ?_) (fun m B0 e => ?_) fun m hm => ?_
    · refine ⟨W.heap.size, 0, upd_same _ _ _, Free.new W.drew _ _, fun k u hu => ?_⟩
      obtain ⟨x, hx⟩ := vs_get (h1.trans hlen.symm).symm hu
      refine ⟨x, ?_, (h3 k u x hu hx).mono (fun _ h => h) hcalm hk.room_le (upd_ext _ (h.sim.dom _ (Nat.le_refl _)))⟩
      have := World.cell?_alloc_new W.drew (xs.toArray ++ Builtin.zeroCells z.cells (grownCap W n 0 el - n)) el k
      rw [Nat.zero_add]
      refine this.trans ?_
      rw [← Array.getElem?_toList, Array.toList_append, List.getElem?_append_left]
      · exact hx
      · exact (List.getElem?_eq_some_iff.1 hx).1
    · obtain ⟨o', e, _⟩ := hw
      rw [upd_same] at e
      obtain ⟨rfl, rfl⟩ := Prod.mk.inj (Option.some.inj (Option.some.inj e))
      exact .inr (Nat.le_refl _)
    · rcases append_get e with ⟨rfl, rfl⟩ | ⟨hne, e⟩
      · exact .inl ⟨rfl, rfl⟩
      · exact .inr (.inr ⟨hne, hne, e⟩)
    · unfold upd
      rw [if_neg (by simp at hm; omega)]
      exact h.sim.dom m (by simp at hm; omega)
  · have := VR.s (R := R) (W := W.drew.alloc (.cells (xs.toArray ++ Builtin.zeroCells z.cells (grownCap W n 0 el - n)) el)) (l := σ.length) (sz := ee.size) (o := 0) (φ := upd φ σ.length (some (W.heap.size, 0))) (upd_same _ _ _) hge (by
      have hro : room (W.drew.alloc (.cells (xs.toArray ++ Builtin.zeroCells z.cells (grownCap W n 0 el - n)) el)) W.heap.size = (xs.toArray ++ Builtin.zeroCells z.cells (grownCap W n 0 el - n)).size := by unfold room; rw [show (W.drew.alloc (.cells _ el)).heap[W.heap.size]? = some (.cells _ el) from heap_new W.drew _]
      rw [hro, Array.size_append, zc_size, hzs, List.size_toArray, h1, ← Nat.add_mul, show n + (grownCap W n 0 el - n) = grownCap W n 0 el by omega]; simp)
    simpa using this

/-- append of zero values to nil. -/
def aAppendZ (tt : List TE) (t t' : Nat) (x y : AV) (σ : St) : Option (Bool × AV × St) :=
  match look tt t, look tt t', x, y with
  | some e, some e', .v (.slice none 0 0), .v (.int _ n) => match e.td, e'.td with
    | .slice el, .int _ => match look tt el with
      | none => none
      | some ee => match Nat.ble 1 ee.size, Nat.ble ee.size 32768, Nat.ble ee.bytes 32768, Nat.beq ee.zero.length ee.size, ee.zero.all scal with
        | true, true, true, true, true => some (decide (0 < n) && Nat.ble n.toNat 1073741823, .s σ.length ee.size 0 n.toNat, σ ++ [.tab ee.size n.toNat fun _ => ee.zero.map .v])
        | _, _, _, _, _ => none
    | _, _ => none
  | _, _, _, _ => none
theorem aAppendZ_ok {P : Program} {tt : List TE} (ht : TTok P tt) {F0 : Nat → Nat → Prop} {W0 : World} {R : Nat → Prop} {φ : Phi} {σ : St} {f : List AV} {tmps : Array Value} {W : World} (h : Rel F0 W0 R φ σ f tmps W)
    {t t' ty : Nat} {x y : AV} {v w : Value} (hx : VR R φ W x v) (hy : VR R φ W y w) {c : Bool} {u : AV} {σ' : St} (ha : aAppendZ tt t t' x y σ = some (c, u, σ')) (hc : c = true) :
    ∃ z W' φ', (Builtin.append_ #[t, t'] ty #[v, w]).run P W = .ok z W' ∧ Ext φ φ' ∧ Rel F0 W0 R φ' σ' f tmps W' ∧ VR R φ' W' u z := by
  unfold aAppendZ at ha
  split at ha
  case h_2 => cases ha
  rename_i e e' kn n he he'
  split at ha
  case h_2 => cases ha
  rename_i el k' htd htd'
  have hlk := (look_ok ht he).1
  have hlk' := (look_ok ht he').1
  rw [htd] at hlk
  rw [htd'] at hlk'
  have hund : P.underlying t = some (.slice el) := hlk
  have hund' : P.underlying t' = some (.int k') := hlk'
  cases hee : look tt el with
  | none => simp [hee] at ha
  | some ee =>
    simp only [hee] at ha
    split at ha
    case h_2 => cases ha
    rename_i q1 q2 q3 q4 q5
    have q1 := Nat.le_of_ble_eq_true q1
    have q2 := Nat.le_of_ble_eq_true q2
    have q3 := Nat.le_of_ble_eq_true q3
    have q4 := Nat.eq_of_beq_eq_true q4
    simp only [Option.some.injEq, Prod.mk.injEq] at ha
    obtain ⟨rfl, rfl, rfl⟩ := ha
    simp only [Bool.and_eq_true, decide_eq_true_eq] at hc
    obtain ⟨c0, c1⟩ := hc
    have c1 := Nat.le_of_ble_eq_true c1
    obtain rfl := hx.val
    obtain rfl := hy.val
    obtain ⟨m, rfl⟩ := Int.eq_ofNat_of_zero_le (show 0 ≤ n by omega)
    have hm : m < 1073741824 := by omega
    have hm0 : 0 < m := by omega
    obtain ⟨_, i, z, hi, hsz, hby, hz, hzc⟩ := look_ok ht hee
    have hzs : z.cells.size = ee.size := by rw [← q4, ← hzc]; simp
    have hbig : m * ee.size < 281474976710656 := Nat.lt_of_le_of_lt (Nat.mul_le_mul (Nat.le_of_lt hm) q2) (by decide)
    have hbyt : m * i.bytes ≤ 140737488355328 := by rw [hby]; exact Nat.le_trans (Nat.mul_le_mul (Nat.le_of_lt hm) q3) (by decide)
    have hrun := Lib.run_append_grow_zeros (P := P) W t t' ty el i z kn k' hund hund' hi hz none 0 0 [] (by simp [Builtin.firstCells]) m hm0 (by rw [hsz]; omega) (by omega) (by omega) (by omega) (growslice_fits (by omega) (by simpa using hbyt))
    have hge := grownCap_ge W (0 + m) 0 el
    have hno : σ[σ.length]? = none := List.getElem?_eq_none (Nat.le_refl _)
    have hread : Reads R W ee.size m (fun _ => ee.zero.map .v) (Builtin.zeroCells z.cells m).toList := by
      refine ⟨by rw [Array.length_toList, zc_size, hzs], fun k j u hk hu => ?_⟩
      obtain ⟨y, hy, rfl⟩ := getElem?_map_some hu
      have hj : j < ee.size := by rw [← q4]; exact (List.getElem?_eq_some_iff.1 hy).1
      have hkj : k * ee.size + j < m * ee.size := by
        have : (k + 1) * ee.size ≤ m * ee.size := Nat.mul_le_mul_right _ hk
        rw [Nat.succ_mul] at this; omega
      refine ⟨y, ?_, .v _, List.all_eq_true.1 q5 _ (List.mem_of_getElem? hy)⟩
      rw [Array.getElem?_toList]
      unfold Builtin.zeroCells
      rw [hzs, Array.getElem?_map, Array.getElem?_range, if_pos hkj]
      simp only [Option.map_some]
      rw [Nat.mul_comm k, Nat.mul_add_mod, Nat.mod_eq_of_lt hj]
      have : z.cells[j]? = some y := by rw [← Array.getElem?_toList, hzc]; exact hy
      rw [getElem!_def, this]
    obtain ⟨f1, f2⟩ := Rel.fresh h (src := σ.length) (sz := ee.size) (n := m) (get := fun _ => ee.zero.map .v) (xs := (Builtin.zeroCells z.cells m).toList) (c := ([] : List Value).toArray ++ Builtin.zeroCells z.cells m ++ Builtin.zeroCells z.cells (grownCap W (0 + m) 0 el - (0 + m))) (T := el) (rest := (Builtin.zeroCells z.cells (grownCap W (0 + m) 0 el - (0 + m))).toList) (cap := grownCap W (0 + m) 0 el)
      (by omega) hbig (fun k hk => by rw [List.length_map]; exact q4) hread (by simp) (by omega) (by
        rw [Array.size_append, Array.size_append, zc_size, zc_size, hzs, List.size_toArray, List.length_nil, Nat.zero_add, ← Nat.add_mul]; congr 1; omega) (σ' := σ ++ [.tab ee.size m fun _ => ee.zero.map .v]) (by simp) (fun m' B hB => by
        rcases append_get hB with ⟨h1, h2⟩ | ⟨h1, h2⟩
        · exact .inl ⟨h1, h2⟩
        · exact .inr (.inr ⟨h1, h1, h2⟩))
    exact ⟨_, _, _, hrun, upd_ext _ (h.sim.dom _ (Nat.le_refl _)), by simpa using f1, by simpa using f2⟩
end Go.Proofs.Ythdeehkmlaejfaa.E
/- The engine, part 13b: rows of which the cells may name roots: stores and appends. -/
namespace Go.Proofs.Ythdeehkmlaejfaa.E
open Go
set_option linter.unusedSimpArgs false
set_option linter.unusedVariables false

/-- What an abstract value says of a cell in a row, by the roots. -/
def CV (R : Nat → Prop) (φ : Phi) (W : World) (u : AV) (x : Value) : Prop := VR R φ W u x ∧ scal x = true
theorem CV.mono {R R' : Nat → Prop} {φ φ' : Phi} {W W' : World} (hR : ∀ b, R b → R' b) (hW : Calm R W W') (hr : ∀ b, room W b ≤ room W' b) (hφ : Ext φ φ') {u : AV} {x : Value} (h : CV R φ W u x) : CV R' φ' W' u x := ⟨h.1.mono hR hW hr hφ, h.2⟩
theorem CR.cv {R : Nat → Prop} {φ : Phi} {W : World} {u : AV} {x : Value} (h : CR R W u x) : CV R φ W u x := ⟨.imm h.1, h.2⟩
/-- The roots that a cell names. -/
def namesC : AV → List Nat
  | .p l _ => [l]
  | .q l _ _ _ => [l]
  | .s l _ _ _ => [l]
  | _ => []
/-- A row's elements, by their cells; what roots are named. -/
def rowOfV (sz : Nat) (x : AV) (σ : St) : Option (Bool × Nat × (Nat → List AV) × List Nat) :=
  match x with
  | .s l sz' o n => match σ[l]? with
    | some (.tabv sz'' N get rs) => match Nat.beq sz sz', Nat.beq sz sz'' with
      | true, true => some (Nat.ble (o + n) N, n, (fun k => get (o + k)), rs)
      | _, _ => none
    | some (.tab sz'' N get) => match Nat.beq sz sz', Nat.beq sz sz'' with
      | true, true => some (Nat.ble (o + n) N, n, (fun k => get (o + k)), [])
      | _, _ => none
    | some (.lit cs) => match Nat.beq sz sz', Nat.ble ((o + n) * sz) cs.length, Nat.ble (n * sz) 281474976710655, cs.all okCell with
      | true, true, true, true => some (true, n, (fun k => (cs.drop ((o + k) * sz)).take sz), cs.flatMap namesC)
      | _, _, _, _ => none
    | _ => none
  | .i sz' n get => match Nat.beq sz sz' with
    | true => some (true, n, get, [])
    | false => none
  | _ => none
theorem rowOfV_ok {R : Nat → Prop} {φ : Phi} {σ : St} {W : World} (hs : Sim R φ σ W) {sz : Nat} (h0 : 0 < sz) {x : AV} {v : Value} (hx : VR R φ W x v) {c : Bool} {n : Nat} {get : Nat → List AV} {rs : List Nat} (h : rowOfV sz x σ = some (c, n, get, rs)) (hc : c = true) :
    (∀ k, k < n → (get k).length = sz) ∧ n * sz < 281474976710656 ∧ ∃ A cap, v = .slice A n cap ∧ (n = 0 ∨ ∃ b o, A = some ⟨b, o, none⟩ ∧ ∀ (k j : Nat) (u : AV), k < n → (get k)[j]? = some u → ∃ y, W.cell? ⟨b, o + (k * sz + j), none⟩ = some y ∧ CV R φ W u y) := by
  cases x with
  | s l sz' o m =>
    simp only [rowOfV] at h
    split at h
    · rename_i sz'' N g rs' hl
      split at h
      · rename_i h1 h2
        obtain ⟨rfl, hh1⟩ := Prod.mk.inj (Option.some.inj h)
        obtain ⟨rfl, hh2⟩ := Prod.mk.inj hh1
        obtain ⟨rfl, rfl⟩ := Prod.mk.inj hh2
        obtain rfl := Nat.eq_of_beq_eq_true h1
        obtain rfl := Nat.eq_of_beq_eq_true h2
        have hle := Nat.le_of_ble_eq_true hc
        obtain ⟨z0, hm, hlen, hb⟩ := hs.blk l _ hl
        refine ⟨fun k hk => hlen _ (by omega), Nat.lt_of_le_of_lt (Nat.mul_le_mul_right _ (by omega)) hm, ?_⟩
        cases hx with
        | imm hi => cases hi
        | nil hφ => exact ⟨_, 0, rfl, .inl rfl⟩
        | z hφ => exact ⟨_, 0, rfl, .inl rfl⟩
        | s hφ hn hr =>
          rename_i b f cap
          refine ⟨_, cap, rfl, .inr ⟨_, _, rfl, fun k j u hk hu => ?_⟩⟩
          rcases hb with ⟨e2, _⟩ | ⟨b', o', e2, _, hcell⟩
          · rw [hφ] at e2; cases e2
          · rw [hφ] at e2; obtain ⟨rfl, rfl⟩ := Prod.mk.inj (Option.some.inj (Option.some.inj e2))
            obtain ⟨y, hy, hv⟩ := hcell (o + k) j u (by omega) hu
            exact ⟨y, by rw [show f + o * sz + (k * sz + j) = f + ((o + k) * sz + j) by rw [Nat.add_mul]; omega]; exact hy, hv⟩
      · cases h
    · rename_i sz'' N g hl
      split at h
      · rename_i h1 h2
        obtain ⟨rfl, hh1⟩ := Prod.mk.inj (Option.some.inj h)
        obtain ⟨rfl, hh2⟩ := Prod.mk.inj hh1
        obtain ⟨rfl, rfl⟩ := Prod.mk.inj hh2
        obtain rfl := Nat.eq_of_beq_eq_true h1
        obtain rfl := Nat.eq_of_beq_eq_true h2
        have hle := Nat.le_of_ble_eq_true hc
        obtain ⟨z0, hm, hlen, hb⟩ := hs.blk l _ hl
        refine ⟨fun k hk => hlen _ (by omega), Nat.lt_of_le_of_lt (Nat.mul_le_mul_right _ (by omega)) hm, ?_⟩
        cases hx with
        | imm hi => cases hi
        | nil hφ => exact ⟨_, 0, rfl, .inl rfl⟩
        | z hφ => exact ⟨_, 0, rfl, .inl rfl⟩
        | s hφ hn hr =>
          rename_i b f cap
          refine ⟨_, cap, rfl, .inr ⟨_, _, rfl, fun k j u hk hu => ?_⟩⟩
          rcases hb with ⟨e2, _⟩ | ⟨b', o', e2, _, hcell⟩
          · rw [hφ] at e2; cases e2
          · rw [hφ] at e2; obtain ⟨rfl, rfl⟩ := Prod.mk.inj (Option.some.inj (Option.some.inj e2))
            obtain ⟨y, hy, hv⟩ := hcell (o + k) j u (by omega) hu
            exact ⟨y, by rw [show f + o * sz + (k * sz + j) = f + ((o + k) * sz + j) by rw [Nat.add_mul]; omega]; exact hy, hv.cv⟩
      · cases h
    · rename_i cs hl
      split at h
      · rename_i h1 h2 h3 h4
        obtain ⟨rfl, hh1⟩ := Prod.mk.inj (Option.some.inj h)
        obtain ⟨rfl, hh2⟩ := Prod.mk.inj hh1
        obtain ⟨rfl, rfl⟩ := Prod.mk.inj hh2
        obtain rfl := Nat.eq_of_beq_eq_true h1
        have h2 := Nat.le_of_ble_eq_true h2
        have h3 := Nat.le_of_ble_eq_true h3
        obtain ⟨b', o', e2, _, hcell⟩ := hs.blk l _ hl
        have hlen : ∀ k, k < m → ((cs.drop ((o + k) * sz)).take sz).length = sz := fun k hk => by
          have : (o + k + 1) * sz ≤ (o + m) * sz := Nat.mul_le_mul_right _ (by omega)
          rw [Nat.succ_mul] at this
          simp; omega
        refine ⟨hlen, by omega, ?_⟩
        cases hx with
        | imm hi => cases hi
        | nil hφ => exact ⟨_, 0, rfl, .inl rfl⟩
        | z hφ => exact ⟨_, 0, rfl, .inl rfl⟩
        | s hφ hn hr =>
          rename_i b f cap
          refine ⟨_, cap, rfl, .inr ⟨_, _, rfl, fun k j u hk hu => ?_⟩⟩
          rw [hφ] at e2; obtain ⟨rfl, rfl⟩ := Prod.mk.inj (Option.some.inj (Option.some.inj e2))
          rw [List.getElem?_take] at hu
          split at hu
          · rw [List.getElem?_drop] at hu
            obtain ⟨y, hy, hv⟩ := hcell ((o + k) * sz + j) u hu
            exact ⟨y, by rw [show f + o * sz + (k * sz + j) = f + ((o + k) * sz + j) by rw [Nat.add_mul]; omega]; exact hy, hv, okCell_ok hv (List.all_eq_true.1 h4 _ (List.mem_of_getElem? hu))⟩
          · cases hu
      · cases h
    · cases h
  | i sz' m g =>
    simp only [rowOfV] at h
    cases hz : Nat.beq sz sz' with
    | false => simp [hz] at h
    | true =>
      simp only [hz] at h
      obtain ⟨rfl, hh1⟩ := Prod.mk.inj (Option.some.inj h)
      obtain ⟨rfl, hh2⟩ := Prod.mk.inj hh1
      obtain ⟨rfl, rfl⟩ := Prod.mk.inj hh2
      obtain rfl := Nat.eq_of_beq_eq_true hz
      cases hx with
      | imm hi => cases hi with
        | nil => exact ⟨fun k hk => by omega, by omega, _, _, rfl, .inl rfl⟩
        | i xs hb hn hl hcell hv hsc hs' hm => exact ⟨hl, hm, _, _, rfl, .inr ⟨_, _, rfl, fun k j u hk hu => ⟨_, hcell k j u hk hu, .imm (hv k j u hk hu), hsc k j u hk hu⟩⟩⟩
  | _ => simp [rowOfV] at h
def aAppendV (tt : List TE) (t : Nat) (x y : AV) (σ : St) : Option (Bool × AV × St) :=
  match look tt t with
  | none => none
  | some e => match e.td with
    | .slice el => match look tt el with
      | none => none
      | some ee =>
        match Nat.ble 1 ee.size, Nat.ble ee.size 32768, Nat.ble ee.bytes 32768, Nat.beq ee.zero.length ee.size with
        | true, true, true, true =>
          match rowOfV ee.size x σ, rowOfV ee.size y σ with
          | some (c1, n, g1, rs1), some (c2, m, g2, rs2) =>
            match x with
            | .s l _ _ _ => some (c1 && (c2 && Nat.ble (n + m) 4294967295), .s σ.length ee.size 0 (n + m), σ.set l .gone ++ [.tabv ee.size (n + m) (joined n g1 g2) (rs1 ++ rs2)])
            | _ => none
          | _, _ => none
        | _, _, _, _ => none
    | _ => none
theorem row_valuesV {W : World} {R : Nat → Prop} {φ : Phi} {sz n b o : Nat} {get : Nat → List AV} (hl : ∀ k, k < n → (get k).length = sz)
    (h : ∀ (k j : Nat) (u : AV), k < n → (get k)[j]? = some u → ∃ y, W.cell? ⟨b, o + (k * sz + j), none⟩ = some y ∧ CV R φ W u y) :
    ∃ xs : List Value, xs.length = n * sz ∧ (∀ (m : Nat) (x : Value), xs[m]? = some x → W.cell? ⟨b, o + m, none⟩ = some x) ∧ ∀ (k j : Nat) (u : AV), k < n → (get k)[j]? = some u → ∃ x, xs[k * sz + j]? = some x ∧ CV R φ W u x := by
  obtain ⟨f1, f2⟩ := flat_get sz get n hl
  obtain ⟨xs, h1, h2, h3⟩ := cells_values (V := CV R φ W) (b := b) (o := o) ((List.range n).flatMap get) fun m u hu => by
    obtain ⟨k, j, hk, rfl, hg⟩ := f2 m u hu
    exact h k j u hk hg
  refine ⟨xs, by rw [h1, f1], h2, fun k j u hk hu => ?_⟩
  have hj : j < sz := by
    rcases Nat.lt_or_ge j (get k).length with g | g
    · rw [hl k hk] at g; exact g
    · rw [List.getElem?_eq_none g] at hu; cases hu
  have hm : k * sz + j < xs.length := by
    rw [h1, f1]
    have : (k + 1) * sz ≤ n * sz := Nat.mul_le_mul_right _ hk
    rw [Nat.succ_mul] at this; omega
  refine ⟨xs[k * sz + j], List.getElem?_eq_getElem hm, ?_⟩
  obtain ⟨y, hy, hv⟩ := h k j u hk hu
  have := h2 _ _ (List.getElem?_eq_getElem hm)
  rw [hy] at this
  rw [← Option.some.inj this]; exact hv

def ReadsV (R : Nat → Prop) (φ : Phi) (W : World) (sz n : Nat) (get : Nat → List AV) (xs : List Value) : Prop :=
  xs.length = n * sz ∧ ∀ (k j : Nat) (u : AV), k < n → (get k)[j]? = some u → ∃ x, xs[k * sz + j]? = some x ∧ CV R φ W u x

theorem ReadsV.joined {R : Nat → Prop} {φ : Phi} {W : World} {sz n m : Nat} {g1 g2 : Nat → List AV} {xs ys : List Value} (h1 : ReadsV R φ W sz n g1 xs) (h2 : ReadsV R φ W sz m g2 ys) (hl : ∀ k, k < n → (g1 k).length = sz) : ReadsV R φ W sz (n + m) (joined n g1 g2) (xs ++ ys) := by
  refine ⟨by rw [List.length_append, h1.1, h2.1, Nat.add_mul], fun k j u hk hu => ?_⟩
  unfold E.joined at hu
  split at hu
  · rename_i hkn
    obtain ⟨x, hx, hv⟩ := h1.2 k j u hkn hu
    exact ⟨x, by rw [List.getElem?_append_left]; exact hx; exact (List.getElem?_eq_some_iff.1 hx).1, hv⟩
  · rename_i hkn
    obtain ⟨x, hx, hv⟩ := h2.2 (k - n) j u (by omega) hu
    refine ⟨x, ?_, hv⟩
    have : k * sz = n * sz + (k - n) * sz := by rw [← Nat.add_mul]; congr 1; omega
    rw [List.getElem?_append_right (by rw [h1.1, this]; omega), h1.1, show k * sz + j - n * sz = (k - n) * sz + j by omega]
    exact hx

theorem Rel.freshV {F0 : Nat → Nat → Prop} {W0 : World} {R : Nat → Prop} {φ : Phi} {σ : St} {f : List AV} {tmps : Array Value} {W : World} (h : Rel F0 W0 R φ σ f tmps W) {sz n : Nat} {get : Nat → List AV} {xs : List Value} (h0 : 0 < sz) (hm : n * sz < 281474976710656)
    (hl : ∀ k, k < n → (get k).length = sz) (hr : ReadsV R φ W sz n get xs) {rs : List Nat} {c : Array Value} {T : TypeId} {rest : List Value} (hc : c.toList = xs ++ rest) {cap : Nat} (hcap : n ≤ cap) (hsz : c.size = cap * sz) {src : Nat}
    {σ' : St} (hlen : σ'.length = σ.length + 1) (hσ : ∀ m B, σ'[m]? = some B → (m = σ.length ∧ B = .tabv sz n get rs) ∨ B = .gone ∨ (m ≠ src ∧ m ≠ σ.length ∧ σ[m]? = some B)) :
    Rel F0 W0 R (upd φ σ.length (some (W.heap.size, 0))) σ' f tmps (W.drew.alloc (.cells c T)) ∧ VR R (upd φ σ.length (some (W.heap.size, 0))) (W.drew.alloc (.cells c T)) (.s σ.length sz 0 n) (.slice (some ⟨W.heap.size, 0, none⟩) n cap) := by
  have hk : Keep (fun _ _ => False) W (W.drew.alloc (.cells c T)) := (Keep.drew _ W).trans (Keep.alloc (fun _ _ => False) W.drew _) fun _ _ h => h.elim
  have hcalm : Calm R W (W.drew.alloc (.cells c T)) := hk.calm fun _ _ h => h.elim
  refine ⟨Rel.turn h (l := σ.length) (src := src) (B' := .tabv sz n get rs) (G := fun _ _ => False) hk (upd_ext _ (h.sim.dom _ (Nat.le_refl _))) (fun m hm h => upd_none hm h) (fun b k hg => hg.elim) ?_ (fun b k hw => ?_) hσ fun m hm => ?_, ?_⟩
  · refine ⟨h0, hm, hl, .inr ⟨W.heap.size, 0, upd_same _ _ _, Free.new W.drew _ _, fun k j u hkn hu => ?_⟩⟩
    obtain ⟨x, hx, hv⟩ := hr.2 k j u hkn hu
    refine ⟨x, ?_, hv.mono (fun _ h => h) hcalm hk.room_le (upd_ext _ (h.sim.dom _ (Nat.le_refl _)))⟩
    have := World.cell?_alloc_new W.drew c T (k * sz + j)
    rw [Nat.zero_add]
    refine this.trans ?_
    rw [← Array.getElem?_toList, hc, List.getElem?_append_left]
    · exact hx
    · exact (List.getElem?_eq_some_iff.1 hx).1
  · obtain ⟨o, e⟩ := hw
    rw [upd_same] at e
    obtain ⟨rfl, rfl⟩ := Prod.mk.inj (Option.some.inj (Option.some.inj e))
    exact .inr (Nat.le_refl _)
  · unfold upd
    rw [if_neg (by omega)]
    exact h.sim.dom m (by omega)
  · have := VR.s (R := R) (W := W.drew.alloc (.cells c T)) (l := σ.length) (sz := sz) (o := 0) (φ := upd φ σ.length (some (W.heap.size, 0))) (upd_same _ _ _) hcap (by
      have : room (W.drew.alloc (.cells c T)) W.heap.size = c.size := by unfold room; rw [show (W.drew.alloc (.cells c T)).heap[W.heap.size]? = some (.cells c T) from heap_new W.drew _]
      rw [this, hsz]; simp)
    simpa using this

theorem aAppendV_ok {P : Program} {tt : List TE} (ht : TTok P tt) {F0 : Nat → Nat → Prop} {W0 : World} {R : Nat → Prop} {φ : Phi} {σ : St} {f : List AV} {tmps : Array Value} {W : World} (h : Rel F0 W0 R φ σ f tmps W)
    {t ty : Nat} {x y : AV} {v w : Value} (hx : VR R φ W x v) (hy : VR R φ W y w) {c : Bool} {u : AV} {σ' : St} {N szv : Nat} {g : Nat → List AV} {rs : List Nat} (hcase : ∀ l sz o n, x = .s l sz o n → σ[l]? = some (.tabv szv N g rs)) (ha : aAppendV tt t x y σ = some (c, u, σ')) (hc : c = true) :
    ∃ z W' φ', (Builtin.append_ #[t, t] ty #[v, w]).run P W = .ok z W' ∧ Ext φ φ' ∧ Rel F0 W0 R φ' σ' f tmps W' ∧ VR R φ' W' u z := by
  unfold aAppendV at ha
  cases he : look tt t with
  | none => simp [he] at ha
  | some e =>
    simp only [he] at ha
    have hlk := (look_ok ht he).1
    cases htd : e.td <;> simp only [htd] at ha <;> try (cases ha; done)
    rename_i el
    rw [htd] at hlk
    have hund : P.underlying t = some (.slice el) := hlk
    cases hee : look tt el with
    | none => simp [hee] at ha
    | some ee =>
      simp only [hee] at ha
      split at ha
      case h_2 => cases ha
      rename_i q1 q2 q3 q4
      have q1 := Nat.le_of_ble_eq_true q1
      have q2 := Nat.le_of_ble_eq_true q2
      have q3 := Nat.le_of_ble_eq_true q3
      have q4 := Nat.eq_of_beq_eq_true q4
      obtain ⟨_, i, z, hi, hsz, hby, hz, hzc⟩ := look_ok ht hee
      have hzs : z.cells.size = ee.size := by rw [← q4, ← hzc]; simp
      split at ha
      case h_2 => cases ha
      rename_i c1 n g1 rs1 c2 m g2 rs2 r1 r2
      -- what is common to all ways
      have main : ∀ (l : Nat) (A : Option Addr) (cap : Nat), v = .slice A n cap → c2 = true → n + m ≤ 4294967295 → n ≤ cap → (∀ k, k < n → (g1 k).length = ee.size) →
          (∀ B, σ[l]? = some B → ∃ N g, B = .tabv ee.size N g rs1) →
          ((n = 0 ∧ cap = 0) ∨ ∃ b k0, A = some ⟨b, k0, none⟩ ∧ (∀ (k j : Nat) (u : AV), k < n → (g1 k)[j]? = some u → ∃ y, W.cell? ⟨b, k0 + (k * ee.size + j), none⟩ = some y ∧ CV R φ W u y) ∧
            ((n = 0 ∧ cap = 0 ∧ ∃ f0, φ l = some (some (b, f0))) ∨ (∃ f0, φ l = some (some (b, f0))) ∧ k0 + cap * ee.size ≤ room W b) ∧ σ[l]?.isSome = true) →
          ∀ (σ1 : St), σ1.length = σ.length + 1 → (∀ m' B, σ1[m']? = some B → (m' = σ.length ∧ B = .tabv ee.size (n + m) (joined n g1 g2) (rs1 ++ rs2)) ∨ B = .gone ∨ (m' ≠ l ∧ m' ≠ σ.length ∧ σ[m']? = some B)) →
          ∃ z W' φ', (Builtin.append_ #[t, t] ty #[v, w]).run P W = .ok z W' ∧ Ext φ φ' ∧ Rel F0 W0 R φ' σ1 f tmps W' ∧ VR R φ' W' (.s σ.length ee.size 0 (n + m)) z := by
        intro l A cap hv hc2 hsum hncap hg1 htab hA σ1 hlen hσ
        have hdomU : ∀ p, ∀ m', σ1.length ≤ m' → upd φ σ.length p m' = none := fun p m' hm' => by unfold upd; rw [if_neg (by omega)]; exact h.sim.dom m' (by omega)
        have hxt : ∀ p, Ext φ (upd φ σ.length p) := fun p => upd_ext p (h.sim.dom _ (Nat.le_refl _))
        obtain ⟨hg2, hm2, B, cb, hw, hB⟩ := rowOfV_ok h.sim (by omega) hy r2 hc2
        subst hv hw
        have hbig : (n + m) * ee.size < 281474976710656 := Nat.lt_of_le_of_lt (Nat.mul_le_mul hsum q2) (by decide)
        have hbyt : (n + m) * i.bytes ≤ 140737488355328 := by rw [hby]; exact Nat.le_trans (Nat.mul_le_mul hsum q3) (by decide)
        -- the values that come
        obtain ⟨news, hn1, hn2, hn3⟩ : ∃ news : List Value, news.length = m * ee.size ∧ (m = 0 ∨ ∃ b o, B = some ⟨b, o, none⟩ ∧ ∀ (k : Nat) (x : Value), news[k]? = some x → W.cell? ⟨b, o + k, none⟩ = some x) ∧
            (∀ (k j : Nat) (u : AV), k < m → (g2 k)[j]? = some u → ∃ x, news[k * ee.size + j]? = some x ∧ CV R φ W u x) := by
          rcases hB with rfl | ⟨b, o, rfl, hcell⟩
          · exact ⟨[], by simp, .inl rfl, fun k j u hk => by omega⟩
          · obtain ⟨xs, e1, e2, e3⟩ := row_valuesV hg2 hcell
            exact ⟨xs, e1, .inr ⟨b, o, rfl, e2⟩, e3⟩
        have hR2 : ReadsV R φ W ee.size m g2 news := ⟨hn1, hn3⟩
        have hjl := joined_len hg1 hg2
        by_cases hroom : n + m ≤ cap
        · -- there is room
          rcases hA with ⟨rfl, rfl⟩ | ⟨b, k0, rfl, hcell, hph, hso⟩
          · obtain rfl : m = 0 := by omega
            have hnil0 : news = [] := List.eq_nil_of_length_eq_zero (by simpa using hn1)
            refine ⟨.slice A (0 + 0) 0, W, upd φ σ.length none, run_app_room (W' := W) hund hi rfl (by rw [hsz]; exact hn1) hn2 (by omega) (by subst hnil0; cases A <;> simp [storeCells]), hxt _, ?_, .nil (upd_same _ _ _)⟩
            have hk := Keep.refl (fun _ _ => False) W
            refine Rel.turn h (l := σ.length) (src := l) (B' := .tabv ee.size (0 + 0) (joined 0 g1 g2) (rs1 ++ rs2)) (G := fun _ _ => False) hk (hxt _) (fun m hm h => upd_none hm h) (fun b k hg => hg.elim) ⟨by omega, by omega, hjl, .inl ⟨upd_same _ _ _, rfl⟩⟩ (fun b k hw => ?_) hσ (hdomU _)
            obtain ⟨o, e⟩ := hw
            rw [upd_same] at e; cases e
          · obtain ⟨Bl, hBl⟩ := Option.isSome_iff_exists.1 hso
            obtain ⟨N, g, rfl⟩ := htab Bl hBl
            have hb := h.sim.blk l _ hBl
            obtain ⟨_, _, _, hb⟩ := hb
            have hfb : Free W b := by
              rcases hb with ⟨e2, _⟩ | ⟨b', o', e2, hfree, _⟩
              · rcases hph with ⟨_, _, f0, e⟩ | ⟨⟨f0, e⟩, _⟩ <;> (rw [e] at e2; cases e2)
              · rcases hph with ⟨_, _, f0, e⟩ | ⟨⟨f0, e⟩, _⟩ <;> (rw [e] at e2; obtain ⟨rfl, rfl⟩ := Prod.mk.inj (Option.some.inj (Option.some.inj e2)); exact hfree)
            have hown : ∀ k, own φ l (.tabv ee.size N g rs1) b k := by
              intro k
              rcases hph with ⟨_, _, f0, e⟩ | ⟨⟨f0, e⟩, _⟩ <;> exact ⟨f0, e⟩
            rcases Nat.eq_zero_or_pos m with rfl | hmpos
            · -- nothing is put behind
              have hnil : news = [] := List.eq_nil_of_length_eq_zero (by simpa using hn1)
              subst hnil
              have hk := Keep.refl (fun _ _ => False) W
              refine ⟨.slice (some ⟨b, k0, none⟩) (n + 0) cap, W, upd φ σ.length (some (b, k0)), run_app_room (W' := W) hund hi rfl (by rw [hsz]; exact hn1) hn2 (by omega) (by simp [storeCells]), hxt _, ?_, ?_⟩
              · refine Rel.turn h (l := σ.length) (src := l) (B' := .tabv ee.size (n + 0) (joined n g1 g2) (rs1 ++ rs2)) (G := fun _ _ => False) hk (hxt _) (fun m hm h => upd_none hm h) (fun b k hg => hg.elim) ⟨by omega, hbig, hjl, .inr ⟨b, k0, upd_same _ _ _, hfb, fun k j u hk hu => ?_⟩⟩ (fun b' k' hw => ?_) hσ (hdomU _)
                · unfold E.joined at hu
                  rw [if_pos (by omega)] at hu
                  (obtain ⟨x, hx, hv⟩ := hcell k j u (by omega) hu; exact ⟨x, hx, hv.mono (fun _ hb => hb) (fun _ _ _ _ h => h) (fun _ => Nat.le_refl _) (hxt _)⟩)
                · obtain ⟨o, e⟩ := hw
                  rw [upd_same] at e
                  obtain ⟨rfl, rfl⟩ := Prod.mk.inj (Option.some.inj (Option.some.inj e))
                  exact .inl ⟨_, hBl, hown k'⟩
              · rcases hph with ⟨rfl, rfl, f0, e⟩ | ⟨_, hr⟩
                · exact .z (upd_same _ _ _)
                · have := VR.s (R := R) (W := W) (l := σ.length) (sz := ee.size) (o := 0) (φ := upd φ σ.length (some (b, k0))) (upd_same _ _ _) hroom (by simpa using hr)
                  simpa using this
            · rcases hph with ⟨rfl, rfl, _⟩ | ⟨⟨f0, hφ⟩, hr⟩
              · omega
              -- the cells behind are written
              have hex : ∀ k, k < news.length → ∃ x, W.cell? ⟨b, k0 + n * ee.size + (0 + k), none⟩ = some x := by
                intro k hk
                obtain ⟨cc, T, hcc⟩ := hfb
                have hrm : room W b = cc.size := by unfold room; rw [hcc]
                have hlt : k0 + n * ee.size + (0 + k) < cc.size := by
                  have : (n + m) * ee.size ≤ cap * ee.size := Nat.mul_le_mul_right _ hroom
                  rw [Nat.add_mul] at this
                  rw [hn1] at hk; omega
                exact ⟨cc[k0 + n * ee.size + (0 + k)], by unfold World.cell?; simp only [hcc]; simp [hlt]⟩
              have hscal : ∀ x ∈ news, scal x = true := by
                intro x hx
                obtain ⟨q, hq⟩ := List.getElem?_of_mem hx
                have hql : q < m * ee.size := by rw [← hn1]; exact (List.getElem?_eq_some_iff.1 hq).1
                have hk : q / ee.size < m := (Nat.div_lt_iff_lt_mul (by omega)).2 hql
                have hj : q % ee.size < (g2 (q / ee.size)).length := by rw [hg2 _ hk]; exact Nat.mod_lt _ (by omega)
                obtain ⟨x', hx', hv'⟩ := hn3 (q / ee.size) (q % ee.size) _ hk (List.getElem?_eq_getElem hj)
                rw [show q / ee.size * ee.size + q % ee.size = q by rw [Nat.mul_comm]; exact Nat.div_add_mod q ee.size, hq] at hx'
                rw [Option.some.inj hx']; exact hv'.2
              obtain ⟨W', s1, s2, s3⟩ := run_storeCells (P := P) (b := b) (o := k0 + n * ee.size) news 0 W hscal hex hfb
              have hcalm := s2.calm (R := R) (fun b' k' hg hR => by
                obtain ⟨rfl, _⟩ := hg
                exact h.sim.ro l _ hBl b' k' (hown k') hR)
              refine ⟨.slice (some ⟨b, k0, none⟩) (n + m) cap, W', upd φ σ.length (some (b, k0)), run_app_room (W' := W') hund hi rfl (by rw [hsz]; exact hn1) hn2 (by omega) (by rw [hsz]; simp only [add_none]; exact s1), hxt _, ?_, ?_⟩
              · refine Rel.turn h (l := σ.length) (src := l) (B' := .tabv ee.size (n + m) (joined n g1 g2) (rs1 ++ rs2)) s2 (hxt _) (fun m hm h => upd_none hm h) (fun b' k' hg => ⟨_, hBl, by obtain ⟨rfl, _⟩ := hg; exact hown k'⟩) ⟨by omega, hbig, hjl, .inr ⟨b, k0, upd_same _ _ _, hfb.keep s2, fun k j u hk hu => ?_⟩⟩ (fun b' k' hw => ?_) hσ (hdomU _)
                · unfold E.joined at hu
                  split at hu
                  · rename_i hkn
                    obtain ⟨x, hx, hv⟩ := hcell k j u hkn hu
                    have hj : j < ee.size := by
                      rcases Nat.lt_or_ge j (g1 k).length with g | g
                      · rw [hg1 k hkn] at g; exact g
                      · rw [List.getElem?_eq_none g] at hu; cases hu
                    have : (k + 1) * ee.size ≤ n * ee.size := Nat.mul_le_mul_right _ hkn
                    rw [Nat.succ_mul] at this
                    exact ⟨x, s2.cell (by rintro ⟨_, g1, _⟩; omega) hx, hv.mono (fun _ hb => hb) hcalm s2.room_le (hxt _)⟩
                  · rename_i hkn
                    obtain ⟨x, hx, hv⟩ := hn3 (k - n) j u (by omega) hu
                    have := s3 _ x hx
                    have e : k * ee.size = n * ee.size + (k - n) * ee.size := by rw [← Nat.add_mul]; congr 1; omega
                    exact ⟨x, by rw [show k0 + (k * ee.size + j) = k0 + n * ee.size + (0 + ((k - n) * ee.size + j)) by omega]; exact this, hv.mono (fun _ hb => hb) hcalm s2.room_le (hxt _)⟩
                · obtain ⟨o, e⟩ := hw
                  rw [upd_same] at e
                  obtain ⟨rfl, rfl⟩ := Prod.mk.inj (Option.some.inj (Option.some.inj e))
                  exact .inl ⟨_, hBl, hown k'⟩
              · have := VR.s (R := R) (W := W') (l := σ.length) (sz := ee.size) (o := 0) (φ := upd φ σ.length (some (b, k0))) (upd_same _ _ _) hroom (Nat.le_trans (by simpa using hr) (s2.room_le b))
                simpa using this
        · -- it grows
          have hmpos : 0 < m := by omega
          rcases hn2 with rfl | ⟨bn, on, rfl, hnews⟩
          · omega
          have hnews' : ∀ j x, news[j]? = some x → W.cell? ((⟨bn, on, none⟩ : Addr).add j) = some x := fun j x hx => by rw [add_none]; exact hnews j x hx
          rcases hA with ⟨rfl, rfl⟩ | ⟨b, k0, rfl, hcell, hph, hso⟩
          · cases A with
            | none =>
              have hrun := run_append_nil (P := P) W t ty el i z hund hi hz ⟨bn, on, none⟩ m cb news (by rw [hsz]; exact hn1) hnews' hmpos (by omega) (by simp only [Nat.zero_add] at hbyt; omega)
              have hge := grownCap_ge W m 0 el
              obtain ⟨f1, f2⟩ := Rel.freshV h (src := l) (sz := ee.size) (n := 0 + m) (get := joined 0 g1 g2) (xs := news) (c := news.toArray ++ Builtin.zeroCells z.cells (grownCap W m 0 el - m)) (T := el) (rest := (Builtin.zeroCells z.cells (grownCap W m 0 el - m)).toList) (cap := grownCap W m 0 el)
                (by omega) hbig hjl (by have := ReadsV.joined (g1 := g1) (n := 0) (xs := []) ⟨by simp, fun k j u hk => by omega⟩ hR2 (fun k hk => by omega); simpa using this) (by simp) (by omega) (by
                  rw [Array.size_append, zc_size, hzs, List.size_toArray, hn1, ← Nat.add_mul]; congr 1; omega) hlen hσ
              exact ⟨_, _, _, hrun, hxt _, f1, by simpa using f2⟩
            | some a =>
              have hrun := run_append_grow (P := P) W t ty el i z hund hi hz a 0 0 [] (by simp) (fun j x hx => by simp at hx) ⟨bn, on, none⟩ m cb news (by rw [hsz]; exact hn1) hnews' (by omega) (by omega) (growslice_fits (by omega) (by simpa using hbyt))
              have hge := grownCap_ge W (0 + m) 0 el
              obtain ⟨f1, f2⟩ := Rel.freshV h (src := l) (sz := ee.size) (n := 0 + m) (get := joined 0 g1 g2) (xs := news) (c := (#[] : Array Value) ++ news.toArray ++ Builtin.zeroCells z.cells (grownCap W (0 + m) 0 el - (0 + m))) (T := el) (rest := (Builtin.zeroCells z.cells (grownCap W (0 + m) 0 el - (0 + m))).toList) (cap := grownCap W (0 + m) 0 el)
                (by omega) hbig hjl (by have := ReadsV.joined (g1 := g1) (n := 0) (xs := []) ⟨by simp, fun k j u hk => by omega⟩ hR2 (fun k hk => by omega); simpa using this) (by simp) (by omega) (by
                  rw [Array.size_append, Array.size_append, zc_size, hzs, List.size_toArray, List.size_toArray, hn1, List.length_nil, Nat.zero_add, ← Nat.add_mul]; congr 1; omega) hlen hσ
              exact ⟨_, _, _, hrun, hxt _, f1, by simpa using f2⟩
          · obtain ⟨olds, o1, o2, o3⟩ := row_valuesV hg1 hcell
            have hrun := run_append_grow (P := P) W t ty el i z hund hi hz ⟨b, k0, none⟩ n cap olds (by rw [hsz]; exact o1) (fun j x hx => by rw [add_none]; exact o2 j x hx) ⟨bn, on, none⟩ m cb news (by rw [hsz]; exact hn1) hnews' (by omega) (by omega) (growslice_fits (by omega) hbyt)
            have hge := grownCap_ge W (n + m) cap el
            obtain ⟨f1, f2⟩ := Rel.freshV h (src := l) (sz := ee.size) (n := n + m) (get := joined n g1 g2) (xs := olds ++ news) (c := olds.toArray ++ news.toArray ++ Builtin.zeroCells z.cells (grownCap W (n + m) cap el - (n + m))) (T := el) (rest := (Builtin.zeroCells z.cells (grownCap W (n + m) cap el - (n + m))).toList) (cap := grownCap W (n + m) cap el)
              (by omega) hbig hjl (ReadsV.joined ⟨o1, o3⟩ hR2 hg1) (by simp) (by omega) (by
                rw [Array.size_append, Array.size_append, zc_size, hzs, List.size_toArray, List.size_toArray, hn1, o1, ← Nat.add_mul, ← Nat.add_mul]; congr 1; omega) hlen hσ
            exact ⟨_, _, _, hrun, hxt _, f1, f2⟩
      cases x with
      | s l sz o n' =>
        simp only [Option.some.injEq, Prod.mk.injEq] at ha
        obtain ⟨rfl, rfl, rfl⟩ := ha
        simp only [Bool.and_eq_true] at hc
        obtain ⟨hc1, hc2, hc3⟩ := hc
        have hc3 := Nat.le_of_ble_eq_true hc3
        obtain ⟨hg1, _, A', cap', hv, hA'⟩ := rowOfV_ok h.sim (by omega) hx r1 hc1
        have hcs1 := hcase l sz o n' rfl
        simp only [rowOfV, hcs1] at r1
        split at r1
        case h_2 => cases r1
        rename_i e1 e2
        obtain ⟨rfl, hh1⟩ := Prod.mk.inj (Option.some.inj r1)
        obtain ⟨rfl, hh2⟩ := Prod.mk.inj hh1
        obtain ⟨rfl, rfl⟩ := Prod.mk.inj hh2
        have e1 := Nat.eq_of_beq_eq_true e1
        have e2 := Nat.eq_of_beq_eq_true e2
        subst e1 e2
        have htab : ∀ B, σ[l]? = some B → ∃ N g, B = .tabv ee.size N g rs := fun B hB => by rw [hcs1] at hB; exact ⟨N, g, (Option.some.inj hB).symm⟩
        have hsome : σ[l]?.isSome = true := by rw [hcs1]; rfl
        have hσ : ∀ (m' : Nat) (B : Blk), (σ.set l Blk.gone ++ [Blk.tabv ee.size (n' + m) (joined n' (fun k => g (o + k)) g2) (rs ++ rs2)])[m']? = some B → (m' = σ.length ∧ B = .tabv ee.size (n' + m) (joined n' (fun k => g (o + k)) g2) (rs ++ rs2)) ∨ B = .gone ∨ (m' ≠ l ∧ m' ≠ σ.length ∧ σ[m']? = some B) := fun m' B hB => by
          rcases append_get hB with ⟨h1, h2⟩ | ⟨h1, h2⟩
          · exact .inl ⟨by simpa using h1, h2⟩
          · by_cases hne : m' = l
            · subst hne; exact .inr (.inl (set_get_self h2))
            · exact .inr (.inr ⟨hne, by simpa using h1, set_get h2 hne⟩)
        have hlen : (σ.set l Blk.gone ++ [Blk.tabv ee.size (n' + m) (joined n' (fun k => g (o + k)) g2) (rs ++ rs2)]).length = σ.length + 1 := by simp
        cases hx with
        | imm hi => cases hi
        | nil hφ => exact main l _ 0 rfl hc2 hc3 (Nat.le_refl _) hg1 htab (.inl ⟨rfl, rfl⟩) _ hlen hσ
        | z hφ => exact main l _ 0 rfl hc2 hc3 (Nat.le_refl _) hg1 htab (.inr ⟨_, _, rfl, fun k j u hk => by omega, .inl ⟨rfl, rfl, _, hφ⟩, hsome⟩) _ hlen hσ
        | s hφ hn hr =>
          rename_i b f0 cap
          refine main l _ cap rfl hc2 hc3 hn hg1 htab (.inr ⟨b, f0 + o * ee.size, rfl, fun k j u hk hu => ?_, .inr ⟨⟨_, hφ⟩, by rw [Nat.add_mul] at hr; omega⟩, hsome⟩) _ hlen hσ
          rcases hA' with rfl | ⟨b', o', hA', hcell⟩
          · omega
          · injection hv with hv1 hv2 hv3
            rw [hA'] at hv1
            injection hv1 with hv1
            injection hv1 with hb ho
            rw [hb, ho]
            exact hcell k j u hk hu
      | _ => simp at ha
/-- A row of which the cells name no roots, as one of which they may. -/
theorem Rel.tabv {F0 : Nat → Nat → Prop} {W0 : World} {R : Nat → Prop} {φ : Phi} {σ : St} {f : List AV} {tmps : Array Value} {W : World} (h : Rel F0 W0 R φ σ f tmps W) {l sz n : Nat} {g : Nat → List AV} (hl : σ[l]? = some (.tab sz n g)) (rs : List Nat) : Rel F0 W0 R φ (σ.set l (.tabv sz n g rs)) f tmps W := by
  obtain ⟨z0, hm, hlen, hb⟩ := h.sim.blk l _ hl
  refine Rel.turn h (l := l) (src := l) (B' := .tabv sz n g rs) (G := fun _ _ => False) (Keep.refl _ _) (Ext.refl _) (fun _ _ h => h) (fun b k hg => hg.elim) ⟨z0, hm, hlen, ?_⟩ (fun b k hw => .inl ⟨_, hl, hw⟩) (fun m B hB => ?_) fun m hm => h.sim.dom m (by simpa using hm)
  · rcases hb with e | ⟨b, o, e, fr, hc⟩
    · exact .inl e
    · exact .inr ⟨b, o, e, fr, fun k j u hk hu => by obtain ⟨x, hx, hv⟩ := hc k j u hk hu; exact ⟨x, hx, .imm hv.1, hv.2⟩⟩
  · by_cases hne : m = l
    · subst hne; exact .inl ⟨rfl, set_get_self hB⟩
    · exact .inr (.inr ⟨hne, hne, set_get hB hne⟩)
/-- Does append need the kind of row of which the cells may name roots? -/
def asV (σ : St) (y : AV) : Option Blk → Option Blk
  | some (.tabv sz n g rs) => some (.tabv sz n g rs)
  | some (.tab sz n g) => match y with
    | .s m _ _ _ => match σ[m]? with
      | some (.lit _) => some (.tabv sz n g [])
      | some (.tabv _ _ _ _) => some (.tabv sz n g [])
      | _ => none
    | _ => none
  | _ => none
theorem asV_ok {F0 : Nat → Nat → Prop} {W0 : World} {R : Nat → Prop} {φ : Phi} {σ : St} {f : List AV} {tmps : Array Value} {W : World} (h : Rel F0 W0 R φ σ f tmps W) {l : Nat} {y : AV} {B : Blk} (ha : asV σ y σ[l]? = some B) :
    Rel F0 W0 R φ (σ.set l B) f tmps W ∧ l < σ.length ∧ ∃ sz n g rs, B = .tabv sz n g rs := by
  have key : ∀ {B}, σ[l]? = some B → l < σ.length := fun e => (List.getElem?_eq_some_iff.1 e).1
  unfold asV at ha
  split at ha
  · rename_i sz n g rs hl
    obtain rfl := Option.some.inj ha
    refine ⟨?_, key hl, _, _, _, _, rfl⟩
    have : σ.set l (.tabv sz n g rs) = σ := by
      apply List.ext_getElem?
      intro i
      rw [List.getElem?_set]
      split
      · rename_i e; subst e; rw [if_pos (key hl), hl]
      · rfl
    rw [this]; exact h
  · rename_i sz n g hl
    split at ha
    · split at ha
      · obtain rfl := Option.some.inj ha; exact ⟨h.tabv hl _, key hl, _, _, _, _, rfl⟩
      · obtain rfl := Option.some.inj ha; exact ⟨h.tabv hl _, key hl, _, _, _, _, rfl⟩
      · cases ha
    · cases ha
  · cases ha
def aAppV (tt : List TE) (t : Nat) (x y : AV) (σ : St) : Option (Bool × AV × St) :=
  match x with
  | .s l sz o n => match asV σ y σ[l]? with
    | some B => aAppendV tt t (.s l sz o n) y (σ.set l B)
    | none => aApp tt t (.s l sz o n) y σ
  | x => aApp tt t x y σ
theorem aAppV_ok {P : Program} {tt : List TE} (ht : TTok P tt) {F0 : Nat → Nat → Prop} {W0 : World} {R : Nat → Prop} {φ : Phi} {σ : St} {f : List AV} {tmps : Array Value} {W : World} (h : Rel F0 W0 R φ σ f tmps W)
    {t ty : Nat} {x y : AV} {v w : Value} (hx : VR R φ W x v) (hy : VR R φ W y w) {c : Bool} {u : AV} {σ' : St} (ha : aAppV tt t x y σ = some (c, u, σ')) (hc : c = true) :
    ∃ z W' φ', (Builtin.append_ #[t, t] ty #[v, w]).run P W = .ok z W' ∧ Ext φ φ' ∧ Rel F0 W0 R φ' σ' f tmps W' ∧ VR R φ' W' u z := by
  unfold aAppV at ha
  split at ha
  · rename_i l sz o n
    split at ha
    · rename_i B hB
      obtain ⟨h', hl, szv, N, g, rs, rfl⟩ := asV_ok h hB
      exact aAppendV_ok ht h' hx hy (fun l' sz' o' n' e => by
        injection e with e1 e2 e3 e4
        rw [← e1]
        exact List.getElem?_set_self hl) ha hc
    · exact aApp_ok ht h hx hy ha hc
  · exact aApp_ok ht h hx hy ha hc
/-- A store into a row of which the cells may name roots. -/
def aStoreV (tt : List TE) (t : Nat) (l sz i j : Nat) (y : AV) (σ : St) (sz' n : Nat) (get : Nat → List AV) (rs : List Nat) : Option (Bool × St) :=
  match look tt t, cellsOf y with
  | some e, some cs => match Nat.beq cs.length e.size, cs.all okCell, Nat.beq sz sz', Nat.ble (j + cs.length) sz with
    | true, true, true, true => some (decide (i < n), σ.set l (.tabv sz n (fun k => if k = i then putCells (get k) j cs else get k) (cs.flatMap namesC ++ rs)))
    | _, _, _, _ => none
  | _, _ => none
theorem aStoreV_ok {P : Program} {tt : List TE} (ht : TTok P tt) {F0 : Nat → Nat → Prop} {W0 : World} {R : Nat → Prop} {φ : Phi} {σ : St} {f : List AV} {tmps : Array Value} {W : World} (h : Rel F0 W0 R φ σ f tmps W)
    {t l sz i j sz' n : Nat} {get : Nat → List AV} {rs : List Nat} (hl0 : σ[l]? = some (.tabv sz' n get rs)) {y : AV} {v w : Value} (hx : VR R φ W (.q l sz i j) v) (hy : VR R φ W y w) {c : Bool} {σ' : St} (ha : aStoreV tt t l sz i j y σ sz' n get rs = some (c, σ')) (hc : c = true) :
    ∃ W', (Instr.storeAt t v w).run P W = .ok () W' ∧ Rel F0 W0 R φ σ' f tmps W' := by
  unfold aStoreV at ha
  split at ha
  case h_2 => cases ha
  rename_i e cs he hcs
  split at ha
  case h_2 => cases ha
  rename_i hsz hall hz hle
  obtain ⟨rfl, rfl⟩ := Prod.mk.inj (Option.some.inj ha)
  have hsz := Nat.eq_of_beq_eq_true hsz
  obtain rfl := Nat.eq_of_beq_eq_true hz
  have hle := Nat.le_of_ble_eq_true hle
  have hi : i < n := of_decide_eq_true hc
  obtain ⟨vs, hvs, hl, hr⟩ := cellsOf_ok hy hcs
  have hrun : ∀ (b o : Nat) (W' : World), (storeCells ⟨b, o, none⟩ vs).run P W = .ok () W' → (Instr.storeAt t (.pointer (some ⟨b, o, none⟩)) w).run P W = .ok () W' := by
    intro b o W' h1
    unfold Instr.storeAt storeVar
    have : w.cells.size = e.size := by rw [← hsz, hl, ← hvs]; simp
    simp only [Instr.sureAddr, Sem.run_bind, Sem.run_pure, Result.andThen_ok, run_sizeOf ht he, this, ne_eq, not_true_eq_false, if_false, hvs]
    exact h1
  have hb := h.sim.blk l _ hl0
  cases hx with
  | imm hi => cases hi
  | q hφ =>
    rename_i b o
    obtain ⟨hz0, hm, hlen, hb⟩ := hb
    rcases hb with ⟨e2, _⟩ | ⟨b', o', e2, hfree, hcell⟩
    · rw [hφ] at e2; cases e2
    rw [hφ] at e2; obtain ⟨rfl, rfl⟩ := Prod.mk.inj (Option.some.inj (Option.some.inj e2))
    have hleg : j + cs.length ≤ (get i).length := by rw [hlen i hi]; exact hle
    have hscal : ∀ (k : Nat) (u : AV) (x : Value), cs[k]? = some u → vs[k]? = some x → CV R φ W u x := fun k u x hu hx =>
      ⟨hr k u x hu hx, okCell_ok (hr k u x hu hx) (List.all_eq_true.1 hall _ (List.mem_of_getElem? hu))⟩
    obtain ⟨W', h1, h2, h3⟩ := run_storeCells (P := P) (b := b) (o := o + (i * sz + j)) vs 0 W (fun x hx => by
      obtain ⟨k, hk⟩ := List.getElem?_of_mem hx
      have hk' : k < cs.length := by
        rcases Nat.lt_or_ge k cs.length with h1 | h1
        · exact h1
        · rw [List.getElem?_eq_none (by omega)] at hk; cases hk
      exact (hscal k _ x (List.getElem?_eq_getElem hk') hk).2) (fun k hk => by
      have hk' : j + k < (get i).length := by omega
      obtain ⟨x, hx, _⟩ := hcell i (j + k) _ hi (List.getElem?_eq_getElem hk')
      exact ⟨x, by rw [show o + (i * sz + j) + (0 + k) = o + (i * sz + (j + k)) by omega]; exact hx⟩) hfree
    refine ⟨W', hrun b _ W' h1, ?_⟩
    have hcalm := h2.calm (R := R) (fun b' k' hg hR => by
      obtain ⟨rfl, g1, g2⟩ := hg
      exact h.sim.ro l _ hl0 b' k' ⟨o, hφ⟩ hR)
    exact Rel.turn h (l := l) (src := l) (B' := .tabv sz n (fun k => if k = i then putCells (get k) j cs else get k) (cs.flatMap namesC ++ rs)) h2 (Ext.refl _) (fun _ _ h => h)
      (fun b' k' hg => ⟨_, hl0, by obtain ⟨rfl, g1, g2⟩ := hg; exact ⟨o, hφ⟩⟩)
      ⟨hz0, hm, fun k hk => by
        dsimp only
        split
        · rename_i e; subst e; rw [putCells_length hleg]; exact hlen k hk
        · exact hlen k hk, .inr ⟨b, o, hφ, hfree.keep h2, fun k j' u hk hu => by
        have other : (get k)[j']? = some u → ¬ (k = i ∧ j ≤ j' ∧ j' < j + cs.length) → ∃ x, W'.cell? ⟨b, o + (k * sz + j'), none⟩ = some x ∧ CV R φ W' u x := by
          intro hu hnot
          obtain ⟨x, hx, hv⟩ := hcell k j' u hk hu
          have hj' : j' < sz := by
            rcases Nat.lt_or_ge j' (get k).length with h1 | h1
            · rw [hlen k hk] at h1; exact h1
            · rw [List.getElem?_eq_none h1] at hu; cases hu
          refine ⟨x, h2.cell ?_ hx, CV.mono (fun _ hb => hb) hcalm h2.room_le (Ext.refl _) hv⟩
          rintro ⟨_, g1, g2⟩
          rcases Nat.lt_trichotomy k i with hki | rfl | hki
          · have : (k + 1) * sz ≤ i * sz := Nat.mul_le_mul_right _ hki
            rw [Nat.succ_mul] at this; omega
          · exact hnot ⟨rfl, by omega, by omega⟩
          · have : (i + 1) * sz ≤ k * sz := Nat.mul_le_mul_right _ hki
            rw [Nat.succ_mul] at this; omega
        simp only at hu
        split at hu
        · rename_i e; subst e
          rw [putCells_get hleg] at hu
          split at hu
          · rename_i hk2
            obtain ⟨x, hx⟩ := vs_get hl hu
            refine ⟨x, ?_, CV.mono (fun _ hb => hb) hcalm h2.room_le (Ext.refl _) (hscal _ u x hu hx)⟩
            have := h3 _ x hx
            rw [show o + (k * sz + j') = o + (k * sz + j) + (0 + (j' - j)) by omega]; exact this
          · rename_i hk2
            exact other hu (by rintro ⟨_, g1, g2⟩; exact hk2 ⟨g1, g2⟩)
        · rename_i hne
          exact other hu (by rintro ⟨e, _⟩; exact hne e)⟩⟩
      (fun b' k' hw => .inl ⟨_, hl0, hw⟩)
      (fun m B hm => by
        by_cases hne : m = l
        · subst hne; exact .inl ⟨rfl, set_get_self hm⟩
        · exact .inr (.inr ⟨hne, hne, set_get hm hne⟩)) (fun m hm => h.sim.dom m (by simpa using hm))
/-- A store, also of slices into rows. -/
def aStoreW (tt : List TE) (t : Nat) (x y : AV) (σ : St) : Option (Bool × St) :=
  match x with
  | .q l sz i j => match σ[l]? with
    | some (.tabv sz' n get rs) => aStoreV tt t l sz i j y σ sz' n get rs
    | some (.tab sz' n get) => match y with
      | .s _ _ _ _ => (aStoreV tt t l sz i j y (σ.set l (.tabv sz' n get [])) sz' n get []).map fun r => (r.1, r.2)
      | _ => aStore tt t (.q l sz i j) y σ
    | _ => aStore tt t (.q l sz i j) y σ
  | x => aStore tt t x y σ
theorem aStoreW_ok {P : Program} {tt : List TE} (ht : TTok P tt) {F0 : Nat → Nat → Prop} {W0 : World} {R : Nat → Prop} {φ : Phi} {σ : St} {f : List AV} {tmps : Array Value} {W : World} (h : Rel F0 W0 R φ σ f tmps W)
    {t : Nat} {x y : AV} {v w : Value} (hx : VR R φ W x v) (hy : VR R φ W y w) {c : Bool} {σ' : St} (ha : aStoreW tt t x y σ = some (c, σ')) (hc : c = true) :
    ∃ W', (Instr.storeAt t v w).run P W = .ok () W' ∧ Rel F0 W0 R φ σ' f tmps W' := by
  unfold aStoreW at ha
  split at ha
  · split at ha
    · rename_i hl
      exact aStoreV_ok ht h hl hx hy ha hc
    · rename_i hl
      split at ha
      · rw [Option.map_eq_some_iff] at ha
        obtain ⟨r, hr, e⟩ := ha
        have e' : r = (c, σ') := e
        subst e'
        exact aStoreV_ok ht (h.tabv hl []) (List.getElem?_set_self (List.getElem?_eq_some_iff.1 hl).1) hx hy hr hc
      · exact aStore_ok ht h hx hy ha hc
    · exact aStore_ok ht h hx hy ha hc
  · exact aStore_ok ht h hx hy ha hc
end Go.Proofs.Ythdeehkmlaejfaa.E
/- The engine, part 12: slices that are cut, or made. -/
namespace Go.Proofs.Ythdeehkmlaejfaa.E
open Go
set_option linter.unusedSimpArgs false
set_option linter.unusedVariables false

/-- A bound of a slice expression. -/
def bnd (d : Int) : Option AV → Option Int
  | none => some d
  | some (.v (.int _ i)) => some i
  | _ => none

/-- A part of a slice, or of a text. -/
def aSlice (tt : List TE) (t : Nat) (x : AV) (lo hi mx : Option AV) : Option (Bool × AV) :=
  match look tt t with
  | none => none
  | some e => match e.td, x with
    | .slice el, .s l sz o n => match look tt el with
      | none => none
      | some ee => match bnd 0 lo, bnd n hi, bnd n mx, Nat.beq sz ee.size with
        | some a, some b, some m, true => some (decide (0 ≤ a) && (decide (a ≤ b) && (decide (b ≤ m) && decide (m ≤ n))), .s l sz (o + a.toNat) (b.toNat - a.toNat))
        | _, _, _, _ => none
    | .slice el, .i sz n get => match look tt el with
      | none => none
      | some ee => match bnd 0 lo, bnd n hi, bnd n mx, Nat.beq sz ee.size with
        | some a, some b, some m, true => some (decide (0 ≤ a) && (decide (a ≤ b) && (decide (b ≤ m) && decide (m ≤ n))), .i sz (b.toNat - a.toNat) fun k => get (a.toNat + k))
        | _, _, _, _ => none
    | .slice el, .z => match look tt el with
      | none => none
      | some _ => match bnd 0 lo, bnd (0 : Nat) hi, bnd (0 : Nat) mx with
        | some a, some b, some m => some (decide (0 ≤ a) && (decide (a ≤ b) && (decide (b ≤ m) && decide (m ≤ (0 : Nat)))), .z)
        | _, _, _ => none
    | .slice el, .v (.slice none 0 0) => match look tt el with
      | none => none
      | some _ => match bnd 0 lo, bnd (0 : Nat) hi, bnd (0 : Nat) mx with
        | some a, some b, some m => some (decide (0 ≤ a) && (decide (a ≤ b) && (decide (b ≤ m) && decide (m ≤ (0 : Nat)))), .v (.slice none 0 0))
        | _, _, _ => none
    | .string, .v (.string s) => match bnd 0 lo, bnd s.size hi, mx with
      | some a, some b, none => some (decide (0 ≤ a) && (decide (a ≤ b) && decide (b ≤ s.size)), .v (.string (s.extract a.toNat b.toNat)))
      | _, _, _ => none
    | _, _ => none

/-- What bounds come to. -/
theorem run_bounds {P : Program} {W : World} {isS : Bool} {R : Nat → Prop} {φ : Phi} {n cap : Nat} {lo hi mx : Option AV} {lv hv mv : Option Value} {d : Int}
    (hl : ∀ u, lo = some u → ∃ x, lv = some x ∧ VR R φ W u x) (hl' : lo = none → lv = none) (hh : ∀ u, hi = some u → ∃ x, hv = some x ∧ VR R φ W u x) (hh' : hi = none → hv = none)
    (hm : ∀ u, mx = some u → ∃ x, mv = some x ∧ VR R φ W u x) (hm' : mx = none → mv = none) (hmh : mx ≠ none → hi ≠ none) (hn : n ≤ cap)
    {a b m : Int} (ha : bnd 0 lo = some a) (hb : bnd n hi = some b) (hmx : bnd d mx = some m) (h0 : 0 ≤ a) (h1 : a ≤ b) (h2 : b ≤ cap) (h3 : mx ≠ none → b ≤ m ∧ m ≤ cap) :
    (Instr.sliceBounds isS n cap lv hv mv).run P W = .ok (a.toNat, b.toNat, if mx = none then cap else m.toNat) W := by
  have one : ∀ {d' : Int} {lo : Option AV} {lv : Option Value} {a : Int} {y : Nat} {code : BoundsCode}, (∀ u, lo = some u → ∃ x, lv = some x ∧ VR R φ W u x) → bnd d' lo = some a → 0 ≤ a → a ≤ y → ∀ x, lv = some x → lo ≠ none → (Instr.sliceBound x y code).run P W = .ok a.toNat W := by
    intro d' lo lv a y code hl ha h0 h1 x hx hne
    cases lo with
    | none => exact absurd rfl hne
    | some u =>
      obtain ⟨x', hx', hv⟩ := hl u rfl
      rw [hx] at hx'; obtain rfl := Option.some.inj hx'
      cases u with
      | v z => cases z with
        | int k i =>
          obtain rfl := Option.some.inj ha
          rw [hv.val]
          unfold Instr.sliceBound
          simp only [Sem.run_bind, asIntOf_int, Result.andThen_ok, h0, h1, and_self, if_true, Sem.run_pure]
        | _ => simp [bnd] at ha
      | _ => simp [bnd] at ha
  unfold Instr.sliceBounds
  cases hmn : mx with
  | none =>
    rw [hm' hmn]
    simp only [Sem.run_bind, Sem.run_pure, Result.andThen_ok, Option.isSome_none]
    cases hhi : hi with
    | none =>
      rw [hh' hhi]
      rw [hhi] at hb
      obtain rfl := Option.some.inj hb
      simp only [Sem.run_bind, Sem.run_pure, Result.andThen_ok]
      cases hlo : lo with
      | none =>
        rw [hl' hlo]
        rw [hlo] at ha
        obtain rfl := Option.some.inj ha
        simp
      | some u =>
        obtain ⟨x, hx, _⟩ := hl u hlo
        rw [hx]
        simp only [Sem.run_bind]
        rw [one hl ha h0 (y := n) (by omega) x hx (by rw [hlo]; simp)]
        simp
    | some u =>
      obtain ⟨x, hx, _⟩ := hh u hhi
      rw [hx]
      simp only [Sem.run_bind]
      rw [one hh hb (by omega) (y := cap) (by omega) x hx (by rw [hhi]; simp)]
      simp only [Result.andThen_ok]
      cases hlo : lo with
      | none =>
        rw [hl' hlo]
        rw [hlo] at ha
        obtain rfl := Option.some.inj ha
        simp
      | some u' =>
        obtain ⟨x', hx', _⟩ := hl u' hlo
        rw [hx']
        simp only [Sem.run_bind]
        rw [one hl ha h0 (y := b.toNat) (by omega) x' hx' (by rw [hlo]; simp)]
        simp
  | some um =>
    obtain ⟨xm, hxm, _⟩ := hm um hmn
    obtain ⟨g1, g2⟩ := h3 (by rw [hmn]; simp)
    rw [hxm]
    simp only [Sem.run_bind]
    rw [one hm hmx (by omega) (y := cap) (by omega) xm hxm (by rw [hmn]; simp)]
    simp only [Result.andThen_ok]
    cases hhi : hi with
    | none => exact absurd hhi (hmh (by rw [hmn]; simp))
    | some u =>
      obtain ⟨x, hx, _⟩ := hh u hhi
      rw [hx]
      simp only [Sem.run_bind]
      rw [one hh hb (by omega) (y := m.toNat) (by omega) x hx (by rw [hhi]; simp)]
      simp only [Result.andThen_ok]
      cases hlo : lo with
      | none =>
        rw [hl' hlo]
        rw [hlo] at ha
        obtain rfl := Option.some.inj ha
        simp
      | some u' =>
        obtain ⟨x', hx', _⟩ := hl u' hlo
        rw [hx']
        simp only [Sem.run_bind]
        rw [one hl ha h0 (y := b.toNat) (by omega) x' hx' (by rw [hlo]; simp)]
        simp

theorem aSlice_ok {P : Program} {tt : List TE} (ht : TTok P tt) {t : Nat} {R : Nat → Prop} {φ : Phi} {W : World} {x : AV} {v : Value} (hx : VR R φ W x v) {lo hi mx : Option AV} {lv hv mv : Option Value}
    (hl : ∀ u, lo = some u → ∃ x, lv = some x ∧ VR R φ W u x) (hl' : lo = none → lv = none) (hh : ∀ u, hi = some u → ∃ x, hv = some x ∧ VR R φ W u x) (hh' : hi = none → hv = none)
    (hm : ∀ u, mx = some u → ∃ x, mv = some x ∧ VR R φ W u x) (hm' : mx = none → mv = none) (hmh : mx ≠ none → hi ≠ none) {c : Bool} {u : AV} (ha : aSlice tt t x lo hi mx = some (c, u)) (hc : c = true) :
    ∃ y, (Instr.sliceAt t v lv hv mv).run P W = .ok y W ∧ VR R φ W u y := by
  unfold aSlice at ha
  cases he : look tt t with
  | none => simp [he] at ha
  | some e =>
    simp only [he] at ha
    have hlk := (look_ok ht he).1
    split at ha
    · rename_i el l sz o n htd
      rw [htd] at hlk
      have hund : P.underlying t = some (.slice el) := hlk
      cases hee : look tt el with
      | none => simp [hee] at ha
      | some ee =>
        simp only [hee] at ha
        split at ha
        case h_2 => cases ha
        rename_i a b m e1 e2 e3 e4
        obtain ⟨rfl, rfl⟩ := Prod.mk.inj (Option.some.inj ha)
        have e4 := Nat.eq_of_beq_eq_true e4
        simp only [Bool.and_eq_true, decide_eq_true_eq] at hc
        obtain ⟨c0, c1, c2, c3⟩ := hc
        have run : ∀ (A : Option Addr) (cap : Nat), n ≤ cap → (Instr.sliceAt t (.slice A n cap) lv hv mv).run P W = .ok (.slice (if (if mx = none then cap else m.toNat) = a.toNat then A else A.map (·.add (a.toNat * sz))) (b.toNat - a.toNat) ((if mx = none then cap else m.toNat) - a.toNat)) W := by
          intro A cap hcap
          have hb := run_bounds (P := P) (isS := true) (cap := cap) hl hl' hh hh' hm hm' hmh hcap e1 e2 e3 c0 c1 (by omega) (fun _ => ⟨c2, by omega⟩)
          unfold Instr.sliceAt Instr.slice
          simp only [Sem.run_bind, run_und hund, Result.andThen_ok, hb, run_sizeOf ht hee, e4, Sem.run_pure]
        cases hx with
        | imm hi => cases hi
        | nil hφ =>
          have : a = 0 ∧ b = 0 := by omega
          obtain ⟨rfl, rfl⟩ := this
          refine ⟨_, run _ 0 (Nat.le_refl _), ?_⟩
          have : (if mx = none then 0 else m.toNat) = 0 := by split <;> omega
          rw [this]
          exact .nil hφ
        | z hφ =>
          have : a = 0 ∧ b = 0 := by omega
          obtain ⟨rfl, rfl⟩ := this
          refine ⟨_, run _ 0 (Nat.le_refl _), ?_⟩
          have : (if mx = none then 0 else m.toNat) = 0 := by split <;> omega
          rw [this]
          exact .z hφ
        | s hφ hn hr =>
          rename_i b0 f0 cap
          refine ⟨_, run _ cap hn, ?_⟩
          by_cases hq : (if mx = none then cap else m.toNat) = a.toNat
          · rw [if_pos hq, hq, show b.toNat - a.toNat = 0 by split at hq <;> omega, Nat.sub_self]
            exact .z hφ
          · rw [if_neg hq]
            simp only [Option.map_some, add_none]
            have hle : b.toNat - a.toNat ≤ (if mx = none then cap else m.toNat) - a.toNat := by split <;> omega
            have := VR.s (R := R) (W := W) (l := l) (sz := sz) (o := o + a.toNat) (φ := φ) hφ hle (by
              refine Nat.le_trans ?_ hr
              refine Nat.add_le_add_left (Nat.mul_le_mul_right _ ?_) _
              split <;> omega)
            rw [Nat.add_mul, ← Nat.add_assoc] at this
            exact this
    · rename_i el sz n get htd
      rw [htd] at hlk
      have hund : P.underlying t = some (.slice el) := hlk
      cases hee : look tt el with
      | none => simp [hee] at ha
      | some ee =>
        simp only [hee] at ha
        split at ha
        case h_2 => cases ha
        rename_i a b m e1 e2 e3 e4
        obtain ⟨rfl, rfl⟩ := Prod.mk.inj (Option.some.inj ha)
        have e4 := Nat.eq_of_beq_eq_true e4
        simp only [Bool.and_eq_true, decide_eq_true_eq] at hc
        obtain ⟨c0, c1, c2, c3⟩ := hc
        have run : ∀ (A : Option Addr) (cap : Nat), n ≤ cap → (Instr.sliceAt t (.slice A n cap) lv hv mv).run P W = .ok (.slice (if (if mx = none then cap else m.toNat) = a.toNat then A else A.map (·.add (a.toNat * sz))) (b.toNat - a.toNat) ((if mx = none then cap else m.toNat) - a.toNat)) W := by
          intro A cap hcap
          have hb := run_bounds (P := P) (isS := true) (cap := cap) hl hl' hh hh' hm hm' hmh hcap e1 e2 e3 c0 c1 (by omega) (fun _ => ⟨c2, by omega⟩)
          unfold Instr.sliceAt Instr.slice
          simp only [Sem.run_bind, run_und hund, Result.andThen_ok, hb, run_sizeOf ht hee, e4, Sem.run_pure]
        cases hx with
        | imm hi =>
          cases hi with
          | nil =>
            have : a = 0 ∧ b = 0 := by omega
            obtain ⟨rfl, rfl⟩ := this
            exact ⟨_, run _ _ (Nat.zero_le _), .imm (.nil _ _ _ _)⟩
          | i xs hb hn hlen hcell hv hsc hs0 hmm =>
            refine ⟨_, run _ _ hn, ?_⟩
            by_cases hz : b.toNat - a.toNat = 0
            · rw [hz]; exact .imm (.nil _ _ _ _)
            · rw [if_neg (by split <;> omega)]
              simp only [Option.map_some, add_none]
              refine .imm (.i (fun k j => xs (a.toNat + k) j) hb (by split <;> omega) (fun k hk => hlen _ (by omega)) (fun k j u hk hu => ?_) (fun k j u hk hu => hv _ _ _ (by omega) hu) (fun k j u hk hu => hsc _ _ _ (by omega) hu) hs0 (Nat.lt_of_le_of_lt (Nat.mul_le_mul_right _ (by omega)) hmm))
              have := hcell (a.toNat + k) j u (by omega) hu
              rw [Nat.add_mul] at this
              rw [← this]; congr 2; omega
    · rename_i el htd
      rw [htd] at hlk
      have hund : P.underlying t = some (.slice el) := hlk
      cases hee : look tt el with
      | none => simp [hee] at ha
      | some ee =>
        simp only [hee] at ha
        split at ha
        case h_2 => cases ha
        rename_i a b m e1 e2 e3
        obtain ⟨rfl, rfl⟩ := Prod.mk.inj (Option.some.inj ha)
        simp only [Bool.and_eq_true, decide_eq_true_eq] at hc
        obtain ⟨c0, c1, c2, c3⟩ := hc
        have ha0 : a = 0 := by omega
        have hb0 : b = 0 := by omega
        have hm0 : m = 0 := by omega
        subst ha0 hb0 hm0
        have run : ∀ (A : Option Addr), (Instr.sliceAt t (.slice A 0 0) lv hv mv).run P W = .ok (.slice A 0 0) W := by
          intro A
          have hb := run_bounds (P := P) (isS := true) (n := 0) (cap := 0) hl hl' hh hh' hm hm' hmh (Nat.le_refl _) e1 e2 e3 c0 c1 (by omega) (fun _ => ⟨c2, by omega⟩)
          unfold Instr.sliceAt Instr.slice
          simp only [Sem.run_bind, run_und hund, Result.andThen_ok, hb, run_sizeOf ht hee, Sem.run_pure]
          cases mx <;> simp
        cases hx with
        | imm hi => cases hi with
          | z A => exact ⟨_, run A, .imm (.z A)⟩
    · rename_i el htd
      rw [htd] at hlk
      have hund : P.underlying t = some (.slice el) := hlk
      cases hee : look tt el with
      | none => simp [hee] at ha
      | some ee =>
        simp only [hee] at ha
        split at ha
        case h_2 => cases ha
        rename_i a b m e1 e2 e3
        obtain ⟨rfl, rfl⟩ := Prod.mk.inj (Option.some.inj ha)
        simp only [Bool.and_eq_true, decide_eq_true_eq] at hc
        obtain ⟨c0, c1, c2, c3⟩ := hc
        have ha0 : a = 0 := by omega
        have hb0 : b = 0 := by omega
        have hm0 : m = 0 := by omega
        subst ha0 hb0 hm0
        have run : ∀ (A : Option Addr), (Instr.sliceAt t (.slice A 0 0) lv hv mv).run P W = .ok (.slice A 0 0) W := by
          intro A
          have hb := run_bounds (P := P) (isS := true) (n := 0) (cap := 0) hl hl' hh hh' hm hm' hmh (Nat.le_refl _) e1 e2 e3 c0 c1 (by omega) (fun _ => ⟨c2, by omega⟩)
          unfold Instr.sliceAt Instr.slice
          simp only [Sem.run_bind, run_und hund, Result.andThen_ok, hb, run_sizeOf ht hee, Sem.run_pure]
          cases mx <;> simp
        rw [hx.val]
        exact ⟨_, run none, .imm (.v _)⟩
    · rename_i s htd
      rw [htd] at hlk
      have hund : P.underlying t = some .string := hlk
      split at ha
      case h_2 => cases ha
      rename_i a b e1 e2
      obtain ⟨rfl, rfl⟩ := Prod.mk.inj (Option.some.inj ha)
      simp only [Bool.and_eq_true, decide_eq_true_eq] at hc
      obtain ⟨c0, c1, c2⟩ := hc
      rw [hx.val]
      have hb := run_bounds (P := P) (isS := false) (cap := s.size) (d := 0) hl hl' hh hh' hm hm' hmh (Nat.le_refl _) e1 e2 (m := 0) rfl c0 c1 c2 (fun h => absurd rfl h)
      rw [hm' rfl] at hb ⊢
      refine ⟨_, ?_, .imm (.v _)⟩
      unfold Instr.sliceAt Instr.slice
      simp only [Sem.run_bind, run_und hund, Result.andThen_ok, Option.isSome_none, Bool.false_eq_true, if_false, hb, Sem.run_pure]
    · cases ha

/-- A part of a slice that has no elements and no room. -/
def aSliceZ (tt : List TE) (t : Nat) (x : AV) : Option (Bool × AV) :=
  match look tt t with
  | none => none
  | some e => match e.td with
    | .slice el => match look tt el with
      | none => none
      | some _ => match x with
        | .s _ _ _ _ => some (true, .z)
        | .i _ _ _ => some (true, .z)
        | .z => some (true, .z)
        | .v (.slice none 0 0) => some (true, .z)
        | _ => none
    | _ => none
theorem aSliceZ_ok {P : Program} {tt : List TE} (ht : TTok P tt) {t : Nat} {R : Nat → Prop} {φ : Phi} {W : World} {x : AV} {v : Value} (hx : VR R φ W x v) {k k' : IntKind} {c : Bool} {u : AV} (ha : aSliceZ tt t x = some (c, u)) :
    ∃ y, (Instr.sliceAt t v none (some (.int k 0)) (some (.int k' 0))).run P W = .ok y W ∧ VR R φ W u y := by
  unfold aSliceZ at ha
  cases he : look tt t with
  | none => simp [he] at ha
  | some e =>
    simp only [he] at ha
    have hlk := (look_ok ht he).1
    split at ha
    case h_2 => cases ha
    rename_i el htd
    rw [htd] at hlk
    have hund : P.underlying t = some (.slice el) := hlk
    cases hee : look tt el with
    | none => simp [hee] at ha
    | some ee =>
      simp only [hee] at ha
      have run : ∀ (A : Option Addr) (n cap : Nat), n ≤ cap → (Instr.sliceAt t (.slice A n cap) none (some (.int k 0)) (some (.int k' 0))).run P W = .ok (.slice A 0 0) W := by
        intro A n cap hcap
        have hb := run_bounds (P := P) (W := W) (R := R) (φ := φ) (isS := true) (n := n) (cap := cap) (lo := none) (hi := some (.v (.int k 0))) (mx := some (.v (.int k' 0))) (lv := none) (hv := some (.int k 0)) (mv := some (.int k' 0)) (d := 0)
          (fun u h => by cases h) (fun _ => rfl) (fun u h => by cases h; exact ⟨_, rfl, .imm (.v _)⟩) (fun h => by cases h) (fun u h => by cases h; exact ⟨_, rfl, .imm (.v _)⟩) (fun h => by cases h) (fun _ h => by cases h) hcap
          (a := 0) (b := 0) (m := 0) rfl rfl rfl (by omega) (by omega) (by omega) (fun _ => ⟨by omega, by omega⟩)
        unfold Instr.sliceAt Instr.slice
        simp only [Sem.run_bind, run_und hund, Result.andThen_ok, hb, run_sizeOf ht hee, Sem.run_pure]
        simp
      split at ha
      · obtain ⟨rfl, rfl⟩ := Prod.mk.inj (Option.some.inj ha)
        cases hx with
        | imm hi => cases hi
        | nil => exact ⟨_, run _ _ _ (Nat.le_refl _), .imm (.z _)⟩
        | z => exact ⟨_, run _ _ _ (Nat.le_refl _), .imm (.z _)⟩
        | s h hn hr => exact ⟨_, run _ _ _ hn, .imm (.z _)⟩
      · obtain ⟨rfl, rfl⟩ := Prod.mk.inj (Option.some.inj ha)
        cases hx with
        | imm hi => cases hi with
          | nil => exact ⟨_, run _ _ _ (Nat.zero_le _), .imm (.z _)⟩
          | i xs hb hn => exact ⟨_, run _ _ _ hn, .imm (.z _)⟩
      · obtain ⟨rfl, rfl⟩ := Prod.mk.inj (Option.some.inj ha)
        cases hx with
        | imm hi => cases hi with
          | z => exact ⟨_, run _ _ _ (Nat.le_refl _), .imm (.z _)⟩
      · obtain ⟨rfl, rfl⟩ := Prod.mk.inj (Option.some.inj ha)
        rw [hx.val]
        exact ⟨_, run _ _ _ (Nat.le_refl _), .imm (.z _)⟩
      · cases ha
end Go.Proofs.Ythdeehkmlaejfaa.E
/- The engine, part 13: structs, arrays and slices that are made. -/
namespace Go.Proofs.Ythdeehkmlaejfaa.E
open Go
set_option linter.unusedSimpArgs false
set_option linter.unusedVariables false

def aFill (pl : Nat → Option (Nat × Nat)) (cells : List AV) : List (Nat × AV) → Option (List AV)
  | [] => some cells
  | (i, u) :: rest =>
    match pl i, cellsOf u with
    | some (off, size), some cs =>
      match Nat.beq cs.length size, Nat.ble (off + cs.length) cells.length with
      | true, true => aFill pl (putCells cells off cs) rest
      | _, _ => none
    | _, _ => none

theorem fold_get (off : Nat) : ∀ (vs : List Value) (k0 : Nat) (cells : Array Value) (k : Nat), off + k0 + vs.length ≤ cells.size →
    ((vs.zipIdx k0).foldl (fun (cs : Array Value) (p : Value × Nat) => cs.setIfInBounds (off + p.2) p.1) cells).size = cells.size ∧
    ((vs.zipIdx k0).foldl (fun (cs : Array Value) (p : Value × Nat) => cs.setIfInBounds (off + p.2) p.1) cells)[k]? = if off + k0 ≤ k ∧ k < off + k0 + vs.length then vs[k - (off + k0)]? else cells[k]? := by
  intro vs
  induction vs with
  | nil =>
    intro k0 cells k _
    refine ⟨rfl, ?_⟩
    rw [if_neg (by simp only [List.length_nil]; omega)]
    rfl
  | cons v vs ih =>
    intro k0 cells k h
    simp only [List.length_cons] at h
    simp only [List.zipIdx_cons, List.foldl_cons, List.length_cons]
    obtain ⟨h1, h2⟩ := ih (k0 + 1) (cells.setIfInBounds (off + k0) v) k (by simp; omega)
    refine ⟨by rw [h1]; simp, ?_⟩
    rw [h2]
    by_cases hk : k = off + k0
    · subst hk
      have hlt : off + k0 < cells.size := by omega
      rw [if_neg (by omega), if_pos (by omega), Nat.sub_self]
      simp [hlt]
    · rw [Array.getElem?_setIfInBounds_ne (Ne.symm hk)]
      by_cases hin : off + (k0 + 1) ≤ k ∧ k < off + (k0 + 1) + vs.length
      · rw [if_pos hin, if_pos (by omega)]
        rw [show k - (off + k0) = (k - (off + (k0 + 1))) + 1 by omega, List.getElem?_cons_succ]
      · rw [if_neg hin, if_neg (by omega)]

theorem fill_ok {R : Nat → Prop} {φ : Phi} {W : World} {pl : Nat → Option (Nat × Nat)} : ∀ (parts : List (Nat × AV)) (vals : List (Nat × Value)) (cells : List AV) (arr : Array Value) (out : List AV),
    parts.length = vals.length → (∀ (k : Nat) (p : Nat × AV) (q : Nat × Value), parts[k]? = some p → vals[k]? = some q → p.1 = q.1 ∧ VR R φ W p.2 q.2) →
    cells.length = arr.size → (∀ (k : Nat) (u : AV) (x : Value), cells[k]? = some u → arr[k]? = some x → VR R φ W u x) → aFill pl cells parts = some out →
    ∃ arr', Instr.fill pl arr vals = some arr' ∧ out.length = arr'.size ∧ out.length = cells.length ∧ ∀ (k : Nat) (u : AV) (x : Value), out[k]? = some u → arr'[k]? = some x → VR R φ W u x := by
  intro parts
  induction parts with
  | nil =>
    intro vals cells arr out hl _ hla hr ha
    obtain rfl : vals = [] := List.eq_nil_of_length_eq_zero hl.symm
    obtain rfl := Option.some.inj ha
    exact ⟨arr, rfl, hla, rfl, hr⟩
  | cons p parts ih =>
    intro vals cells arr out hl hp hla hr ha
    obtain ⟨i, u⟩ := p
    cases vals with
    | nil => cases hl
    | cons q vals =>
      obtain ⟨i', v⟩ := q
      obtain ⟨e1, hv⟩ := hp 0 (i, u) (i', v) rfl rfl
      simp only at e1 hv
      subst e1
      simp only [aFill] at ha
      split at ha
      case h_2 => cases ha
      rename_i off size cs hpl hcs
      split at ha
      case h_2 => cases ha
      rename_i q1 q2
      have q1 := Nat.eq_of_beq_eq_true q1
      have q2 := Nat.le_of_ble_eq_true q2
      obtain ⟨vs, hvs, hlv, hrv⟩ := cellsOf_ok hv hcs
      have hsz : v.cells.size = size := by rw [← q1, hlv, ← hvs]; simp
      have hfold := fun k => fold_get off vs 0 arr k (by rw [← hlv, ← hla]; simpa using q2)
      have hfeq : (v.cells.zipIdx.foldl (fun cs x => match x with | (c, j) => cs.setIfInBounds (off + j) c) arr) = ((vs.zipIdx 0).foldl (fun (cs : Array Value) (p : Value × Nat) => cs.setIfInBounds (off + p.2) p.1) arr) := by
        rw [← Array.foldl_toList, Array.toList_zipIdx, hvs]
      obtain ⟨arr', f1, f2, f3, f4⟩ := ih vals (putCells cells off cs) _ out (by simpa using hl) (fun k p q hp' hq' => hp (k + 1) p q (by simpa using hp') (by simpa using hq'))
        (by rw [putCells_length q2, (hfold 0).1]; exact hla) (fun k w x hw hx => by
          rw [(hfold k).2] at hx
          rw [putCells_get q2] at hw
          simp only [Nat.add_zero] at hx
          rw [← hlv] at hx
          split at hw
          · rename_i hk
            rw [if_pos hk] at hx
            exact hrv _ w x hw hx
          · rename_i hk
            rw [if_neg hk] at hx
            exact hr k w x hw hx) ha
      refine ⟨arr', ?_, f2, by rw [f3, putCells_length q2], f4⟩
      simp only [Instr.fill, hpl]
      rw [if_neg (by rw [hsz]; simp; rw [← hla, ← q1]; exact q2), hfeq]
      exact f1

def structPl (tt : List TE) (flds : List (Nat × Nat)) (i : Nat) : Option (Nat × Nat) :=
  match flds[i]? with
  | some (ty, o) =>
    match look tt ty with
    | some ef => some (o, ef.size)
    | none => none
  | none => none

/-- A struct or an array of parts. -/
def aBuild (tt : List TE) (t : Nat) (parts : List (Nat × AV)) : Option (Bool × AV) :=
  match look tt t with
  | none => none
  | some e => match e.td with
    | .struct flds => (aFill (structPl tt flds) (e.zero.map .v) parts).map fun cs => (flds.all fun p => (look tt p.1).isSome, .a cs)
    | .array n el => match look tt el with
      | some ee => (aFill (fun i => some (i * ee.size, ee.size)) (e.zero.map .v) parts).map fun cs => (true, .a cs)
      | none => none
    | _ => none

theorem zero_rel {R : Nat → Prop} {φ : Phi} {W : World} {z : Value} {zs : List Value} (h : z.cells.toList = zs) : (zs.map AV.v).length = z.cells.size ∧ ∀ (k : Nat) (u : AV) (x : Value), (zs.map AV.v)[k]? = some u → z.cells[k]? = some x → VR R φ W u x := by
  subst h
  refine ⟨by simp, fun k u x hu hx => ?_⟩
  obtain ⟨y, hy, rfl⟩ := getElem?_map_some hu
  rw [Array.getElem?_toList, hx] at hy
  obtain rfl := Option.some.inj hy
  exact .imm (.v _)

theorem mapM_places {P : Program} {tt : List TE} (ht : TTok P tt) {W : World} : ∀ (fs : List Field), (fs.all fun f => (look tt f.type).isSome) = true →
    ((fs.mapM fun f => do pure (f.offset, ← sizeOf f.type)) : Sem (List (Nat × Nat))).run P W = .ok (fs.map fun f => (f.offset, ((look tt f.type).map (·.size)).getD 0)) W := by
  intro fs
  induction fs with
  | nil => intro _; simp
  | cons f fs ih =>
    intro h
    simp only [List.all_cons, Bool.and_eq_true] at h
    obtain ⟨e, he⟩ := Option.isSome_iff_exists.1 h.1
    simp only [List.mapM_cons, Sem.run_bind, run_sizeOf ht he, Result.andThen_ok, Sem.run_pure, ih h.2, List.map_cons, he, Option.map_some, Option.getD_some]

theorem aBuild_ok {P : Program} {tt : List TE} (ht : TTok P tt) {t : Nat} {R : Nat → Prop} {φ : Phi} {W : World} {parts : List (Nat × AV)} {vals : List (Nat × Value)} (hl : parts.length = vals.length)
    (hp : ∀ (k : Nat) (p : Nat × AV) (q : Nat × Value), parts[k]? = some p → vals[k]? = some q → p.1 = q.1 ∧ VR R φ W p.2 q.2) {c : Bool} {u : AV} (ha : aBuild tt t parts = some (c, u)) (hc : c = true) :
    ∃ y, (Instr.build t vals.toArray).run P W = .ok y W ∧ VR R φ W u y := by
  unfold aBuild at ha
  cases he : look tt t with
  | none => simp [he] at ha
  | some e =>
    simp only [he] at ha
    have hlk := (look_ok ht he).1
    obtain ⟨z, hz, hzc⟩ := run_zeroValue ht he W
    obtain ⟨z1, z2⟩ := zero_rel (R := R) (φ := φ) (W := W) hzc
    split at ha
    · rename_i flds htd
      rw [htd] at hlk
      obtain ⟨fs, hu, hmap, _⟩ := hlk
      simp only [Option.map_eq_some_iff] at ha
      obtain ⟨cs, hcs, hh⟩ := ha
      obtain ⟨rfl, rfl⟩ := Prod.mk.inj hh
      obtain ⟨arr, f1, f2, f3, f4⟩ := fill_ok parts vals _ z.cells cs hl hp z1 z2 hcs
      have hall : (fs.toList.all fun f => (look tt f.type).isSome) = true := by
        rw [← hmap] at hc
        rw [List.all_map] at hc
        exact hc
      have hm := mapM_places ht (W := W) fs.toList hall
      refine ⟨.agg arr, ?_, ?_⟩
      · unfold Instr.build
        simp only [Sem.run_bind, hz, Result.andThen_ok, run_und hu]
        have hm2 : ((fs.mapM fun f => do pure (f.offset, ← sizeOf f.type)) : Sem (Array (Nat × Nat))).run P W = .ok (fs.toList.map fun f => (f.offset, ((look tt f.type).map (·.size)).getD 0)).toArray W := by
          have : (fs.mapM fun f => do pure (f.offset, ← sizeOf f.type) : Sem (Array (Nat × Nat))) = List.toArray <$> (fs.toList.mapM fun f => do pure (f.offset, ← sizeOf f.type)) := by
            rw [Array.mapM_eq_mapM_toList]
          rw [this, Sem.run_map, hm]; rfl
        rw [hm2]
        simp only [Result.andThen_ok]
        have hpl : (fun i => (fs.toList.map fun f => (f.offset, ((look tt f.type).map (·.size)).getD 0)).toArray[i]?) = (structPl tt flds) := by
          funext i
          rw [← hmap]
          unfold structPl
          simp only [List.getElem?_toArray, List.getElem?_map]
          cases hf : fs.toList[i]? with
          | none => rfl
          | some f =>
            have := List.all_eq_true.1 hall f (List.mem_of_getElem? hf)
            obtain ⟨e', he'⟩ := Option.isSome_iff_exists.1 this
            simp [he']
        rw [hpl, f1]
        rfl
      · have := VR.a (R := R) (φ := φ) (W := W) (cells := cs) (vs := arr.toList) (by simpa using f2) fun k u x hu hx => f4 k u x hu (by simpa using hx)
        simpa using this
    · rename_i n el htd
      rw [htd] at hlk
      have hu : P.underlying t = some (.array n el) := hlk
      cases hee : look tt el with
      | none => simp [hee] at ha
      | some ee =>
        simp only [hee, Option.map_eq_some_iff] at ha
        obtain ⟨cs, hcs, hh⟩ := ha
        obtain ⟨rfl, rfl⟩ := Prod.mk.inj hh
        obtain ⟨arr, f1, f2, f3, f4⟩ := fill_ok parts vals _ z.cells cs hl hp z1 z2 hcs
        refine ⟨.agg arr, ?_, ?_⟩
        · unfold Instr.build
          simp only [Sem.run_bind, hz, Result.andThen_ok, run_und hu, run_sizeOf ht hee, f1]
          rfl
        · have := VR.a (R := R) (φ := φ) (W := W) (cells := cs) (vs := arr.toList) (by simpa using f2) fun k u x hu hx => f4 k u x hu (by simpa using hx)
          simpa using this
    · cases ha
end Go.Proofs.Ythdeehkmlaejfaa.E
/- The engine, part 14: slices that are made. -/
namespace Go.Proofs.Ythdeehkmlaejfaa.E
open Go
set_option linter.unusedSimpArgs false
set_option linter.unusedVariables false

def zrow (zs : List Value) (n : Nat) : List AV := (List.range n).map fun i => .v (zs.getD (i % zs.length) undef)

theorem zrow_rel {R : Nat → Prop} {φ : Phi} {W : World} {za : Array Value} {zs : List Value} (h : za.toList = zs) (n : Nat) (hz : n ≠ 0 → 0 < zs.length) : (zrow zs n).length = ((Array.range n).map (za[· % za.size]!)).size ∧
    ∀ (k : Nat) (u : AV) (x : Value), (zrow zs n)[k]? = some u → ((Array.range n).map (za[· % za.size]!))[k]? = some x → VR R φ W u x := by
  subst h
  refine ⟨by simp [zrow], fun k u x hu hx => ?_⟩
  obtain ⟨y, hy, rfl⟩ := getElem?_map_some hu
  have hk : k < n := by
    rcases Nat.lt_or_ge k n with g | g
    · exact g
    · rw [List.getElem?_eq_none (by simpa using g)] at hy; cases hy
  have hy' : y = k := by
    rw [List.getElem?_range hk] at hy
    exact (Option.some.inj hy).symm
  subst hy'
  have hpos := hz (by omega)
  have hlt : y % za.size < za.size := Nat.mod_lt _ (by simpa using hpos)
  have hx' : za[y % za.size]! = x := by
    simp only [Array.getElem?_map] at hx
    rw [show (Array.range n)[y]? = some y by simp [hk]] at hx
    exact Option.some.inj hx
  have e : za.toList.getD (y % za.toList.length) undef = x := by
    rw [← hx', Array.length_toList, List.getD_eq_getElem?_getD, Array.getElem?_toList]
    simp [hlt]
  rw [e]; exact .imm (.v _)

/-- A root of rows whose cells are known one by one. -/
theorem Rel.newRow {F0 : Nat → Nat → Prop} {W0 : World} {R : Nat → Prop} {φ : Phi} {σ : St} {f : List AV} {tmps : Array Value} {W : World} (h : Rel F0 W0 R φ σ f tmps W) {cs : List AV} {c : Array Value} (T : TypeId) {sz n : Nat} (h0 : 0 < sz) (hn : n * sz < 281474976710656)
    (hl : cs.length = n * sz) (hs : c.size = n * sz) (hv : ∀ (k : Nat) (u : AV) (x : Value), cs[k]? = some u → c[k]? = some x → CR R W u x) :
    Rel F0 W0 R (upd φ σ.length (some (W.heap.size, 0))) (σ ++ [.tab sz n (cut sz cs)]) f tmps (W.alloc (.cells c T)) ∧
    VR R (upd φ σ.length (some (W.heap.size, 0))) (W.alloc (.cells c T)) (.s σ.length sz 0 n) (.slice (some ⟨W.heap.size, 0, none⟩) n n) := by
  have hcalm : Calm R W (W.alloc (.cells c T)) := (Keep.alloc (fun _ _ => False) W _).calm fun _ _ h => h.elim
  refine ⟨h.new c T ⟨h0, hn, cut_len hl, .inr ⟨W.heap.size, 0, upd_same _ _ _, Free.new W _ _, fun k j u hk hu => ?_⟩⟩, ?_⟩
  · have hu := cut_get hu
    have hlt : k * sz + j < c.size := by
      rw [hs, ← hl]
      exact (List.getElem?_eq_some_iff.1 hu).1
    refine ⟨c[k * sz + j], by rw [Nat.zero_add, World.cell?_alloc_new]; simp [hlt], (hv _ u _ hu (by simp [hlt])).mono (fun _ h => h) hcalm⟩
  · have := VR.s (R := R) (W := W.alloc (.cells c T)) (l := σ.length) (sz := sz) (o := 0) (n := n) (cap := n) (φ := upd φ σ.length (some (W.heap.size, 0))) (upd_same _ _ _) (Nat.le_refl _) (by
      have : room (W.alloc (.cells c T)) W.heap.size = c.size := by unfold room; rw [heap_new W _]
      rw [this, hs]; simp)
    simpa using this

/-- The same of cells that may name roots. -/
theorem Rel.newRowL {F0 : Nat → Nat → Prop} {W0 : World} {R : Nat → Prop} {φ : Phi} {σ : St} {f : List AV} {tmps : Array Value} {W : World} (h : Rel F0 W0 R φ σ f tmps W) {cs : List AV} {c : Array Value} (T : TypeId) {sz n : Nat}
    (hl : cs.length = n * sz) (hs : c.size = n * sz) (hv : ∀ (k : Nat) (u : AV) (x : Value), cs[k]? = some u → c[k]? = some x → VR R φ W u x) :
    Rel F0 W0 R (upd φ σ.length (some (W.heap.size, 0))) (σ ++ [.lit cs]) f tmps (W.alloc (.cells c T)) ∧
    VR R (upd φ σ.length (some (W.heap.size, 0))) (W.alloc (.cells c T)) (.s σ.length sz 0 n) (.slice (some ⟨W.heap.size, 0, none⟩) n n) := by
  have hc : c.toList.toArray = c := by simp
  refine ⟨?_, ?_⟩
  · have := h.newLit (cs := cs) (vs := c.toList) T (by rw [show c.toList.length = c.size from Array.length_toList, hl, hs]) fun k u x hu hx => hv k u x hu (by simpa using hx)
    rw [hc] at this
    exact this
  · have := VR.s (R := R) (W := W.alloc (.cells c T)) (l := σ.length) (sz := sz) (o := 0) (n := n) (cap := n) (φ := upd φ σ.length (some (W.heap.size, 0))) (upd_same _ _ _) (Nat.le_refl _) (by
      have : room (W.alloc (.cells c T)) W.heap.size = c.size := by unfold room; rw [heap_new W _]
      rw [this, hs]; simp)
    simpa using this

def aBuildSlice (tt : List TE) (t len : Nat) (parts : List (Nat × AV)) (σ : St) : Option (Bool × AV × St) :=
  match look tt t with
  | none => none
  | some e => match e.td with
    | .slice el => match look tt el with
      | none => none
      | some ee =>
        match Nat.ble 1 ee.size, Nat.ble (len * ee.size) 65536, Nat.beq ee.zero.length ee.size, aFill (fun i => some (i * ee.size, ee.size)) (zrow ee.zero (len * ee.size)) parts with
        | true, true, true, some cs => match cs.all pureCell with
          | true => some (true, .s σ.length ee.size 0 len, σ ++ [.tab ee.size len (cut ee.size cs)])
          | false => some (true, .s σ.length ee.size 0 len, σ ++ [.lit cs])
        | _, _, _, _ => none
    | _ => none

theorem aBuildSlice_ok {P : Program} {tt : List TE} (ht : TTok P tt) {F0 : Nat → Nat → Prop} {W0 : World} {R : Nat → Prop} {φ : Phi} {σ : St} {f : List AV} {tmps : Array Value} {W : World} (h : Rel F0 W0 R φ σ f tmps W) {t len : Nat}
    {parts : List (Nat × AV)} {vals : List (Nat × Value)} (hl : parts.length = vals.length) (hp : ∀ (k : Nat) (p : Nat × AV) (q : Nat × Value), parts[k]? = some p → vals[k]? = some q → p.1 = q.1 ∧ VR R φ W p.2 q.2)
    {c : Bool} {u : AV} {σ' : St} (ha : aBuildSlice tt t len parts σ = some (c, u, σ')) : ∃ y W' φ', (Instr.buildSlice t len vals.toArray).run P W = .ok y W' ∧ Ext φ φ' ∧ Rel F0 W0 R φ' σ' f tmps W' ∧ VR R φ' W' u y := by
  unfold aBuildSlice at ha
  cases he : look tt t with
  | none => simp [he] at ha
  | some e =>
    simp only [he] at ha
    have hlk := (look_ok ht he).1
    split at ha
    case h_2 => cases ha
    rename_i el htd
    rw [htd] at hlk
    have hund : P.underlying t = some (.slice el) := hlk
    cases hee : look tt el with
    | none => simp [hee] at ha
    | some ee =>
      simp only [hee] at ha
      split at ha
      case h_2 => cases ha
      rename_i cs q1 q2 q3 q4
      have q1 := Nat.le_of_ble_eq_true q1
      have q2 := Nat.le_of_ble_eq_true q2
      have q3 := Nat.eq_of_beq_eq_true q3
      obtain ⟨z, hz, hzc⟩ := run_zeroValue ht hee W
      -- the zero cells
      obtain ⟨za, hza, hzb, hzs⟩ : ∃ za : Array Value, (len * ee.size = 0 → za = #[]) ∧ (len * ee.size ≠ 0 → za = z.cells) ∧ (zrow ee.zero (len * ee.size)).length = ((Array.range (len * ee.size)).map (za[· % za.size]!)).size ∧
          ∀ (k : Nat) (u : AV) (x : Value), (zrow ee.zero (len * ee.size))[k]? = some u → ((Array.range (len * ee.size)).map (za[· % za.size]!))[k]? = some x → VR R φ W u x := by
        by_cases h0 : len * ee.size = 0
        · exact ⟨#[], fun _ => rfl, fun h => absurd h0 h, by rw [h0]; simp [zrow], fun k u x hu => by rw [h0] at hu; simp [zrow] at hu⟩
        · exact ⟨z.cells, fun h => absurd h h0, fun _ => rfl, zrow_rel hzc _ fun _ => by omega⟩
      obtain ⟨arr, f1, f2, f3, f4⟩ := fill_ok parts vals _ _ cs hl hp hzs.1 hzs.2 q4
      have hlen : cs.length = len * ee.size := by rw [f3]; simp [zrow]
      have hrun : (Instr.buildSlice t len vals.toArray).run P W = .ok (.slice (some ⟨W.heap.size, 0, none⟩) len len) (W.alloc (.cells arr el)) := by
        unfold Instr.buildSlice
        simp only [Sem.run_bind, run_und hund, Result.andThen_ok, run_sizeOf ht hee]
        rw [if_neg (by omega)]
        by_cases h0 : len * ee.size = 0
        · rw [if_pos h0]
          rw [hza h0] at f1
          simp only [Sem.run_bind, Sem.run_pure, Result.andThen_ok, f1]
          simp [Go.newRow, newObj, Sem.run]
        · rw [if_neg h0]
          rw [hzb h0] at f1
          simp only [Sem.run_bind, Sem.run_pure, Result.andThen_ok, hz, f1]
          simp [Go.newRow, newObj, Sem.run]
      split at ha
      · rename_i hpure
        simp only [Option.some.injEq, Prod.mk.injEq] at ha
        obtain ⟨rfl, rfl, rfl⟩ := ha
        obtain ⟨g1, g2⟩ := h.newRow (cs := cs) (c := arr) el (n := len) q1 (by omega) hlen (by rw [← f2]; exact hlen) fun k u x hu hx => pureCell_ok (f4 k u x hu hx) (List.all_eq_true.1 hpure _ (List.mem_of_getElem? hu))
        exact ⟨_, _, _, hrun, upd_ext _ (h.sim.dom _ (Nat.le_refl _)), g1, g2⟩
      · simp only [Option.some.injEq, Prod.mk.injEq] at ha
        obtain ⟨rfl, rfl, rfl⟩ := ha
        obtain ⟨g1, g2⟩ := h.newRowL (cs := cs) (c := arr) el (n := len) hlen (by rw [← f2]; exact hlen) f4
        exact ⟨_, _, _, hrun, upd_ext _ (h.sim.dom _ (Nat.le_refl _)), g1, g2⟩

/-- Few slices are kept one by one. -/
def litQ (ee : TE) (n : Nat) : Bool := match ee.few with
  | false => false
  | true => match ee.td with
    | .slice _ => Nat.ble n 8
    | _ => false
def aMake (tt : List TE) (t : Nat) (x : AV) (σ : St) : Option (Bool × AV × St) :=
  match look tt t, x with
  | some e, .v (.int _ n) => match e.td with
    | .slice el => match look tt el with
      | none => none
      | some ee =>
        match Nat.ble 1 ee.size, Nat.ble ee.size 32768, Nat.ble ee.bytes 32768, Nat.beq ee.zero.length ee.size, ee.zero.all scal with
        | true, true, true, true, true => some (decide (0 ≤ n) && Nat.ble n.toNat 1073741823, .s σ.length ee.size 0 n.toNat, σ ++ [match litQ ee n.toNat with
          | true => .lit (zrow ee.zero (n.toNat * ee.size))
          | false => .tab ee.size n.toNat fun _ => ee.zero.map .v])
        | _, _, _, _, _ => none
    | _ => none
  | _, _ => none

theorem aMake_ok {P : Program} {tt : List TE} (ht : TTok P tt) {F0 : Nat → Nat → Prop} {W0 : World} {R : Nat → Prop} {φ : Phi} {σ : St} {f : List AV} {tmps : Array Value} {W : World} (h : Rel F0 W0 R φ σ f tmps W) {t : Nat}
    {x : AV} {v : Value} (hx : VR R φ W x v) {c : Bool} {u : AV} {σ' : St} (ha : aMake tt t x σ = some (c, u, σ')) (hc : c = true) : ∃ y W' φ', (Instr.makeSlice t v v).run P W = .ok y W' ∧ Ext φ φ' ∧ Rel F0 W0 R φ' σ' f tmps W' ∧ VR R φ' W' u y := by
  unfold aMake at ha
  split at ha
  case h_2 => cases ha
  rename_i e k n he
  have hlk := (look_ok ht he).1
  split at ha
  case h_2 => cases ha
  rename_i el htd
  rw [htd] at hlk
  have hund : P.underlying t = some (.slice el) := hlk
  cases hee : look tt el with
  | none => simp [hee] at ha
  | some ee =>
    simp only [hee] at ha
    split at ha
    case h_2 => cases ha
    rename_i q1 q2 q3 q4 q5
    have q1 := Nat.le_of_ble_eq_true q1
    have q2 := Nat.le_of_ble_eq_true q2
    have q3 := Nat.le_of_ble_eq_true q3
    have q4 := Nat.eq_of_beq_eq_true q4
    simp only [Option.some.injEq, Prod.mk.injEq] at ha
    obtain ⟨rfl, rfl, rfl⟩ := ha
    simp only [Bool.and_eq_true, decide_eq_true_eq] at hc
    obtain ⟨c0, c1⟩ := hc
    have c1 := Nat.le_of_ble_eq_true c1
    obtain rfl := hx.val
    obtain ⟨i, z, hi, hsz, hby, hz, hzc⟩ := run_typeInfo ht hee W
    obtain ⟨z', hz', hzc'⟩ := run_zeroValue ht hee W
    obtain ⟨m, rfl⟩ := Int.eq_ofNat_of_zero_le c0
    have hm : m < 1073741824 := by omega
    have hw : IntKind.i64.wrap (m : Int) = m := by rw [IntKind.wrap_i64]; omega
    have hbig : m * ee.size < 281474976710656 := Nat.lt_of_le_of_lt (Nat.mul_le_mul (Nat.le_of_lt hm) q2) (by decide)
    have hb1 : (i.bytes : Int) * (m : Int) ≤ 281474976710656 := by
      have : i.bytes * m ≤ 32768 * 1073741824 := Nat.mul_le_mul (by omega) (by omega)
      have h2 : ((i.bytes * m : Nat) : Int) ≤ ((32768 * 1073741824 : Nat) : Int) := by exact_mod_cast this
      rw [Int.natCast_mul] at h2
      omega
    -- the zero cells
    obtain ⟨za, hza, hzb, hzs1, hzs2⟩ : ∃ za : Array Value, (m * ee.size = 0 → za = #[]) ∧ (m * ee.size ≠ 0 → za = z'.cells) ∧ (zrow ee.zero (m * ee.size)).length = ((Array.range (m * ee.size)).map (za[· % za.size]!)).size ∧
        ∀ (k : Nat) (u : AV) (x : Value), (zrow ee.zero (m * ee.size))[k]? = some u → ((Array.range (m * ee.size)).map (za[· % za.size]!))[k]? = some x → VR R φ W u x := by
      by_cases h0 : m * ee.size = 0
      · exact ⟨#[], fun _ => rfl, fun h => absurd h0 h, by rw [h0]; simp [zrow], fun k u x hu => by rw [h0] at hu; simp [zrow] at hu⟩
      · exact ⟨z'.cells, fun h => absurd h h0, fun _ => rfl, zrow_rel hzc' _ fun _ => by omega⟩
    have hscal : ∀ x ∈ zrow ee.zero (m * ee.size), pureCell x = true := by
      intro x hx
      unfold zrow at hx
      obtain ⟨j, hj, rfl⟩ := List.mem_map.1 hx
      have hlt : j % ee.zero.length < ee.zero.length := Nat.mod_lt _ (by omega)
      simp only [pureCell]
      rw [List.getD_eq_getElem?_getD, List.getElem?_eq_getElem hlt]
      exact List.all_eq_true.1 q5 _ (List.getElem_mem hlt)
    obtain ⟨g1, g2⟩ := h.newRow (cs := zrow ee.zero (m * ee.size)) (c := (Array.range (m * ee.size)).map (za[· % za.size]!)) el (n := m) q1 hbig (by simp [zrow]) (by simp) fun k u x hu hx => pureCell_ok (hzs2 k u x hu hx) (hscal u (List.mem_of_getElem? hu))
    have hrun : (Instr.makeSlice t (.int k (m : Int)) (.int k (m : Int))).run P W = .ok (.slice (some ⟨W.heap.size, 0, none⟩) m m) (W.alloc (.cells ((Array.range (m * ee.size)).map (za[· % za.size]!)) el)) := by
      unfold Instr.makeSlice
      have r1 : ∀ k : IntKind, (asInt (.int k (m : Int))).run P W = .ok (m : Int) W := fun k => by simp [asInt, asIntOf_int]
      simp only [Sem.run_bind, run_und hund, Result.andThen_ok, r1, hi, hw]
      have t1 : ¬ ((m : Int) < 0) := by omega
      have t2 : ¬ ((i.bytes : Int) * (m : Int) > 2 ^ 48) := by omega
      simp only [t1, t2, decide_false, Bool.or_false, Bool.false_or, Int.lt_irrefl, Bool.false_eq_true, if_false, gt_iff_lt, Int.toNat_natCast]
      have ask : ∀ b : Nat, (askRoom b).run P W = .ok () W := fun b => by unfold askRoom; split <;> simp [mark, Sem.run]
      simp only [Sem.run_bind, Sem.run_pure, Result.andThen_ok, ask, run_sizeOf ht hee]
      by_cases h0 : m * ee.size = 0
      · rw [if_pos h0, hza h0]
        simp [Go.newRow, newObj, Sem.run]
      · rw [if_neg h0, hzb h0]
        simp [hz', Go.newRow, newObj, Sem.run]
    cases hq : litQ ee (m : Int).toNat with
    | true =>
      simp only []
      obtain ⟨l1, l2⟩ := h.newRowL (cs := zrow ee.zero (m * ee.size)) (c := (Array.range (m * ee.size)).map (za[· % za.size]!)) el (sz := ee.size) (n := m) (by simp [zrow]) (by simp) hzs2
      exact ⟨.slice (some ⟨W.heap.size, 0, none⟩) m m, _, _, hrun, upd_ext _ (h.sim.dom _ (Nat.le_refl _)), l1, l2⟩
    | false =>
    simp only []
    refine ⟨.slice (some ⟨W.heap.size, 0, none⟩) m m, _, _, hrun, upd_ext _ (h.sim.dom _ (Nat.le_refl _)), ?_, g2⟩
    · -- the rows read as zero rows
      have hfun : Rel F0 W0 R (upd φ σ.length (some (W.heap.size, 0))) (σ ++ [.tab ee.size m fun _ => ee.zero.map .v]) f tmps (W.alloc (.cells ((Array.range (m * ee.size)).map (za[· % za.size]!)) el)) := by
        have hcalm : Calm R W (W.alloc (.cells ((Array.range (m * ee.size)).map (za[· % za.size]!)) el)) := (Keep.alloc (fun _ _ => False) W _).calm fun _ _ h => h.elim
        refine h.new _ el ⟨q1, hbig, fun k _ => by simp [q4], .inr ⟨W.heap.size, 0, upd_same _ _ _, Free.new W _ _, fun k j u hk hu => ?_⟩⟩
        have hj : j < ee.size := by
          rcases Nat.lt_or_ge j (ee.zero.map AV.v).length with g | g
          · simpa [q4] using g
          · rw [List.getElem?_eq_none g] at hu; cases hu
        have hkj : k * ee.size + j < m * ee.size := by
          have : (k + 1) * ee.size ≤ m * ee.size := Nat.mul_le_mul_right _ hk
          rw [Nat.succ_mul] at this; omega
        have hz0 : (zrow ee.zero (m * ee.size))[k * ee.size + j]? = some u := by
          unfold zrow
          rw [List.getElem?_map, List.getElem?_range hkj]
          simp only [Option.map_some]
          obtain ⟨y, hy, rfl⟩ := getElem?_map_some hu
          rw [q4, Nat.mul_comm k, Nat.mul_add_mod, Nat.mod_eq_of_lt hj, List.getD_eq_getElem?_getD, hy]
          rfl
        have hlt : k * ee.size + j < ((Array.range (m * ee.size)).map (za[· % za.size]!)).size := by simpa using hkj
        refine ⟨_, by rw [Nat.zero_add, World.cell?_alloc_new]; exact Array.getElem?_eq_getElem hlt, (pureCell_ok (hzs2 _ u _ hz0 (Array.getElem?_eq_getElem hlt)) (hscal u (List.mem_of_getElem? hz0))).mono (fun _ h => h) hcalm⟩
      simpa using hfun
end Go.Proofs.Ythdeehkmlaejfaa.E
/- The engine, part 14b: maps whose keys are scalars; iterators over them. -/
namespace Go.Proofs.Ythdeehkmlaejfaa.E
open Go
set_option linter.unusedSimpArgs false
set_option linter.unusedVariables false

/-- A type's form that keys may have. -/
def keyB : TD → Value → Bool
  | .bool, .bool _ => true
  | .int k, .int k' _ => sameKind k k'
  | .string, .string _ => true
  | _, _ => false
def TD.desc : TD → TypeDesc
  | .bool => .bool
  | .int k => .int k
  | _ => .string
theorem keyB_ok {P : Program} {td : TD} {t : Nat} {k : Value} (hk : keyB td k = true) (h : td.is P t) : P.underlying t = some td.desc ∧ MapKept.IsKey td.desc k := by
  cases td <;> cases k <;> simp only [keyB] at hk <;> try (cases hk; done)
  · exact ⟨h, trivial⟩
  · exact ⟨h, (sameKind_eq hk).symm⟩
  · exact ⟨h, trivial⟩
/-- Whether two keys of one type are one. -/
def eqV : Value → Value → Bool
  | .int _ a, .int _ b => decide (a = b)
  | .bool a, .bool b => a == b
  | .string a, .string b => a == b
  | _, _ => false
/-- A key's place, and its value. -/
def mFind (k : Value) : List MapEntry → Nat → Option (Nat × Value)
  | [], _ => none
  | e :: es, i => cond (eqV k e.key) (some (i, e.val)) (mFind k es (i + 1))
def mOk (td : TD) (es : List MapEntry) : Bool := es.all fun e => keyB td e.key && scal e.val
theorem findNow_eq {td : TD} {k : Value} (hk : keyB td k = true) : ∀ (es : List MapEntry) (i : Nat), mOk td es = true → Instr.findNow td.desc k es i = some (mFind k es i)
  | [], _, _ => rfl
  | e :: es, i, h => by
    unfold mOk at h
    simp only [List.all_cons, Bool.and_eq_true] at h
    have ih := findNow_eq hk es (i + 1) h.2
    have he := h.1.1
    unfold Instr.findNow mFind
    cases td <;> cases k <;> simp only [keyB] at hk <;> try (cases hk; done)
    · rename_i a
      cases hkey : e.key <;> rw [hkey] at he <;> simp only [keyB] at he <;> try (cases he; done)
      rename_i b
      simp only [TD.desc, Instr.sameNow, eqV]
      cases a == b <;> simp [ih]
      exact ih
    · rename_i kk k' a
      cases hkey : e.key <;> rw [hkey] at he <;> simp only [keyB] at he <;> try (cases he; done)
      rename_i k'' b
      have e1 := sameKind_eq hk
      have e2 := sameKind_eq he
      subst e1 e2
      simp only [TD.desc, Instr.sameNow, eqV, if_true]
      cases hab : a == b with
      | true => rw [show decide (a = b) = true by simpa using hab]; rfl
      | false => rw [show decide (a = b) = false by simpa using hab]; exact ih
    · rename_i a
      cases hkey : e.key <;> rw [hkey] at he <;> simp only [keyB] at he <;> try (cases he; done)
      rename_i b
      simp only [TD.desc, Instr.sameNow, eqV]
      cases hab : a == b with
      | true => rfl
      | false => exact ih
theorem mFind_at {k : Value} : ∀ (es : List MapEntry) (i : Nat) {j : Nat} {v : Value}, mFind k es i = some (j, v) → ∃ n e, j = i + n ∧ es[n]? = some e ∧ e.val = v ∧ eqV k e.key = true
  | [], _, _, _, h => by cases h
  | e :: es, i, j, v, h => by
    unfold mFind at h
    cases hq : eqV k e.key with
    | true =>
      simp only [hq, cond, Option.some.injEq, Prod.mk.injEq] at h
      exact ⟨0, e, by omega, rfl, h.2, hq⟩
    | false =>
      simp only [hq, cond] at h
      obtain ⟨n, e', h1, h2, h3, h4⟩ := mFind_at es (i + 1) h
      exact ⟨n + 1, e', by omega, by simpa using h2, h3, h4⟩
theorem eqV_eq {td : TD} {a b : Value} (ha : keyB td a = true) (hb : keyB td b = true) (h : eqV a b = true) : a = b := by
  cases td <;> cases a <;> simp only [keyB] at ha <;> try (cases ha; done)
  all_goals (cases b <;> simp only [keyB] at hb <;> try (cases hb; done))
  · simp only [eqV, beq_iff_eq] at h; rw [h]
  · have e1 := sameKind_eq ha
    have e2 := sameKind_eq hb
    simp only [eqV, decide_eq_true_eq] at h
    rw [← e1, ← e2, h]
  · rename_i a b
    obtain ⟨r, hr, hiff⟩ := MapKept.sameNow_of_keys (d := .string) (a := .string a) (b := .string b) trivial trivial
    have e : r = (a == b) := by
      have : some (a == b) = some r := hr
      exact (Option.some.inj this).symm
    exact hiff.1 (e.trans h)
/-- A map with a key's value. -/
def mSet (k v : Value) (es : List MapEntry) (c : Nat) : List MapEntry × Nat := match mFind k es 0 with
  | some (i, _) => (es.modify i fun e => { e with key := k, val := v }, c)
  | none => (es ++ [⟨k, v, c⟩], c + 1)
def mDel (k : Value) (es : List MapEntry) : List MapEntry := match mFind k es 0 with
  | some (i, _) => es.eraseIdx i
  | none => es
def lkV (co : Bool) (v : Value) (ok : Bool) : AV := match co with
  | true => .t [.v v, .v (.bool ok)]
  | false => .v v
/-- The form of a map's type: its keys', and its values' with their zero. -/
def mapT (tt : List TE) (t : Nat) : Option (Nat × TD × Nat × Value) := match look tt t with
  | some e => match e.td with
    | .map kt et => match look tt kt, look tt et with
      | some ke, some ee => match ee.zero, isAggD ee.td with
        | [z], false => some (kt, ke.td, et, z)
        | _, _ => none
      | _, _ => none
    | _ => none
  | none => none
theorem mapT_ok {P : Program} {tt : List TE} (ht : TTok P tt) {t kt et : Nat} {kd : TD} {z : Value} (h : mapT tt t = some (kt, kd, et, z)) : P.underlying t = some (.map kt et) ∧ kd.is P kt ∧ (∀ W : World, (zeroValue et).run P W = .ok z W) ∧ scal z = true := by
  unfold mapT at h
  split at h
  case h_2 => cases h
  rename_i e he
  split at h
  case h_2 => cases h
  rename_i kt' et' htd
  split at h
  case h_2 => cases h
  rename_i ke ee hk he'
  split at h
  case h_2 => cases h
  rename_i z' hz ha
  simp only [Option.some.injEq, Prod.mk.injEq] at h
  obtain ⟨rfl, rfl, rfl, rfl⟩ := h
  have h1 := (look_ok ht he).1
  rw [htd] at h1
  exact ⟨h1, (look_ok ht hk).1, fun W => (look_zero ht he' ha hz W).1, (look_zero ht he' ha hz ⟨#[], fun _ _ => 0, 0, default, default⟩).2⟩
def aLookup (tt : List TE) (t : Nat) (x k : AV) (co : Bool) (σ : St) : Option (Bool × AV) := match mapT tt t with
  | some (_, kd, _, z) => match x, k with
    | .mp l, .v kv => match σ[l]? with
      | some (.map es _) => some (keyB kd kv && mOk kd es, match mFind kv es 0 with | some (_, v) => lkV co v true | none => lkV co z false)
      | _ => none
    | _, _ => none
  | none => none
theorem vr_lkV {R : Nat → Prop} {φ : Phi} {W : World} (co : Bool) (v : Value) (ok : Bool) : VR R φ W (lkV co v ok) (if co then .tuple #[v, .bool ok] else v) := by
  cases co with
  | false => exact .imm (.v _)
  | true =>
    refine .t (cells := [.v v, .v (.bool ok)]) (vs := [v, .bool ok]) rfl fun k u x hu hx => ?_
    rcases k with _ | _ | k
    · simp at hu hx; subst hu hx; exact .imm (.v _)
    · simp at hu hx; subst hu hx; exact .imm (.v _)
    · simp at hu
theorem aLookup_ok {P : Program} {tt : List TE} (ht : TTok P tt) {R : Nat → Prop} {φ : Phi} {σ : St} {W : World} (hs : Sim R φ σ W) {t : Nat} {x k : AV} {co : Bool} {v w : Value} (hx : VR R φ W x v) (hk : VR R φ W k w) {c : Bool} {u : AV} (ha : aLookup tt t x k co σ = some (c, u)) (hc : c = true) :
    ∃ y, (Instr.lookup t v w co).run P W = .ok y W ∧ VR R φ W u y := by
  unfold aLookup at ha
  split at ha
  case h_2 => cases ha
  rename_i kt kd et z hm
  obtain ⟨hu, hkd, hz, _⟩ := mapT_ok ht hm
  split at ha
  case h_2 => cases ha
  rename_i l kv
  split at ha
  case h_2 => cases ha
  rename_i es cl hl
  simp only [Option.some.injEq, Prod.mk.injEq] at ha
  obtain ⟨rfl, rfl⟩ := ha
  simp only [Bool.and_eq_true] at hc
  obtain ⟨b, hb, hh⟩ := hs.blk l _ hl
  obtain rfl := hk.val
  cases hx with
  | imm hi => cases hi
  | mp h1 =>
    rw [hb] at h1
    obtain ⟨rfl, _⟩ := Prod.mk.inj (Option.some.inj (Option.some.inj h1))
    obtain ⟨hd, hik⟩ := keyB_ok hc.1 hkd
    have hf := findNow_eq hc.1 es 0 hc.2
    unfold Instr.lookup
    simp only [Sem.run_bind, run_und hu, MapKept.run_getObj_map hh, Result.andThen, Sem.run_pure, MapKept.run_checkKey hd hik, MapKept.run_findKey hd hf]
    cases mFind w es 0 with
    | none => simp only [Sem.run_bind, hz W, Result.andThen, Sem.run_pure]; exact ⟨_, rfl, vr_lkV co z false⟩
    | some p => simp only [Sem.run_bind, Result.andThen, Sem.run_pure]; exact ⟨_, rfl, vr_lkV co p.2 true⟩
/-- A map, or an iterator, is turned. -/
theorem Keep.putMap {W : World} {b : Nat} {o o' : Obj} (h : W.heap[b]? = some o) (h1 : ∀ c T fr, o ≠ .cells c T fr) (h2 : ∀ r, o ≠ .loop r) : Keep (fun b' _ => b' = b) W (W.putObj b o') where
  os := rfl
  tape := rfl
  output := rfl
  size := by simp
  obj b' _ hn := World.putObj_heap_other fun e => hn 0 e
  cells b' c T fr hc := by
    have hne : b' ≠ b := fun e => by subst e; rw [h] at hc; exact h1 c T fr (Option.some.inj hc)
    exact ⟨c, by rw [World.putObj_heap_other hne]; exact hc, rfl, fun _ _ => rfl⟩
  loops b' r' hr := by
    have hne : b' ≠ b := fun e => by subst e; rw [h] at hr; exact h2 r' (Option.some.inj hr)
    exact ⟨r'.state, r'.pending, by rw [World.putObj_heap_other hne]; exact hr⟩
theorem Rel.putMap {F0 : Nat → Nat → Prop} {W0 : World} {R : Nat → Prop} {φ : Phi} {σ : St} {f : List AV} {tmps : Array Value} {W : World} (h : Rel F0 W0 R φ σ f tmps W) {l b : Nat} {B B' : Blk} (hl : σ[l]? = some B) (hw : ∀ k, own φ l B b k) {o o' : Obj} (ho : W.heap[b]? = some o) (h1 : ∀ c T fr, o ≠ .cells c T fr) (h2 : ∀ r, o ≠ .loop r)
    (hB' : BlkOk R φ (W.putObj b o') l B') (hw' : ∀ b' k, own φ l B' b' k → b' = b) : Rel F0 W0 R φ (σ.set l B') f tmps (W.putObj b o') :=
  Rel.turn h (l := l) (src := l) (B' := B') (σ' := σ.set l B') (Keep.putMap ho h1 h2) (Ext.refl _) (fun _ _ h => h) (fun b' k hg => ⟨B, hl, by subst hg; exact hw k⟩) hB' (fun b' k hg => .inl ⟨B, hl, by rw [hw' b' k hg]; exact hw k⟩)
    (fun m B0 hm => by
      by_cases hne : m = l
      · subst hne; exact .inl ⟨rfl, set_get_self hm⟩
      · exact .inr (.inr ⟨hne, hne, set_get hm hne⟩)) (fun m hm => h.sim.dom m (by simpa using hm))
def aMapSet (tt : List TE) (t : Nat) (x k v : AV) (σ : St) : Option (Bool × St) := match mapT tt t with
  | some (_, kd, _, _) => match x, k, v with
    | .mp l, .v kv, .v vv => match σ[l]? with
      | some (.map es c) => some (keyB kd kv && mOk kd es, σ.set l (.map (mSet kv vv es c).1 (mSet kv vv es c).2))
      | _ => none
    | _, _, _ => none
  | none => none
theorem aMapSet_ok {P : Program} {tt : List TE} (ht : TTok P tt) {F0 : Nat → Nat → Prop} {W0 : World} {R : Nat → Prop} {φ : Phi} {σ : St} {f : List AV} {tmps : Array Value} {W : World} (h : Rel F0 W0 R φ σ f tmps W) {t : Nat} {x k v : AV} {xv kv vv : Value} (hx : VR R φ W x xv) (hk : VR R φ W k kv) (hv : VR R φ W v vv) {c : Bool} {σ' : St} (ha : aMapSet tt t x k v σ = some (c, σ')) (hc : c = true) :
    ∃ W', (Instr.mapUpdate t xv kv vv).run P W = .ok () W' ∧ Rel F0 W0 R φ σ' f tmps W' := by
  unfold aMapSet at ha
  split at ha
  case h_2 => cases ha
  rename_i kt kd et z hm
  obtain ⟨hu, hkd, hz, _⟩ := mapT_ok ht hm
  split at ha
  case h_2 => cases ha
  rename_i l kv' vv'
  split at ha
  case h_2 => cases ha
  rename_i es cl hl
  simp only [Option.some.injEq, Prod.mk.injEq] at ha
  obtain ⟨rfl, rfl⟩ := ha
  simp only [Bool.and_eq_true] at hc
  obtain ⟨b, hb, hh⟩ := h.sim.blk l _ hl
  obtain rfl := hk.val
  obtain rfl := hv.val
  cases hx with
  | imm hi => cases hi
  | mp h1 =>
    rw [hb] at h1
    obtain ⟨rfl, _⟩ := Prod.mk.inj (Option.some.inj (Option.some.inj h1))
    obtain ⟨hd, hik⟩ := keyB_ok hc.1 hkd
    have hf := findNow_eq hc.1 es 0 hc.2
    have fin : ∀ (es' : List MapEntry) (c' : Nat), Rel F0 W0 R φ (σ.set l (.map es' c')) f tmps (W.putObj b (.map es'.toArray c')) := fun es' c' =>
      h.putMap hl (fun _ => hb) hh (fun _ _ _ e => by cases e) (fun _ e => by cases e) ⟨b, hb, World.putObj_heap_same (Array.getElem?_eq_some_iff.1 hh).1⟩ fun b' k hw => by
        have hw : φ l = some (some (b', 0)) := hw
        rw [hb] at hw
        exact (Prod.mk.inj (Option.some.inj (Option.some.inj hw))).1.symm
    unfold mSet
    cases hmf : mFind kv es 0 with
    | none =>
      rw [hmf] at hf
      refine ⟨_, ?_, fin _ _⟩
      unfold Instr.mapUpdate
      simp only [Sem.run_bind, run_und hu, MapKept.run_getObj_map hh, Result.andThen, Sem.run_pure, MapKept.run_checkKey hd hik, MapKept.run_findKey hd hf, MapKept.run_setObj_map _ hh]
      simp [World.putObj]
    | some p =>
      obtain ⟨i, v0⟩ := p
      rw [hmf] at hf
      obtain ⟨n, e, e1, e2, e3, e4⟩ := mFind_at es 0 hmf
      obtain rfl : i = n := by omega
      have hke : keyB kd e.key = true := by
        have := List.all_eq_true.1 hc.2 e (List.mem_of_getElem? e2)
        simp only [Bool.and_eq_true] at this
        exact this.1
      have hkk : e.key = kv := (eqV_eq hc.1 hke e4).symm
      have e2' : es.toArray[i]? = some e := by simpa using e2
      refine ⟨_, ?_, fin _ _⟩
      unfold Instr.mapUpdate
      simp only [Sem.run_bind, run_und hu, MapKept.run_getObj_map hh, Result.andThen, Sem.run_pure, MapKept.run_checkKey hd hik, MapKept.run_findKey hd hf, e2', Option.map_some, Option.getD_some, hkk, MapKept.run_keyThatStays hik, MapKept.run_setObj_map _ hh]
      simp [World.putObj]
def aMapDel (tt : List TE) (t : Nat) (x k : AV) (σ : St) : Option (Bool × St) := match mapT tt t with
  | some (_, kd, _, _) => match x, k with
    | .mp l, .v kv => match σ[l]? with
      | some (.map es c) => some (keyB kd kv && mOk kd es, σ.set l (.map (mDel kv es) c))
      | _ => none
    | _, _ => none
  | none => none
theorem aMapDel_ok {P : Program} {tt : List TE} (ht : TTok P tt) {F0 : Nat → Nat → Prop} {W0 : World} {R : Nat → Prop} {φ : Phi} {σ : St} {f : List AV} {tmps : Array Value} {W : World} (h : Rel F0 W0 R φ σ f tmps W) {t t' ty : Nat} {x k : AV} {xv kv : Value} (hx : VR R φ W x xv) (hk : VR R φ W k kv) {c : Bool} {σ' : St} (ha : aMapDel tt t x k σ = some (c, σ')) (hc : c = true) :
    ∃ W', (Builtin.delete_ #[t, t'] ty #[xv, kv]).run P W = .ok (.tuple #[]) W' ∧ Rel F0 W0 R φ σ' f tmps W' := by
  unfold aMapDel at ha
  split at ha
  case h_2 => cases ha
  rename_i kt kd et z hm
  obtain ⟨hu, hkd, hz, _⟩ := mapT_ok ht hm
  split at ha
  case h_2 => cases ha
  rename_i l kv'
  split at ha
  case h_2 => cases ha
  rename_i es cl hl
  simp only [Option.some.injEq, Prod.mk.injEq] at ha
  obtain ⟨rfl, rfl⟩ := ha
  simp only [Bool.and_eq_true] at hc
  obtain ⟨b, hb, hh⟩ := h.sim.blk l _ hl
  obtain rfl := hk.val
  cases hx with
  | imm hi => cases hi
  | mp h1 =>
    rw [hb] at h1
    obtain ⟨rfl, _⟩ := Prod.mk.inj (Option.some.inj (Option.some.inj h1))
    obtain ⟨hd, hik⟩ := keyB_ok hc.1 hkd
    have hf := findNow_eq hc.1 es 0 hc.2
    have fin : ∀ (es' : List MapEntry) (c' : Nat), Rel F0 W0 R φ (σ.set l (.map es' c')) f tmps (W.putObj b (.map es'.toArray c')) := fun es' c' =>
      h.putMap hl (fun _ => hb) hh (fun _ _ _ e => by cases e) (fun _ e => by cases e) ⟨b, hb, World.putObj_heap_same (Array.getElem?_eq_some_iff.1 hh).1⟩ fun b' k hw => by
        have hw : φ l = some (some (b', 0)) := hw
        rw [hb] at hw
        exact (Prod.mk.inj (Option.some.inj (Option.some.inj hw))).1.symm
    unfold mDel
    cases hmf : mFind kv es 0 with
    | none =>
      rw [hmf] at hf
      refine ⟨_, ?_, fin _ _⟩
      unfold Builtin.delete_
      simp [Sem.run_bind, run_und hu, MapKept.run_getObj_map hh, Result.andThen, Sem.run_pure, MapKept.run_checkKey hd hik, MapKept.run_findKey hd hf, MapKept.run_setObj_map _ hh, World.putObj]
    | some p =>
      obtain ⟨i, v0⟩ := p
      rw [hmf] at hf
      refine ⟨_, ?_, fin _ _⟩
      unfold Builtin.delete_
      simp [Sem.run_bind, run_und hu, MapKept.run_getObj_map hh, Result.andThen, Sem.run_pure, MapKept.run_checkKey hd hik, MapKept.run_findKey hd hf, MapKept.run_setObj_map _ hh, World.putObj]
def aMapNew (σ : St) : AV × St := (.mp σ.length, σ ++ [.map [] 0])
theorem aMapNew_ok {P : Program} {F0 : Nat → Nat → Prop} {W0 : World} {R : Nat → Prop} {φ : Phi} {σ : St} {f : List AV} {tmps : Array Value} {W : World} (h : Rel F0 W0 R φ σ f tmps W) (t : Nat) :
    ∃ y W' φ', (Instr.makeMap t none).run P W = .ok y W' ∧ Ext φ φ' ∧ Rel F0 W0 R φ' (aMapNew σ).2 f tmps W' ∧ VR R φ' W' (aMapNew σ).1 y := by
  refine ⟨.map (some W.heap.size), W.alloc (.map #[] 0), upd φ σ.length (some (W.heap.size, 0)), ?_, upd_ext _ (h.sim.dom _ (Nat.le_refl _)), h.newObj (.map #[] 0) ⟨W.heap.size, upd_same _ _ _, heap_new W _⟩, .mp (upd_same _ _ _)⟩
  unfold Instr.makeMap
  simp only [Sem.run_bind, Sem.run_pure, Result.andThen]
  rfl
def aMapLen (tt : List TE) (t : Nat) (x : AV) (σ : St) : Option (Bool × AV) := match look tt t with
  | some e => match e.td with
    | .map _ _ => match x with
      | .mp l => match σ[l]? with
        | some (.map es _) => some (true, .v (.int .i64 es.length))
        | _ => none
      | _ => none
    | _ => none
  | none => none
theorem aMapLen_ok {P : Program} {tt : List TE} (ht : TTok P tt) {R : Nat → Prop} {φ : Phi} {σ : St} {W : World} (hs : Sim R φ σ W) {t ty : Nat} {x : AV} {v : Value} (hx : VR R φ W x v) {c : Bool} {u : AV} (ha : aMapLen tt t x σ = some (c, u)) :
    ∃ y, (Builtin.len_ #[t] ty #[v]).run P W = .ok y W ∧ VR R φ W u y := by
  unfold aMapLen at ha
  split at ha
  case h_2 => cases ha
  rename_i e he
  split at ha
  case h_2 => cases ha
  rename_i kt et htd
  split at ha
  case h_2 => cases ha
  rename_i l
  split at ha
  case h_2 => cases ha
  rename_i es cl hl
  simp only [Option.some.injEq, Prod.mk.injEq] at ha
  obtain ⟨rfl, rfl⟩ := ha
  have hu := (look_ok ht he).1
  rw [htd] at hu
  have hu : P.underlying t = some (.map kt et) := hu
  obtain ⟨b, hb, hh⟩ := hs.blk l _ hl
  cases hx with
  | imm hi => cases hi
  | mp h1 =>
    rw [hb] at h1
    obtain ⟨rfl, _⟩ := Prod.mk.inj (Option.some.inj (Option.some.inj h1))
    refine ⟨.int .i64 es.length, ?_, .imm (.v _)⟩
    unfold Builtin.len_
    simp [Sem.run_bind, run_und hu, MapKept.run_getObj_map hh, Result.andThen, Sem.run_pure, goInt]
def aRange (tt : List TE) (t : Nat) (x : AV) (σ : St) : Option (AV × St) := match look tt t with
  | some e => match e.td with
    | .map _ _ => match x with
      | .mp l => match σ[l]? with
        | some (.map _ c) => some (.p σ.length 0, σ ++ [.iter l c [] c])
        | _ => none
      | _ => none
    | _ => none
  | none => none
theorem aRange_ok {P : Program} {tt : List TE} (ht : TTok P tt) {F0 : Nat → Nat → Prop} {W0 : World} {R : Nat → Prop} {φ : Phi} {σ : St} {f : List AV} {tmps : Array Value} {W : World} (h : Rel F0 W0 R φ σ f tmps W) {t : Nat} {x : AV} {v : Value} (hx : VR R φ W x v) {u : AV} {σ' : St} (ha : aRange tt t x σ = some (u, σ')) :
    ∃ y W' φ', (Instr.range t v).run P W = .ok y W' ∧ Ext φ φ' ∧ Rel F0 W0 R φ' σ' f tmps W' ∧ VR R φ' W' u y := by
  unfold aRange at ha
  split at ha
  case h_2 => cases ha
  rename_i e he
  split at ha
  case h_2 => cases ha
  rename_i kt et htd
  split at ha
  case h_2 => cases ha
  rename_i l
  split at ha
  case h_2 => cases ha
  rename_i es cl hl
  simp only [Option.some.injEq, Prod.mk.injEq] at ha
  obtain ⟨rfl, rfl⟩ := ha
  have hu := (look_ok ht he).1
  rw [htd] at hu
  have hu : P.underlying t = some (.map kt et) := hu
  obtain ⟨b, hb, hh⟩ := h.sim.blk l _ hl
  cases hx with
  | imm hi => cases hi
  | mp h1 =>
    rw [hb] at h1
    obtain ⟨rfl, _⟩ := Prod.mk.inj (Option.some.inj (Option.some.inj h1))
    have hx := upd_ext (φ := φ) (l := σ.length) (some (W.heap.size, 0)) (h.sim.dom _ (Nat.le_refl _))
    exact ⟨_, _, upd φ σ.length (some (W.heap.size, 0)), run_range_map W t kt et b es.toArray cl hu hh, hx, h.newObj (.mapIter (some b) cl #[] cl) ⟨W.heap.size, b, upd_same _ _ _, hx _ _ hb, heap_new W _⟩, .p (upd_same _ _ _)⟩
/-- A value as it is told of: a struct's by its cells. -/
def valAV : Value → AV
  | .agg vs => .a (vs.toList.map .v)
  | x => .v x
theorem valAV_ok {R : Nat → Prop} {φ : Phi} {W : World} (v : Value) : VR R φ W (valAV v) v := by
  cases v with
  | agg vs =>
    have h : VR R φ W (.a (vs.toList.map .v)) (.agg vs.toList.toArray) := .imm (.a (by simp) fun k u x hu hx => by
      rw [List.getElem?_map] at hu
      rw [hx] at hu
      obtain rfl := Option.some.inj hu
      exact .v x)
    simpa [valAV] using h
  | _ => exact .imm (.v _)
/-- What stands in the entry that was handed out last. -/
def aEntry (x : AV) (σ : St) : Option (Bool × AV) := match x with
  | .p m 0 => match σ[m]? with
    | some (.iter l _ seen st) => match σ[l]? with
      | some (.map es c) => match seen.getLast? with
        | some s => match es.find? fun e => e.born == s with
          | some e => some (Nat.beq c st, .t [valAV e.key, .v e.val])
          | none => none
        | none => none
      | _ => none
    | _ => none
  | _ => none
theorem run_getObj_iter {P : Program} {w : World} {r : Nat} {m : Option Nat} {s st : Nat} {seen : Array Nat} (hb : w.heap[r]? = some (.mapIter m s seen st)) : (getObj r).run P w = .ok (.mapIter m s seen st) w := by
  simp [getObj, Sem.run, hb]
theorem aEntry_ok {P : Program} {R : Nat → Prop} {φ : Phi} {σ : St} {W : World} (hs : Sim R φ σ W) {x : AV} {v : Value} (hx : VR R φ W x v) {c : Bool} {u : AV} (ha : aEntry x σ = some (c, u)) (hc : c = true) :
    ∃ y, (Instr.entry v).run P W = .ok y W ∧ VR R φ W u y := by
  unfold aEntry at ha
  split at ha
  case h_2 => cases ha
  rename_i m
  split at ha
  case h_2 => cases ha
  rename_i l since seen st hm
  split at ha
  case h_2 => cases ha
  rename_i es cl hl
  split at ha
  case h_2 => cases ha
  rename_i s hseen
  split at ha
  case h_2 => cases ha
  rename_i e hfind
  simp only [Option.some.injEq, Prod.mk.injEq] at ha
  obtain ⟨rfl, rfl⟩ := ha
  obtain rfl := Nat.eq_of_beq_eq_true hc
  obtain ⟨b, hb, hh⟩ := hs.blk l _ hl
  obtain ⟨r, bm, hr, hbm, hit⟩ := hs.blk m _ hm
  rw [hb] at hbm
  obtain ⟨rfl, _⟩ := Prod.mk.inj (Option.some.inj (Option.some.inj hbm))
  cases hx with
  | imm hi => cases hi
  | p h1 =>
    rw [hr] at h1
    obtain ⟨rfl, rfl⟩ := Prod.mk.inj (Option.some.inj (Option.some.inj h1))
    refine ⟨.tuple #[e.key, e.val], ?_, ?_⟩
    · unfold Instr.entry
      simp only [Nat.add_zero, Sem.run_bind, run_getObj_iter hit, Result.andThen, MapKept.run_getObj_map hh]
      have e1 : seen.toArray.back? = some s := by simpa using hseen
      have e2 : es.toArray.find? (fun e => e.born == s) = some e := by simpa using hfind
      simp only [e1, Sem.run_bind, MapKept.run_getObj_map hh, Result.andThen, bne_self_eq_false, Bool.false_eq_true, if_false, e2, Sem.run_pure]
    · exact .t (cells := [valAV e.key, .v e.val]) (vs := [e.key, e.val]) rfl fun k u x hu hx => by
        rcases k with _ | _ | k
        · simp at hu hx; subst hu hx; exact valAV_ok _
        · simp at hu hx; subst hu hx; exact .imm (.v _)
        · simp at hu
/-- The entries that are left. -/
def leftE (es : List MapEntry) (seen : List Nat) : List MapEntry := es.filter fun e => !seen.contains e.born
theorem run_next {P : Program} {W : World} {r bm since st c : Nat} {seen : List Nat} {es : List MapEntry} (ty : Nat) (hit : W.heap[r]? = some (.mapIter (some bm) since seen.toArray st)) (hh : W.heap[bm]? = some (.map es.toArray c)) (hold : es.all (fun e => Nat.blt e.born since) = true) (hst : Nat.ble since st = true) :
    (leftE es seen = [] ∧ (Instr.next (.pointer (some ⟨r, 0, none⟩)) false ty).run P W = .ok (.tuple #[.bool false]) W) ∨
    ∃ e ∈ leftE es seen, ∃ W1 : World, (W1 = W ∨ W1 = W.drew) ∧ (Instr.next (.pointer (some ⟨r, 0, none⟩)) false ty).run P W = .ok (.tuple #[.bool true, e.key, e.val]) (W1.putObj r (.mapIter (some bm) since (seen ++ [e.born]).toArray c)) := by
  have hold' : ∀ x ∈ es.toArray.toList, x.born < since := fun x hx => by
    have := List.all_eq_true.1 hold x (by simpa using hx)
    simpa [Nat.blt_eq] using this
  have hst' := Nat.le_of_ble_eq_true hst
  have ht := next_test_false seen.toArray es.toArray since st hold' hst'
  have hset : ∀ (w1 : World) (o' : Obj), (w1 = W ∨ w1 = W.drew) → (setObj r o').run P w1 = .ok () (w1.putObj r o') := fun w1 o' hw => by
    have : w1.heap[r]? = some (.mapIter (some bm) since seen.toArray st) := by rcases hw with rfl | rfl <;> exact hit
    simp [setObj, Sem.run, this, World.putObj]
  unfold Instr.next
  simp only [Sem.run_bind, run_getObj_iter hit, Result.andThen, MapKept.run_getObj_map hh, ht, Bool.false_eq_true, if_false]
  have hmem : ∀ x ∈ (Array.filter (fun e => !seen.toArray.contains e.born) es.toArray).toList, x.born < since := fun x hx => hold' x (by simp at hx ⊢; exact hx.1)
  have hL : (Array.filter (fun e => !seen.toArray.contains e.born) es.toArray) = (leftE es seen).toArray := by simp [leftE]
  rw [hL] at hmem ⊢
  have e1 : (leftE es seen).toArray.filter (fun x => decide (x.born < since)) = (leftE es seen).toArray := Array.filter_eq_self.2 (fun x hx => by simpa using hmem x (by simpa using hx))
  have e2 : (leftE es seen).toArray.filter (fun x => decide (x.born ≥ since)) = #[] := by
    rw [Array.filter_eq_empty_iff]
    intro x hx
    have := hmem x (by simpa using hx)
    simp
    omega
  simp only [e1, e2, Array.append_empty]
  by_cases h0 : leftE es seen = []
  · left
    refine ⟨h0, ?_⟩
    rw [h0]
    simp [choose, Sem.run, Question.forced]
  · right
    have hne : (leftE es seen).toArray.isEmpty = false := by simpa [Array.isEmpty] using h0
    have hpos : 0 < (leftE es seen).length := List.length_pos_iff.2 h0
    simp only [hne, Bool.false_eq_true, if_false, Array.empty_append, Array.size_map]
    have hch : ∃ (j : Nat) (w1 : World), j < (leftE es seen).length ∧ (w1 = W ∨ w1 = W.drew) ∧ (choose (Question.mapNext (leftE es seen).toArray.size)).run P W = .ok j w1 := by
      by_cases hf : (leftE es seen).length ≤ 1
      · exact ⟨0, W, hpos, .inl rfl, by simp [choose, Sem.run, Question.forced, hf]⟩
      · exact ⟨_, W.drew, Nat.mod_lt _ hpos, .inr rfl, by
          simp only [choose, Sem.run, Question.forced, List.size_toArray, decide_eq_true_eq, hf, if_false, Question.cut]
          rfl⟩
    obtain ⟨j, w1, hj, hw1, hrun⟩ := hch
    refine ⟨(leftE es seen)[j], List.getElem_mem hj, w1, hw1, ?_⟩
    simp only [hrun, Array.getElem?_map, List.getElem?_toArray, List.getElem?_eq_getElem hj, Option.map_some, Sem.run_bind, hset _ _ hw1, Result.andThen]
    simp
end Go.Proofs.Ythdeehkmlaejfaa.E
/- The engine, part 14c: maps whose keys are structs of numbers and truths. -/
namespace Go.Proofs.Ythdeehkmlaejfaa.E
open Go
set_option linter.unusedSimpArgs false
set_option linter.unusedVariables false

/-- A struct's cells that are a key. -/
def valsOf : List AV → Option (List Value)
  | [] => some []
  | .v x :: us => match valsOf us with
    | some xs => some (x :: xs)
    | none => none
  | _ :: _ => none
theorem valsOf_ok {R : Nat → Prop} {φ : Phi} {W : World} : ∀ {us : List AV} {xs : List Value}, valsOf us = some xs → us = xs.map .v
  | [], _, h => by obtain rfl := Option.some.inj h; rfl
  | u :: us, xs, h => by
    cases u <;> simp only [valsOf] at h <;> try (cases h; done)
    split at h
    · rename_i ys hy
      obtain rfl := Option.some.inj h
      rw [valsOf_ok (R := R) (φ := φ) (W := W) hy]; rfl
    · cases h
def keyS (tt : List TE) (kt : Nat) (us : List AV) : Bool := match look tt kt with
  | some e => match e.td with
    | .struct flds => flds.all fun f => match look tt f.1, aPart tt f.1 us f.2 with
      | some fe, some (.v x) => keyB fe.td x
      | _, _ => false
    | _ => false
  | none => false
def eqS (tt : List TE) (kt : Nat) (us : List AV) (e : MapEntry) : Option Bool := aEq tt 8 kt (.a us) (valAV e.key)
def mFindS (tt : List TE) (kt : Nat) (us : List AV) : List MapEntry → Nat → Option (Nat × Value)
  | [], _ => none
  | e :: es, i => cond (match eqS tt kt us e with | some b => b | none => false) (some (i, e.val)) (mFindS tt kt us es (i + 1))
def okS (tt : List TE) (kt : Nat) (us : List AV) : List MapEntry → Bool
  | [] => true
  | e :: es => (match eqS tt kt us e with | some _ => scal e.val | none => false) && okS tt kt us es
theorem run_findAskingS {P : Program} {tt : List TE} (ht : TTok P tt) {R : Nat → Prop} {φ : Phi} {W : World} {kt : Nat} {us : List AV} {k : Value} (hk : VR R φ W (.a us) k) : ∀ (es : List MapEntry) (i : Nat), okS tt kt us es = true → (Instr.findAsking kt k es i).run P W = .ok (mFindS tt kt us es i) W
  | [], _, _ => rfl
  | e :: es, i, h => by
    simp only [okS, Bool.and_eq_true] at h
    have ih := run_findAskingS ht hk es (i + 1) h.2
    cases he : eqS tt kt us e with
    | none => simp [he] at h
    | some b =>
      have h1 := aEq_ok ht (R := R) (φ := φ) (W := W) 8 kt (.a us) (valAV e.key) k e.key b hk (valAV_ok _) he 10000 (by decide)
      unfold Instr.findAsking mFindS
      have h2 : (Op.equal kt k e.key).run P W = .ok b W := h1
      simp only [Sem.run_bind, h2, Result.andThen_ok, he]
      cases b with
      | true => simp
      | false => simpa using ih
theorem run_checkKeyS {P : Program} {tt : List TE} (ht : TTok P tt) {R : Nat → Prop} {φ : Phi} {W : World} {kt : Nat} {us : List AV} {k : Value} (hk : VR R φ W (.a us) k) (h : keyS tt kt us = true) (em : Bool) :
    (Instr.checkKey em 10000 kt k).run P W = .ok () W ∧ (match P.underlying kt with | some (.array _ _) | some (.struct _) => true | _ => false) = true := by
  unfold keyS at h
  cases he : look tt kt with
  | none => simp [he] at h
  | some e =>
    simp only [he] at h
    have hlk := (look_ok ht he).1
    split at h
    case h_2 => cases h
    rename_i flds htd
    rw [htd] at hlk
    obtain ⟨fs, hu, hmap, hall, hp, hm⟩ := hlk
    obtain ⟨vs, rfl, l1, r1⟩ := hk.agg
    refine ⟨?_, by rw [hu]⟩
    rw [show (10000 : Nat) = 9999 + 1 from rfl, Instr.checkKey]
    simp only [Sem.run_bind, run_und hu, Result.andThen_ok]
    rw [← Array.forIn_toList]
    rw [← hmap, List.all_map] at h
    replace h := List.all_eq_true.1 h
    replace hall := List.all_eq_true.1 hall
    clear hmap hp hm hu
    generalize fs.toList = L at *
    induction L with
    | nil => simp
    | cons f L ih =>
      have hf := h f (by simp)
      have hn : f.name ≠ "_" := by simpa using hall f (by simp)
      simp only [Function.comp] at hf
      split at hf
      case h_2 => cases hf
      rename_i fe x hfe hpart
      obtain ⟨y, p1, q1⟩ := aPart_ok ht l1 r1 hpart
      obtain rfl := q1.val
      obtain ⟨hd, hik⟩ := keyB_ok hf (look_ok ht hfe).1
      have p2 : (Instr.checkKey em 9999 f.type y).run P W = .ok () W := MapKept.run_checkKey hd hik em 9998
      simp only [List.forIn_cons, Sem.run_bind, hn, ne_eq, not_false_eq_true, if_true, Result.andThen_ok, p1, p2, Sem.run_pure]
      exact ih (fun y hy => h y (by simp [hy])) (fun y hy => hall y (by simp [hy]))
def aLookupS (tt : List TE) (t : Nat) (x : AV) (us : List AV) (co : Bool) (σ : St) : Option (Bool × AV) := match mapT tt t with
  | some (kt, _, _, z) => match x with
    | .mp l => match σ[l]? with
      | some (.map es _) => some (keyS tt kt us && okS tt kt us es, match mFindS tt kt us es 0 with | some (_, v) => lkV co v true | none => lkV co z false)
      | _ => none
    | _ => none
  | none => none
theorem aLookupS_ok {P : Program} {tt : List TE} (ht : TTok P tt) {R : Nat → Prop} {φ : Phi} {σ : St} {W : World} (hs : Sim R φ σ W) {t : Nat} {x : AV} {us : List AV} {co : Bool} {v w : Value} (hx : VR R φ W x v) (hk : VR R φ W (.a us) w) {c : Bool} {u : AV} (ha : aLookupS tt t x us co σ = some (c, u)) (hc : c = true) :
    ∃ y, (Instr.lookup t v w co).run P W = .ok y W ∧ VR R φ W u y := by
  unfold aLookupS at ha
  split at ha
  case h_2 => cases ha
  rename_i kt kd et z hm
  obtain ⟨hu, hkd, hz, _⟩ := mapT_ok ht hm
  split at ha
  case h_2 => cases ha
  rename_i l
  split at ha
  case h_2 => cases ha
  rename_i es cl hl
  simp only [Option.some.injEq, Prod.mk.injEq] at ha
  obtain ⟨rfl, rfl⟩ := ha
  simp only [Bool.and_eq_true] at hc
  obtain ⟨b, hb, hh⟩ := hs.blk l _ hl
  cases hx with
  | imm hi => cases hi
  | mp h1 =>
    rw [hb] at h1
    obtain ⟨rfl, _⟩ := Prod.mk.inj (Option.some.inj (Option.some.inj h1))
    have hck := fun em => (run_checkKeyS ht hk hc.1 em).1
    have hfk : (Instr.findKey kt w es).run P W = .ok (mFindS tt kt us es 0) W := by
      rw [run_findKey_eq W (run_checkKeyS ht hk hc.1 true).2]; exact run_findAskingS ht hk es 0 hc.2
    unfold Instr.lookup
    simp only [Sem.run_bind, run_und hu, MapKept.run_getObj_map hh, Result.andThen, Sem.run_pure, hck, hfk]
    cases mFindS tt kt us es 0 with
    | none => simp only [Sem.run_bind, hz W, Result.andThen, Sem.run_pure]; exact ⟨_, rfl, vr_lkV co z false⟩
    | some p => simp only [Sem.run_bind, Result.andThen, Sem.run_pure]; exact ⟨_, rfl, vr_lkV co p.2 true⟩
def noneB {α : Type} : Option α → Bool
  | none => true
  | some _ => false
/-- A key that isn't there yet. -/
def aMapSetS (tt : List TE) (t : Nat) (x : AV) (us : List AV) (v : AV) (σ : St) : Option (Bool × St) := match mapT tt t, valsOf us with
  | some (kt, _, _, _), some ks => match x, v with
    | .mp l, .v vv => match σ[l]? with
      | some (.map es c) => some ((keyS tt kt us && okS tt kt us es) && noneB (mFindS tt kt us es 0), σ.set l (.map (es ++ [⟨.agg ks.toArray, vv, c⟩]) (c + 1)))
      | _ => none
    | _, _ => none
  | _, _ => none
theorem aMapSetS_ok {P : Program} {tt : List TE} (ht : TTok P tt) {F0 : Nat → Nat → Prop} {W0 : World} {R : Nat → Prop} {φ : Phi} {σ : St} {f : List AV} {tmps : Array Value} {W : World} (h : Rel F0 W0 R φ σ f tmps W) {t : Nat} {x v : AV} {us : List AV} {xv kv vv : Value} (hx : VR R φ W x xv) (hk : VR R φ W (.a us) kv) (hv : VR R φ W v vv) {c : Bool} {σ' : St} (ha : aMapSetS tt t x us v σ = some (c, σ')) (hc : c = true) :
    ∃ W', (Instr.mapUpdate t xv kv vv).run P W = .ok () W' ∧ Rel F0 W0 R φ σ' f tmps W' := by
  unfold aMapSetS at ha
  split at ha
  case h_2 => cases ha
  rename_i kt kd et z ks hm hks
  obtain ⟨hu, hkd, hz, _⟩ := mapT_ok ht hm
  split at ha
  case h_2 => cases ha
  rename_i l vv'
  split at ha
  case h_2 => cases ha
  rename_i es cl hl
  simp only [Option.some.injEq, Prod.mk.injEq] at ha
  obtain ⟨rfl, rfl⟩ := ha
  simp only [Bool.and_eq_true] at hc
  obtain ⟨b, hb, hh⟩ := h.sim.blk l _ hl
  obtain rfl := hv.val
  have hkv : kv = .agg ks.toArray := by
    have e := valsOf_ok (R := R) (φ := φ) (W := W) hks
    subst e
    obtain ⟨vs, rfl, l1, r1⟩ := hk.agg
    congr 1
    have : vs = ks := by
      apply List.ext_getElem (by simpa using l1.symm)
      intro i h1 h2
      have := r1 i (.v ks[i]) vs[i] (by simp [h2]) (List.getElem?_eq_getElem h1)
      exact this.val
    rw [this]
  subst hkv
  cases hx with
  | imm hi => cases hi
  | mp h1 =>
    rw [hb] at h1
    obtain ⟨rfl, _⟩ := Prod.mk.inj (Option.some.inj (Option.some.inj h1))
    have hck := fun em => (run_checkKeyS ht hk hc.1.1 em).1
    have hfk : (Instr.findKey kt (.agg ks.toArray) es).run P W = .ok (mFindS tt kt us es 0) W := by
      rw [run_findKey_eq W (run_checkKeyS ht hk hc.1.1 true).2]; exact run_findAskingS ht hk es 0 hc.1.2
    have hnone : mFindS tt kt us es 0 = none := by
      have := hc.2
      cases hq : mFindS tt kt us es 0 with
      | none => rfl
      | some p => rw [hq] at this; cases this
    rw [hnone] at hfk
    refine ⟨_, ?_, h.putMap hl (fun _ => hb) hh (fun _ _ _ e => by cases e) (fun _ e => by cases e) ⟨b, hb, World.putObj_heap_same (Array.getElem?_eq_some_iff.1 hh).1⟩ fun b' k hw => by
      have hw : φ l = some (some (b', 0)) := hw
      rw [hb] at hw
      exact (Prod.mk.inj (Option.some.inj (Option.some.inj hw))).1.symm⟩
    unfold Instr.mapUpdate
    simp only [Sem.run_bind, run_und hu, MapKept.run_getObj_map hh, Result.andThen, Sem.run_pure, hck, hfk, MapKept.run_setObj_map _ hh]
    simp [World.putObj]
/-- A look, whatever the key's kind. -/
def aLookupW (tt : List TE) (t : Nat) (x k : AV) (co : Bool) (σ : St) : Option (Bool × AV) := match k with
  | .a us => aLookupS tt t x us co σ
  | k => aLookup tt t x k co σ
theorem aLookupW_ok {P : Program} {tt : List TE} (ht : TTok P tt) {R : Nat → Prop} {φ : Phi} {σ : St} {W : World} (hs : Sim R φ σ W) {t : Nat} {x k : AV} {co : Bool} {v w : Value} (hx : VR R φ W x v) (hk : VR R φ W k w) {c : Bool} {u : AV} (ha : aLookupW tt t x k co σ = some (c, u)) (hc : c = true) :
    ∃ y, (Instr.lookup t v w co).run P W = .ok y W ∧ VR R φ W u y := by
  unfold aLookupW at ha
  split at ha
  · exact aLookupS_ok ht hs hx hk ha hc
  · exact aLookup_ok ht hs hx hk ha hc
def aMapSetW (tt : List TE) (t : Nat) (x k v : AV) (σ : St) : Option (Bool × St) := match k with
  | .a us => aMapSetS tt t x us v σ
  | k => aMapSet tt t x k v σ
theorem aMapSetW_ok {P : Program} {tt : List TE} (ht : TTok P tt) {F0 : Nat → Nat → Prop} {W0 : World} {R : Nat → Prop} {φ : Phi} {σ : St} {f : List AV} {tmps : Array Value} {W : World} (h : Rel F0 W0 R φ σ f tmps W) {t : Nat} {x k v : AV} {xv kv vv : Value} (hx : VR R φ W x xv) (hk : VR R φ W k kv) (hv : VR R φ W v vv) {c : Bool} {σ' : St} (ha : aMapSetW tt t x k v σ = some (c, σ')) (hc : c = true) :
    ∃ W', (Instr.mapUpdate t xv kv vv).run P W = .ok () W' ∧ Rel F0 W0 R φ σ' f tmps W' := by
  unfold aMapSetW at ha
  split at ha
  · exact aMapSetS_ok ht h hx hk hv ha hc
  · exact aMapSet_ok ht h hx hk hv ha hc
end Go.Proofs.Ythdeehkmlaejfaa.E
/- The engine, part 15: one operation. -/
namespace Go.Proofs.Ythdeehkmlaejfaa.E
open Go
set_option linter.unusedSimpArgs false
set_option linter.unusedVariables false
noncomputable section

def sameOp : Operand → Operand → Bool
  | .tmp i, .tmp j => Nat.beq i j
  | .const (.int k a), .const (.int k' b) => sameKind k k' && decide (a = b)
  | _, _ => false
theorem sameOp_eq {x y : Operand} (h : sameOp x y = true) : x = y := by
  unfold sameOp at h
  split at h
  · rw [Nat.eq_of_beq_eq_true h]
  · simp only [Bool.and_eq_true, decide_eq_true_eq] at h
    rw [sameKind_eq h.1, h.2]
  · cases h

/-- The bounds [:0:0]. -/
def isZO (lo : Option Operand) (h m : Operand) : Bool := match lo, h, m with
  | none, .const (.int _ (.ofNat 0)), .const (.int _ (.ofNat 0)) => true
  | _, _, _ => false
theorem isZO_eq {lo : Option Operand} {h m : Operand} (hz : isZO lo h m = true) : lo = none ∧ ∃ k k', h = .const (.int k 0) ∧ m = .const (.int k' 0) := by
  unfold isZO at hz
  split at hz
  · exact ⟨rfl, _, _, rfl, rfl⟩
  · cases hz
def evP (f : List AV) (ps : Array (Nat × Operand)) : List (Nat × AV) := ps.toList.map fun p => (p.1, ev f p.2)
def evO (f : List AV) (x : Option Operand) : Option AV := x.map (ev f)
def keep2 (σ : St) (r : Option (Bool × AV)) : Option (Bool × AV × St) := match r with | some (c, u) => some (c, u, σ) | none => none

/-- An operation that is no call of a function, no choice: a condition, its value, and what is known behind it. -/
def aOp (tt : List TE) (op : Op) (f : List AV) (σ : St) : Option (Bool × AV × St) :=
  match op with
  | .move x => some (true, ev f x, σ)
  | .assign x => some (true, ev f x, σ)
  | .alloc t => match aAlloc tt t σ with | some (u, σ') => some (true, u, σ') | none => none
  | .box _ x => match aBox (ev f x) σ with | some (u, σ') => some (true, u, σ') | none => none
  | .build t ps => keep2 σ (aBuild tt t (evP f ps))
  | .buildSlice t n ps => aBuildSlice tt t n (evP f ps) σ
  | .load t x => keep2 σ (aLoad tt t (ev f x) σ)
  | .store t x y => match aStoreW tt t (ev f x) (ev f y) σ with | some (c, σ') => some (c, .dead, σ') | none => none
  | .nilCheck x => keep2 σ (aNilCheck (ev f x))
  | .binOp op t x y _ => keep2 σ (aBin tt op t (ev f x) (ev f y))
  | .unOp op _ x => keep2 σ (aUn op (ev f x))
  | .convert s d x => match aConv tt s d (ev f x) with
    | some r => keep2 σ (some r)
    | none => keep2 σ (aConvS tt s d (ev f x) σ)
  | .makeFunc fn us cs => some (true, .f fn (us.toList.map (ev f)) (cs.toList.map (ev f)), σ)
  | .makeSlice t l c => match sameOp l c with | true => aMake tt t (ev f l) σ | false => none
  | .slice t x lo hi mx => match mx, hi with
    | some _, none => none
    | some m, some h => match isZO lo h m with
      | true => keep2 σ (aSliceZ tt t (ev f x))
      | false => keep2 σ (aSlice tt t (ev f x) (evO f lo) (evO f hi) (evO f mx))
    | _, _ => keep2 σ (aSlice tt t (ev f x) (evO f lo) (evO f hi) (evO f mx))
  | .fieldAddr s x k => keep2 σ (aFieldAddr tt s (ev f x) k)
  | .field t x k => keep2 σ (aField tt t (ev f x) k)
  | .indexAddr t x i => keep2 σ (aIndexAddr tt t (ev f x) (ev f i))
  | .index t x i => keep2 σ (aIndex tt t (ev f x) (ev f i))
  | .extract x k => keep2 σ (aExtract (ev f x) k)
  | .makeMap _ none => some (true, (aMapNew σ).1, (aMapNew σ).2)
  | .lookup t x k co => keep2 σ (aLookupW tt t (ev f x) (ev f k) co σ)
  | .mapUpdate t x k v => match aMapSetW tt t (ev f x) (ev f k) (ev f v) σ with | some (c, σ') => some (c, .dead, σ') | none => none
  | .range t x => match aRange tt t (ev f x) σ with | some (u, σ') => some (true, u, σ') | none => none
  | .entry x => keep2 σ (aEntry (ev f x) σ)
  | .call c => match c.callee with
    | .builtin .len => match c.argTypes.toList, c.args.toList with
      | [t], [x] => keep2 σ (aLen tt t (ev f x))
      | _, _ => none
    | .builtin .cap => match c.argTypes.toList, c.args.toList with
      | [t], [x] => keep2 σ (aCap tt t (ev f x))
      | _, _ => none
    | .builtin .append => match c.argTypes.toList, c.args.toList with
      | [t, t'], [x, y] => match Nat.beq t t' with
        | true => aAppV tt t (ev f x) (ev f y) σ
        | false => aAppendZ tt t t' (ev f x) (ev f y) σ
      | _, _ => none
    | .builtin .delete => match c.argTypes.toList, c.args.toList with
      | [t, _], [x, k] => match aMapDel tt t (ev f x) (ev f k) σ with | some (c, σ') => some (c, .dead, σ') | none => none
      | _, _ => none
    | .builtin .max => keep2 σ (aMM true (c.args.toList.map (ev f)))
    | .builtin .min => keep2 σ (aMM false (c.args.toList.map (ev f)))
    | _ => none
  | _ => none

def Yields (nx : Next) (v : Value) : Prop := nx = .value v ∨ (nx = .skip ∧ v = undef)

theorem run_v {P : Program} {W W' : World} {s : Sem Value} {y : Value} (h : s.run P W = .ok y W') : (do pure (Next.value (← s)) : Sem Next).run P W = .ok (.value y) W' := by
  simp only [Sem.run_bind, h, Result.andThen_ok, Sem.run_pure]

theorem evP_rel {F0 : Nat → Nat → Prop} {W0 : World} {R : Nat → Prop} {φ : Phi} {σ : St} {f : List AV} {tmps : Array Value} {W : World} (h : Rel F0 W0 R φ σ f tmps W) (ds : List Deferred) (ps : Array (Nat × Operand)) :
    (evP f ps).length = (ps.toList.map fun p => (p.1, (Act.mk tmps ds).eval p.2)).length ∧ ∀ (k : Nat) (p : Nat × AV) (q : Nat × Value), (evP f ps)[k]? = some p → (ps.toList.map fun p => (p.1, (Act.mk tmps ds).eval p.2))[k]? = some q → p.1 = q.1 ∧ VR R φ W p.2 q.2 := by
  refine ⟨by simp [evP], fun k p q hp hq => ?_⟩
  obtain ⟨x, hx, rfl⟩ := getElem?_map_some hp
  obtain ⟨y, hy, rfl⟩ := getElem?_map_some hq
  rw [hx] at hy
  obtain rfl := Option.some.inj hy
  exact ⟨rfl, ev_ok h ds _⟩

theorem map_rel {F0 : Nat → Nat → Prop} {W0 : World} {R : Nat → Prop} {φ : Phi} {σ : St} {f : List AV} {tmps : Array Value} {W : World} (h : Rel F0 W0 R φ σ f tmps W) (ds : List Deferred) (xs : List Operand) :
    (xs.map (ev f)).length = (xs.map (Act.mk tmps ds).eval).length ∧ ∀ (k : Nat) (u : AV) (x : Value), (xs.map (ev f))[k]? = some u → (xs.map (Act.mk tmps ds).eval)[k]? = some x → VR R φ W u x := by
  refine ⟨by simp, fun k u x hu hx => ?_⟩
  obtain ⟨y, hy, rfl⟩ := getElem?_map_some hu
  obtain ⟨z, hz, rfl⟩ := getElem?_map_some hx
  rw [hy] at hz
  obtain rfl := Option.some.inj hz
  exact ev_ok h ds _

theorem aMM_ok {P : Program} {R : Nat → Prop} {φ : Phi} {W : World} {gt : Bool} {us : List AV} {vs : List Value} (hl : us.length = vs.length) (hr : ∀ (k : Nat) (u : AV) (x : Value), us[k]? = some u → vs[k]? = some x → VR R φ W u x)
    {c : Bool} {u : AV} (ha : aMM gt us = some (c, u)) (ats : Array TypeId) (ty : TypeId) : ∃ y, ((match gt with | true => Builtin.max_ ats ty vs.toArray | false => Builtin.min_ ats ty vs.toArray)).run P W = .ok y W ∧ VR R φ W u y := by
  unfold aMM at ha
  split at ha
  · rename_i k a k' b
    obtain ⟨rfl, rfl⟩ := Prod.mk.inj (Option.some.inj ha)
    match vs, hl, hr with
    | [x, y], _, hr =>
      obtain rfl := (hr 0 _ x rfl rfl).val
      obtain rfl := (hr 1 _ y rfl rfl).val
      refine ⟨.int k (mm gt a b), ?_, .imm (.v _)⟩
      cases gt <;> simp [Builtin.max_, Builtin.min_, Builtin.max2, Builtin.min2, mm]
  · rename_i k a k' b k'' d
    obtain ⟨rfl, rfl⟩ := Prod.mk.inj (Option.some.inj ha)
    match vs, hl, hr with
    | [x, y, z], _, hr =>
      obtain rfl := (hr 0 _ x rfl rfl).val
      obtain rfl := (hr 1 _ y rfl rfl).val
      obtain rfl := (hr 2 _ z rfl rfl).val
      refine ⟨.int k (mm gt (mm gt a b) d), ?_, .imm (.v _)⟩
      cases gt <;> simp [Builtin.max_, Builtin.min_, Builtin.max2, Builtin.min2, mm] <;> rfl
  · cases ha

theorem opt_rel {F0 : Nat → Nat → Prop} {W0 : World} {R : Nat → Prop} {φ : Phi} {σ : St} {f : List AV} {tmps : Array Value} {W : World} (h : Rel F0 W0 R φ σ f tmps W) (ds : List Deferred) (x : Option Operand) :
    (∀ u, evO f x = some u → ∃ y, x.map (Act.mk tmps ds).eval = some y ∧ VR R φ W u y) ∧ (evO f x = none → x.map (Act.mk tmps ds).eval = none) := by
  cases x with
  | none => exact ⟨fun u hu => (by cases hu), fun _ => rfl⟩
  | some x => exact ⟨fun u hu => (by obtain rfl := Option.some.inj hu; exact ⟨_, rfl, ev_ok h ds x⟩), fun hu => (by cases hu)⟩

theorem aOp_ok {P : Program} {tt : List TE} (ht : TTok P tt) {F0 : Nat → Nat → Prop} {W0 : World} {R : Nat → Prop} {φ : Phi} {σ : St} {f : List AV} {tmps : Array Value} {W : World} (h : Rel F0 W0 R φ σ f tmps W) (ds : List Deferred)
    {o : Oper} {c : Bool} {u : AV} {σ' : St} (ha : aOp tt o.op f σ = some (c, u, σ')) (hc : c = true) :
    ∃ nx v W' φ', (execOp (Act.mk tmps ds).eval o).run P W = .ok nx W' ∧ Yields nx v ∧ Ext φ φ' ∧ Rel F0 W0 R φ' σ' f tmps W' ∧ VR R φ' W' u v := by
  have keepV : ∀ {s : Sem Value} {r : Option (Bool × AV)}, keep2 σ r = some (c, u, σ') → (∀ c u, r = some (c, u) → c = true → ∃ y, s.run P W = .ok y W ∧ VR R φ W u y) →
      ∃ nx v W' φ', (do pure (Next.value (← s)) : Sem Next).run P W = .ok nx W' ∧ Yields nx v ∧ Ext φ φ' ∧ Rel F0 W0 R φ' σ' f tmps W' ∧ VR R φ' W' u v := by
    intro s r hr hs
    cases r with
    | none => cases hr
    | some p =>
      obtain ⟨c1, u1⟩ := p
      simp only [keep2, Option.some.injEq, Prod.mk.injEq] at hr
      obtain ⟨rfl, rfl, rfl⟩ := hr
      obtain ⟨y, h1, h2⟩ := hs _ _ rfl hc
      exact ⟨_, y, W, φ, run_v h1, .inl rfl, Ext.refl _, h, h2⟩
  have same : ∀ {x : Operand}, some (true, ev f x, σ) = some (c, u, σ') → ∃ v W' φ', (Pure.pure (Next.value ((Act.mk tmps ds).eval x)) : Sem Next).run P W = .ok (.value v) W' ∧ Ext φ φ' ∧ Rel F0 W0 R φ' σ' f tmps W' ∧ VR R φ' W' u v := by
    intro x hx
    simp only [Option.some.injEq, Prod.mk.injEq] at hx
    obtain ⟨rfl, rfl, rfl⟩ := hx
    exact ⟨_, W, φ, rfl, Ext.refl _, h, ev_ok h ds x⟩
  have ev' := fun x => ev_ok h ds x
  obtain ⟨dst, op, type, pos, after, guard⟩ := o
  simp only at ha
  cases op <;> simp only [aOp] at ha <;> simp only [execOp] <;> try (cases ha; done)
  case move x => obtain ⟨v, W', φ', h1, h2⟩ := same ha; exact ⟨_, v, W', φ', h1, .inl rfl, h2⟩
  case assign x => obtain ⟨v, W', φ', h1, h2⟩ := same ha; exact ⟨_, v, W', φ', h1, .inl rfl, h2⟩
  case alloc t =>
    split at ha
    case h_2 => cases ha
    rename_i u1 s1 h1
    simp only [Option.some.injEq, Prod.mk.injEq] at ha
    obtain ⟨rfl, rfl, rfl⟩ := ha
    obtain ⟨y, W', φ', r1, rx, r2, r3⟩ := aAlloc_ok (P := P) ht h h1
    exact ⟨_, y, W', φ', run_v r1, .inl rfl, rx, r2, r3⟩
  case box t x =>
    split at ha
    case h_2 => cases ha
    rename_i u1 s1 h1
    simp only [Option.some.injEq, Prod.mk.injEq] at ha
    obtain ⟨rfl, rfl, rfl⟩ := ha
    obtain ⟨y, W', φ', r1, rx, r2, r3⟩ := aBox_ok (P := P) h (ev' x) h1 t
    exact ⟨_, y, W', φ', run_v r1, .inl rfl, rx, r2, r3⟩
  case build t ps =>
    refine keepV ha fun c u hr hc => ?_
    obtain ⟨p1, p2⟩ := evP_rel h ds ps
    have := aBuild_ok (P := P) ht p1 p2 hr hc
    have e : (ps.map fun x => match x with | (i, x) => (i, (Act.mk tmps ds).eval x)) = (ps.toList.map fun p => (p.1, (Act.mk tmps ds).eval p.2)).toArray := by rw [← Array.toList_map]
    rw [e]; exact this
  case buildSlice t n ps =>
    obtain ⟨p1, p2⟩ := evP_rel h ds ps
    obtain ⟨y, W', φ', r1, rx, r2, r3⟩ := aBuildSlice_ok (P := P) ht h p1 p2 ha
    have e : (ps.map fun x => match x with | (i, x) => (i, (Act.mk tmps ds).eval x)) = (ps.toList.map fun p => (p.1, (Act.mk tmps ds).eval p.2)).toArray := by rw [← Array.toList_map]
    rw [e]; exact ⟨_, y, W', φ', run_v r1, .inl rfl, rx, r2, r3⟩
  case load t x => exact keepV ha fun c u hr hc => aLoad_ok ht h.sim (ev' x) hr hc
  case store t x y =>
    split at ha
    case h_2 => cases ha
    rename_i c1 s1 h1
    simp only [Option.some.injEq, Prod.mk.injEq] at ha
    obtain ⟨rfl, rfl, rfl⟩ := ha
    obtain ⟨W', r1, r2⟩ := aStoreW_ok (P := P) ht h (ev' x) (ev' y) h1 hc
    exact ⟨.skip, undef, W', φ, by simp only [Sem.run_bind, r1, Result.andThen_ok, Sem.run_pure], .inr ⟨rfl, rfl⟩, Ext.refl _, r2, .dead _⟩
  case nilCheck x =>
    have hx := ev' x
    generalize (Act.mk tmps ds).eval x = v at hx ⊢
    generalize ev f x = w at hx ha
    cases w <;> simp only [aNilCheck, keep2] at ha <;> try (cases ha; done)
    case p l off =>
      simp only [Option.some.injEq, Prod.mk.injEq] at ha
      obtain ⟨rfl, rfl, rfl⟩ := ha
      cases hx with
      | imm hi => cases hi
      | p hφ => exact ⟨_, _, W, φ, rfl, .inl rfl, Ext.refl _, h, .p hφ⟩
    case q l sz i j =>
      simp only [Option.some.injEq, Prod.mk.injEq] at ha
      obtain ⟨rfl, rfl, rfl⟩ := ha
      cases hx with
      | imm hi => cases hi
      | q hφ => exact ⟨_, _, W, φ, rfl, .inl rfl, Ext.refl _, h, .q hφ⟩
    case ip cs j =>
      simp only [Option.some.injEq, Prod.mk.injEq] at ha
      obtain ⟨rfl, rfl, rfl⟩ := ha
      cases hx with
      | imm hi => cases hi with
        | ip xs hb hc' hv => exact ⟨_, _, W, φ, rfl, .inl rfl, Ext.refl _, h, .imm (.ip xs hb hc' hv)⟩
    case f fn us cs =>
      cases fn <;> simp only at ha <;> try (cases ha; done)
      rename_i g
      simp only [Option.some.injEq, Prod.mk.injEq] at ha
      obtain ⟨rfl, rfl, rfl⟩ := ha
      cases hx with
      | imm hi => cases hi
      | f h1 h2 h3 h4 => exact ⟨_, _, W, φ, rfl, .inl rfl, Ext.refl _, h, .f h1 h2 h3 h4⟩
  case binOp op t x y t' => exact keepV ha fun c u hr hc => aBin_ok ht (ev' x) (ev' y) hr hc x y
  case unOp op t x => exact keepV ha fun c u hr hc => aUn_ok (ev' x) hr
  case convert s d x =>
    split at ha
    · rename_i r hr0
      exact keepV ha fun c u hr hc => aConv_ok ht (ev' x) (hr0.trans hr)
    · exact keepV ha fun c u hr hc => aConvS_ok ht h.sim (ev' x) hr hc
  case makeFunc fn us cs =>
    simp only [Option.some.injEq, Prod.mk.injEq] at ha
    obtain ⟨rfl, rfl, rfl⟩ := ha
    obtain ⟨a1, a2⟩ := map_rel h ds us.toList
    obtain ⟨b1, b2⟩ := map_rel h ds cs.toList
    refine ⟨_, _, W, φ, rfl, .inl rfl, Ext.refl _, h, ?_⟩
    have := VR.f (fn := fn) a1 a2 b1 b2
    have e1 : ∀ zs : Array Operand, zs.map (Act.mk tmps ds).eval = (zs.toList.map (Act.mk tmps ds).eval).toArray := fun zs => by rw [← Array.toList_map]
    rw [e1 us, e1 cs]; exact this
  case makeSlice t l c' =>
    cases hs : sameOp l c' with
    | false => simp [hs] at ha
    | true =>
      obtain rfl := sameOp_eq hs
      simp only [hs] at ha
      obtain ⟨y, W', φ', r1, rx, r2, r3⟩ := aMake_ok (P := P) ht h (ev' l) ha hc
      exact ⟨_, y, W', φ', run_v r1, .inl rfl, rx, r2, r3⟩
  case slice t x lo hi mx =>
    obtain ⟨l1, l2⟩ := opt_rel h ds lo
    obtain ⟨h1, h2⟩ := opt_rel h ds hi
    obtain ⟨m1, m2⟩ := opt_rel h ds mx
    split at ha
    · cases ha
    · rename_i m h'
      split at ha
      · rename_i hz
        obtain ⟨rfl, k, k', rfl, rfl⟩ := isZO_eq hz
        exact keepV ha fun c u hr hc => aSliceZ_ok ht (ev' x) hr
      · exact keepV ha fun c u hr hc => aSlice_ok ht (ev' x) l1 l2 h1 h2 m1 m2 (fun _ hh => by cases hh) hr hc
    · rename_i hne _
      refine keepV ha fun c u hr hc => aSlice_ok ht (ev' x) l1 l2 h1 h2 m1 m2 (fun hm hh => ?_) hr hc
      cases mx with
      | none => exact hm rfl
      | some m => cases hi with
        | none => exact hne m rfl rfl
        | some _ => cases hh
  case fieldAddr s x k => exact keepV ha fun c u hr hc => aFieldAddr_ok ht (ev' x) hr
  case field t x k => exact keepV ha fun c u hr hc => aField_ok ht (ev' x) hr
  case indexAddr t x i => exact keepV ha fun c u hr hc => aIndexAddr_ok ht (ev' x) (ev' i) hr hc
  case index t x i => exact keepV ha fun c u hr hc => aIndex_ok ht (ev' x) (ev' i) hr hc
  case extract x k => exact keepV ha fun c u hr hc => aExtract_ok (ev' x) hr
  case makeMap t r =>
    cases r with
    | some x => cases ha
    | none =>
      simp only [Option.some.injEq, Prod.mk.injEq] at ha
      obtain ⟨rfl, rfl, rfl⟩ := ha
      obtain ⟨y, W', φ', r1, rx, r2, r3⟩ := aMapNew_ok (P := P) h t
      exact ⟨_, y, W', φ', run_v r1, .inl rfl, rx, r2, r3⟩
  case lookup t x k co => exact keepV ha fun c u hr hc => aLookupW_ok ht h.sim (ev' x) (ev' k) hr hc
  case mapUpdate t x k v =>
    split at ha
    case h_2 => cases ha
    rename_i c1 s1 h1
    simp only [Option.some.injEq, Prod.mk.injEq] at ha
    obtain ⟨rfl, rfl, rfl⟩ := ha
    obtain ⟨W', r1, r2⟩ := aMapSetW_ok (P := P) ht h (ev' x) (ev' k) (ev' v) h1 hc
    exact ⟨.skip, undef, W', φ, by simp only [Sem.run_bind, r1, Result.andThen_ok, Sem.run_pure], .inr ⟨rfl, rfl⟩, Ext.refl _, r2, .dead _⟩
  case range t x =>
    split at ha
    case h_2 => cases ha
    rename_i u1 s1 h1
    simp only [Option.some.injEq, Prod.mk.injEq] at ha
    obtain ⟨rfl, rfl, rfl⟩ := ha
    obtain ⟨y, W', φ', r1, rx, r2, r3⟩ := aRange_ok (P := P) ht h (ev' x) h1
    exact ⟨_, y, W', φ', run_v r1, .inl rfl, rx, r2, r3⟩
  case entry x => exact keepV ha fun c u hr hc => aEntry_ok h.sim (ev' x) hr hc
  case call cl =>
    have hargs : cl.args.map (Act.mk tmps ds).eval = (cl.args.toList.map (Act.mk tmps ds).eval).toArray := by rw [← Array.toList_map]
    have res : ∀ b, cl.callee = .builtin b → (do let d ← resolve (Act.mk tmps ds).eval cl type; invoke d.target d.args : Sem Next) = builtin b cl.argTypes type (cl.args.map fun | .const _ => true | _ => false) (cl.args.toList.map (Act.mk tmps ds).eval).toArray := by
      intro b hb
      unfold resolve
      rw [hb, hargs]
      rfl
    split at ha
    · rename_i hcal
      rw [res _ hcal]
      split at ha
      case h_2 => cases ha
      rename_i t x ht' hx'
      rw [hx']
      have e : cl.argTypes = #[t] := by rw [← ht']
      rw [e]
      simp only [List.map_cons, List.map_nil]
      exact keepV ha fun c u hr hc => aLen_ok ht (ev' x) hr
    · rename_i hcal
      rw [res _ hcal]
      split at ha
      case h_2 => cases ha
      rename_i t x ht' hx'
      rw [hx']
      have e : cl.argTypes = #[t] := by rw [← ht']
      rw [e]
      simp only [List.map_cons, List.map_nil]
      exact keepV ha fun c u hr hc => aCap_ok ht (ev' x) hr
    · rename_i hcal
      rw [res _ hcal]
      split at ha
      case h_2 => cases ha
      rename_i t t' x y ht' hx'
      rw [hx']
      have e : cl.argTypes = #[t, t'] := by rw [← ht']
      rw [e]
      simp only [List.map_cons, List.map_nil]
      split at ha
      · rename_i htt
        obtain rfl := Nat.eq_of_beq_eq_true htt
        obtain ⟨z, W', φ', r1, rx, r2, r3⟩ := aAppV_ok (P := P) (ty := type) ht h (ev' x) (ev' y) ha hc
        exact ⟨_, z, W', φ', run_v r1, .inl rfl, rx, r2, r3⟩
      · obtain ⟨z, W', φ', r1, rx, r2, r3⟩ := aAppendZ_ok (P := P) (ty := type) ht h (ev' x) (ev' y) ha hc
        exact ⟨_, z, W', φ', run_v r1, .inl rfl, rx, r2, r3⟩
    · rename_i hcal
      rw [res _ hcal]
      split at ha
      case h_2 => cases ha
      rename_i t t' x y ht' hx'
      rw [hx']
      have e : cl.argTypes = #[t, t'] := by rw [← ht']
      rw [e]
      simp only [List.map_cons, List.map_nil]
      split at ha
      case h_2 => cases ha
      rename_i c1 s1 h1
      simp only [Option.some.injEq, Prod.mk.injEq] at ha
      obtain ⟨rfl, rfl, rfl⟩ := ha
      obtain ⟨W', r1, r2⟩ := aMapDel_ok (P := P) (t' := t') (ty := type) ht h (ev' x) (ev' y) h1 hc
      exact ⟨_, _, W', φ, run_v r1, .inl rfl, Ext.refl _, r2, .dead _⟩
    · rename_i hcal
      rw [res _ hcal]
      obtain ⟨a1, a2⟩ := map_rel h ds cl.args.toList
      exact keepV ha fun c u hr hc => aMM_ok (gt := true) a1 a2 hr cl.argTypes type
    · rename_i hcal
      rw [res _ hcal]
      obtain ⟨a1, a2⟩ := map_rel h ds cl.args.toList
      exact keepV ha fun c u hr hc => aMM_ok (gt := false) a1 a2 hr cl.argTypes type
    · cases ha
end
end Go.Proofs.Ythdeehkmlaejfaa.E
/- The engine, part 15b: roots that are made in a place that is kept for them. -/
namespace Go.Proofs.Ythdeehkmlaejfaa.E
open Go
set_option linter.unusedSimpArgs false
set_option linter.unusedVariables false

/-- A value that names the new root, by the new root's name. -/
def atR (l : Nat) : AV → AV
  | .p _ off => .p l off
  | .s _ sz o n => .s l sz o n
  | u => u

theorem Rel.newObjS {F0 : Nat → Nat → Prop} {W0 : World} {R : Nat → Prop} {φ : Phi} {σ : St} {f : List AV} {tmps : Array Value} {W : World} (h : Rel F0 W0 R φ σ f tmps W) {l : Nat} (hsl : σ[l]? = some .free) (o : Obj) {B : Blk}
    (hB : BlkOk R (upd φ l (some (W.heap.size, 0))) (W.alloc o) l B) :
    Rel F0 W0 R (upd φ l (some (W.heap.size, 0))) (σ.set l (B)) f tmps (W.alloc o) := by
  have hnone : φ l = none := h.sim.blk l _ hsl
  refine Rel.turn h (l := l) (src := l) (B' := B) (G := fun _ _ => False) (Keep.alloc _ W _) (upd_ext _ hnone) (fun m hm h => upd_none hm h) (fun b k hg => hg.elim) hB (fun b k hw => ?_) (fun m B0 e => ?_) fun m hm => ?_
  · refine .inr ?_
    cases B with
    | lit cs => obtain ⟨o, e, _⟩ := hw; rw [upd_same] at e; obtain ⟨rfl, rfl⟩ := Prod.mk.inj (Option.some.inj (Option.some.inj e)); exact Nat.le_refl _
    | tab sz n get => obtain ⟨o, e⟩ := hw; rw [upd_same] at e; obtain ⟨rfl, rfl⟩ := Prod.mk.inj (Option.some.inj (Option.some.inj e)); exact Nat.le_refl _
    | lrec e => have e : upd φ l (some (W.heap.size, 0)) l = some (some (b, 0)) := hw; rw [upd_same] at e; obtain ⟨rfl, _⟩ := Prod.mk.inj (Option.some.inj (Option.some.inj e)); exact Nat.le_refl _
    | held => have e : upd φ l (some (W.heap.size, 0)) l = some (some (b, 0)) := hw; rw [upd_same] at e; obtain ⟨rfl, _⟩ := Prod.mk.inj (Option.some.inj (Option.some.inj e)); exact Nat.le_refl _
    | gone => exact hw.elim
    | free => exact hw.elim
    | tabv sz n get => obtain ⟨o, e⟩ := hw; rw [upd_same] at e; obtain ⟨rfl, rfl⟩ := Prod.mk.inj (Option.some.inj (Option.some.inj e)); exact Nat.le_refl _
    | map es c => have e : upd φ l (some (W.heap.size, 0)) l = some (some (b, 0)) := hw; rw [upd_same] at e; obtain ⟨rfl, _⟩ := Prod.mk.inj (Option.some.inj (Option.some.inj e)); exact Nat.le_refl _
    | iter m s seen st => have e : upd φ l (some (W.heap.size, 0)) l = some (some (b, 0)) := hw; rw [upd_same] at e; obtain ⟨rfl, _⟩ := Prod.mk.inj (Option.some.inj (Option.some.inj e)); exact Nat.le_refl _
  · by_cases hm : m = l
    · subst hm; exact .inl ⟨rfl, set_get_self e⟩
    · exact .inr (.inr ⟨hm, hm, set_get e hm⟩)
  · rw [List.length_set] at hm
    exact upd_none (fun e => by subst e; rw [List.getElem?_eq_none hm] at hsl; cases hsl) (h.sim.dom m hm)

theorem Rel.newS {F0 : Nat → Nat → Prop} {W0 : World} {R : Nat → Prop} {φ : Phi} {σ : St} {f : List AV} {tmps : Array Value} {W : World} (h : Rel F0 W0 R φ σ f tmps W) {l : Nat} (hsl : σ[l]? = some .free) (c : Array Value) (T : TypeId) {B : Blk}
    (hB : BlkOk R (upd φ l (some (W.heap.size, 0))) (W.alloc (.cells c T)) l B) :
    Rel F0 W0 R (upd φ l (some (W.heap.size, 0))) (σ.set l (B)) f tmps (W.alloc (.cells c T)) := h.newObjS hsl _ hB


theorem Rel.newLitS {F0 : Nat → Nat → Prop} {W0 : World} {R : Nat → Prop} {φ : Phi} {σ : St} {f : List AV} {tmps : Array Value} {W : World} (h : Rel F0 W0 R φ σ f tmps W) {l : Nat} (hsl : σ[l]? = some .free) {cs : List AV} {vs : List Value} (T : TypeId)
    (hl : cs.length = vs.length) (hv : ∀ (k : Nat) (u : AV) (x : Value), cs[k]? = some u → vs[k]? = some x → VR R φ W u x) :
    Rel F0 W0 R (upd φ l (some (W.heap.size, 0))) (σ.set l (.lit cs)) f tmps (W.alloc (.cells vs.toArray T)) := by
  refine h.newS hsl vs.toArray T ⟨W.heap.size, 0, upd_same _ _ _, Free.new W _ _, fun k u hu => ?_⟩
  obtain ⟨x, hx⟩ := vs_get hl hu
  refine ⟨x, by first | (rw [Nat.zero_add, World.cell?_alloc_new]; done) | (rw [Nat.zero_add, World.cell?_alloc_new]; simpa using hx), ?_⟩
  have hc : Calm R W (W.alloc (.cells vs.toArray T)) := (Keep.alloc (fun _ _ => False) W _).calm fun _ _ h => h.elim
  exact (hv k u x hu hx).mono (fun _ hb => hb) hc (Keep.alloc (fun _ _ => False) W _).room_le (upd_ext _ (h.sim.blk l _ hsl))


theorem aBox_okS {P : Program} {F0 : Nat → Nat → Prop} {W0 : World} {R : Nat → Prop} {φ : Phi} {σ : St} {f : List AV} {tmps : Array Value} {W : World} (h : Rel F0 W0 R φ σ f tmps W) {l : Nat} (hsl : σ[l]? = some .free) {x : AV} {v : Value} (hx : VR R φ W x v)
    {u : AV} {B : Blk} (ha : aBox x [] = some (u, [B])) (T : TypeId) : ∃ y W' φ', (Instr.box T v).run P W = .ok y W' ∧ Ext φ φ' ∧ Rel F0 W0 R φ' (σ.set l B) f tmps W' ∧ VR R φ' W' (atR l u) y := by
  unfold aBox at ha
  cases hc : cellsOf x with
  | none => simp [hc] at ha
  | some cs =>
    simp only [hc, Option.some.injEq, Prod.mk.injEq, List.nil_append, List.cons.injEq, and_true] at ha
    obtain ⟨rfl, rfl⟩ := ha
    obtain ⟨vs, hvs, hl, hr⟩ := cellsOf_ok hx hc
    have hv : v.cells = vs.toArray := by rw [← hvs]
    refine ⟨.pointer (some ⟨W.heap.size, 0, none⟩), W.alloc (.cells vs.toArray T), upd φ l (some (W.heap.size, 0)), ?_, upd_ext _ (h.sim.blk l _ hsl), h.newLitS hsl T hl hr, ?_⟩
    · unfold Instr.box newVar newRow newObj
      simp [Sem.run, hv]
    · exact .p (b := W.heap.size) (o := 0) (upd_same _ _ _)


theorem aAlloc_okS {P : Program} {tt : List TE} (ht : TTok P tt) {F0 : Nat → Nat → Prop} {W0 : World} {R : Nat → Prop} {φ : Phi} {σ : St} {f : List AV} {tmps : Array Value} {W : World} (h : Rel F0 W0 R φ σ f tmps W) {l : Nat} (hsl : σ[l]? = some .free)
    {t : Nat} {u : AV} {B : Blk} (ha : aAlloc tt t [] = some (u, [B])) : ∃ y W' φ', (Instr.alloc t true (.tuple #[])).run P W = .ok y W' ∧ Ext φ φ' ∧ Rel F0 W0 R φ' (σ.set l B) f tmps W' ∧ VR R φ' W' (atR l u) y := by
  unfold aAlloc at ha
  cases he : look tt t with
  | none => simp [he] at ha
  | some e =>
    simp only [he] at ha
    obtain ⟨z, hz, hzc⟩ := run_zeroValue ht he W
    have hv : z.cells = e.zero.toArray := by rw [← hzc]
    have hrun : (Instr.alloc t true (.tuple #[])).run P W = .ok (.pointer (some ⟨W.heap.size, 0, none⟩)) (W.alloc (.cells e.zero.toArray t)) := by
      unfold Instr.alloc
      simp only [Sem.run_bind, hz, Result.andThen_ok]
      unfold newVar newRow newObj
      simp [Sem.run, hv]
    have lit : ∃ y W' φ', (Instr.alloc t true (.tuple #[])).run P W = .ok y W' ∧ Ext φ φ' ∧ Rel F0 W0 R φ' (σ.set l (.lit (e.zero.map .v))) f tmps W' ∧ VR R φ' W' (.p l 0) y := by
      refine ⟨_, _, upd φ l (some (W.heap.size, 0)), hrun, upd_ext _ (h.sim.blk l _ hsl), ?_, .p (b := W.heap.size) (o := 0) (upd_same _ _ _)⟩
      have := h.newLitS hsl (cs := e.zero.map .v) (vs := e.zero) t (by simp) fun k u x hu hx => by
        obtain ⟨y, hy, rfl⟩ := getElem?_map_some hu
        rw [hy] at hx; obtain rfl := Option.some.inj hx; exact .imm (.v _)
      exact this
    split at ha
    · rename_i n el htd
      cases hee : look tt el with
      | none => simp [hee] at ha
      | some ee =>
        simp only [hee] at ha
        split at ha
        · rename_i h1 h2 h3 h4
          simp only [Option.some.injEq, Prod.mk.injEq, List.nil_append, List.cons.injEq, and_true] at ha
          obtain ⟨rfl, rfl⟩ := ha
          have h1 := Nat.eq_of_beq_eq_true h1
          have h2 := Nat.le_of_ble_eq_true h2
          have h3 := Nat.le_of_ble_eq_true h3
          refine ⟨_, _, upd φ l (some (W.heap.size, 0)), hrun, upd_ext _ (h.sim.blk l _ hsl), h.newS hsl e.zero.toArray t ?_, .p (b := W.heap.size) (o := 0) (upd_same _ _ _)⟩
          refine ⟨by omega, by omega, fun k hk => ?_, .inr ⟨W.heap.size, 0, upd_same _ _ _, Free.new W _ _, fun k j u hk hu => ?_⟩⟩
          · have : (k + 1) * ee.size ≤ n * ee.size := Nat.mul_le_mul_right _ hk
            rw [Nat.succ_mul] at this
            simp; omega
          · obtain ⟨y, hy, rfl⟩ := getElem?_map_some hu
            rw [List.getElem?_take] at hy
            split at hy
            · rw [List.getElem?_drop] at hy
              exact ⟨y, by first | (rw [Nat.zero_add, World.cell?_alloc_new]; done) | (rw [Nat.zero_add, World.cell?_alloc_new]; simpa using hy), .v _, List.all_eq_true.1 h4 _ (List.mem_of_getElem? hy)⟩
            · cases hy
        · cases ha
    · simp only [Option.some.injEq, Prod.mk.injEq, List.nil_append, List.cons.injEq, and_true] at ha
      obtain ⟨rfl, rfl⟩ := ha
      exact lit

theorem Rel.newRowS {F0 : Nat → Nat → Prop} {W0 : World} {R : Nat → Prop} {φ : Phi} {σ : St} {f : List AV} {tmps : Array Value} {W : World} (h : Rel F0 W0 R φ σ f tmps W) {l : Nat} (hsl : σ[l]? = some .free) {cs : List AV} {c : Array Value} (T : TypeId) {sz n : Nat} (h0 : 0 < sz) (hn : n * sz < 281474976710656)
    (hl : cs.length = n * sz) (hs : c.size = n * sz) (hv : ∀ (k : Nat) (u : AV) (x : Value), cs[k]? = some u → c[k]? = some x → CR R W u x) :
    Rel F0 W0 R (upd φ l (some (W.heap.size, 0))) (σ.set l (.tab sz n (cut sz cs))) f tmps (W.alloc (.cells c T)) ∧
    VR R (upd φ l (some (W.heap.size, 0))) (W.alloc (.cells c T)) (.s l sz 0 n) (.slice (some ⟨W.heap.size, 0, none⟩) n n) := by
  have hcalm : Calm R W (W.alloc (.cells c T)) := (Keep.alloc (fun _ _ => False) W _).calm fun _ _ h => h.elim
  refine ⟨h.newS hsl c T ⟨h0, hn, cut_len hl, .inr ⟨W.heap.size, 0, upd_same _ _ _, Free.new W _ _, fun k j u hk hu => ?_⟩⟩, ?_⟩
  · have hu := cut_get hu
    have hlt : k * sz + j < c.size := by
      rw [hs, ← hl]
      exact (List.getElem?_eq_some_iff.1 hu).1
    refine ⟨c[k * sz + j], by rw [Nat.zero_add, World.cell?_alloc_new]; simp [hlt], (hv _ u _ hu (by simp [hlt])).mono (fun _ h => h) hcalm⟩
  · have := VR.s (R := R) (W := W.alloc (.cells c T)) (l := l) (sz := sz) (o := 0) (n := n) (cap := n) (φ := upd φ l (some (W.heap.size, 0))) (upd_same _ _ _) (Nat.le_refl _) (by
      have : room (W.alloc (.cells c T)) W.heap.size = c.size := by unfold room; rw [heap_new W _]
      rw [this, hs]; simp)
    simpa using this


theorem Rel.newRowLS {F0 : Nat → Nat → Prop} {W0 : World} {R : Nat → Prop} {φ : Phi} {σ : St} {f : List AV} {tmps : Array Value} {W : World} (h : Rel F0 W0 R φ σ f tmps W) {l : Nat} (hsl : σ[l]? = some .free) {cs : List AV} {c : Array Value} (T : TypeId) {sz n : Nat}
    (hl : cs.length = n * sz) (hs : c.size = n * sz) (hv : ∀ (k : Nat) (u : AV) (x : Value), cs[k]? = some u → c[k]? = some x → VR R φ W u x) :
    Rel F0 W0 R (upd φ l (some (W.heap.size, 0))) (σ.set l (.lit cs)) f tmps (W.alloc (.cells c T)) ∧
    VR R (upd φ l (some (W.heap.size, 0))) (W.alloc (.cells c T)) (.s l sz 0 n) (.slice (some ⟨W.heap.size, 0, none⟩) n n) := by
  have hc : c.toList.toArray = c := by simp
  refine ⟨?_, ?_⟩
  · have := h.newLitS hsl (cs := cs) (vs := c.toList) T (by rw [show c.toList.length = c.size from Array.length_toList, hl, hs]) fun k u x hu hx => hv k u x hu (by simpa using hx)
    rw [hc] at this
    exact this
  · have := VR.s (R := R) (W := W.alloc (.cells c T)) (l := l) (sz := sz) (o := 0) (n := n) (cap := n) (φ := upd φ l (some (W.heap.size, 0))) (upd_same _ _ _) (Nat.le_refl _) (by
      have : room (W.alloc (.cells c T)) W.heap.size = c.size := by unfold room; rw [heap_new W _]
      rw [this, hs]; simp)
    simpa using this


theorem aBuildSlice_okS {P : Program} {tt : List TE} (ht : TTok P tt) {F0 : Nat → Nat → Prop} {W0 : World} {R : Nat → Prop} {φ : Phi} {σ : St} {f : List AV} {tmps : Array Value} {W : World} (h : Rel F0 W0 R φ σ f tmps W) {l : Nat} (hsl : σ[l]? = some .free) {t len : Nat}
    {parts : List (Nat × AV)} {vals : List (Nat × Value)} (hl : parts.length = vals.length) (hp : ∀ (k : Nat) (p : Nat × AV) (q : Nat × Value), parts[k]? = some p → vals[k]? = some q → p.1 = q.1 ∧ VR R φ W p.2 q.2)
    {c : Bool} {u : AV} {B : Blk} (ha : aBuildSlice tt t len parts [] = some (c, u, [B])) : ∃ y W' φ', (Instr.buildSlice t len vals.toArray).run P W = .ok y W' ∧ Ext φ φ' ∧ Rel F0 W0 R φ' (σ.set l B) f tmps W' ∧ VR R φ' W' (atR l u) y := by
  unfold aBuildSlice at ha
  cases he : look tt t with
  | none => simp [he] at ha
  | some e =>
    simp only [he] at ha
    have hlk := (look_ok ht he).1
    split at ha
    case h_2 => cases ha
    rename_i el htd
    rw [htd] at hlk
    have hund : P.underlying t = some (.slice el) := hlk
    cases hee : look tt el with
    | none => simp [hee] at ha
    | some ee =>
      simp only [hee] at ha
      split at ha
      case h_2 => cases ha
      rename_i cs q1 q2 q3 q4
      have q1 := Nat.le_of_ble_eq_true q1
      have q2 := Nat.le_of_ble_eq_true q2
      have q3 := Nat.eq_of_beq_eq_true q3
      obtain ⟨z, hz, hzc⟩ := run_zeroValue ht hee W
      -- the zero cells
      obtain ⟨za, hza, hzb, hzs⟩ : ∃ za : Array Value, (len * ee.size = 0 → za = #[]) ∧ (len * ee.size ≠ 0 → za = z.cells) ∧ (zrow ee.zero (len * ee.size)).length = ((Array.range (len * ee.size)).map (za[· % za.size]!)).size ∧
          ∀ (k : Nat) (u : AV) (x : Value), (zrow ee.zero (len * ee.size))[k]? = some u → ((Array.range (len * ee.size)).map (za[· % za.size]!))[k]? = some x → VR R φ W u x := by
        by_cases h0 : len * ee.size = 0
        · exact ⟨#[], fun _ => rfl, fun h => absurd h0 h, by rw [h0]; simp [zrow], fun k u x hu => by rw [h0] at hu; simp [zrow] at hu⟩
        · exact ⟨z.cells, fun h => absurd h h0, fun _ => rfl, zrow_rel hzc _ fun _ => by omega⟩
      obtain ⟨arr, f1, f2, f3, f4⟩ := fill_ok parts vals _ _ cs hl hp hzs.1 hzs.2 q4
      have hlen : cs.length = len * ee.size := by rw [f3]; simp [zrow]
      have hrun : (Instr.buildSlice t len vals.toArray).run P W = .ok (.slice (some ⟨W.heap.size, 0, none⟩) len len) (W.alloc (.cells arr el)) := by
        unfold Instr.buildSlice
        simp only [Sem.run_bind, run_und hund, Result.andThen_ok, run_sizeOf ht hee]
        rw [if_neg (by omega)]
        by_cases h0 : len * ee.size = 0
        · rw [if_pos h0]
          rw [hza h0] at f1
          simp only [Sem.run_bind, Sem.run_pure, Result.andThen_ok, f1]
          simp [Go.newRow, newObj, Sem.run]
        · rw [if_neg h0]
          rw [hzb h0] at f1
          simp only [Sem.run_bind, Sem.run_pure, Result.andThen_ok, hz, f1]
          simp [Go.newRow, newObj, Sem.run]
      split at ha
      · rename_i hpure
        simp only [Option.some.injEq, Prod.mk.injEq, List.nil_append, List.cons.injEq, and_true] at ha
        obtain ⟨rfl, rfl, rfl⟩ := ha
        obtain ⟨g1, g2⟩ := h.newRowS hsl (cs := cs) (c := arr) el (n := len) q1 (by omega) hlen (by rw [← f2]; exact hlen) fun k u x hu hx => pureCell_ok (f4 k u x hu hx) (List.all_eq_true.1 hpure _ (List.mem_of_getElem? hu))
        exact ⟨_, _, _, hrun, upd_ext _ (h.sim.blk l _ hsl), g1, g2⟩
      · simp only [Option.some.injEq, Prod.mk.injEq, List.nil_append, List.cons.injEq, and_true] at ha
        obtain ⟨rfl, rfl, rfl⟩ := ha
        obtain ⟨g1, g2⟩ := h.newRowLS hsl (cs := cs) (c := arr) el (n := len) hlen (by rw [← f2]; exact hlen) f4
        exact ⟨_, _, _, hrun, upd_ext _ (h.sim.blk l _ hsl), g1, g2⟩


theorem aMake_okS {P : Program} {tt : List TE} (ht : TTok P tt) {F0 : Nat → Nat → Prop} {W0 : World} {R : Nat → Prop} {φ : Phi} {σ : St} {f : List AV} {tmps : Array Value} {W : World} (h : Rel F0 W0 R φ σ f tmps W) {l : Nat} (hsl : σ[l]? = some .free) {t : Nat}
    {x : AV} {v : Value} (hx : VR R φ W x v) {c : Bool} {u : AV} {B : Blk} (ha : aMake tt t x [] = some (c, u, [B])) (hc : c = true) : ∃ y W' φ', (Instr.makeSlice t v v).run P W = .ok y W' ∧ Ext φ φ' ∧ Rel F0 W0 R φ' (σ.set l B) f tmps W' ∧ VR R φ' W' (atR l u) y := by
  unfold aMake at ha
  split at ha
  case h_2 => cases ha
  rename_i e k n he
  have hlk := (look_ok ht he).1
  split at ha
  case h_2 => cases ha
  rename_i el htd
  rw [htd] at hlk
  have hund : P.underlying t = some (.slice el) := hlk
  cases hee : look tt el with
  | none => simp [hee] at ha
  | some ee =>
    simp only [hee] at ha
    split at ha
    case h_2 => cases ha
    rename_i q1 q2 q3 q4 q5
    have q1 := Nat.le_of_ble_eq_true q1
    have q2 := Nat.le_of_ble_eq_true q2
    have q3 := Nat.le_of_ble_eq_true q3
    have q4 := Nat.eq_of_beq_eq_true q4
    simp only [Option.some.injEq, Prod.mk.injEq, List.nil_append, List.cons.injEq, and_true] at ha
    obtain ⟨rfl, rfl, rfl⟩ := ha
    simp only [Bool.and_eq_true, decide_eq_true_eq] at hc
    obtain ⟨c0, c1⟩ := hc
    have c1 := Nat.le_of_ble_eq_true c1
    obtain rfl := hx.val
    obtain ⟨i, z, hi, hsz, hby, hz, hzc⟩ := run_typeInfo ht hee W
    obtain ⟨z', hz', hzc'⟩ := run_zeroValue ht hee W
    obtain ⟨m, rfl⟩ := Int.eq_ofNat_of_zero_le c0
    have hm : m < 1073741824 := by omega
    have hw : IntKind.i64.wrap (m : Int) = m := by rw [IntKind.wrap_i64]; omega
    have hbig : m * ee.size < 281474976710656 := Nat.lt_of_le_of_lt (Nat.mul_le_mul (Nat.le_of_lt hm) q2) (by decide)
    have hb1 : (i.bytes : Int) * (m : Int) ≤ 281474976710656 := by
      have : i.bytes * m ≤ 32768 * 1073741824 := Nat.mul_le_mul (by omega) (by omega)
      have h2 : ((i.bytes * m : Nat) : Int) ≤ ((32768 * 1073741824 : Nat) : Int) := by exact_mod_cast this
      rw [Int.natCast_mul] at h2
      omega
    -- the zero cells
    obtain ⟨za, hza, hzb, hzs1, hzs2⟩ : ∃ za : Array Value, (m * ee.size = 0 → za = #[]) ∧ (m * ee.size ≠ 0 → za = z'.cells) ∧ (zrow ee.zero (m * ee.size)).length = ((Array.range (m * ee.size)).map (za[· % za.size]!)).size ∧
        ∀ (k : Nat) (u : AV) (x : Value), (zrow ee.zero (m * ee.size))[k]? = some u → ((Array.range (m * ee.size)).map (za[· % za.size]!))[k]? = some x → VR R φ W u x := by
      by_cases h0 : m * ee.size = 0
      · exact ⟨#[], fun _ => rfl, fun h => absurd h0 h, by rw [h0]; simp [zrow], fun k u x hu => by rw [h0] at hu; simp [zrow] at hu⟩
      · exact ⟨z'.cells, fun h => absurd h h0, fun _ => rfl, zrow_rel hzc' _ fun _ => by omega⟩
    have hscal : ∀ x ∈ zrow ee.zero (m * ee.size), pureCell x = true := by
      intro x hx
      unfold zrow at hx
      obtain ⟨j, hj, rfl⟩ := List.mem_map.1 hx
      have hlt : j % ee.zero.length < ee.zero.length := Nat.mod_lt _ (by omega)
      simp only [pureCell]
      rw [List.getD_eq_getElem?_getD, List.getElem?_eq_getElem hlt]
      exact List.all_eq_true.1 q5 _ (List.getElem_mem hlt)
    obtain ⟨g1, g2⟩ := h.newRowS hsl (cs := zrow ee.zero (m * ee.size)) (c := (Array.range (m * ee.size)).map (za[· % za.size]!)) el (n := m) q1 hbig (by simp [zrow]) (by simp) fun k u x hu hx => pureCell_ok (hzs2 k u x hu hx) (hscal u (List.mem_of_getElem? hu))
    have hrun : (Instr.makeSlice t (.int k (m : Int)) (.int k (m : Int))).run P W = .ok (.slice (some ⟨W.heap.size, 0, none⟩) m m) (W.alloc (.cells ((Array.range (m * ee.size)).map (za[· % za.size]!)) el)) := by
      unfold Instr.makeSlice
      have r1 : ∀ k : IntKind, (asInt (.int k (m : Int))).run P W = .ok (m : Int) W := fun k => by simp [asInt, asIntOf_int]
      simp only [Sem.run_bind, run_und hund, Result.andThen_ok, r1, hi, hw]
      have t1 : ¬ ((m : Int) < 0) := by omega
      have t2 : ¬ ((i.bytes : Int) * (m : Int) > 2 ^ 48) := by omega
      simp only [t1, t2, decide_false, Bool.or_false, Bool.false_or, Int.lt_irrefl, Bool.false_eq_true, if_false, gt_iff_lt, Int.toNat_natCast]
      have ask : ∀ b : Nat, (askRoom b).run P W = .ok () W := fun b => by unfold askRoom; split <;> simp [mark, Sem.run]
      simp only [Sem.run_bind, Sem.run_pure, Result.andThen_ok, ask, run_sizeOf ht hee]
      by_cases h0 : m * ee.size = 0
      · rw [if_pos h0, hza h0]
        simp [Go.newRow, newObj, Sem.run]
      · rw [if_neg h0, hzb h0]
        simp [hz', Go.newRow, newObj, Sem.run]
    cases hq : litQ ee (m : Int).toNat with
    | true =>
      simp only []
      obtain ⟨l1, l2⟩ := h.newRowLS hsl (cs := zrow ee.zero (m * ee.size)) (c := (Array.range (m * ee.size)).map (za[· % za.size]!)) el (sz := ee.size) (n := m) (by simp [zrow]) (by simp) hzs2
      exact ⟨.slice (some ⟨W.heap.size, 0, none⟩) m m, _, _, hrun, upd_ext _ (h.sim.blk l _ hsl), l1, l2⟩
    | false =>
    simp only []
    refine ⟨.slice (some ⟨W.heap.size, 0, none⟩) m m, _, _, hrun, upd_ext _ (h.sim.blk l _ hsl), ?_, g2⟩
    · -- the rows read as zero rows
      have hfun : Rel F0 W0 R (upd φ l (some (W.heap.size, 0))) (σ.set l (.tab ee.size m fun _ => ee.zero.map .v)) f tmps (W.alloc (.cells ((Array.range (m * ee.size)).map (za[· % za.size]!)) el)) := by
        have hcalm : Calm R W (W.alloc (.cells ((Array.range (m * ee.size)).map (za[· % za.size]!)) el)) := (Keep.alloc (fun _ _ => False) W _).calm fun _ _ h => h.elim
        refine h.newS hsl _ el ⟨q1, hbig, fun k _ => by simp [q4], .inr ⟨W.heap.size, 0, upd_same _ _ _, Free.new W _ _, fun k j u hk hu => ?_⟩⟩
        have hj : j < ee.size := by
          rcases Nat.lt_or_ge j (ee.zero.map AV.v).length with g | g
          · simpa [q4] using g
          · rw [List.getElem?_eq_none g] at hu; cases hu
        have hkj : k * ee.size + j < m * ee.size := by
          have : (k + 1) * ee.size ≤ m * ee.size := Nat.mul_le_mul_right _ hk
          rw [Nat.succ_mul] at this; omega
        have hz0 : (zrow ee.zero (m * ee.size))[k * ee.size + j]? = some u := by
          unfold zrow
          rw [List.getElem?_map, List.getElem?_range hkj]
          simp only [Option.map_some]
          obtain ⟨y, hy, rfl⟩ := getElem?_map_some hu
          rw [q4, Nat.mul_comm k, Nat.mul_add_mod, Nat.mod_eq_of_lt hj, List.getD_eq_getElem?_getD, hy]
          rfl
        have hlt : k * ee.size + j < ((Array.range (m * ee.size)).map (za[· % za.size]!)).size := by simpa using hkj
        refine ⟨_, by rw [Nat.zero_add, World.cell?_alloc_new]; exact Array.getElem?_eq_getElem hlt, (pureCell_ok (hzs2 _ u _ hz0 (Array.getElem?_eq_getElem hlt)) (hscal u (List.mem_of_getElem? hz0))).mono (fun _ h => h) hcalm⟩
      simpa using hfun

end Go.Proofs.Ythdeehkmlaejfaa.E
