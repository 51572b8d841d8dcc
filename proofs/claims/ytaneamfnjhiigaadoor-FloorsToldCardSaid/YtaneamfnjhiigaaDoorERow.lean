/- The engine, part 28: a law's arguments, of whatever flat types, and its row. -/
import Derived.Test.YtaneamfnjhiigaaDoorEDec
import Derived.ProofKit
import Derived.OpenShut
import Derived.ShutString
import Derived.ChangeOld
import Derived.Below
import Derived.SizedLaws
import Derived.Carry
namespace Go.Proofs.YtaneamfnjhiigaaDoor.E
open Go Go.RowKit Go.ChangeShapes Go.WideShapes
set_option linter.unusedSimpArgs false
set_option linter.unusedVariables false

/-- Cells of a struct, field by field. -/
def wtS (w : Nat → List AV → Prop) : List Nat → List AV → Prop
  | [], us => us = []
  | t :: ts, us => ∃ p q, us = p ++ q ∧ w t p ∧ wtS w ts q
/-- Cells of a type. -/
def wt (tt : List TE) : Nat → Nat → List AV → Prop
  | 0, _, _ => False
  | n + 1, t, us => match look tt t with
    | none => False
    | some e => match e.td with
      | .bool => ∃ b, us = [boo b]
      | .int k => ∃ z, us = [.v (.int k z)] ∧ (Lit.int k z).wf = true
      | .string => ∃ s : ByteArray, us = [.v (.string s)] ∧ s.size < 140737488355328
      | .slice el => match look tt el with
        | some ee => ∃ m g, us = [.i ee.size m g] ∧ m * ee.size < 281474976710656 ∧ (∀ k, k < m → wt tt n el (g k)) ∧ ∀ k, m ≤ k → g k = ee.zero.map AV.v
        | none => False
      | .struct flds => wtS (wt tt n) (flds.map (·.1)) us
      | _ => False

def tiles (tt : List TE) : List (Nat × Nat) → Nat → Option Nat
  | [], off => some off
  | (t, o) :: l, off => match look tt t with
    | some e => match Nat.beq o off with | true => tiles tt l (off + e.size) | false => none
    | none => none
/-- Types whose values are whole numbers, truths, texts, rows, and structs of such. -/
def flatT (tt : List TE) : Nat → Nat → Bool
  | 0, _ => false
  | n + 1, t => match look tt t with
    | none => false
    | some e => match e.td with
      | .bool => true
      | .int _ => true
      | .string => true
      | .slice el => match look tt el with
        | some ee => Nat.blt 0 ee.size && (Nat.ble ee.size ee.bytes && flatT tt n el)
        | none => false
      | .struct flds => (match tiles tt flds 0 with | some z => Nat.beq z e.size | none => false) && flds.all fun p => flatT tt n p.1
      | _ => false

theorem look_cells {P : Program} {tt : List TE} (h : TTok P tt) {t : Nat} {e : TE} (he : look tt t = some e) : P.cellsOf t = e.size ∧ P.bytesOf t = e.bytes := by
  obtain ⟨_, i, z, h1, h2, h3, _⟩ := look_ok h he
  exact ⟨by simp [Program.cellsOf, h1, h2], by simp [Program.bytesOf, h1, h3]⟩

theorem mapM_get {α β : Type} {f : α → Option β} : ∀ {l : List α} {r : List β}, l.mapM f = some r → r.length = l.length ∧ ∀ (k : Nat) (x : α), l[k]? = some x → f x = r[k]? := by
  intro l
  induction l with
  | nil => intro r h; simp at h; subst h; exact ⟨rfl, fun k x h => by simp at h⟩
  | cons a l ih =>
    intro r h
    rw [List.mapM_cons] at h
    cases hf : f a with
    | none => simp [hf] at h
    | some b =>
      cases hl : l.mapM f with
      | none => simp [hf, hl] at h
      | some r' =>
        simp [hf, hl] at h
        subst h
        obtain ⟨e1, e2⟩ := ih hl
        refine ⟨by simp [e1], fun k x hk => ?_⟩
        cases k with
        | zero => simp at hk; subst hk; simpa using hf
        | succ k => simpa using e2 k x (by simpa using hk)
theorem cells_get {W : World} {base n : Nat} {a : Addr} {l : List Value} (h : W.cells? base a n = some l) : l.length = n ∧ ∀ j, j < n → W.cell? (a.add j) = l[j]? := by
  unfold World.cells? at h
  split at h
  · obtain ⟨e1, e2⟩ := mapM_get h
    exact ⟨by simpa using e1, fun j hj => e2 j j (List.getElem?_range hj)⟩
  · cases h
theorem cell_none {W : World} {b o : Nat} {sp : Option Nat} {x : Value} (h : W.cell? ⟨b, o, sp⟩ = some x) : sp = none ∧ b < W.heap.size := by
  unfold World.cell? at h
  cases hh : W.heap[b]? with
  | none => simp [hh] at h
  | some ob =>
    refine ⟨?_, (Array.getElem?_eq_some_iff.1 hh).1⟩
    cases sp with
    | none => rfl
    | some z => simp [hh] at h; cases ob <;> simp at h

section
variable {P : Program} {tt : List TE} (ht : TTok P tt) {W : World} {H : Type} {enc : TypeId × Value → H}
include ht

/-- The cells of the fields, one behind the other. -/
theorem trod_fields {n : Nat} {cs : List Value} (ih : ∀ t, flatT tt n t = true → ∀ fuel cs d ps, DataW.trod enc P W 0 (fun _ => true) true fuel t cs = some (d, ps) → (∀ x ∈ d.weights P t, x ≤ reachBytes) →
      ∃ us, wt tt n t us ∧ us.length = cs.length ∧ ∀ (k : Nat) (u : AV) (x : Value), us[k]? = some u → cs[k]? = some x → CR (fun b => b < W.heap.size) W u x) :
    ∀ (l : List (Nat × Nat)) (off : Nat), tiles tt l off = some cs.length → (l.all fun p => flatT tt n p.1) = true → (∀ p ∈ l, ∃ fuel d ps, DataW.trod enc P W 0 (fun _ => true) true fuel p.1 ((cs.drop p.2).take (P.cellsOf p.1)) = some (d, ps) ∧ ∀ x ∈ d.weights P p.1, x ≤ reachBytes) →
      off ≤ cs.length ∧ ∃ us, wtS (wt tt n) (l.map (·.1)) us ∧ off + us.length = cs.length ∧ ∀ (k : Nat) (u : AV) (x : Value), us[k]? = some u → cs[off + k]? = some x → CR (fun b => b < W.heap.size) W u x := by
  intro l
  induction l with
  | nil => intro off h _ _; obtain rfl := Option.some.inj h; exact ⟨Nat.le_refl _, [], rfl, by simp, fun k u x h => by simp at h⟩
  | cons p l ihl =>
    intro off h hfl hp
    obtain ⟨t, o⟩ := p
    simp only [tiles] at h
    split at h
    case h_2 => cases h
    rename_i e he
    split at h
    case h_2 => cases h
    rename_i ho
    obtain rfl := Nat.eq_of_beq_eq_true ho
    simp only [List.all_cons, Bool.and_eq_true] at hfl
    obtain ⟨hle, us, h1, h2, h3⟩ := ihl _ h hfl.2 fun p hm => hp p (List.mem_cons_of_mem _ hm)
    obtain ⟨fuel, d, ps, g1, g2⟩ := hp (t, o) (List.mem_cons_self)
    obtain ⟨us0, k1, k2, k3⟩ := ih t hfl.1 fuel _ d ps g1 g2
    obtain ⟨c1, _⟩ := look_cells ht he
    have hlen : us0.length = e.size := by rw [k2, c1]; simp; omega
    refine ⟨by omega, us0 ++ us, ⟨us0, us, rfl, k1, h1⟩, by simp [hlen]; omega, fun k u x hu hx => ?_⟩
    rw [List.getElem?_append] at hu
    split at hu
    · rename_i hk
      refine k3 k u x hu ?_
      rw [c1, List.getElem?_take_of_lt (by omega), List.getElem?_drop]; exact hx
    · rename_i hk
      refine h3 (k - us0.length) u x hu ?_
      rw [show o + e.size + (k - us0.length) = o + k by omega]; exact hx

/-- What a value of a flat type is told as. -/
theorem trod_wt : ∀ n t, flatT tt n t = true → ∀ fuel cs d ps, DataW.trod enc P W 0 (fun _ => true) true fuel t cs = some (d, ps) → (∀ x ∈ d.weights P t, x ≤ reachBytes) →
    ∃ us, wt tt n t us ∧ us.length = cs.length ∧ ∀ (k : Nat) (u : AV) (x : Value), us[k]? = some u → cs[k]? = some x → CR (fun b => b < W.heap.size) W u x := by
  intro n
  induction n with
  | zero => intro t h; simp [flatT] at h
  | succ n ih =>
    intro t hfl fuel cs d ps h hw
    have one : ∀ {u : AV} {x : Value}, cs = [x] → CR (fun b => b < W.heap.size) W u x → wt tt (n + 1) t [u] → ∃ us, wt tt (n + 1) t us ∧ us.length = cs.length ∧ ∀ (k : Nat) (u : AV) (x : Value), us[k]? = some u → cs[k]? = some x → CR (fun b => b < W.heap.size) W u x := by
      intro u x hcs hc hwt
      refine ⟨[u], hwt, by rw [hcs]; rfl, fun k u' x' hu hx => ?_⟩
      rw [hcs] at hx
      cases k with
      | zero => simp at hu hx; subst hu hx; exact hc
      | succ k => simp at hu
    simp only [flatT] at hfl
    cases he : look tt t with
    | none => simp [he] at hfl
    | some e =>
      obtain ⟨htd, _⟩ := look_ok ht he
      simp only [he] at hfl
      cases td : e.td with
      | bool =>
        rw [td] at htd
        obtain ⟨b, rfl, _⟩ := DataW.trod_bool htd h
        exact one rfl ⟨.v _, rfl⟩ (by simp only [wt, he, td]; exact ⟨b, rfl⟩)
      | int k =>
        rw [td] at htd
        obtain ⟨z, rfl, _, hwf⟩ := DataW.trod_int htd h
        exact one rfl ⟨.v _, rfl⟩ (by simp only [wt, he, td]; exact ⟨z, rfl, hwf⟩)
      | string =>
        rw [td] at htd
        obtain ⟨s, rfl, hx, _⟩ := DataW.trod_string htd h
        have hs : s.size < 140737488355328 := by
          obtain ⟨rfl, _⟩ := Prod.mk.inj hx
          have := hw s.data.toList.length (by simp [DataW.weights])
          have h2 := reachBytes_lt
          have h3 : s.data.toList.length = s.size := by rw [Array.length_toList]; rfl
          omega
        exact one rfl ⟨.v _, rfl⟩ (by simp only [wt, he, td]; exact ⟨s, rfl, hs⟩)
      | slice el =>
        rw [td] at htd
        simp only [td] at hfl
        cases hee : look tt el with
        | none => simp [hee] at hfl
        | some ee =>
          simp only [hee, Bool.and_eq_true] at hfl
          obtain ⟨f1, f2, f3⟩ := hfl
          have f1 : 0 < ee.size := by simpa [Nat.blt_eq] using f1
          have f2 := Nat.le_of_ble_eq_true f2
          obtain ⟨c1, c2⟩ := look_cells ht hee
          have fin : ∀ m g, (m * ee.size < 281474976710656 ∧ (∀ k, k < m → wt tt n el (g k)) ∧ ∀ k, m ≤ k → g k = ee.zero.map AV.v) → wt tt (n + 1) t [.i ee.size m g] := fun m g hm => by
            simp only [wt, he, td, hee]; exact ⟨m, g, rfl, hm⟩
          rcases DataW.trod_slice htd h with ⟨rfl, _⟩ | ⟨a, len, cap, elems, rest, m, rfl, rfl, hx, _, hlc, _, hel, hget, _, _⟩
          · exact one rfl ⟨.nil _ _ _ _, rfl⟩ (fin 0 (fun _ => ee.zero.map AV.v) ⟨by omega, fun k hk => by omega, fun _ _ => rfl⟩)
          · by_cases h0 : len = 0
            · subst h0; exact one rfl ⟨.nil _ _ _ _, rfl⟩ (fin 0 (fun _ => ee.zero.map AV.v) ⟨by omega, fun k hk => by omega, fun _ _ => rfl⟩)
            · obtain ⟨rfl, _⟩ := Prod.mk.inj hx
              have htd' : P.underlying t = some (.slice el) := htd
              simp only [DataW.weights, htd'] at hw
              have hbound : len * ee.size < 281474976710656 := by
                have h1 := hw _ (List.mem_cons_self)
                have h2 := reachBytes_lt
                rw [c2] at h1
                simp only [List.length_map, hel] at h1
                have h3 : len * ee.size ≤ (len + rest.length) * ee.bytes := Nat.mul_le_mul (by omega) f2
                omega
              have each : ∀ k, k < len → ∃ us : List AV, wt tt n el us ∧ us.length = ee.size ∧ ∀ (j : Nat) (u : AV), us[j]? = some u → ∃ x, W.cell? ((a.add (k * ee.size)).add j) = some x ∧ CR (fun b => b < W.heap.size) W u x := by
                intro k hk
                have h1 := hget k hk
                rw [c1] at h1
                obtain ⟨y, hy⟩ := get?_of_lt (l := elems) (k := k) (by omega)
                rw [hy] at h1
                cases hc : W.cells? 0 (a.add (k * ee.size)) ee.size with
                | none => simp [hc] at h1
                | some l =>
                  simp only [hc, Option.bind_some] at h1
                  obtain ⟨l1, l2⟩ := cells_get hc
                  obtain ⟨us, w1, w2, w3⟩ := ih el f3 m l y.1 y.2 h1 fun x hx => hw x (List.mem_cons_of_mem _ (List.mem_append_left _ (by
                    have : ∀ (L : List (DataW H)), y.1 ∈ L → x ∈ DataW.weightsAll P el L := fun L => by
                      induction L with
                      | nil => intro h; simp at h
                      | cons z L ihL =>
                        intro h
                        simp only [DataW.weightsAll]
                        rcases List.mem_cons.1 h with rfl | h
                        · exact List.mem_append_left _ hx
                        · exact List.mem_append_right _ (ihL h)
                    exact this _ (List.mem_map.2 ⟨y, List.mem_of_getElem? hy, rfl⟩))))
                  refine ⟨us, w1, by rw [w2, l1], fun j u hu => ?_⟩
                  have hj : j < ee.size := by have := lt_of_get? hu; omega
                  obtain ⟨x, hx⟩ := get?_of_lt (l := l) (k := j) (by omega)
                  exact ⟨x, by rw [l2 j hj]; exact hx, w3 j u x hu hx⟩
              obtain ⟨b, o, sp⟩ := a
              have hsp : sp = none ∧ b < W.heap.size := by
                obtain ⟨us, _, w2, w3⟩ := each 0 (by omega)
                obtain ⟨u, hu⟩ := get?_of_lt (l := us) (k := 0) (by omega)
                obtain ⟨x, hx, _⟩ := w3 0 u hu
                simp only [Nat.zero_mul, Addr.add, if_true] at hx
                exact cell_none hx
              obtain ⟨rfl, hb⟩ := hsp
              have hg : ∃ g : Nat → List AV, (∀ k, len ≤ k → g k = ee.zero.map AV.v) ∧ ∀ k, k < len → wt tt n el (g k) ∧ (g k).length = ee.size ∧ ∀ (j : Nat) (u : AV), (g k)[j]? = some u → ∃ x, W.cell? (((⟨b, o, none⟩ : Addr).add (k * ee.size)).add j) = some x ∧ CR (fun b => b < W.heap.size) W u x :=
                ⟨fun k => if h : k < len then (each k h).choose else ee.zero.map AV.v, fun k hk => by simp only [dif_neg (show ¬ k < len by omega)], fun k hk => by simp only [hk, dif_pos]; exact (each k hk).choose_spec⟩
              obtain ⟨g, hz, hg⟩ := hg
              have cellAt : ∀ k j u, k < len → (g k)[j]? = some u → ∃ x, W.cell? ⟨b, o + (k * ee.size + j), none⟩ = some x ∧ CR (fun b => b < W.heap.size) W u x := fun k j u hk hu => by
                obtain ⟨x, hx, hc⟩ := (hg k hk).2.2 j u hu
                rw [add_none, add_none, Nat.add_assoc] at hx
                exact ⟨x, hx, hc⟩
              refine one rfl ⟨.i (fun k j => (W.cell? ⟨b, o + (k * ee.size + j), none⟩).getD undef) hb hlc (fun k hk => (hg k hk).2.1) (fun k j u hk hu => ?_) (fun k j u hk hu => ?_) (fun k j u hk hu => ?_) f1 hbound, rfl⟩ (fin len g ⟨hbound, fun k hk => (hg k hk).1, hz⟩)
              all_goals obtain ⟨x, hx, hc⟩ := cellAt k j u hk hu
              · rw [hx]; rfl
              · rw [hx]; exact hc.1
              · rw [hx]; exact hc.2
      | struct flds =>
        rw [td] at htd
        obtain ⟨fs, hu, hfl2, _⟩ := htd
        simp only [td, Bool.and_eq_true] at hfl
        obtain ⟨xs, m, rfl, hx, hlen, hxl, hget⟩ := DataW.trod_struct hu h
        obtain ⟨rfl, _⟩ := Prod.mk.inj hx
        simp only [DataW.weights, hu] at hw
        obtain ⟨c1, _⟩ := look_cells ht he
        have htl : tiles tt flds 0 = some cs.length := by
          have := hfl.1
          split at this
          · rename_i z hz; rw [hz, Nat.eq_of_beq_eq_true this, hlen, c1]
          · cases this
        obtain ⟨_, us, h1, h2, h3⟩ := trod_fields ht (cs := cs) ih flds 0 htl hfl.2 fun p hp => by
          rw [← hfl2] at hp
          obtain ⟨f, hf, rfl⟩ := List.mem_map.1 hp
          obtain ⟨i, hi⟩ := List.getElem?_of_mem hf
          have hi' : fs[i]? = some f := by simpa using hi
          have hg := hget i f hi'
          obtain ⟨y, hy⟩ := get?_of_lt (l := xs) (k := i) (by rw [hxl]; have := lt_of_get? hi; simpa using this)
          rw [hy] at hg
          refine ⟨m, y.1, y.2, hg, fun x hx => hw x (DataW.weights_mem_each (j := i) (t := f.type) (d := y.1) ?_ ?_ x hx)⟩
          · simp [hi']
          · simp [hy]
        exact ⟨us, by simp only [wt, he, td]; exact h1, by omega, fun k u x hu hx => h3 k u x hu (by simpa using hx)⟩
      | array m el => simp [td] at hfl
      | pointer el => simp [td] at hfl
      | map k el => simp [td] at hfl
      | func => simp [td] at hfl
end

theorem wf_i64 {z : Int} (h : (Lit.int .i64 z).wf = true) : -9223372036854775808 ≤ z ∧ z ≤ 9223372036854775807 := by
  simp [Lit.wf, IntKind.min, IntKind.max, IntKind.signed, IntKind.bits] at h; omega
theorem wf_u64 {z : Int} (h : (Lit.int .u64 z).wf = true) : 0 ≤ z ∧ z ≤ 18446744073709551615 := by
  simp [Lit.wf, IntKind.min, IntKind.max, IntKind.signed, IntKind.bits] at h; omega
theorem wf_u8 {z : Int} (h : (Lit.int .u8 z).wf = true) : 0 ≤ z ∧ z ≤ 255 := by
  simp [Lit.wf, IntKind.min, IntKind.max, IntKind.signed, IntKind.bits] at h; omega
theorem wf_u16 {z : Int} (h : (Lit.int .u16 z).wf = true) : 0 ≤ z ∧ z ≤ 65535 := by
  simp [Lit.wf, IntKind.min, IntKind.max, IntKind.signed, IntKind.bits] at h; omega

/-- An argument of a type. -/
def isArg (tt : List TE) (t : Nat) (u : AV) : Prop := match look tt t with
  | none => False
  | some e => match isAggD e.td with
    | true => ∃ us, wt tt 9 t us ∧ u = .a us
    | false => wt tt 9 t [u]
def areArgs (tt : List TE) : List Nat → List AV → Prop
  | [], us => us = []
  | t :: ts, us => ∃ u vs, us = u :: vs ∧ isArg tt t u ∧ areArgs tt ts vs

theorem open_arg {P : Program} {tt : List TE} (ht : TTok P tt) {W : World} {H : Type} {enc : TypeId × Value → H} {t : Nat} (hfl : flatT tt 9 t = true) {v : Value} {d : DataW H} {ps : List MemPlace} {base : Nat}
    (hval : Value.okWide P W .any base t v) (h : DataW.Trod enc P W 0 (fun _ => true) true t v d ps) (hw : ∀ x ∈ d.weights P t, x ≤ reachBytes) : ∃ u, isArg tt t u ∧ VR (fun b => b < W.heap.size) (fun _ => none) W u v := by
  obtain ⟨fuel, hf⟩ := h
  obtain ⟨us, h1, h2, h3⟩ := trod_wt ht 9 t hfl fuel _ d ps hf hw
  cases he : look tt t with
  | none => simp [flatT, he] at hfl
  | some e =>
    obtain ⟨htd, _⟩ := look_ok ht he
    unfold isArg
    simp only [he]
    have scalar : isAggD e.td = false → scal v = true → ∃ u, (match isAggD e.td with | true => ∃ us, wt tt 9 t us ∧ u = .a us | false => wt tt 9 t [u]) ∧ VR (fun b => b < W.heap.size) (fun _ => none) W u v := fun ha hs => by
      have hc : v.cells.toList = [v] := scal_cells hs
      rw [hc] at h2 h3
      match us, h2, h1, h3 with
      | [u], _, h1, h3 => exact ⟨u, by simp only [ha]; exact h1, .imm (h3 0 u v rfl rfl).1⟩
    cases td : e.td with
    | bool => rw [td] at htd; obtain ⟨b, rfl⟩ := okWide_bool htd hval; have := scalar (by rw [td]; rfl) rfl; simpa only [td] using this
    | int k => rw [td] at htd; obtain ⟨b, rfl⟩ := okWide_int htd hval; have := scalar (by rw [td]; rfl) rfl; simpa only [td] using this
    | string => rw [td] at htd; obtain ⟨b, rfl⟩ := okWide_string htd hval; have := scalar (by rw [td]; rfl) rfl; simpa only [td] using this
    | slice el => rw [td] at htd; obtain ⟨a, l, c, rfl⟩ := okWide_slice htd hval; have := scalar (by rw [td]; rfl) rfl; simpa only [td] using this
    | struct flds =>
      rw [td] at htd
      obtain ⟨fs, hu, _⟩ := htd
      obtain ⟨cs, rfl, _⟩ := okWide_struct hu hval
      simp only [isAggD]
      refine ⟨.a us, ⟨us, h1, rfl⟩, ?_⟩
      have : cs = cs.toList.toArray := by simp
      rw [this]
      exact .a (by simpa [Value.cells] using h2) fun k u x hu hx => .imm (h3 k u x hu (by simpa [Value.cells] using hx)).1
    | array m el => simp [flatT, he, td] at hfl
    | pointer el => simp [flatT, he, td] at hfl
    | map k el => simp [flatT, he, td] at hfl
    | func => simp [flatT, he, td] at hfl

/-- A law's arguments. -/
theorem open_args {P : Program} {tt : List TE} (ht : TTok P tt) {W : World} {H : Type} {enc : TypeId × Value → H} {base : Nat} : ∀ (ts : List Nat) (vs : List Value) (ds : List (DataW H)) (ps : List MemPlace), (ts.all (flatT tt 9)) = true →
    (∀ (j : Nat) t v, ts[j]? = some t → vs[j]? = some v → Value.okWide P W .any base t v) → DataW.TrodAll enc P W 0 (fun _ => true) true ts vs ds ps → (∀ x ∈ DataW.weightsEach P ts ds, x ≤ reachBytes) →
    ∃ us, areArgs tt ts us ∧ VRs (fun b => b < W.heap.size) (fun _ => none) W us vs
  | [], vs, ds, ps, _, _, h, _ => by
    obtain ⟨rfl, rfl, rfl⟩ := trodAll_nil h
    exact ⟨[], rfl, rfl, fun k u x h => by simp at h⟩
  | t :: ts, vs, ds, ps, hfl, hval, h, hw => by
    obtain ⟨v, vs', d, ds', p, q, rfl, rfl, rfl, h1, h2⟩ := trodAll_cons h
    simp only [List.all_cons, Bool.and_eq_true] at hfl
    simp only [DataW.weightsEach] at hw
    obtain ⟨u, a1, a2⟩ := open_arg ht hfl.1 (hval 0 t v rfl rfl) h1 fun x hx => hw x (List.mem_append_left _ hx)
    obtain ⟨us, b1, b2, b3⟩ := open_args ht ts vs' ds' q hfl.2 (fun j t v h1 h2 => hval (j + 1) t v (by simpa using h1) (by simpa using h2)) h2 fun x hx => hw x (List.mem_append_right _ hx)
    refine ⟨u :: us, ⟨u, us, rfl, a1, b1⟩, by simp [b2], fun k w x hw hx => ?_⟩
    cases k with
    | zero => simp at hw hx; subst hw hx; exact a2
    | succ k => exact b3 k w x (by simpa using hw) (by simpa using hx)

/-- They are as they were. -/
theorem shut_args {P : Program} (hl : laidOutB P = true) {W W' : World} {H : Type} {enc : TypeId × Value → H} (hb : Below W.heap.size W W') : ∀ (ts : List Nat) (vs : List Value) (ds : List (DataW H)) (ps : List MemPlace), (ts.all fun t => P.readableRec t && decide (t < P.types.size)) = true →
    DataW.TrodAll enc P W 0 (fun _ => true) true ts vs ds ps → DataW.TrodAll enc P W' 0 (fun b => decide (b < W.heap.size)) true ts vs ds ps
  | [], vs, ds, ps, _, h => by
    obtain ⟨rfl, rfl, rfl⟩ := trodAll_nil h
    exact trodAll_mk0
  | t :: ts, vs, ds, ps, hr, h => by
    obtain ⟨v, vs', d, ds', p, q, rfl, rfl, rfl, h1, h2⟩ := trodAll_cons h
    simp only [List.all_cons, Bool.and_eq_true, decide_eq_true_eq] at hr
    have hlt : ∀ x ∈ p, x.block < W.heap.size := by obtain ⟨m, hm⟩ := h1; exact DataW.trod_lt m _ _ _ hm
    exact trodAll_cons_mk (Below.trod hl hr.1.1 hr.1.2 h1 hb hlt) (shut_args hl hb ts vs' ds' q (by simpa using hr.2) h2)
end Go.Proofs.YtaneamfnjhiigaaDoor.E
