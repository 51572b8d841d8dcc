/- The engine, part 15b: roots that are made in a place that is kept for them. -/
import Derived.Test.YtaneamfnjhiigaaDoorEOpM
namespace Go.Proofs.YtaneamfnjhiigaaDoor.E
open Go
set_option linter.unusedSimpArgs false
set_option linter.unusedVariables false

/-- A value that names the new root, by the new root's name. -/
def atR (l : Nat) : AV → AV
  | .p _ off => .p l off
  | .s _ sz o n => .s l sz o n
  | u => u

theorem Rel.newObjS {F0 : Nat → Nat → Prop} {W0 : World} {R : Nat → Prop} {φ : Phi} {σ : St} {f : List AV} {tmps : Array Value} {W : World} (h : Rel F0 W0 R φ σ f tmps W) {l : Nat} (hsl : σ[l]? = some .free) (o : Obj) {B : Blk}
    (hB : BlkOk R (upd φ l (some (W.heap.size, 0))) (W.alloc o) l B) :
    Rel F0 W0 R (upd φ l (some (W.heap.size, 0))) (σ.set l (B)) f tmps (W.alloc o) := by
  have hnone : φ l = none := h.sim.blk l _ hsl
  refine Rel.turn h (l := l) (src := l) (B' := B) (G := fun _ _ => False) (Keep.alloc _ W _) (upd_ext _ hnone) (fun m hm h => upd_none hm h) (fun b k hg => hg.elim) hB (fun b k hw => ?_) (fun m B0 e => ?_) fun m hm => ?_
  · refine .inr ?_
    cases B with
    | lit cs => obtain ⟨o, e, _⟩ := hw; rw [upd_same] at e; obtain ⟨rfl, rfl⟩ := Prod.mk.inj (Option.some.inj (Option.some.inj e)); exact Nat.le_refl _
    | tab sz n get => obtain ⟨o, e⟩ := hw; rw [upd_same] at e; obtain ⟨rfl, rfl⟩ := Prod.mk.inj (Option.some.inj (Option.some.inj e)); exact Nat.le_refl _
    | lrec e => have e : upd φ l (some (W.heap.size, 0)) l = some (some (b, 0)) := hw; rw [upd_same] at e; obtain ⟨rfl, _⟩ := Prod.mk.inj (Option.some.inj (Option.some.inj e)); exact Nat.le_refl _
    | held => have e : upd φ l (some (W.heap.size, 0)) l = some (some (b, 0)) := hw; rw [upd_same] at e; obtain ⟨rfl, _⟩ := Prod.mk.inj (Option.some.inj (Option.some.inj e)); exact Nat.le_refl _
    | gone => exact hw.elim
    | free => exact hw.elim
  · by_cases hm : m = l
    · subst hm; exact .inl ⟨rfl, set_get_self e⟩
    · exact .inr (.inr ⟨hm, hm, set_get e hm⟩)
  · rw [List.length_set] at hm
    exact upd_none (fun e => by subst e; rw [List.getElem?_eq_none hm] at hsl; cases hsl) (h.sim.dom m hm)

theorem Rel.newS {F0 : Nat → Nat → Prop} {W0 : World} {R : Nat → Prop} {φ : Phi} {σ : St} {f : List AV} {tmps : Array Value} {W : World} (h : Rel F0 W0 R φ σ f tmps W) {l : Nat} (hsl : σ[l]? = some .free) (c : Array Value) (T : TypeId) {B : Blk}
    (hB : BlkOk R (upd φ l (some (W.heap.size, 0))) (W.alloc (.cells c T)) l B) :
    Rel F0 W0 R (upd φ l (some (W.heap.size, 0))) (σ.set l (B)) f tmps (W.alloc (.cells c T)) := h.newObjS hsl _ hB


theorem Rel.newLitS {F0 : Nat → Nat → Prop} {W0 : World} {R : Nat → Prop} {φ : Phi} {σ : St} {f : List AV} {tmps : Array Value} {W : World} (h : Rel F0 W0 R φ σ f tmps W) {l : Nat} (hsl : σ[l]? = some .free) {cs : List AV} {vs : List Value} (T : TypeId)
    (hl : cs.length = vs.length) (hv : ∀ (k : Nat) (u : AV) (x : Value), cs[k]? = some u → vs[k]? = some x → VR R φ W u x) :
    Rel F0 W0 R (upd φ l (some (W.heap.size, 0))) (σ.set l (.lit cs)) f tmps (W.alloc (.cells vs.toArray T)) := by
  refine h.newS hsl vs.toArray T ⟨W.heap.size, 0, upd_same _ _ _, Free.new W _ _, fun k u hu => ?_⟩
  obtain ⟨x, hx⟩ := vs_get hl hu
  refine ⟨x, by first | (rw [Nat.zero_add, World.cell?_alloc_new]; done) | (rw [Nat.zero_add, World.cell?_alloc_new]; simpa using hx), ?_⟩
  have hc : Calm R W (W.alloc (.cells vs.toArray T)) := (Keep.alloc (fun _ _ => False) W _).calm fun _ _ h => h.elim
  exact (hv k u x hu hx).mono (fun _ hb => hb) hc (Keep.alloc (fun _ _ => False) W _).room_le (upd_ext _ (h.sim.blk l _ hsl))


theorem aBox_okS {P : Program} {F0 : Nat → Nat → Prop} {W0 : World} {R : Nat → Prop} {φ : Phi} {σ : St} {f : List AV} {tmps : Array Value} {W : World} (h : Rel F0 W0 R φ σ f tmps W) {l : Nat} (hsl : σ[l]? = some .free) {x : AV} {v : Value} (hx : VR R φ W x v)
    {u : AV} {B : Blk} (ha : aBox x [] = some (u, [B])) (T : TypeId) : ∃ y W' φ', (Instr.box T v).run P W = .ok y W' ∧ Ext φ φ' ∧ Rel F0 W0 R φ' (σ.set l B) f tmps W' ∧ VR R φ' W' (atR l u) y := by
  unfold aBox at ha
  cases hc : cellsOf x with
  | none => simp [hc] at ha
  | some cs =>
    simp only [hc, Option.some.injEq, Prod.mk.injEq, List.nil_append, List.cons.injEq, and_true] at ha
    obtain ⟨rfl, rfl⟩ := ha
    obtain ⟨vs, hvs, hl, hr⟩ := cellsOf_ok hx hc
    have hv : v.cells = vs.toArray := by rw [← hvs]
    refine ⟨.pointer (some ⟨W.heap.size, 0, none⟩), W.alloc (.cells vs.toArray T), upd φ l (some (W.heap.size, 0)), ?_, upd_ext _ (h.sim.blk l _ hsl), h.newLitS hsl T hl hr, ?_⟩
    · unfold Instr.box newVar newRow newObj
      simp [Sem.run, hv]
    · exact .p (b := W.heap.size) (o := 0) (upd_same _ _ _)


theorem aAlloc_okS {P : Program} {tt : List TE} (ht : TTok P tt) {F0 : Nat → Nat → Prop} {W0 : World} {R : Nat → Prop} {φ : Phi} {σ : St} {f : List AV} {tmps : Array Value} {W : World} (h : Rel F0 W0 R φ σ f tmps W) {l : Nat} (hsl : σ[l]? = some .free)
    {t : Nat} {u : AV} {B : Blk} (ha : aAlloc tt t [] = some (u, [B])) : ∃ y W' φ', (Instr.alloc t true (.tuple #[])).run P W = .ok y W' ∧ Ext φ φ' ∧ Rel F0 W0 R φ' (σ.set l B) f tmps W' ∧ VR R φ' W' (atR l u) y := by
  unfold aAlloc at ha
  cases he : look tt t with
  | none => simp [he] at ha
  | some e =>
    simp only [he] at ha
    obtain ⟨z, hz, hzc⟩ := run_zeroValue ht he W
    have hv : z.cells = e.zero.toArray := by rw [← hzc]
    have hrun : (Instr.alloc t true (.tuple #[])).run P W = .ok (.pointer (some ⟨W.heap.size, 0, none⟩)) (W.alloc (.cells e.zero.toArray t)) := by
      unfold Instr.alloc
      simp only [Sem.run_bind, hz, Result.andThen_ok]
      unfold newVar newRow newObj
      simp [Sem.run, hv]
    have lit : ∃ y W' φ', (Instr.alloc t true (.tuple #[])).run P W = .ok y W' ∧ Ext φ φ' ∧ Rel F0 W0 R φ' (σ.set l (.lit (e.zero.map .v))) f tmps W' ∧ VR R φ' W' (.p l 0) y := by
      refine ⟨_, _, upd φ l (some (W.heap.size, 0)), hrun, upd_ext _ (h.sim.blk l _ hsl), ?_, .p (b := W.heap.size) (o := 0) (upd_same _ _ _)⟩
      have := h.newLitS hsl (cs := e.zero.map .v) (vs := e.zero) t (by simp) fun k u x hu hx => by
        obtain ⟨y, hy, rfl⟩ := getElem?_map_some hu
        rw [hy] at hx; obtain rfl := Option.some.inj hx; exact .imm (.v _)
      exact this
    split at ha
    · rename_i n el htd
      cases hee : look tt el with
      | none => simp [hee] at ha
      | some ee =>
        simp only [hee] at ha
        split at ha
        · rename_i h1 h2 h3 h4
          simp only [Option.some.injEq, Prod.mk.injEq, List.nil_append, List.cons.injEq, and_true] at ha
          obtain ⟨rfl, rfl⟩ := ha
          have h1 := Nat.eq_of_beq_eq_true h1
          have h2 := Nat.le_of_ble_eq_true h2
          have h3 := Nat.le_of_ble_eq_true h3
          refine ⟨_, _, upd φ l (some (W.heap.size, 0)), hrun, upd_ext _ (h.sim.blk l _ hsl), h.newS hsl e.zero.toArray t ?_, .p (b := W.heap.size) (o := 0) (upd_same _ _ _)⟩
          refine ⟨by omega, by omega, fun k hk => ?_, .inr ⟨W.heap.size, 0, upd_same _ _ _, Free.new W _ _, fun k j u hk hu => ?_⟩⟩
          · have : (k + 1) * ee.size ≤ n * ee.size := Nat.mul_le_mul_right _ hk
            rw [Nat.succ_mul] at this
            simp; omega
          · obtain ⟨y, hy, rfl⟩ := getElem?_map_some hu
            rw [List.getElem?_take] at hy
            split at hy
            · rw [List.getElem?_drop] at hy
              exact ⟨y, by first | (rw [Nat.zero_add, World.cell?_alloc_new]; done) | (rw [Nat.zero_add, World.cell?_alloc_new]; simpa using hy), .v _, List.all_eq_true.1 h4 _ (List.mem_of_getElem? hy)⟩
            · cases hy
        · cases ha
    · simp only [Option.some.injEq, Prod.mk.injEq, List.nil_append, List.cons.injEq, and_true] at ha
      obtain ⟨rfl, rfl⟩ := ha
      exact lit

theorem Rel.newRowS {F0 : Nat → Nat → Prop} {W0 : World} {R : Nat → Prop} {φ : Phi} {σ : St} {f : List AV} {tmps : Array Value} {W : World} (h : Rel F0 W0 R φ σ f tmps W) {l : Nat} (hsl : σ[l]? = some .free) {cs : List AV} {c : Array Value} (T : TypeId) {sz n : Nat} (h0 : 0 < sz) (hn : n * sz < 281474976710656)
    (hl : cs.length = n * sz) (hs : c.size = n * sz) (hv : ∀ (k : Nat) (u : AV) (x : Value), cs[k]? = some u → c[k]? = some x → CR R W u x) :
    Rel F0 W0 R (upd φ l (some (W.heap.size, 0))) (σ.set l (.tab sz n (cut sz cs))) f tmps (W.alloc (.cells c T)) ∧
    VR R (upd φ l (some (W.heap.size, 0))) (W.alloc (.cells c T)) (.s l sz 0 n) (.slice (some ⟨W.heap.size, 0, none⟩) n n) := by
  have hcalm : Calm R W (W.alloc (.cells c T)) := (Keep.alloc (fun _ _ => False) W _).calm fun _ _ h => h.elim
  refine ⟨h.newS hsl c T ⟨h0, hn, cut_len hl, .inr ⟨W.heap.size, 0, upd_same _ _ _, Free.new W _ _, fun k j u hk hu => ?_⟩⟩, ?_⟩
  · have hu := cut_get hu
    have hlt : k * sz + j < c.size := by
      rw [hs, ← hl]
      exact (List.getElem?_eq_some_iff.1 hu).1
    refine ⟨c[k * sz + j], by rw [Nat.zero_add, World.cell?_alloc_new]; simp [hlt], (hv _ u _ hu (by simp [hlt])).mono (fun _ h => h) hcalm⟩
  · have := VR.s (R := R) (W := W.alloc (.cells c T)) (l := l) (sz := sz) (o := 0) (n := n) (cap := n) (φ := upd φ l (some (W.heap.size, 0))) (upd_same _ _ _) (Nat.le_refl _) (by
      have : room (W.alloc (.cells c T)) W.heap.size = c.size := by unfold room; rw [heap_new W _]
      rw [this, hs]; simp)
    simpa using this


theorem Rel.newRowLS {F0 : Nat → Nat → Prop} {W0 : World} {R : Nat → Prop} {φ : Phi} {σ : St} {f : List AV} {tmps : Array Value} {W : World} (h : Rel F0 W0 R φ σ f tmps W) {l : Nat} (hsl : σ[l]? = some .free) {cs : List AV} {c : Array Value} (T : TypeId) {sz n : Nat}
    (hl : cs.length = n * sz) (hs : c.size = n * sz) (hv : ∀ (k : Nat) (u : AV) (x : Value), cs[k]? = some u → c[k]? = some x → VR R φ W u x) :
    Rel F0 W0 R (upd φ l (some (W.heap.size, 0))) (σ.set l (.lit cs)) f tmps (W.alloc (.cells c T)) ∧
    VR R (upd φ l (some (W.heap.size, 0))) (W.alloc (.cells c T)) (.s l sz 0 n) (.slice (some ⟨W.heap.size, 0, none⟩) n n) := by
  have hc : c.toList.toArray = c := by simp
  refine ⟨?_, ?_⟩
  · have := h.newLitS hsl (cs := cs) (vs := c.toList) T (by rw [show c.toList.length = c.size from Array.length_toList, hl, hs]) fun k u x hu hx => hv k u x hu (by simpa using hx)
    rw [hc] at this
    exact this
  · have := VR.s (R := R) (W := W.alloc (.cells c T)) (l := l) (sz := sz) (o := 0) (n := n) (cap := n) (φ := upd φ l (some (W.heap.size, 0))) (upd_same _ _ _) (Nat.le_refl _) (by
      have : room (W.alloc (.cells c T)) W.heap.size = c.size := by unfold room; rw [heap_new W _]
      rw [this, hs]; simp)
    simpa using this


theorem aBuildSlice_okS {P : Program} {tt : List TE} (ht : TTok P tt) {F0 : Nat → Nat → Prop} {W0 : World} {R : Nat → Prop} {φ : Phi} {σ : St} {f : List AV} {tmps : Array Value} {W : World} (h : Rel F0 W0 R φ σ f tmps W) {l : Nat} (hsl : σ[l]? = some .free) {t len : Nat}
    {parts : List (Nat × AV)} {vals : List (Nat × Value)} (hl : parts.length = vals.length) (hp : ∀ (k : Nat) (p : Nat × AV) (q : Nat × Value), parts[k]? = some p → vals[k]? = some q → p.1 = q.1 ∧ VR R φ W p.2 q.2)
    {c : Bool} {u : AV} {B : Blk} (ha : aBuildSlice tt t len parts [] = some (c, u, [B])) : ∃ y W' φ', (Instr.buildSlice t len vals.toArray).run P W = .ok y W' ∧ Ext φ φ' ∧ Rel F0 W0 R φ' (σ.set l B) f tmps W' ∧ VR R φ' W' (atR l u) y := by
  unfold aBuildSlice at ha
  cases he : look tt t with
  | none => simp [he] at ha
  | some e =>
    simp only [he] at ha
    have hlk := (look_ok ht he).1
    split at ha
    case h_2 => cases ha
    rename_i el htd
    rw [htd] at hlk
    have hund : P.underlying t = some (.slice el) := hlk
    cases hee : look tt el with
    | none => simp [hee] at ha
    | some ee =>
      simp only [hee] at ha
      split at ha
      case h_2 => cases ha
      rename_i cs q1 q2 q3 q4
      have q1 := Nat.le_of_ble_eq_true q1
      have q2 := Nat.le_of_ble_eq_true q2
      have q3 := Nat.eq_of_beq_eq_true q3
      obtain ⟨z, hz, hzc⟩ := run_zeroValue ht hee W
      -- the zero cells
      obtain ⟨za, hza, hzb, hzs⟩ : ∃ za : Array Value, (len * ee.size = 0 → za = #[]) ∧ (len * ee.size ≠ 0 → za = z.cells) ∧ (zrow ee.zero (len * ee.size)).length = ((Array.range (len * ee.size)).map (za[· % za.size]!)).size ∧
          ∀ (k : Nat) (u : AV) (x : Value), (zrow ee.zero (len * ee.size))[k]? = some u → ((Array.range (len * ee.size)).map (za[· % za.size]!))[k]? = some x → VR R φ W u x := by
        by_cases h0 : len * ee.size = 0
        · exact ⟨#[], fun _ => rfl, fun h => absurd h0 h, by rw [h0]; simp [zrow], fun k u x hu => by rw [h0] at hu; simp [zrow] at hu⟩
        · exact ⟨z.cells, fun h => absurd h h0, fun _ => rfl, zrow_rel hzc _ fun _ => by omega⟩
      obtain ⟨arr, f1, f2, f3, f4⟩ := fill_ok parts vals _ _ cs hl hp hzs.1 hzs.2 q4
      have hlen : cs.length = len * ee.size := by rw [f3]; simp [zrow]
      have hrun : (Instr.buildSlice t len vals.toArray).run P W = .ok (.slice (some ⟨W.heap.size, 0, none⟩) len len) (W.alloc (.cells arr el)) := by
        unfold Instr.buildSlice
        simp only [Sem.run_bind, run_und hund, Result.andThen_ok, run_sizeOf ht hee]
        rw [if_neg (by omega)]
        by_cases h0 : len * ee.size = 0
        · rw [if_pos h0]
          rw [hza h0] at f1
          simp only [Sem.run_bind, Sem.run_pure, Result.andThen_ok, f1]
          simp [Go.newRow, newObj, Sem.run]
        · rw [if_neg h0]
          rw [hzb h0] at f1
          simp only [Sem.run_bind, Sem.run_pure, Result.andThen_ok, hz, f1]
          simp [Go.newRow, newObj, Sem.run]
      split at ha
      · rename_i hpure
        simp only [Option.some.injEq, Prod.mk.injEq, List.nil_append, List.cons.injEq, and_true] at ha
        obtain ⟨rfl, rfl, rfl⟩ := ha
        obtain ⟨g1, g2⟩ := h.newRowS hsl (cs := cs) (c := arr) el (n := len) q1 (by omega) hlen (by rw [← f2]; exact hlen) fun k u x hu hx => pureCell_ok (f4 k u x hu hx) (List.all_eq_true.1 hpure _ (List.mem_of_getElem? hu))
        exact ⟨_, _, _, hrun, upd_ext _ (h.sim.blk l _ hsl), g1, g2⟩
      · simp only [Option.some.injEq, Prod.mk.injEq, List.nil_append, List.cons.injEq, and_true] at ha
        obtain ⟨rfl, rfl, rfl⟩ := ha
        obtain ⟨g1, g2⟩ := h.newRowLS hsl (cs := cs) (c := arr) el (n := len) hlen (by rw [← f2]; exact hlen) f4
        exact ⟨_, _, _, hrun, upd_ext _ (h.sim.blk l _ hsl), g1, g2⟩


theorem aMake_okS {P : Program} {tt : List TE} (ht : TTok P tt) {F0 : Nat → Nat → Prop} {W0 : World} {R : Nat → Prop} {φ : Phi} {σ : St} {f : List AV} {tmps : Array Value} {W : World} (h : Rel F0 W0 R φ σ f tmps W) {l : Nat} (hsl : σ[l]? = some .free) {t : Nat}
    {x : AV} {v : Value} (hx : VR R φ W x v) {c : Bool} {u : AV} {B : Blk} (ha : aMake tt t x [] = some (c, u, [B])) (hc : c = true) : ∃ y W' φ', (Instr.makeSlice t v v).run P W = .ok y W' ∧ Ext φ φ' ∧ Rel F0 W0 R φ' (σ.set l B) f tmps W' ∧ VR R φ' W' (atR l u) y := by
  unfold aMake at ha
  split at ha
  case h_2 => cases ha
  rename_i e k n he
  have hlk := (look_ok ht he).1
  split at ha
  case h_2 => cases ha
  rename_i el htd
  rw [htd] at hlk
  have hund : P.underlying t = some (.slice el) := hlk
  cases hee : look tt el with
  | none => simp [hee] at ha
  | some ee =>
    simp only [hee] at ha
    split at ha
    case h_2 => cases ha
    rename_i q1 q2 q3 q4 q5
    have q1 := Nat.le_of_ble_eq_true q1
    have q2 := Nat.le_of_ble_eq_true q2
    have q3 := Nat.le_of_ble_eq_true q3
    have q4 := Nat.eq_of_beq_eq_true q4
    simp only [Option.some.injEq, Prod.mk.injEq, List.nil_append, List.cons.injEq, and_true] at ha
    obtain ⟨rfl, rfl, rfl⟩ := ha
    simp only [Bool.and_eq_true, decide_eq_true_eq] at hc
    obtain ⟨c0, c1⟩ := hc
    have c1 := Nat.le_of_ble_eq_true c1
    obtain rfl := hx.val
    obtain ⟨i, z, hi, hsz, hby, hz, hzc⟩ := run_typeInfo ht hee W
    obtain ⟨z', hz', hzc'⟩ := run_zeroValue ht hee W
    obtain ⟨m, rfl⟩ := Int.eq_ofNat_of_zero_le c0
    have hm : m < 1073741824 := by omega
    have hw : IntKind.i64.wrap (m : Int) = m := by rw [IntKind.wrap_i64]; omega
    have hbig : m * ee.size < 281474976710656 := Nat.lt_of_le_of_lt (Nat.mul_le_mul (Nat.le_of_lt hm) q2) (by decide)
    have hb1 : (i.bytes : Int) * (m : Int) ≤ 281474976710656 := by
      have : i.bytes * m ≤ 32768 * 1073741824 := Nat.mul_le_mul (by omega) (by omega)
      have h2 : ((i.bytes * m : Nat) : Int) ≤ ((32768 * 1073741824 : Nat) : Int) := by exact_mod_cast this
      rw [Int.natCast_mul] at h2
      omega
    -- the zero cells
    obtain ⟨za, hza, hzb, hzs1, hzs2⟩ : ∃ za : Array Value, (m * ee.size = 0 → za = #[]) ∧ (m * ee.size ≠ 0 → za = z'.cells) ∧ (zrow ee.zero (m * ee.size)).length = ((Array.range (m * ee.size)).map (za[· % za.size]!)).size ∧
        ∀ (k : Nat) (u : AV) (x : Value), (zrow ee.zero (m * ee.size))[k]? = some u → ((Array.range (m * ee.size)).map (za[· % za.size]!))[k]? = some x → VR R φ W u x := by
      by_cases h0 : m * ee.size = 0
      · exact ⟨#[], fun _ => rfl, fun h => absurd h0 h, by rw [h0]; simp [zrow], fun k u x hu => by rw [h0] at hu; simp [zrow] at hu⟩
      · exact ⟨z'.cells, fun h => absurd h h0, fun _ => rfl, zrow_rel hzc' _ fun _ => by omega⟩
    have hscal : ∀ x ∈ zrow ee.zero (m * ee.size), pureCell x = true := by
      intro x hx
      unfold zrow at hx
      obtain ⟨j, hj, rfl⟩ := List.mem_map.1 hx
      have hlt : j % ee.zero.length < ee.zero.length := Nat.mod_lt _ (by omega)
      simp only [pureCell]
      rw [List.getD_eq_getElem?_getD, List.getElem?_eq_getElem hlt]
      exact List.all_eq_true.1 q5 _ (List.getElem_mem hlt)
    obtain ⟨g1, g2⟩ := h.newRowS hsl (cs := zrow ee.zero (m * ee.size)) (c := (Array.range (m * ee.size)).map (za[· % za.size]!)) el (n := m) q1 hbig (by simp [zrow]) (by simp) fun k u x hu hx => pureCell_ok (hzs2 k u x hu hx) (hscal u (List.mem_of_getElem? hu))
    have hrun : (Instr.makeSlice t (.int k (m : Int)) (.int k (m : Int))).run P W = .ok (.slice (some ⟨W.heap.size, 0, none⟩) m m) (W.alloc (.cells ((Array.range (m * ee.size)).map (za[· % za.size]!)) el)) := by
      unfold Instr.makeSlice
      have r1 : ∀ k : IntKind, (asInt (.int k (m : Int))).run P W = .ok (m : Int) W := fun k => by simp [asInt, asIntOf_int]
      simp only [Sem.run_bind, run_und hund, Result.andThen_ok, r1, hi, hw]
      have t1 : ¬ ((m : Int) < 0) := by omega
      have t2 : ¬ ((i.bytes : Int) * (m : Int) > 2 ^ 48) := by omega
      simp only [t1, t2, decide_false, Bool.or_false, Bool.false_or, Int.lt_irrefl, Bool.false_eq_true, if_false, gt_iff_lt, Int.toNat_natCast]
      have ask : ∀ b : Nat, (askRoom b).run P W = .ok () W := fun b => by unfold askRoom; split <;> simp [mark, Sem.run]
      simp only [Sem.run_bind, Sem.run_pure, Result.andThen_ok, ask, run_sizeOf ht hee]
      by_cases h0 : m * ee.size = 0
      · rw [if_pos h0, hza h0]
        simp [Go.newRow, newObj, Sem.run]
      · rw [if_neg h0, hzb h0]
        simp [hz', Go.newRow, newObj, Sem.run]
    cases hq : litQ ee (m : Int).toNat with
    | true =>
      simp only []
      obtain ⟨l1, l2⟩ := h.newRowLS hsl (cs := zrow ee.zero (m * ee.size)) (c := (Array.range (m * ee.size)).map (za[· % za.size]!)) el (sz := ee.size) (n := m) (by simp [zrow]) (by simp) hzs2
      exact ⟨.slice (some ⟨W.heap.size, 0, none⟩) m m, _, _, hrun, upd_ext _ (h.sim.blk l _ hsl), l1, l2⟩
    | false =>
    simp only []
    refine ⟨.slice (some ⟨W.heap.size, 0, none⟩) m m, _, _, hrun, upd_ext _ (h.sim.blk l _ hsl), ?_, g2⟩
    · -- the rows read as zero rows
      have hfun : Rel F0 W0 R (upd φ l (some (W.heap.size, 0))) (σ.set l (.tab ee.size m fun _ => ee.zero.map .v)) f tmps (W.alloc (.cells ((Array.range (m * ee.size)).map (za[· % za.size]!)) el)) := by
        have hcalm : Calm R W (W.alloc (.cells ((Array.range (m * ee.size)).map (za[· % za.size]!)) el)) := (Keep.alloc (fun _ _ => False) W _).calm fun _ _ h => h.elim
        refine h.newS hsl _ el ⟨q1, hbig, fun k _ => by simp [q4], .inr ⟨W.heap.size, 0, upd_same _ _ _, Free.new W _ _, fun k j u hk hu => ?_⟩⟩
        have hj : j < ee.size := by
          rcases Nat.lt_or_ge j (ee.zero.map AV.v).length with g | g
          · simpa [q4] using g
          · rw [List.getElem?_eq_none g] at hu; cases hu
        have hkj : k * ee.size + j < m * ee.size := by
          have : (k + 1) * ee.size ≤ m * ee.size := Nat.mul_le_mul_right _ hk
          rw [Nat.succ_mul] at this; omega
        have hz0 : (zrow ee.zero (m * ee.size))[k * ee.size + j]? = some u := by
          unfold zrow
          rw [List.getElem?_map, List.getElem?_range hkj]
          simp only [Option.map_some]
          obtain ⟨y, hy, rfl⟩ := getElem?_map_some hu
          rw [q4, Nat.mul_comm k, Nat.mul_add_mod, Nat.mod_eq_of_lt hj, List.getD_eq_getElem?_getD, hy]
          rfl
        have hlt : k * ee.size + j < ((Array.range (m * ee.size)).map (za[· % za.size]!)).size := by simpa using hkj
        refine ⟨_, by rw [Nat.zero_add, World.cell?_alloc_new]; exact Array.getElem?_eq_getElem hlt, (pureCell_ok (hzs2 _ u _ hz0 (Array.getElem?_eq_getElem hlt)) (hscal u (List.mem_of_getElem? hz0))).mono (fun _ h => h) hcalm⟩
      simpa using hfun

end Go.Proofs.YtaneamfnjhiigaaDoor.E
