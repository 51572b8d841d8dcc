/- The engine, part 14: slices that are made. -/
import Derived.Test.YtaneamfnjhiigaaDoorEOpK
namespace Go.Proofs.YtaneamfnjhiigaaDoor.E
open Go
set_option linter.unusedSimpArgs false
set_option linter.unusedVariables false

def zrow (zs : List Value) (n : Nat) : List AV := (List.range n).map fun i => .v (zs.getD (i % zs.length) undef)

theorem zrow_rel {R : Nat → Prop} {φ : Phi} {W : World} {za : Array Value} {zs : List Value} (h : za.toList = zs) (n : Nat) (hz : n ≠ 0 → 0 < zs.length) : (zrow zs n).length = ((Array.range n).map (za[· % za.size]!)).size ∧
    ∀ (k : Nat) (u : AV) (x : Value), (zrow zs n)[k]? = some u → ((Array.range n).map (za[· % za.size]!))[k]? = some x → VR R φ W u x := by
  subst h
  refine ⟨by simp [zrow], fun k u x hu hx => ?_⟩
  obtain ⟨y, hy, rfl⟩ := getElem?_map_some hu
  have hk : k < n := by
    rcases Nat.lt_or_ge k n with g | g
    · exact g
    · rw [List.getElem?_eq_none (by simpa using g)] at hy; cases hy
  have hy' : y = k := by
    rw [List.getElem?_range hk] at hy
    exact (Option.some.inj hy).symm
  subst hy'
  have hpos := hz (by omega)
  have hlt : y % za.size < za.size := Nat.mod_lt _ (by simpa using hpos)
  have hx' : za[y % za.size]! = x := by
    simp only [Array.getElem?_map] at hx
    rw [show (Array.range n)[y]? = some y by simp [hk]] at hx
    exact Option.some.inj hx
  have e : za.toList.getD (y % za.toList.length) undef = x := by
    rw [← hx', Array.length_toList, List.getD_eq_getElem?_getD, Array.getElem?_toList]
    simp [hlt]
  rw [e]; exact .imm (.v _)

/-- A root of rows whose cells are known one by one. -/
theorem Rel.newRow {F0 : Nat → Nat → Prop} {W0 : World} {R : Nat → Prop} {φ : Phi} {σ : St} {f : List AV} {tmps : Array Value} {W : World} (h : Rel F0 W0 R φ σ f tmps W) {cs : List AV} {c : Array Value} (T : TypeId) {sz n : Nat} (h0 : 0 < sz) (hn : n * sz < 281474976710656)
    (hl : cs.length = n * sz) (hs : c.size = n * sz) (hv : ∀ (k : Nat) (u : AV) (x : Value), cs[k]? = some u → c[k]? = some x → CR R W u x) :
    Rel F0 W0 R (upd φ σ.length (some (W.heap.size, 0))) (σ ++ [.tab sz n (cut sz cs)]) f tmps (W.alloc (.cells c T)) ∧
    VR R (upd φ σ.length (some (W.heap.size, 0))) (W.alloc (.cells c T)) (.s σ.length sz 0 n) (.slice (some ⟨W.heap.size, 0, none⟩) n n) := by
  have hcalm : Calm R W (W.alloc (.cells c T)) := (Keep.alloc (fun _ _ => False) W _).calm fun _ _ h => h.elim
  refine ⟨h.new c T ⟨h0, hn, cut_len hl, .inr ⟨W.heap.size, 0, upd_same _ _ _, Free.new W _ _, fun k j u hk hu => ?_⟩⟩, ?_⟩
  · have hu := cut_get hu
    have hlt : k * sz + j < c.size := by
      rw [hs, ← hl]
      exact (List.getElem?_eq_some_iff.1 hu).1
    refine ⟨c[k * sz + j], by rw [Nat.zero_add, World.cell?_alloc_new]; simp [hlt], (hv _ u _ hu (by simp [hlt])).mono (fun _ h => h) hcalm⟩
  · have := VR.s (R := R) (W := W.alloc (.cells c T)) (l := σ.length) (sz := sz) (o := 0) (n := n) (cap := n) (φ := upd φ σ.length (some (W.heap.size, 0))) (upd_same _ _ _) (Nat.le_refl _) (by
      have : room (W.alloc (.cells c T)) W.heap.size = c.size := by unfold room; rw [heap_new W _]
      rw [this, hs]; simp)
    simpa using this

/-- The same of cells that may name roots. -/
theorem Rel.newRowL {F0 : Nat → Nat → Prop} {W0 : World} {R : Nat → Prop} {φ : Phi} {σ : St} {f : List AV} {tmps : Array Value} {W : World} (h : Rel F0 W0 R φ σ f tmps W) {cs : List AV} {c : Array Value} (T : TypeId) {sz n : Nat}
    (hl : cs.length = n * sz) (hs : c.size = n * sz) (hv : ∀ (k : Nat) (u : AV) (x : Value), cs[k]? = some u → c[k]? = some x → VR R φ W u x) :
    Rel F0 W0 R (upd φ σ.length (some (W.heap.size, 0))) (σ ++ [.lit cs]) f tmps (W.alloc (.cells c T)) ∧
    VR R (upd φ σ.length (some (W.heap.size, 0))) (W.alloc (.cells c T)) (.s σ.length sz 0 n) (.slice (some ⟨W.heap.size, 0, none⟩) n n) := by
  have hc : c.toList.toArray = c := by simp
  refine ⟨?_, ?_⟩
  · have := h.newLit (cs := cs) (vs := c.toList) T (by rw [show c.toList.length = c.size from Array.length_toList, hl, hs]) fun k u x hu hx => hv k u x hu (by simpa using hx)
    rw [hc] at this
    exact this
  · have := VR.s (R := R) (W := W.alloc (.cells c T)) (l := σ.length) (sz := sz) (o := 0) (n := n) (cap := n) (φ := upd φ σ.length (some (W.heap.size, 0))) (upd_same _ _ _) (Nat.le_refl _) (by
      have : room (W.alloc (.cells c T)) W.heap.size = c.size := by unfold room; rw [heap_new W _]
      rw [this, hs]; simp)
    simpa using this

def aBuildSlice (tt : List TE) (t len : Nat) (parts : List (Nat × AV)) (σ : St) : Option (Bool × AV × St) :=
  match look tt t with
  | none => none
  | some e => match e.td with
    | .slice el => match look tt el with
      | none => none
      | some ee =>
        match Nat.ble 1 ee.size, Nat.ble (len * ee.size) 65536, Nat.beq ee.zero.length ee.size, aFill (fun i => some (i * ee.size, ee.size)) (zrow ee.zero (len * ee.size)) parts with
        | true, true, true, some cs => match cs.all pureCell with
          | true => some (true, .s σ.length ee.size 0 len, σ ++ [.tab ee.size len (cut ee.size cs)])
          | false => some (true, .s σ.length ee.size 0 len, σ ++ [.lit cs])
        | _, _, _, _ => none
    | _ => none

theorem aBuildSlice_ok {P : Program} {tt : List TE} (ht : TTok P tt) {F0 : Nat → Nat → Prop} {W0 : World} {R : Nat → Prop} {φ : Phi} {σ : St} {f : List AV} {tmps : Array Value} {W : World} (h : Rel F0 W0 R φ σ f tmps W) {t len : Nat}
    {parts : List (Nat × AV)} {vals : List (Nat × Value)} (hl : parts.length = vals.length) (hp : ∀ (k : Nat) (p : Nat × AV) (q : Nat × Value), parts[k]? = some p → vals[k]? = some q → p.1 = q.1 ∧ VR R φ W p.2 q.2)
    {c : Bool} {u : AV} {σ' : St} (ha : aBuildSlice tt t len parts σ = some (c, u, σ')) : ∃ y W' φ', (Instr.buildSlice t len vals.toArray).run P W = .ok y W' ∧ Ext φ φ' ∧ Rel F0 W0 R φ' σ' f tmps W' ∧ VR R φ' W' u y := by
  unfold aBuildSlice at ha
  cases he : look tt t with
  | none => simp [he] at ha
  | some e =>
    simp only [he] at ha
    have hlk := (look_ok ht he).1
    split at ha
    case h_2 => cases ha
    rename_i el htd
    rw [htd] at hlk
    have hund : P.underlying t = some (.slice el) := hlk
    cases hee : look tt el with
    | none => simp [hee] at ha
    | some ee =>
      simp only [hee] at ha
      split at ha
      case h_2 => cases ha
      rename_i cs q1 q2 q3 q4
      have q1 := Nat.le_of_ble_eq_true q1
      have q2 := Nat.le_of_ble_eq_true q2
      have q3 := Nat.eq_of_beq_eq_true q3
      obtain ⟨z, hz, hzc⟩ := run_zeroValue ht hee W
      -- the zero cells
      obtain ⟨za, hza, hzb, hzs⟩ : ∃ za : Array Value, (len * ee.size = 0 → za = #[]) ∧ (len * ee.size ≠ 0 → za = z.cells) ∧ (zrow ee.zero (len * ee.size)).length = ((Array.range (len * ee.size)).map (za[· % za.size]!)).size ∧
          ∀ (k : Nat) (u : AV) (x : Value), (zrow ee.zero (len * ee.size))[k]? = some u → ((Array.range (len * ee.size)).map (za[· % za.size]!))[k]? = some x → VR R φ W u x := by
        by_cases h0 : len * ee.size = 0
        · exact ⟨#[], fun _ => rfl, fun h => absurd h0 h, by rw [h0]; simp [zrow], fun k u x hu => by rw [h0] at hu; simp [zrow] at hu⟩
        · exact ⟨z.cells, fun h => absurd h h0, fun _ => rfl, zrow_rel hzc _ fun _ => by omega⟩
      obtain ⟨arr, f1, f2, f3, f4⟩ := fill_ok parts vals _ _ cs hl hp hzs.1 hzs.2 q4
      have hlen : cs.length = len * ee.size := by rw [f3]; simp [zrow]
      have hrun : (Instr.buildSlice t len vals.toArray).run P W = .ok (.slice (some ⟨W.heap.size, 0, none⟩) len len) (W.alloc (.cells arr el)) := by
        unfold Instr.buildSlice
        simp only [Sem.run_bind, run_und hund, Result.andThen_ok, run_sizeOf ht hee]
        rw [if_neg (by omega)]
        by_cases h0 : len * ee.size = 0
        · rw [if_pos h0]
          rw [hza h0] at f1
          simp only [Sem.run_bind, Sem.run_pure, Result.andThen_ok, f1]
          simp [Go.newRow, newObj, Sem.run]
        · rw [if_neg h0]
          rw [hzb h0] at f1
          simp only [Sem.run_bind, Sem.run_pure, Result.andThen_ok, hz, f1]
          simp [Go.newRow, newObj, Sem.run]
      split at ha
      · rename_i hpure
        simp only [Option.some.injEq, Prod.mk.injEq] at ha
        obtain ⟨rfl, rfl, rfl⟩ := ha
        obtain ⟨g1, g2⟩ := h.newRow (cs := cs) (c := arr) el (n := len) q1 (by omega) hlen (by rw [← f2]; exact hlen) fun k u x hu hx => pureCell_ok (f4 k u x hu hx) (List.all_eq_true.1 hpure _ (List.mem_of_getElem? hu))
        exact ⟨_, _, _, hrun, upd_ext _ (h.sim.dom _ (Nat.le_refl _)), g1, g2⟩
      · simp only [Option.some.injEq, Prod.mk.injEq] at ha
        obtain ⟨rfl, rfl, rfl⟩ := ha
        obtain ⟨g1, g2⟩ := h.newRowL (cs := cs) (c := arr) el (n := len) hlen (by rw [← f2]; exact hlen) f4
        exact ⟨_, _, _, hrun, upd_ext _ (h.sim.dom _ (Nat.le_refl _)), g1, g2⟩

/-- Few slices are kept one by one. -/
def litQ (ee : TE) (n : Nat) : Bool := match ee.td with
  | .slice _ => Nat.ble n 8
  | _ => false
def aMake (tt : List TE) (t : Nat) (x : AV) (σ : St) : Option (Bool × AV × St) :=
  match look tt t, x with
  | some e, .v (.int _ n) => match e.td with
    | .slice el => match look tt el with
      | none => none
      | some ee =>
        match Nat.ble 1 ee.size, Nat.ble ee.size 32768, Nat.ble ee.bytes 32768, Nat.beq ee.zero.length ee.size, ee.zero.all scal with
        | true, true, true, true, true => some (decide (0 ≤ n) && Nat.ble n.toNat 1073741823, .s σ.length ee.size 0 n.toNat, σ ++ [match litQ ee n.toNat with
          | true => .lit (zrow ee.zero (n.toNat * ee.size))
          | false => .tab ee.size n.toNat fun _ => ee.zero.map .v])
        | _, _, _, _, _ => none
    | _ => none
  | _, _ => none

theorem aMake_ok {P : Program} {tt : List TE} (ht : TTok P tt) {F0 : Nat → Nat → Prop} {W0 : World} {R : Nat → Prop} {φ : Phi} {σ : St} {f : List AV} {tmps : Array Value} {W : World} (h : Rel F0 W0 R φ σ f tmps W) {t : Nat}
    {x : AV} {v : Value} (hx : VR R φ W x v) {c : Bool} {u : AV} {σ' : St} (ha : aMake tt t x σ = some (c, u, σ')) (hc : c = true) : ∃ y W' φ', (Instr.makeSlice t v v).run P W = .ok y W' ∧ Ext φ φ' ∧ Rel F0 W0 R φ' σ' f tmps W' ∧ VR R φ' W' u y := by
  unfold aMake at ha
  split at ha
  case h_2 => cases ha
  rename_i e k n he
  have hlk := (look_ok ht he).1
  split at ha
  case h_2 => cases ha
  rename_i el htd
  rw [htd] at hlk
  have hund : P.underlying t = some (.slice el) := hlk
  cases hee : look tt el with
  | none => simp [hee] at ha
  | some ee =>
    simp only [hee] at ha
    split at ha
    case h_2 => cases ha
    rename_i q1 q2 q3 q4 q5
    have q1 := Nat.le_of_ble_eq_true q1
    have q2 := Nat.le_of_ble_eq_true q2
    have q3 := Nat.le_of_ble_eq_true q3
    have q4 := Nat.eq_of_beq_eq_true q4
    simp only [Option.some.injEq, Prod.mk.injEq] at ha
    obtain ⟨rfl, rfl, rfl⟩ := ha
    simp only [Bool.and_eq_true, decide_eq_true_eq] at hc
    obtain ⟨c0, c1⟩ := hc
    have c1 := Nat.le_of_ble_eq_true c1
    obtain rfl := hx.val
    obtain ⟨i, z, hi, hsz, hby, hz, hzc⟩ := run_typeInfo ht hee W
    obtain ⟨z', hz', hzc'⟩ := run_zeroValue ht hee W
    obtain ⟨m, rfl⟩ := Int.eq_ofNat_of_zero_le c0
    have hm : m < 1073741824 := by omega
    have hw : IntKind.i64.wrap (m : Int) = m := by rw [IntKind.wrap_i64]; omega
    have hbig : m * ee.size < 281474976710656 := Nat.lt_of_le_of_lt (Nat.mul_le_mul (Nat.le_of_lt hm) q2) (by decide)
    have hb1 : (i.bytes : Int) * (m : Int) ≤ 281474976710656 := by
      have : i.bytes * m ≤ 32768 * 1073741824 := Nat.mul_le_mul (by omega) (by omega)
      have h2 : ((i.bytes * m : Nat) : Int) ≤ ((32768 * 1073741824 : Nat) : Int) := by exact_mod_cast this
      rw [Int.natCast_mul] at h2
      omega
    -- the zero cells
    obtain ⟨za, hza, hzb, hzs1, hzs2⟩ : ∃ za : Array Value, (m * ee.size = 0 → za = #[]) ∧ (m * ee.size ≠ 0 → za = z'.cells) ∧ (zrow ee.zero (m * ee.size)).length = ((Array.range (m * ee.size)).map (za[· % za.size]!)).size ∧
        ∀ (k : Nat) (u : AV) (x : Value), (zrow ee.zero (m * ee.size))[k]? = some u → ((Array.range (m * ee.size)).map (za[· % za.size]!))[k]? = some x → VR R φ W u x := by
      by_cases h0 : m * ee.size = 0
      · exact ⟨#[], fun _ => rfl, fun h => absurd h0 h, by rw [h0]; simp [zrow], fun k u x hu => by rw [h0] at hu; simp [zrow] at hu⟩
      · exact ⟨z'.cells, fun h => absurd h h0, fun _ => rfl, zrow_rel hzc' _ fun _ => by omega⟩
    have hscal : ∀ x ∈ zrow ee.zero (m * ee.size), pureCell x = true := by
      intro x hx
      unfold zrow at hx
      obtain ⟨j, hj, rfl⟩ := List.mem_map.1 hx
      have hlt : j % ee.zero.length < ee.zero.length := Nat.mod_lt _ (by omega)
      simp only [pureCell]
      rw [List.getD_eq_getElem?_getD, List.getElem?_eq_getElem hlt]
      exact List.all_eq_true.1 q5 _ (List.getElem_mem hlt)
    obtain ⟨g1, g2⟩ := h.newRow (cs := zrow ee.zero (m * ee.size)) (c := (Array.range (m * ee.size)).map (za[· % za.size]!)) el (n := m) q1 hbig (by simp [zrow]) (by simp) fun k u x hu hx => pureCell_ok (hzs2 k u x hu hx) (hscal u (List.mem_of_getElem? hu))
    have hrun : (Instr.makeSlice t (.int k (m : Int)) (.int k (m : Int))).run P W = .ok (.slice (some ⟨W.heap.size, 0, none⟩) m m) (W.alloc (.cells ((Array.range (m * ee.size)).map (za[· % za.size]!)) el)) := by
      unfold Instr.makeSlice
      have r1 : ∀ k : IntKind, (asInt (.int k (m : Int))).run P W = .ok (m : Int) W := fun k => by simp [asInt, asIntOf_int]
      simp only [Sem.run_bind, run_und hund, Result.andThen_ok, r1, hi, hw]
      have t1 : ¬ ((m : Int) < 0) := by omega
      have t2 : ¬ ((i.bytes : Int) * (m : Int) > 2 ^ 48) := by omega
      simp only [t1, t2, decide_false, Bool.or_false, Bool.false_or, Int.lt_irrefl, Bool.false_eq_true, if_false, gt_iff_lt, Int.toNat_natCast]
      have ask : ∀ b : Nat, (askRoom b).run P W = .ok () W := fun b => by unfold askRoom; split <;> simp [mark, Sem.run]
      simp only [Sem.run_bind, Sem.run_pure, Result.andThen_ok, ask, run_sizeOf ht hee]
      by_cases h0 : m * ee.size = 0
      · rw [if_pos h0, hza h0]
        simp [Go.newRow, newObj, Sem.run]
      · rw [if_neg h0, hzb h0]
        simp [hz', Go.newRow, newObj, Sem.run]
    cases hq : litQ ee (m : Int).toNat with
    | true =>
      simp only []
      obtain ⟨l1, l2⟩ := h.newRowL (cs := zrow ee.zero (m * ee.size)) (c := (Array.range (m * ee.size)).map (za[· % za.size]!)) el (sz := ee.size) (n := m) (by simp [zrow]) (by simp) hzs2
      exact ⟨.slice (some ⟨W.heap.size, 0, none⟩) m m, _, _, hrun, upd_ext _ (h.sim.dom _ (Nat.le_refl _)), l1, l2⟩
    | false =>
    simp only []
    refine ⟨.slice (some ⟨W.heap.size, 0, none⟩) m m, _, _, hrun, upd_ext _ (h.sim.dom _ (Nat.le_refl _)), ?_, g2⟩
    · -- the rows read as zero rows
      have hfun : Rel F0 W0 R (upd φ σ.length (some (W.heap.size, 0))) (σ ++ [.tab ee.size m fun _ => ee.zero.map .v]) f tmps (W.alloc (.cells ((Array.range (m * ee.size)).map (za[· % za.size]!)) el)) := by
        have hcalm : Calm R W (W.alloc (.cells ((Array.range (m * ee.size)).map (za[· % za.size]!)) el)) := (Keep.alloc (fun _ _ => False) W _).calm fun _ _ h => h.elim
        refine h.new _ el ⟨q1, hbig, fun k _ => by simp [q4], .inr ⟨W.heap.size, 0, upd_same _ _ _, Free.new W _ _, fun k j u hk hu => ?_⟩⟩
        have hj : j < ee.size := by
          rcases Nat.lt_or_ge j (ee.zero.map AV.v).length with g | g
          · simpa [q4] using g
          · rw [List.getElem?_eq_none g] at hu; cases hu
        have hkj : k * ee.size + j < m * ee.size := by
          have : (k + 1) * ee.size ≤ m * ee.size := Nat.mul_le_mul_right _ hk
          rw [Nat.succ_mul] at this; omega
        have hz0 : (zrow ee.zero (m * ee.size))[k * ee.size + j]? = some u := by
          unfold zrow
          rw [List.getElem?_map, List.getElem?_range hkj]
          simp only [Option.map_some]
          obtain ⟨y, hy, rfl⟩ := getElem?_map_some hu
          rw [q4, Nat.mul_comm k, Nat.mul_add_mod, Nat.mod_eq_of_lt hj, List.getD_eq_getElem?_getD, hy]
          rfl
        have hlt : k * ee.size + j < ((Array.range (m * ee.size)).map (za[· % za.size]!)).size := by simpa using hkj
        refine ⟨_, by rw [Nat.zero_add, World.cell?_alloc_new]; exact Array.getElem?_eq_getElem hlt, (pureCell_ok (hzs2 _ u _ hz0 (Array.getElem?_eq_getElem hlt)) (hscal u (List.mem_of_getElem? hz0))).mono (fun _ h => h) hcalm⟩
      simpa using hfun
end Go.Proofs.YtaneamfnjhiigaaDoor.E
