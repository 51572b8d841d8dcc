/- The engine, part 6: operators, parts of values, comparisons. -/
import Derived.Test.YtaneamfnjhiigaaDoorEOpC
import Derived.Laws.StructEq
import Derived.Laws.Bits
import Derived.ChangeKeysEq
namespace Go.Proofs.YtaneamfnjhiigaaDoor.E
open Go
set_option linter.unusedSimpArgs false
set_option linter.unusedVariables false

/-- A part of an aggregate. -/
def aPart (tt : List TE) (t : Nat) (cs : List AV) (off : Nat) : Option AV :=
  match look tt t with
  | none => none
  | some e => ldCells e cs off

theorem vs_get {cells : List AV} {vs : List Value} (hl : cells.length = vs.length) {k : Nat} {u : AV} (h : cells[k]? = some u) : ∃ x, vs[k]? = some x := by
  have hk : k < cells.length := by
    rcases Nat.lt_or_ge k cells.length with h1 | h1
    · exact h1
    · rw [List.getElem?_eq_none h1] at h; cases h
  exact ⟨vs[k]'(hl ▸ hk), List.getElem?_eq_getElem (hl ▸ hk)⟩

/-- An aggregate, as it stands. -/
theorem VR.agg {R : Nat → Prop} {φ : Phi} {W : World} {cs : List AV} {v : Value} (h : VR R φ W (.a cs) v) : ∃ vs : List Value, v = .agg vs.toArray ∧ cs.length = vs.length ∧ ∀ (k : Nat) (u : AV) (x : Value), cs[k]? = some u → vs[k]? = some x → VR R φ W u x := by
  cases h with
  | imm h => cases h with
    | a hl hx => exact ⟨_, rfl, hl, fun k u x hu hx' => .imm (hx k u x hu hx')⟩
  | a hl hx => exact ⟨_, rfl, hl, hx⟩
theorem VR.tup {R : Nat → Prop} {φ : Phi} {W : World} {cs : List AV} {v : Value} (h : VR R φ W (.t cs) v) : ∃ vs : List Value, v = .tuple vs.toArray ∧ cs.length = vs.length ∧ ∀ (k : Nat) (u : AV) (x : Value), cs[k]? = some u → vs[k]? = some x → VR R φ W u x := by
  cases h with
  | imm h => cases h with
    | t hl hx => exact ⟨_, rfl, hl, fun k u x hu hx' => .imm (hx k u x hu hx')⟩
  | t hl hx => exact ⟨_, rfl, hl, hx⟩
theorem VR.val {R : Nat → Prop} {φ : Phi} {W : World} {x v : Value} (h : VR R φ W (.v x) v) : v = x := by
  cases h with
  | imm h => cases h; rfl

theorem aPart_ok {P : Program} {tt : List TE} (h : TTok P tt) {t : Nat} {R : Nat → Prop} {φ : Phi} {W : World} {cs : List AV} {vs : List Value} (hl : cs.length = vs.length)
    (hx : ∀ (k : Nat) (u : AV) (x : Value), cs[k]? = some u → vs[k]? = some x → VR R φ W u x) {off : Nat} {u : AV} (ha : aPart tt t cs off = some u) :
    ∃ x, (part t vs.toArray off).run P W = .ok x W ∧ VR R φ W u x := by
  unfold aPart at ha
  cases he : look tt t with
  | none => simp [he] at ha
  | some e =>
    simp only [he, ldCells] at ha
    unfold part
    simp only [Sem.run_bind, run_isAgg h he, Result.andThen]
    cases hd : isAggD e.td with
    | true =>
      simp only [hd] at ha
      cases hb : Nat.ble (off + e.size) cs.length with
      | false => simp [hb] at ha
      | true =>
        simp only [hb] at ha
        obtain rfl := Option.some.inj ha
        have hle : off + e.size ≤ cs.length := Nat.le_of_ble_eq_true hb
        refine ⟨.agg ((vs.drop off).take e.size).toArray, by simp [run_sizeOf h he, Result.andThen], .a (by simp [hl]) fun k w x hw hx' => ?_⟩
        rw [List.getElem?_take] at hw hx'
        split at hw
        · rename_i hk
          rw [if_pos hk] at hx'
          rw [List.getElem?_drop] at hw hx'
          exact hx _ w x hw hx'
        · cases hw
    | false =>
      simp only [hd] at ha
      obtain ⟨x, hx'⟩ := vs_get hl ha
      exact ⟨x, by simp [hx'], hx off u x ha hx'⟩

/-- A whole number's operator. -/
def intBin (op : BinOp) (k : IntKind) (a b : Int) : Option (Bool × AV) :=
  match op with
  | .add => some (true, .v (.int k (k.wrap (a + b))))
  | .sub => some (true, .v (.int k (k.wrap (a - b))))
  | .mul => some (true, .v (.int k (k.wrap (a * b))))
  | .quo => some (!(decide (b = 0)), .v (.int k (k.wrap (a.tdiv b))))
  | .rem => some (!(decide (b = 0)), .v (.int k (a.tmod b)))
  | .and => some (true, .v (.int k (bits .and k a b)))
  | .or => some (true, .v (.int k (bits .or k a b)))
  | .xor => some (true, .v (.int k (bits .xor k a b)))
  | .andNot => some (true, .v (.int k (bits .andNot k a b)))
  | .eql => some (true, .v (.bool (decide (a = b))))
  | .neq => some (true, .v (.bool (!(decide (a = b)))))
  | .lss => some (true, .v (.bool (decide (a < b))))
  | .leq => some (true, .v (.bool (decide (a ≤ b))))
  | .gtr => some (true, .v (.bool (decide (b < a))))
  | .geq => some (true, .v (.bool (decide (b ≤ a))))
  | .shl => some (decide (0 ≤ b), .v (.int k (k.wrap (a * 2 ^ min b.toNat k.bits))))
  | .shr => some (decide (0 ≤ b), .v (.int k (a.fdiv (2 ^ min b.toNat k.bits))))

def sameKind (k k' : IntKind) : Bool :=
  match k, k' with
  | .i8, .i8 | .i16, .i16 | .i32, .i32 | .i64, .i64 | .u8, .u8 | .u16, .u16 | .u32, .u32 | .u64, .u64 => true
  | _, _ => false
theorem sameKind_eq {k k' : IntKind} (h : sameKind k k' = true) : k = k' := by cases k <;> cases k' <;> first | rfl | cases h

theorem beq_dec (a b : Int) : (a == b) = decide (a = b) := by by_cases h : a = b <;> simp [h]

theorem intBin_ok {P : Program} {W : World} {op : BinOp} {k k' : IntKind} {a b : Int} {t : Nat} {c : Bool} {u : AV} (hk : k = k' ∨ op = .shl ∨ op = .shr) (h : intBin op k a b = some (c, u)) (hc : c = true) :
    ∃ y, (binOp op t (.int k a) (.int k' b)).run P W = .ok y W ∧ u = .v y := by
  have shl : op = .shl → ∃ y, (binOp op t (.int k a) (.int k' b)).run P W = .ok y W ∧ u = .v y := by
    rintro rfl
    obtain ⟨rfl, rfl⟩ := Prod.mk.inj (Option.some.inj h)
    have : ¬ b < 0 := by have := of_decide_eq_true hc; omega
    exact ⟨_, by simp only [binOp, Op.shift, this, if_false]; rfl, rfl⟩
  have shr : op = .shr → ∃ y, (binOp op t (.int k a) (.int k' b)).run P W = .ok y W ∧ u = .v y := by
    rintro rfl
    obtain ⟨rfl, rfl⟩ := Prod.mk.inj (Option.some.inj h)
    have : ¬ b < 0 := by have := of_decide_eq_true hc; omega
    exact ⟨_, by simp only [binOp, Op.shift, this, if_false]; rfl, rfl⟩
  rcases hk with rfl | hk | hk
  · cases op
    case shl => exact shl rfl
    case shr => exact shr rfl
    case quo =>
      obtain ⟨rfl, rfl⟩ := Prod.mk.inj (Option.some.inj h)
      have hb : b ≠ 0 := by simpa using hc
      exact ⟨_, by simp only [binOp_quo, Op.intDiv, hb, if_false]; rfl, rfl⟩
    case rem =>
      obtain ⟨rfl, rfl⟩ := Prod.mk.inj (Option.some.inj h)
      have hb : b ≠ 0 := by simpa using hc
      exact ⟨_, by simp only [binOp_rem, Op.intDiv, hb, if_false]; rfl, rfl⟩
    case eql => obtain ⟨rfl, rfl⟩ := Prod.mk.inj (Option.some.inj h); exact ⟨_, by simp only [binOp_eql]; rw [beq_dec]; rfl, rfl⟩
    case neq => obtain ⟨rfl, rfl⟩ := Prod.mk.inj (Option.some.inj h); exact ⟨_, by simp only [binOp_neq, bne]; rw [beq_dec]; rfl, rfl⟩
    all_goals (obtain ⟨rfl, rfl⟩ := Prod.mk.inj (Option.some.inj h); exact ⟨_, by simp only [binOp_add, binOp_sub, binOp_mul, binOp_and, binOp_or, binOp_xor, binOp_andNot, binOp_lss, binOp_leq, binOp_gtr, binOp_geq]; rfl, rfl⟩)
  · exact shl hk
  · exact shr hk

/-- Are two values alike, by their type? -/
def aFields (eq : Nat → AV → AV → Option Bool) (tt : List TE) (xs ys : List AV) : List (Nat × Nat) → Option Bool
  | [] => some true
  | (t, o) :: fs =>
    match aPart tt t xs o, aPart tt t ys o with
    | some a, some b => match eq t a b with
      | some r => match fs with
        | [] => some r
        | _ => match aFields eq tt xs ys fs with
          | some s => some (r && s)
          | none => none
      | none => none
    | _, _ => none
def aItems (eq : AV → AV → Option Bool) (tt : List TE) (el sz : Nat) (xs ys : List AV) : List Nat → Option Bool
  | [] => some true
  | i :: is =>
    match aPart tt el xs (i * sz), aPart tt el ys (i * sz) with
    | some a, some b => match eq a b with
      | some r => match is with
        | [] => some r
        | _ => match aItems eq tt el sz xs ys is with
          | some s => some (r && s)
          | none => none
      | none => none
    | _, _ => none
def isScal (tt : List TE) (t : Nat) : Bool := match look tt t with
  | some e => match e.td with
    | .bool => true
    | .int _ => true
    | _ => false
  | none => false
def aEq (tt : List TE) : Nat → Nat → AV → AV → Option Bool
  | 0, _, _, _ => none
  | d + 1, t, x, y =>
    match look tt t with
    | none => none
    | some e =>
      match e.td, x, y with
      | .bool, .v (.bool a), .v (.bool b) => some (a == b)
      | .int _, .v (.int k a), .v (.int k' b) => match sameKind k k' with | true => some (decide (a = b)) | false => none
      | .string, .v (.string a), .v (.string b) => some (a.toList == b.toList)
      | .struct flds, .a xs, .a ys => aFields (fun t a b => aEq tt d t a b) tt xs ys flds
      | .array n el, .a xs, .a ys => match look tt el with
        | some ee => aItems (fun a b => aEq tt d el a b) tt el ee.size xs ys (List.range n)
        | none => none
      | _, _, _ => none

theorem aEq_ok {P : Program} {tt : List TE} (h : TTok P tt) {R : Nat → Prop} {φ : Phi} {W : World} : ∀ (d : Nat) (t : Nat) (x y : AV) (v w : Value) (r : Bool), VR R φ W x v → VR R φ W y w → aEq tt d t x y = some r → ∀ D, d ≤ D → (Op.equalIn D t v w).run P W = .ok r W := by
  intro d
  induction d with
  | zero => intro t x y v w r _ _ ha; simp [aEq] at ha
  | succ d ih =>
    intro t x y v w r hx hy ha D hD
    obtain ⟨D, rfl⟩ : ∃ m, D = m + 1 := ⟨D - 1, by omega⟩
    unfold aEq at ha
    cases he : look tt t with
    | none => simp [he] at ha
    | some e =>
      simp only [he] at ha
      have hlk := (look_ok h he).1
      split at ha
      · rename_i a b htd
        rw [htd] at hlk
        rw [hx.val, hy.val]
        obtain rfl := Option.some.inj ha
        exact run_equalIn_bool' W D t a b hlk
      · rename_i k0 k a k' b htd
        rw [htd] at hlk
        rw [hx.val, hy.val]
        cases hk : sameKind k k' with
        | false => simp [hk] at ha
        | true =>
          obtain rfl := sameKind_eq hk
          simp only [hk] at ha
          obtain rfl := Option.some.inj ha
          rw [← beq_dec]
          exact run_equalIn_int W D t k k0 a b hlk
      · rename_i a b htd
        rw [htd] at hlk
        rw [hx.val, hy.val]
        obtain rfl := Option.some.inj ha
        exact run_equalIn_string W D t a b hlk
      · rename_i flds xs ys htd
        rw [htd] at hlk
        obtain ⟨fs, hu, hmap, hall, hp, hm⟩ := hlk
        obtain ⟨vs, rfl, l1, r1⟩ := hx.agg
        obtain ⟨us, rfl, l2, r2⟩ := hy.agg
        have hf : P.fieldsOf t = fs := by simp [Program.fieldsOf, hu]
        rw [run_equalIn_struct (P := P) W D t _ _ (by rw [hf]; exact hu) hp, hf]
        subst hmap
        generalize fs.toList = l at *
        clear hu hf htd
        induction l generalizing r with
        | nil => simp [aFields] at ha; subst ha; simp [Op.eqFields]
        | cons f l ihl =>
          simp only [List.map_cons, aFields] at ha
          simp only [List.all_cons, Bool.and_eq_true] at hall
          cases ha1 : aPart tt f.type xs f.offset with
          | none => simp [ha1] at ha
          | some a =>
            cases ha2 : aPart tt f.type ys f.offset with
            | none => simp [ha1, ha2] at ha
            | some b =>
              simp only [ha1, ha2] at ha
              obtain ⟨x1, e1, q1⟩ := aPart_ok h l1 r1 ha1
              obtain ⟨x2, e2, q2⟩ := aPart_ok h l2 r2 ha2
              cases ha3 : aEq tt d f.type a b with
              | none => simp [ha3] at ha
              | some r3 =>
                simp only [ha3] at ha
                have e3 := ih f.type a b x1 x2 r3 q1 q2 ha3 D (by omega)
                have hne : f.name ≠ "_" := by simpa using hall.1
                simp only [Op.eqFields, if_pos hne, Sem.run_bind, e1, e2, e3, Result.andThen_ok]
                cases l with
                | nil =>
                  simp only [List.map_nil] at ha
                  obtain rfl := Option.some.inj ha
                  cases r3 <;> simp [Op.eqFields]
                | cons f' l' =>
                  simp only [List.map_cons] at ha
                  cases ha4 : aFields (fun t a b => aEq tt d t a b) tt xs ys ((f'.type, f'.offset) :: l'.map fun f => (f.type, f.offset)) with
                  | none => simp [ha4] at ha
                  | some s =>
                    simp only [ha4] at ha
                    obtain rfl := Option.some.inj ha
                    have := ihl s hall.2 ha4
                    cases r3
                    · simp
                    · simpa using this
      · rename_i n el xs ys htd
        rw [htd] at hlk
        have hlk : P.underlying t = some (.array n el) := hlk
        split at ha
        case h_2 => cases ha
        rename_i ee hee
        obtain ⟨_, i, z, hi, hsz, _⟩ := look_ok h hee
        obtain ⟨vs, rfl, l1, r1⟩ := hx.agg
        obtain ⟨us, rfl, l2, r2⟩ := hy.agg
        have hc : P.cellsOf el = ee.size := by simp [Program.cellsOf, hi, hsz]
        rw [run_equalIn_array (P := P) W D _ _ hlk hi, hc]
        generalize List.range n = is at *
        clear hlk htd
        induction is generalizing r with
        | nil => simp [aItems] at ha; subst ha; simp [Op.eqItems]
        | cons j is ihl =>
          simp only [aItems] at ha
          cases ha1 : aPart tt el xs (j * ee.size) with
          | none => simp [ha1] at ha
          | some a =>
            cases ha2 : aPart tt el ys (j * ee.size) with
            | none => simp [ha1, ha2] at ha
            | some b =>
              simp only [ha1, ha2] at ha
              obtain ⟨x1, e1, q1⟩ := aPart_ok h l1 r1 ha1
              obtain ⟨x2, e2, q2⟩ := aPart_ok h l2 r2 ha2
              cases ha3 : aEq tt d el a b with
              | none => simp [ha3] at ha
              | some r3 =>
                simp only [ha3] at ha
                have e3 := ih el a b x1 x2 r3 q1 q2 ha3 D (by omega)
                simp only [Op.eqItems, Sem.run_bind, e1, e2, e3, Result.andThen_ok]
                cases is with
                | nil =>
                  simp only at ha
                  obtain rfl := Option.some.inj ha
                  cases r3 <;> simp [Op.eqItems]
                | cons j' is' =>
                  simp only at ha
                  cases ha4 : aItems (fun a b => aEq tt d el a b) tt el ee.size xs ys (j' :: is') with
                  | none => simp [ha4] at ha
                  | some s =>
                    simp only [ha4] at ha
                    obtain rfl := Option.some.inj ha
                    have := ihl s ha4
                    cases r3
                    · simp
                    · simpa using this
      · cases ha

/-- An operator. -/
def aBin (tt : List TE) (op : BinOp) (t : Nat) (x y : AV) : Option (Bool × AV) :=
  match x, y with
  | .v (.int k a), .v (.int k' b) =>
    match op with
    | .shl => intBin .shl k a b
    | .shr => intBin .shr k a b
    | op => match sameKind k k' with | true => intBin op k a b | false => none
  | .v (.string a), .v (.string b) =>
    match op with
    | .eql => some (true, .v (.bool (a.toList == b.toList)))
    | .neq => some (true, .v (.bool (!(a.toList == b.toList))))
    | .add => some (decide (a.size + b.size < 1099511627776), .v (.string (a ++ b)))
    | _ => none
  | .v (.bool a), .v (.bool b) =>
    match op with
    | .eql => (aEq tt 9 t x y).map fun r => (true, .v (.bool r))
    | .neq => (aEq tt 9 t x y).map fun r => (true, .v (.bool (!r)))
    | _ => none
  | .a xs, .a ys =>
    match look tt t with
    | some e => match e.td with
      | .struct _ => match op with
        | .eql => (aEq tt 9 t x y).map fun r => (true, .v (.bool r))
        | .neq => (aEq tt 9 t x y).map fun r => (true, .v (.bool (!r)))
        | _ => none
      | .array _ el => match isScal tt el, op with
        | true, .eql => (aEq tt 9 t x y).map fun r => (true, .v (.bool r))
        | true, .neq => (aEq tt 9 t x y).map fun r => (true, .v (.bool (!r)))
        | _, _ => none
      | _ => none
    | none => none
  | _, _ => none

theorem aBin_ok {P : Program} {tt : List TE} (h : TTok P tt) {R : Nat → Prop} {φ : Phi} {W : World} {op : BinOp} {t : Nat} {x y : AV} {v w : Value} (hx : VR R φ W x v) (hy : VR R φ W y w) {c : Bool} {u : AV}
    (ha : aBin tt op t x y = some (c, u)) (hc : c = true) (X Y : Operand) : ∃ z, (do eqGuard op t X Y v w; binOp op t v w : Sem Value).run P W = .ok z W ∧ VR R φ W u z := by
  unfold aBin at ha
  split at ha
  · rename_i k a k' b
    rw [hx.val, hy.val]
    have key : ∀ {op' : BinOp}, (k = k' ∨ op' = .shl ∨ op' = .shr) → intBin op' k a b = some (c, u) → ∃ z, (do eqGuard op' t X Y (.int k a) (.int k' b); binOp op' t (.int k a) (.int k' b) : Sem Value).run P W = .ok z W ∧ VR R φ W u z := by
      intro op' hk hi
      obtain ⟨z, h1, rfl⟩ := intBin_ok (P := P) (W := W) (t := t) hk hi hc
      exact ⟨z, by simp only [eqGuard_at_int, Sem.run_bind, Sem.run_pure, Result.andThen_ok]; exact h1, .imm (.v z)⟩
    split at ha
    · exact key (.inr (.inl rfl)) ha
    · exact key (.inr (.inr rfl)) ha
    · cases hk : sameKind k k' with
      | false => simp [hk] at ha
      | true => simp only [hk] at ha; exact key (.inl (sameKind_eq hk)) ha
  · rename_i a b
    rw [hx.val, hy.val]
    simp only [eqGuard_at_string, Sem.run_bind, Sem.run_pure, Result.andThen_ok, binOp]
    split at ha
    · obtain ⟨rfl, rfl⟩ := Prod.mk.inj (Option.some.inj ha); exact ⟨_, rfl, .imm (.v _)⟩
    · obtain ⟨rfl, rfl⟩ := Prod.mk.inj (Option.some.inj ha); exact ⟨_, rfl, .imm (.v _)⟩
    · obtain ⟨rfl, rfl⟩ := Prod.mk.inj (Option.some.inj ha)
      have hlt : a.size + b.size < 1099511627776 := of_decide_eq_true hc
      refine ⟨.string (a ++ b), ?_, .imm (.v _)⟩
      have : ¬ (((a.size + b.size : Nat) : Int) > IntKind.i64.max) := by simp [IntKind.max, IntKind.signed, IntKind.bits]; omega
      simp only [Op.stringOp, this, if_false]; rfl
    · cases ha
  · rename_i a b
    split at ha
    · simp only [Option.map_eq_some_iff] at ha
      obtain ⟨r, hr, hh⟩ := ha
      obtain ⟨rfl, rfl⟩ := Prod.mk.inj hh
      have := aEq_ok h 9 t _ _ v w r hx hy hr 10000 (by omega)
      rw [hx.val, hy.val] at this ⊢
      exact ⟨.bool r, by simp only [eqGuard_at_bool, Sem.run_bind, Sem.run_pure, Result.andThen_ok, binOp, Op.equal, Op.maxDepth, this], .imm (.v _)⟩
    · simp only [Option.map_eq_some_iff] at ha
      obtain ⟨r, hr, hh⟩ := ha
      obtain ⟨rfl, rfl⟩ := Prod.mk.inj hh
      have := aEq_ok h 9 t _ _ v w r hx hy hr 10000 (by omega)
      rw [hx.val, hy.val] at this ⊢
      exact ⟨.bool (!r), by simp only [eqGuard_at_bool, Sem.run_bind, Sem.run_pure, Result.andThen_ok, binOp, Op.equal, Op.maxDepth, this], .imm (.v _)⟩
    · cases ha
  · rename_i xs ys
    cases he : look tt t with
    | none => simp [he] at ha
    | some e =>
      simp only [he] at ha
      have hlk := (look_ok h he).1
      cases htd : e.td <;> simp only [htd] at ha <;> try (cases ha; done)
      case array n el =>
        rw [htd] at hlk
        have hlk : P.underlying t = some (.array n el) := hlk
        obtain ⟨vs, rfl, l1, r1⟩ := hx.agg
        obtain ⟨us, rfl, l2, r2⟩ := hy.agg
        have hm : isScal tt el = true → P.eqGuardType P.depth t = false := fun hsc => by
          unfold isScal at hsc
          cases hee : look tt el with
          | none => simp [hee] at hsc
          | some ee =>
            have hk := (look_ok h hee).1
            simp only [hee] at hsc
            have e1 : P.depth = (2 * (P.types.size + Made.depth)) + 1 + 1 := rfl
            rw [e1]
            cases hd : ee.td <;> simp only [hd] at hsc hk <;> try (cases hsc; done)
            all_goals
              have hk := hk
              simp only [TD.is] at hk
              simp only [Program.eqGuardType, hlk, hk]
        split at ha
        · rename_i hsc
          simp only [Option.map_eq_some_iff] at ha
          obtain ⟨r, hr, hh⟩ := ha
          obtain ⟨rfl, rfl⟩ := Prod.mk.inj hh
          have := aEq_ok h 9 t _ _ _ _ r hx hy hr 10000 (by omega)
          exact ⟨.bool r, by simp only [Sem.run_bind, run_eqGuard_agg (P := P) W .eql t X Y _ _ (hm hsc), Result.andThen_ok, run_eql_struct, this], .imm (.v _)⟩
        · rename_i hsc
          simp only [Option.map_eq_some_iff] at ha
          obtain ⟨r, hr, hh⟩ := ha
          obtain ⟨rfl, rfl⟩ := Prod.mk.inj hh
          have := aEq_ok h 9 t _ _ _ _ r hx hy hr 10000 (by omega)
          exact ⟨.bool (!r), by simp only [Sem.run_bind, run_eqGuard_agg (P := P) W .neq t X Y _ _ (hm hsc), Result.andThen_ok, run_neq_struct, this], .imm (.v _)⟩
        · cases ha
      rename_i flds
      rw [htd] at hlk
      obtain ⟨fs, hu, hmap, hall, hp, hm⟩ := hlk
      obtain ⟨vs, rfl, l1, r1⟩ := hx.agg
      obtain ⟨us, rfl, l2, r2⟩ := hy.agg
      split at ha
      · simp only [Option.map_eq_some_iff] at ha
        obtain ⟨r, hr, hh⟩ := ha
        obtain ⟨rfl, rfl⟩ := Prod.mk.inj hh
        have := aEq_ok h 9 t _ _ _ _ r hx hy hr 10000 (by omega)
        exact ⟨.bool r, by simp only [Sem.run_bind, run_eqGuard_agg (P := P) W .eql t X Y _ _ hm, Result.andThen_ok, run_eql_struct, this], .imm (.v _)⟩
      · simp only [Option.map_eq_some_iff] at ha
        obtain ⟨r, hr, hh⟩ := ha
        obtain ⟨rfl, rfl⟩ := Prod.mk.inj hh
        have := aEq_ok h 9 t _ _ _ _ r hx hy hr 10000 (by omega)
        exact ⟨.bool (!r), by simp only [Sem.run_bind, run_eqGuard_agg (P := P) W .neq t X Y _ _ hm, Result.andThen_ok, run_neq_struct, this], .imm (.v _)⟩
      · cases ha
  · cases ha
end Go.Proofs.YtaneamfnjhiigaaDoor.E
