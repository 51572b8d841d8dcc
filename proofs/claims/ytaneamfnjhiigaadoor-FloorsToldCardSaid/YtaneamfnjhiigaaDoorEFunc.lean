/- The engine, part 21: code's run, and functions. -/
import Derived.Test.YtaneamfnjhiigaaDoorECode
namespace Go.Proofs.YtaneamfnjhiigaaDoor.E
open Go
set_option linter.unusedSimpArgs false
set_option linter.unusedVariables false
noncomputable section

theorem Turn.held {R : Nat → Prop} {φ : Phi} {σ : St} {W : World} (hs : Sim R φ σ W) {l : Nat} {e : Ex} (hl : σ[l]? = some (.lrec e)) : ∃ b r, φ l = some (some (b, 0)) ∧ W.heap[b]? = some (.loop r) ∧ r.state = e.st ∧ r.pending = e.jump ∧
    ∀ st pe B', (B' = .held ∨ B' = .gone ∨ ∃ e', B' = .lrec e' ∧ st = e'.st ∧ pe = e'.jump) → Turn R φ σ W R φ (σ.set l B') (W.putObj b (.loop { r with state := st, pending := pe })) := by
  obtain ⟨b, r, h1, h2, h3, h4⟩ := hs.blk l _ hl
  have hlt := (Array.getElem?_eq_some_iff.1 h2).1
  refine ⟨b, r, h1, h2, h3, h4, fun st pe B' hB' => Turn.putLoop hs hl (.inr ⟨e, rfl⟩) h1 h2 ?_ ?_⟩
  · rcases hB' with rfl | rfl | ⟨e', rfl, rfl, rfl⟩
    · exact ⟨b, _, h1, World.putObj_heap_same hlt⟩
    · trivial
    · exact ⟨b, _, h1, World.putObj_heap_same hlt, rfl, rfl⟩
  · intro b' k hw
    rcases hB' with rfl | rfl | ⟨e', rfl, rfl, rfl⟩
    · have hw : φ l = some (some (b', 0)) := hw; rw [h1] at hw; exact (Prod.mk.inj (Option.some.inj (Option.some.inj hw))).1.symm
    · exact hw.elim
    · have hw : φ l = some (some (b', 0)) := hw; rw [h1] at hw; exact (Prod.mk.inj (Option.some.inj (Option.some.inj hw))).1.symm

theorem Turn.back {R : Nat → Prop} {φ : Phi} {σ : St} {W : World} (hs : Sim R φ σ W) {l : Nat} (hl : σ[l]? = some .held) : ∃ b r, φ l = some (some (b, 0)) ∧ W.heap[b]? = some (.loop r) ∧
    ∀ e : Ex, Turn R φ σ W R φ (σ.set l (.lrec e)) (W.putObj b (.loop { r with state := e.st, pending := e.jump })) := by
  obtain ⟨b, r, h1, h2⟩ := hs.blk l _ hl
  have hlt := (Array.getElem?_eq_some_iff.1 h2).1
  refine ⟨b, r, h1, h2, fun e => Turn.putLoop hs hl (.inl rfl) h1 h2 ⟨b, _, h1, World.putObj_heap_same hlt, rfl, rfl⟩ fun b' k hw => ?_⟩
  have hw : φ l = some (some (b', 0)) := hw; rw [h1] at hw; exact (Prod.mk.inj (Option.some.inj (Option.some.inj hw))).1.symm

/-- A frame that is known, on by a piece. -/
theorem Holds.by {E : Ent} {R R' : Nat → Prop} {φ φ' : Phi} {σ σ' : St} {f : List AV} {a : Act} {w w' : World} (hT : Turn E.R E.φ E.σ E.W R φ σ w) (hl : f.length = a.tmps.size) (hf : ∀ (t : Nat) (u : AV), f[t]? = some u → VR R φ w u (a.tmps.getD t undef)) (hm : Marks E.W a.defers w) (h : Turn R φ σ w R' φ' σ' w') : Holds E f σ' a w' :=
  Holds.step hT hl hf hm h (.dead undef : VR R' φ' w' .dead undef) none

/-- What the rounds of a loop do. -/
def roundY (X : Cx) (Y : YE) (l : Nat) (f : List AV) (ps : Array Tmp) (asg body : List AV → St → Nat → Cont → Option Prop) : YE := fun k => match Nat.beq k l with
  | true => some fun args σ2 K1 => match σ2[l]? with
    | some (.lrec .normal) => match Nat.beq args.length ps.size with
      | true => normL (setMany f ps.toList args) fun f1 => asg f1 σ2 σ2.length fun e f2 σ3 => match e with
        | .normal => match σ3[l]? with
          | some (.lrec .normal) => normL (σ3.set l .held) fun σ3 => body f2 σ3 σ2.length fun e _ σ4 => match σ4[l]? with
            | some .held => normL (σ4.set l (.lrec e)) fun σ4 => K1 (.v (.bool (isN e))) σ4
            | _ => none
          | _ => none
        | _ => none
      | false => none
    | _ => none
  | false => Y k

/-- What is shown of code. -/
def CodeOk (P : Program) (X : Cx) (c : Code) : Prop :=
  ∀ {E : Ent} {Y : YE} {r : Option Nat} {nb : Nat}, Sim E.R E.φ E.σ E.W → YOk P E.R E.φ E.σ E.W Y → RoundAt r E.W → E.σ.length ≤ nb → ∀ {f : List AV} {σ : St} {K : Cont} {a : Act} {w : World} {Q : Exit → Act → World → Prop}, Holds E f σ a w → tr (runC X Y nb c f σ K) →
    (∀ e f' σ' a' w', Holds E f' σ' a' w' → tr (K e f' σ') → Q e.to a' w') → c.wpIn (fen r) 0 P Q a w

/-- The rounds do what is told. -/
theorem rounds_ok {P : Program} {X : Cx} {asg body : Code} (ha : CodeOk P X asg) (hb : CodeOk P X body) {R : Nat → Prop} {φ : Phi} {σ : St} {W : World} {Y : YE} {l b : Nat} (hY : YOk P R φ σ W Y) (hs : Sim R φ σ W) (hl : φ l = some (some (b, 0)))
    {rec : Loop} (hrec : W.heap[b]? = some (.loop rec)) (hasg : rec.assign = asg) (hbody : rec.body = body) {f : List AV} {ps : Array Tmp} (hps : rec.params = ps) (hlen : f.length = rec.tmps.size) (hf : ∀ (t : Nat) (u : AV), f[t]? = some u → VR R φ W u (rec.tmps.getD t undef)) :
    YOk P R φ σ W (roundY X Y l f ps (fun f σ nb K => runC X Y nb asg f σ K) (fun f σ nb K => runC X Y nb body f σ K)) := by
  intro k T hT
  unfold roundY at hT
  cases hk : Nat.beq k l with
  | false => simp only [hk] at hT; exact hY k T hT
  | true =>
    obtain rfl := Nat.eq_of_beq_eq_true hk
    simp only [hk, Option.some.injEq] at hT
    subst hT
    refine ⟨b, hl, fun {R1 φ1 σ1 W1} hT1 {args vals} hv {K} hK => ?_⟩
    dsimp only at hK
    split at hK
    case h_2 => exact hK.elim
    rename_i hl1
    split at hK
    case h_2 => exact hK.elim
    rename_i hn
    have hn := Nat.eq_of_beq_eq_true hn
    rw [normL_eq] at hK
    obtain ⟨b', r1, p1, p2, p3, p4, p5⟩ := Turn.held hT1.sim hl1
    have hb1 : φ1 k = some (some (b, 0)) := hT1.ext _ _ hl
    rw [hb1] at p1
    obtain ⟨rfl, _⟩ := Prod.mk.inj (Option.some.inj (Option.some.inj p1))
    obtain ⟨st, pe, q1⟩ := hT1.keep.loops b rec hrec
    rw [p2] at q1
    obtain rfl : r1 = { rec with state := st, pending := pe } := by injection q1 with q1; injection q1
    have hvsz : vals.toArray.size = rec.params.size := by rw [hps, ← hn, hv.1]; simp
    have hy := run_yield (P := P) p2 hvsz
    refine ⟨rec.fn, _, rec.assign, rec.body, hy, roundIn_of_wpIn trivial ?_⟩
    rw [hasg, hbody]
    have fr := setMany_rel ps.toList args vals f rec.tmps hv (by simpa using hn) hlen fun t u hu => hT1.vr hs (hf t u hu)
    have htm : ∀ z : Array Value, (((ps.zip vals.toArray).foldl (fun tmps x => match x with | (t, a) => tmps.setIfInBounds t a) z) : Array Value) = (ps.toList.zip vals).foldl (fun tmps (p : Nat × Value) => tmps.setIfInBounds p.1 p.2) z := fun z => by
      rw [← Array.foldl_toList, Array.toList_zip]
    have hst : st = .ready := p3
    have hpe : pe = none := p4
    subst hst hpe
    have E1 : Ent := ⟨R1, φ1, σ1, W1⟩
    have hR1 : RoundAt (some b) W1 := fun l hl => by obtain rfl := Option.some.inj hl; exact ⟨_, p2⟩
    have hH : Holds ⟨R1, φ1, σ1, W1⟩ (setMany f ps.toList args) σ1 { tmps := (rec.params.zip vals.toArray).foldl (fun tmps x => match x with | (t, a) => tmps.setIfInBounds t a) rec.tmps, defers := [] } W1 :=
      ⟨R1, φ1, Turn.refl hT1.sim, by rw [hps, htm]; exact fr.1, fun t u hu => by rw [hps, htm]; exact fr.2 t u hu, Marks.nil _ _⟩
    refine ha (E := ⟨R1, φ1, σ1, W1⟩) (r := some b) hT1.sim (hY.later hT1) hR1 (Nat.le_refl _) hH hK fun e f2 σ3 a1 w1 h1 hk1 => ?_
    cases e with
    | exit id => exact hk1.elim
    | ret => exact hk1.elim
    | normal =>
      simp only at hk1
      split at hk1
      case h_2 => exact hk1.elim
      rename_i hl3
      rw [normL_eq] at hk1
      obtain ⟨R3, φ3, hT3, len3, fr3, mk3⟩ := h1
      obtain ⟨b'', r3, s1, s2, s3, s4, s5⟩ := Turn.held hT3.sim hl3
      have hb3 : φ3 k = some (some (b, 0)) := hT3.ext _ _ hb1
      rw [hb3] at s1
      obtain ⟨rfl, _⟩ := Prod.mk.inj (Option.some.inj (Option.some.inj s1))
      obtain ⟨st, pe, q1⟩ := hT3.keep.loops b _ p2
      rw [s2] at q1
      obtain rfl : r3 = { rec with state := st, pending := pe } := by injection q1 with q1; injection q1
      have hst : st = .ready := s3
      have hpe : pe = none := s4
      subst hst hpe
      refine ⟨_, run_beginRound s2 rfl, ?_⟩
      have hT4 := s5 .busy none .held (.inl rfl)
      refine hb (E := ⟨R1, φ1, σ1, W1⟩) (r := some b) hT1.sim (hY.later hT1) hR1 (Nat.le_refl _) (Holds.by hT3 len3 fr3 mk3 hT4) hk1 fun e f5 σ5 a5 w5 h5 hk5 => ?_
      split at hk5
      case h_2 => exact hk5.elim
      rename_i hl5
      rw [normL_eq] at hk5
      obtain ⟨R5, φ5, hT5, len5, fr5, mk5⟩ := h5
      obtain ⟨b5, r5, t1, t2, t3⟩ := Turn.back hT5.sim hl5
      have hb5 : φ5 k = some (some (b, 0)) := hT5.ext _ _ hb1
      rw [hb5] at t1
      obtain ⟨rfl, _⟩ := Prod.mk.inj (Option.some.inj (Option.some.inj t1))
      have fin := hT5.trans (t3 e)
      cases e with
      | normal => exact ⟨_, _, run_endRound none t2, .v (.bool true), _, _, _, _, rfl, fin, .imm (.v _), hk5⟩
      | exit id => exact ⟨_, _, run_endRound (some (.exit id)) t2, .v (.bool false), _, _, _, _, rfl, fin, .imm (.v _), hk5⟩
      | ret => exact ⟨_, _, run_endRound (some .ret) t2, .v (.bool false), _, _, _, _, rfl, fin, .imm (.v _), hk5⟩

theorem Marks.more {W0 w w' : World} {ds : List Deferred} (h : Marks W0 ds w) (hle : W0.heap.size ≤ w.heap.size) (hk : ∀ (D : Nat) (x : Obj), w.heap[D]? = some (.deferred (some [])) → w'.heap[D]? = some (.deferred (some []))) (hn : w'.heap[w.heap.size]? = some (.deferred (some []))) :
    Marks W0 ({ target := .collected w.heap.size, args := #[] } :: ds) w' := by
  obtain ⟨Ds, e, hnd, hd⟩ := h
  refine ⟨w.heap.size :: Ds, by rw [e]; rfl, List.nodup_cons.2 ⟨fun hm => ?_, hnd⟩, fun D hD => ?_⟩
  · have := (Array.getElem?_eq_some_iff.1 (hd _ hm).2).1
    omega
  · rcases List.mem_cons.1 hD with rfl | hD
    · exact ⟨hle, hn⟩
    · exact ⟨(hd D hD).1, hk D (.deferred none) (hd D hD).2⟩

/-- A scope in which nothing is jumped to. -/
theorem stepR_scope' {P : Program} {b : Frame} {a : Act} {w : World} {k : List Item} {cs : List Frame} {c : Code} : step P (lone (b.atR a (.code (.scope c) :: k)) cs w) = .next (lone (b.atR a (.code c :: .inScope c :: k)) cs w) :=
  step_lone_go (by simp [stepG, stepG.exec, Frame.atR])
theorem stepR_inScope' {P : Program} {b : Frame} {a : Act} {w : World} {k : List Item} {cs : List Frame} {c : Code} : step P (lone (b.atR a (.inScope c :: k)) cs w) = .next (lone (b.atR a k) cs w) :=
  step_lone_go (by simp [stepG, stepG.exec, Frame.atR])
theorem wpIn_scope' {F : Fence} {n : Nat} {P : Program} {Q : Exit → Act → World → Prop} {a : Act} {w : World} {c : Code} (h : c.wpIn F n P (fun e a w => (∀ l, e ≠ .goto l) ∧ Q e a w) a w) : (Code.scope c).wpIn F n P Q a w := by
  intro b k cs hro hb hr
  have h0 : (lone (b.atR a (.code (.scope c) :: k)) cs w).fenced P F := fenced_calm hb hr rfl
  obtain ⟨e, a₁, w₁, hq, harr⟩ := h b (.inScope c :: k) cs hro hb hr
  cases e with
  | normal => exact ⟨.normal, a₁, w₁, hq.2, .head h0 stepR_scope' (StepsIn.trans harr (.one (fenced_calm hb hr rfl) stepR_inScope'))⟩
  | exit id =>
    have hx : exitTo id (.inScope c :: k) = exitTo id k := by simp [exitTo]
    exact ⟨.exit id, a₁, w₁, hq.2, fun k' hk => .head h0 stepR_scope' (harr.1 k' (by rw [hx]; exact hk)),
      fun hr' hk => let ⟨k₁, h1, h2⟩ := harr.2 hr' (by rw [hx]; exact hk); ⟨k₁, h1, .head h0 stepR_scope' h2⟩⟩
  | goto l => exact absurd rfl (hq.1 l)
  | ret => exact ⟨_, a₁, w₁, hq.2, .of_steps (.one h0 stepR_scope') harr⟩
  | panic ch => exact ⟨_, a₁, w₁, hq.2, .of_steps (.one h0 stepR_scope') harr⟩
  | outgrown => exact ⟨_, a₁, w₁, hq.2, .of_steps (.one h0 stepR_scope') harr⟩

theorem runC_ok {P : Program} {X : Cx} (hX : CxOk P X) : ∀ c : Code, CodeOk P X c := by
  intro c
  induction c with
  | skip => intro E Y r nb hs hY hR hE f σ K a w Q h hr hq; exact wpIn_skip (hq .normal f σ a w h hr)
  | region id ops draw =>
    intro E Y r nb hs hY hR hE f σ K a w Q h hr hq
    cases draw with
    | false =>
      simp only [runC] at hr
      exact wpIn_region_list (opsK_ok hX.tt hX.cs hX.ks hY (fun a' w' f' σ' h' hk => hq .normal f' σ' a' w' h' hk) ops.toList h hr)
    | true =>
      simp only [runC, normL_eq] at hr
      obtain ⟨f', σ', h1, h2⟩ := drawK_eq _ _ _ _ _ hr
      split at h2
      case h_2 => exact h2.elim
      rename_i hd
      exact draw_ok hX.tt hX.cs hX.kd hX.mixed (by simpa using hd) (h.frees _) h1 fun a' w' h' => hq .normal f' σ' a' w' h' h2
  | seq x y ihx ihy =>
    intro E Y r nb hs hY hR hE f σ K a w Q h hr hq
    simp only [runC] at hr
    split at hr
    · obtain ⟨β, inv, hf, hst, h1, h2⟩ := hr
      refine wpIn_seq (ihx hs hY hR hE h h1 fun e f' σ' a' w' h' hk => ?_)
      cases e with
      | normal =>
        obtain ⟨y, hy, hc⟩ := hk
        have := h2 y hy
        simp only [normF_eq, normL_eq] at this
        exact ihy hs hY hR hE (hc.holds hE hs.dom h') this hq
      | exit id => exact hq (.exit id) f' σ' a' w' h' hk
      | ret => exact hq .ret f' σ' a' w' h' hk
    · refine wpIn_seq (ihx hs hY hR hE h hr fun e f' σ' a' w' h' hk => ?_)
      cases e with
      | normal => exact ihy hs hY hR hE h' hk hq
      | exit id => exact hq (.exit id) f' σ' a' w' h' hk
      | ret => exact hq .ret f' σ' a' w' h' hk
  | cond k x y ihx ihy =>
    intro E Y r nb hs hY hR hE f σ K a w Q h hr hq
    simp only [runC] at hr
    split at hr
    case h_2 => exact hr.elim
    rename_i b hb
    have h0 := h
    obtain ⟨R, φ, hT, hl, hf, hm⟩ := h
    have hv := ev_frame hT.sim hl hf k
    rw [hb] at hv
    have hv := hv.val
    cases b with
    | true => exact wpIn_cond_true hv (ihx hs hY hR hE h0 hr hq)
    | false => exact wpIn_cond_false hv (ihy hs hY hR hE h0 hr hq)
  | block id x ihx =>
    intro E Y r nb hs hY hR hE f σ K a w Q h hr hq
    simp only [runC] at hr
    refine wpIn_block (ihx hs hY hR hE h hr fun e f' σ' a' w' h' hk => ?_)
    cases e with
    | normal => exact hq .normal f' σ' a' w' h' hk
    | ret => exact hq .ret f' σ' a' w' h' hk
    | exit j =>
      simp only at hk
      show if j = id then _ else _
      cases hj : Nat.beq j id with
      | true =>
        obtain rfl := Nat.eq_of_beq_eq_true hj
        simp only [hj] at hk
        rw [if_pos rfl]
        exact hq .normal f' σ' a' w' h' hk
      | false =>
        simp only [hj] at hk
        rw [if_neg (Nat.ne_of_beq_eq_false hj)]
        exact hq (.exit j) f' σ' a' w' h' hk
  | loop body ih =>
    intro E Y r nb hs hY hR hE f σ K a w Q h hr hq
    simp only [runC] at hr
    refine loopP_ok hE hs.dom (round := fun f σ A => runC X Y nb body f σ fun e f σ => some (A e f σ)) (K := fun e f' σ' => tr (normF f' fun f' => normL σ' fun σ' => K e f' σ')) (fun {f σ A a w Q} hh hk hq => ?_) hr h fun e f' σ' a' w' h' hk => ?_
    · exact ih hs hY hR hE hh hk fun e f' σ' a' w' h' hk => hq e f' σ' a' w' h' hk
    · rw [normF_eq, normL_eq] at hk
      exact hq e f' σ' a' w' h' hk
  | exit id => intro E Y r nb hs hY hR hE f σ K a w Q h hr hq; exact wpIn_exit (hq (.exit id) f σ a w h hr)
  | ret => intro E Y r nb hs hY hR hE f σ K a w Q h hr hq; exact wpIn_ret (hq .ret f σ a w h hr)
  | label id => intro E Y r nb hs hY hR hE f σ K a w Q h hr hq; exact wpIn_label (hq .normal f σ a w h hr)
  | scope x ihx =>
    intro E Y r nb hs hY hR hE f σ K a w Q h hr hq
    simp only [runC] at hr
    exact wpIn_scope' (ihx hs hY hR hE h hr fun e f' σ' a' w' h' hk => ⟨fun l => by (cases e <;> exact (fun h => by cases h)), hq e f' σ' a' w' h' hk⟩)
  | rangeFunc g ps asg body iha ihb =>
    intro E Y r nb hs hY hR hE f σ K a w Q h hr hq
    simp only [runC] at hr
    split at hr
    case h_2 => exact hr.elim
    rename_i gf us ls hg
    split at hr
    case h_2 => exact hr.elim
    rename_i T hT
    rw [normL_eq, normL_eq] at hr
    obtain ⟨hcal, hok⟩ := run_ok hX.ks hT
    have h0 := h
    obtain ⟨R, φ, hTu, hl, hf, hm⟩ := h
    have hv := ev_frame hTu.sim hl hf g
    rw [hg] at hv
    obtain ⟨uv, kv, hval, hus, hls⟩ : ∃ uv kv : List Value, a.eval g = .func (.func gf) uv.toArray kv.toArray ∧ VRs R φ w us uv ∧ VRs R φ w ls kv := by
      generalize a.eval g = v at hv
      cases hv with
      | imm hi => cases hi
      | f h1 h2 h3 h4 => exact ⟨_, _, rfl, ⟨h1, h2⟩, ⟨h3, h4⟩⟩
    -- the rest, where the record is laid
    have key : ∀ (b : Nat) (rec : Loop) (w0 : World) (mark : List Deferred), b = w0.heap.size → rec.assign = asg → rec.body = body → rec.params = ps → rec.tmps = a.tmps → rec.state = .ready → rec.pending = none → Turn R φ σ w R φ σ w0 →
        (∀ w', (∀ (D : Nat), (w0.alloc (.loop rec)).heap[D]? = some (.deferred (some [])) → w'.heap[D]? = some (.deferred (some []))) → Marks E.W (mark ++ a.defers) w') →
        Calls P gf (uv ++ [Value.func (.yield b) #[] #[]] ++ kv).toArray (w0.alloc (.loop rec)) (rangePost (fen r) 0 P b Q { a with defers := mark ++ a.defers }) := by
      intro b rec w0 mark hb hrasg hrbody hrps hrt hrst hrpe hT0 hmk
      subst hb
      have hnew : BlkOk R (upd φ σ.length (some (w0.heap.size, 0))) (w0.alloc (.loop rec)) σ.length (.lrec .normal) := ⟨w0.heap.size, rec, upd_same _ _ _, World.alloc_heap_new _ _, hrst, hrpe⟩
      have hT1 := hT0.trans (Turn.newObj hT0.sim (.loop rec) hnew)
      have hY1 := hY.later (hTu.trans hT1)
      have hYr := rounds_ok (X := X) iha ihb hY1 hT1.sim (l := σ.length) (b := w0.heap.size) (upd_same _ _ _) (World.alloc_heap_new _ _) hrasg hrbody (f := f) hrps (by rw [hrt]; exact hl) fun t u hu => by rw [hrt]; exact hT1.vr hTu.sim (hf t u hu)
      have hyv : VR R (upd φ σ.length (some (w0.heap.size, 0))) (w0.alloc (.loop rec)) (.y σ.length) (.func (.yield w0.heap.size) #[] #[]) := .y (upd_same _ _ _)
      have hvs : VRs R (upd φ σ.length (some (w0.heap.size, 0))) (w0.alloc (.loop rec)) (us ++ [.y σ.length] ++ ls) (uv ++ [Value.func (.yield w0.heap.size) #[] #[]] ++ kv) :=
        VRs.append (VRs.append ⟨hus.1, fun k u x hu hx => hT1.vr hTu.sim (hus.2 k u x hu hx)⟩ ⟨rfl, fun k u x hu hx => by
          cases k with
          | zero => simp at hu hx; subst hu hx; exact hyv
          | succ k => simp at hu⟩) ⟨hls.1, fun k u x hu hx => hT1.vr hTu.sim (hls.2 k u x hu hx)⟩
      refine (hok hr hT1.sim hYr hvs).mono ?_
      rintro e w2 ⟨u, σ', v, R', φ', rfl, hT2, hv2, hk2⟩
      have hT12 := hT1.trans hT2
      have hb2 : φ' σ.length = some (some (w0.heap.size, 0)) := hT2.ext _ _ (upd_same _ _ _)
      have marks : ∀ r2 : Loop, w2.heap[w0.heap.size]? = some (.loop r2) → ∀ o, Marks E.W (mark ++ a.defers) (w2.putObj w0.heap.size o) := fun r2 h2 o => hmk _ fun D hD => by
        have hD2 : w2.heap[D]? = some (.deferred (some [])) := by
          rw [hT2.keep.obj D (Array.getElem?_eq_some_iff.1 hD).1 fun k hw => ?_]
          · exact hD
          · rcases hT1.sim.owned hw with ⟨c, T, fr, h2⟩ | ⟨r, h2⟩ <;> rw [hD] at h2 <;> cases h2
        rw [World.putObj_heap_other fun e => by rw [e, h2] at hD2; cases hD2]
        exact hD2
      have go : ∀ e : Ex, σ'[σ.length]? = some (.lrec e) → tr (K e f (σ'.set σ.length .gone)) → rangePost (fen r) 0 P w0.heap.size Q { a with defers := mark ++ a.defers } (.returned v) w2 := by
        intro e he hk
        obtain ⟨b', r2, p1, p2, p3, p4, p5⟩ := Turn.held hT2.sim he
        rw [hb2] at p1
        obtain ⟨rfl, _⟩ := Prod.mk.inj (Option.some.inj (Option.some.inj p1))
        have hT3 := p5 .exhausted r2.pending .gone (.inr (.inl rfl))
        have hT := hT12.trans hT3
        have hH : Holds E f (σ'.set σ.length .gone) { a with defers := mark ++ a.defers } (w2.putObj w0.heap.size (.loop { r2 with state := .exhausted })) :=
          ⟨_, _, hTu.trans hT, hl, fun t u hu => hT.vr hTu.sim (hf t u hu), marks r2 p2 _⟩
        refine ⟨r2.pending, _, run_endLoop p2 (by rw [p3]; cases e <;> simp [Ex.st]), ?_⟩
        rw [p4] at hH ⊢
        cases e with
        | normal => exact hq .normal f _ _ _ hH hk
        | exit id => exact wpIn_exit (hq (.exit id) f _ _ _ hH hk)
        | ret => exact wpIn_ret (hq .ret f _ _ _ hH hk)
      split at hk2
      · rename_i he; rw [normL_eq] at hk2; exact go .normal he hk2
      · rename_i e hne he; rw [normL_eq] at hk2; exact go e he hk2
      · exact hk2.elim
    refine wpIn_rangeFunc fun fn _ => ?_
    have res : ∀ (b : Nat) (W1 : World), ∃ d, (resolve a.eval (rangeCall g b) 0).run P W1 = .ok d W1 ∧ (invoke d.target d.args).run P W1 = .ok (.enter gf (uv ++ [Value.func (.yield b) #[] #[]] ++ kv).toArray) W1 := by
      intro b W1
      obtain ⟨fn', hfn', hnm', hbody'⟩ := hcal
      refine ⟨_, by simp only [resolve, hval, Deferred.ofValue, Sem.run_bind, Sem.run_pure, Result.andThen_ok]; rfl, ?_⟩
      simp only [invoke]
      unfold callFunc
      simp only [Sem.run_bind, run_program, Result.andThen_ok, hfn', hnm', hbody', Bool.false_eq_true, if_false, Sem.run_pure]
      simp [Act.eval]
    cases r with
    | none =>
      obtain ⟨d, e1, e2⟩ := res (w.heap.size + 1) ((w.alloc (.deferred (some []))).alloc (.loop { state := .ready, pending := none, fn, tmps := a.tmps, params := ps, assign := asg, body, defers := w.heap.size }))
      refine ⟨w.heap.size + 1, [{ target := .collected w.heap.size, args := #[] }], _, d, _, gf, _, _, run_enterLoop_outer _ _ _ _ _, e1, fun f _ => fen_fn none f, e2, fun h => fen_depth none h, callsIn_fen.2 ?_⟩
      refine key (w.heap.size + 1) _ (w.alloc (.deferred (some []))) [{ target := .collected w.heap.size, args := #[] }] (by simp) rfl rfl rfl rfl rfl rfl (Turn.alloc hTu.sim _) fun w' hw' => ?_
      refine hm.more hTu.keep.size (fun D x hD => hw' D ?_) (hw' _ ?_)
      · have h1 := (Array.getElem?_eq_some_iff.1 hD).1
        rw [heap_alloc _ _ _ (by simp; omega), heap_alloc _ _ _ h1]; exact hD
      · rw [heap_alloc _ _ _ (by simp)]; exact heap_new _ _
    | some l0 =>
      obtain ⟨r0, hr0⟩ := hR l0 rfl
      obtain ⟨st, pe, hr0⟩ := hTu.keep.loops l0 r0 hr0
      obtain ⟨d, e1, e2⟩ := res w.heap.size (w.alloc (.loop { state := .ready, pending := none, fn, tmps := a.tmps, params := ps, assign := asg, body, defers := r0.defers }))
      refine ⟨w.heap.size, [], _, d, _, gf, _, _, run_enterLoop_inner hr0 _ _ _ _ _, e1, fun f _ => fen_fn (some l0) f, e2, fun h => fen_depth (some l0) h, callsIn_fen.2 ?_⟩
      refine key w.heap.size _ w [] rfl rfl rfl rfl rfl rfl rfl (Turn.refl hTu.sim) fun w' hw' => ?_
      obtain ⟨Ds, e, hnd, hd⟩ := hm
      refine ⟨Ds, e, hnd, fun D hD => ⟨(hd D hD).1, hw' D ?_⟩⟩
      rw [heap_alloc _ _ _ (Array.getElem?_eq_some_iff.1 (hd D hD).2).1]; exact (hd D hD).2
  | _ => intro E Y r nb hs hY hR hE f σ K a w Q h hr hq; exact (show False from hr).elim
end
end Go.Proofs.YtaneamfnjhiigaaDoor.E
