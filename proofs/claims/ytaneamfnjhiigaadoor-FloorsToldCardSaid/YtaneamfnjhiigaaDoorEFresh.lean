/- The engine, part 32: contracts that read what their arguments name, also by way of others, and answer with new roots of plain cells. -/
import Derived.Test.YtaneamfnjhiigaaDoorEArg
namespace Go.Proofs.YtaneamfnjhiigaaDoor.E
open Go
set_option linter.unusedSimpArgs false
set_option linter.unusedVariables false

/-- An argument, as it is while nobody writes; what its cells name too. -/
def viewD1 (σ : St) : AV → AV
  | .p m off => match σ[m]? with
    | some (.lit cs) => match cs.all pureCell with
      | true => view1 σ (.p m off)
      | false => match (cs.map (view1 σ)).all pureCell && !cs.isEmpty with | true => .ip (cs.map (view1 σ)) off | false => .dead
    | _ => .dead
  | .s m sz o n => match σ[m]? with
    | some (.lit cs) => match cs.all pureCell with
      | true => view1 σ (.s m sz o n)
      | false => match (cs.map (view1 σ)).all pureCell && Nat.blt 0 sz with | true => .i sz n (fun k => ((cs.map (view1 σ)).drop ((o + k) * sz)).take sz) | false => .dead
    | _ => view1 σ (.s m sz o n)
  | u => view1 σ u
def vokD1 (σ : St) : AV → Bool
  | .p m _ => match σ[m]? with
    | some (.lit cs) => match cs.all pureCell with
      | true => true
      | false => cs.all (vok1 σ)
    | _ => true
  | .s m sz o n => match σ[m]? with
    | some (.lit cs) => match cs.all pureCell with
      | true => vok1 σ (.s m sz o n)
      | false => decide ((o + n) * sz ≤ cs.length) && (decide (n * sz < 281474976710656) && cs.all (vok1 σ))
    | _ => vok1 σ (.s m sz o n)
  | u => vok1 σ u
def viewD (σ : St) : AV → AV
  | .a us => .a (us.map (viewD1 σ))
  | u => viewD1 σ u
def vokD (σ : St) : AV → Bool
  | .a us => us.all (vokD1 σ)
  | u => vokD1 σ u
theorem map_fit {σ : St} {cs : List AV} (h : cs.all (vok1 σ) = true) : ∀ (k : Nat) (u0 u : AV), (cs.map (view1 σ))[k]? = some u0 → cs[k]? = some u → Fit [] σ u0 u := fun k u0 u h0 h1 => by
  obtain ⟨y, hy, rfl⟩ := getElem?_map_some h0
  rw [hy] at h1
  obtain rfl := Option.some.inj h1
  exact view1_fit (List.all_eq_true.1 h y (List.mem_of_getElem? hy))
theorem viewD1_fit {σ : St} {u : AV} (h : vokD1 σ u = true) : Fit [] σ (viewD1 σ u) u := by
  cases u with
  | p m off =>
    simp only [viewD1]
    simp only [vokD1] at h
    split
    · rename_i cs hm
      simp only [hm] at h
      split
      · exact view1_fit (by rfl)
      · rename_i hp
        simp only [hp] at h
        split
        · rename_i hc
          simp only [Bool.and_eq_true, Bool.not_eq_true', List.isEmpty_eq_false_iff] at hc
          exact .fzpd hm (by simp) (by simp) (map_fit h) hc.1 (by simpa using hc.2)
        · exact .dead _
    · exact .dead _
  | s m sz o n =>
    simp only [viewD1]
    simp only [vokD1] at h
    split
    · rename_i cs hm
      simp only [hm] at h
      split
      · rename_i hp
        simp only [hp] at h
        exact view1_fit h
      · rename_i hp
        simp only [hp, Bool.and_eq_true, decide_eq_true_eq] at h
        split
        · rename_i hc
          simp only [Bool.and_eq_true, Nat.blt_eq] at hc
          exact .fzd hm (by simp) (by simp) (map_fit h.2.2) hc.1 hc.2 (by simpa using h.1) h.2.1 fun _ _ => rfl
        · exact .dead _
    · rename_i hno
      refine view1_fit ?_
      split at h
      · rename_i cs hm; exact absurd hm (hno cs)
      · exact h
  | v x => exact view1_fit (u := .v x) h
  | q l sz i j => exact view1_fit (u := .q l sz i j) h
  | i sz n g => exact view1_fit (u := .i sz n g) h
  | ip cs j => exact view1_fit (u := .ip cs j) h
  | a us => exact view1_fit (u := .a us) h
  | t us => exact view1_fit (u := .t us) h
  | f fn us cs => exact view1_fit (u := .f fn us cs) h
  | y l => exact view1_fit (u := .y l) h
  | z => exact view1_fit (u := .z) h
  | dead => exact view1_fit (u := .dead) h
theorem viewD_fit {σ : St} {u : AV} (h : vokD σ u = true) : Fit [] σ (viewD σ u) u := by
  cases u with
  | a us =>
    simp only [vokD] at h
    refine .a (by simp) fun k u0 u h0 h1 => ?_
    obtain ⟨y, hy, rfl⟩ := getElem?_map_some h0
    rw [hy] at h1
    obtain rfl := Option.some.inj h1
    exact viewD1_fit (List.all_eq_true.1 h y (List.mem_of_getElem? hy))
  | v x => exact viewD1_fit (u := .v x) h
  | p l off => exact viewD1_fit (u := .p l off) h
  | q l sz i j => exact viewD1_fit (u := .q l sz i j) h
  | s l sz o n => exact viewD1_fit (u := .s l sz o n) h
  | i sz n g => exact viewD1_fit (u := .i sz n g) h
  | ip cs j => exact viewD1_fit (u := .ip cs j) h
  | y l => exact viewD1_fit (u := .y l) h
  | z => exact viewD1_fit (u := .z) h
  | t vs => exact viewD1_fit (u := .t vs) h
  | f fn us cs => exact viewD1_fit (u := .f fn us cs) h
  | dead => exact viewD1_fit (u := .dead) h

/-- What is read: the roots that arguments name, and those that their cells name. -/
def reads2 (args : List AV) (σ : St) : List Nat := readsL args ++ (readsL args).flatMap fun l => rootsB σ[l]?
theorem view1_cong {σ σ₂ : St} {u : AV} (h : ∀ l ∈ rootsAV.rootsAV1 u, σ₂[l]? = σ[l]?) : view1 σ₂ u = view1 σ u ∧ vok1 σ₂ u = vok1 σ u := view1_eq h
theorem views_cong {σ σ₂ : St} {cs : List AV} (h : ∀ u ∈ cs, ∀ l ∈ rootsAV.rootsAV1 u, σ₂[l]? = σ[l]?) : cs.map (view1 σ₂) = cs.map (view1 σ) ∧ cs.all (vok1 σ₂) = cs.all (vok1 σ) := by
  refine ⟨List.map_congr_left fun u hu => (view1_eq (h u hu)).1, ?_⟩
  rw [Bool.eq_iff_iff, List.all_eq_true, List.all_eq_true]
  exact ⟨fun g y hy => by rw [← (view1_eq (h y hy)).2]; exact g y hy, fun g y hy => by rw [(view1_eq (h y hy)).2]; exact g y hy⟩
theorem rootsB_lit {cs : List AV} {u : AV} {l : Nat} (hu : u ∈ cs) (hl : l ∈ rootsAV.rootsAV1 u) : l ∈ rootsB (some (.lit cs)) := by
  simp only [rootsB]
  refine List.mem_flatMap.2 ⟨u, hu, ?_⟩
  cases u <;> first | exact hl | (simp [rootsAV.rootsAV1] at hl)
theorem viewD1_cong {σ σ₂ : St} {u : AV} (h : ∀ l ∈ rootsAV.rootsAV1 u, σ₂[l]? = σ[l]?) (h2 : ∀ l ∈ rootsAV.rootsAV1 u, ∀ m ∈ rootsB σ[l]?, σ₂[m]? = σ[m]?) : viewD1 σ₂ u = viewD1 σ u ∧ vokD1 σ₂ u = vokD1 σ u := by
  have hv := view1_eq h
  cases u with
  | p m off =>
    have hm := h m (by simp [rootsAV.rootsAV1])
    simp only [viewD1, vokD1, hm]
    cases hs : σ[m]? with
    | none => exact ⟨rfl, rfl⟩
    | some B =>
      cases B with
      | lit cs =>
        have hc := views_cong (σ := σ) (σ₂ := σ₂) (cs := cs) fun u hu l hl => h2 m (by simp [rootsAV.rootsAV1]) l (by rw [hs]; exact rootsB_lit hu hl)
        simp only [hc.1, hc.2, hv.1]
        exact ⟨by first | rfl | trivial, by first | rfl | trivial⟩
      | _ => exact ⟨rfl, rfl⟩
  | s m sz o n =>
    have hm := h m (by simp [rootsAV.rootsAV1])
    simp only [viewD1, vokD1, hm]
    cases hs : σ[m]? with
    | none => exact hv
    | some B =>
      cases B with
      | lit cs =>
        have hc := views_cong (σ := σ) (σ₂ := σ₂) (cs := cs) fun u hu l hl => h2 m (by simp [rootsAV.rootsAV1]) l (by rw [hs]; exact rootsB_lit hu hl)
        simp only [hc.1, hc.2, hv.1, hv.2]
        exact ⟨by first | rfl | trivial, by first | rfl | trivial⟩
      | _ => exact hv
  | _ => exact hv
theorem viewD_cong {σ σ₂ : St} {u : AV} (h : ∀ l ∈ rootsAV u, σ₂[l]? = σ[l]?) (h2 : ∀ l ∈ rootsAV u, ∀ m ∈ rootsB σ[l]?, σ₂[m]? = σ[m]?) : viewD σ₂ u = viewD σ u ∧ vokD σ₂ u = vokD σ u := by
  cases u with
  | a us =>
    have each : ∀ y ∈ us, viewD1 σ₂ y = viewD1 σ y ∧ vokD1 σ₂ y = vokD1 σ y := fun y hy => viewD1_cong (fun l hl => h l (by simp only [rootsAV, List.mem_flatMap]; exact ⟨y, hy, hl⟩)) fun l hl => h2 l (by simp only [rootsAV, List.mem_flatMap]; exact ⟨y, hy, hl⟩)
    simp only [viewD, vokD]
    refine ⟨congrArg AV.a (List.map_congr_left fun y hy => (each y hy).1), ?_⟩
    rw [Bool.eq_iff_iff, List.all_eq_true, List.all_eq_true]
    exact ⟨fun g y hy => by rw [← (each y hy).2]; exact g y hy, fun g y hy => by rw [(each y hy).2]; exact g y hy⟩
  | p m off => exact viewD1_cong (u := .p m off) h h2
  | s m sz o n => exact viewD1_cong (u := .s m sz o n) h h2
  | _ => exact ⟨rfl, rfl⟩

/-- Values that name new roots, or nothing. -/
def newV : AV → Bool
  | .v x => scal x
  | .s _ _ _ _ => true
  | .p _ _ => true
  | _ => false
def newU : AV → Bool
  | .t cs => cs.all fun u => match u with | .a cs => cs.all plain1 | u => newV u
  | .a cs => cs.all newV
  | u => newV u
theorem newV_ok {R R' : Nat → Prop} {φ : Phi} {W : World} {u : AV} {v : Value} (hp : newV u = true) (h : VR R φ W u v) : VR R' φ W u v := by
  cases u with
  | v x => rw [h.val]; exact .imm (.v _)
  | s l sz o n =>
    cases h with
    | imm hi => cases hi
    | nil h => exact .nil h
    | z h => exact .z h
    | s h1 h2 h3 => exact .s h1 h2 h3
  | p l o =>
    cases h with
    | imm hi => cases hi
    | p h => exact .p h
  | _ => cases hp
theorem newU_ok {R R' : Nat → Prop} {φ : Phi} {W : World} {u : AV} {v : Value} (hp : newU u = true) (h : VR R φ W u v) : VR R' φ W u v := by
  have ag : ∀ {cs : List AV} {v : Value}, cs.all newV = true → VR R φ W (.a cs) v → VR R' φ W (.a cs) v := by
    intro cs v hp h
    obtain ⟨vs, rfl, hl, hr⟩ := h.agg
    exact .a hl fun k w x hw hx => newV_ok (List.all_eq_true.1 hp w (List.mem_of_getElem? hw)) (hr k w x hw hx)
  cases u with
  | t cs =>
    obtain ⟨vs, rfl, hl, hr⟩ := h.tup
    refine .t hl fun k w x hw hx => ?_
    have := List.all_eq_true.1 hp w (List.mem_of_getElem? hw)
    have hv := hr k w x hw hx
    cases w with
    | a cs => exact ag (List.all_eq_true.2 fun y hy => by
        have h1 := List.all_eq_true.1 this y hy
        cases y <;> first | exact h1 | cases h1) hv
    | _ => exact newV_ok this hv
  | a cs => exact ag hp h
  | v x => exact newV_ok hp h
  | s l sz o n => exact newV_ok hp h
  | p l o => exact newV_ok hp h
  | _ => cases hp
/-- Roots of plain cells. -/
def PlainS (σ : St) : Prop := ∀ B ∈ σ, (∃ sz n g, B = .tab sz n g ∧ ∀ k, k < n → ∀ u ∈ g k, ∃ x, u = .v x) ∨ (∃ cs, B = .lit cs ∧ ∀ u ∈ cs, newV u = true) ∨ B = .gone
def shiftR (n : Nat) : Nat → Option Nat := fun k => some (n + k)

/-- A contract that reads, and answers with new roots. -/
def freshCtr (G : List AV → Option (Bool × AV × St)) : Ctr := fun args σ => match (reads2 args σ).all fun l => Nat.blt l σ.length with
  | true => match G (args.map (viewD σ)) with
    | some (c, u, σn) => match newU u with
      | true => some (args.all (vokD σ) && c, reAV (shiftR σ.length) u, σ ++ σn.map (reB (shiftR σ.length)))
      | false => none
    | none => none
  | false => none

theorem freshCtr_ok {P : Program} {X : Cx} (hX : CxOk P X) {g : Nat} {fn : Func} (hg : P.funcs[g]? = some fn) (hnm : (fn.name == "runtime.NumGoroutine") = false) (hc : fn.body = some (bodyOf fn)) {G : List AV → Option (Bool × AV × St)}
    (hG : ∀ args u σn, G args = some (true, u, σn) → PlainS σn ∧ ∃ args', FitL [] [] args' args ∧ runF X fn args' [] u σn) : CtrOk P g (freshCtr G) := by
  refine ⟨⟨fn, hg, hnm, by rw [hc]; rfl⟩, ?_⟩
  intro args σ u σ' h R φ W hs vals hv
  unfold freshCtr at h
  split at h
  case h_2 => cases h
  split at h
  case h_2 => cases h
  rename_i c1 u1 σn hG1
  split at h
  case h_2 => cases h
  rename_i hp
  simp only [Option.some.injEq, Prod.mk.injEq, Bool.and_eq_true] at h
  obtain ⟨⟨hok, rfl⟩, rfl, rfl⟩ := h
  have hs' : Sim (more [] σ φ R) (fun _ => none) [] W := sim_nil (hs.old.to (fun _ h => .inl h) (fun _ _ _ _ h => h) fun b hb => by
    rcases hb with hb | ⟨m, B, k, _, e, w⟩
    · exact hs.old b hb
    · exact (hs.blk m B e).owned w)
  have hren : (ren [] φ) = fun _ => none := by funext l; simp [ren]
  have hren0 : (ren [] fun _ => none) = (fun _ => none : Phi) := by funext l; simp [ren]
  obtain ⟨hplain, args', hf, hrun⟩ := hG _ _ _ hG1
  refine (runF_ok hX hg hnm hc hrun hs' ⟨by rw [hf.len]; simpa using hv.1, fun k w x hw hx => ?_⟩).mono ?_
  · obtain ⟨z0, hz⟩ := get?_of_lt (l := args.map (viewD σ)) (k := k) (by rw [← hf.len]; exact lt_of_get? hw)
    obtain ⟨y, hy, e⟩ := getElem?_map_some hz
    have := (viewD_fit (List.all_eq_true.1 hok y (List.mem_of_getElem? hy))).ok hs (hv.2 k y x hy hx)
    rw [hren] at this
    subst e
    have := (hf.get k w _ hw hz).ok hs' this
    rwa [hren0, more_nil] at this
  · rintro e W' ⟨v, R', φn, rfl, hT, hv'⟩
    have hno : ∀ b k, ¬ Owned (fun _ => none) [] b k := fun b k ⟨l, B, e, _⟩ => by simp at e
    have hk : Keep (fun _ _ => False) W W' := hT.keep.mono fun b k hw => hno b k hw
    obtain ⟨φ', hφ'⟩ : ∃ φ' : Phi, φ' = fun l => if l < σ.length then φ l else φn (l - σ.length) := ⟨_, rfl⟩
    have hlow : ∀ {l : Nat}, l < σ.length → φ' l = φ l := fun h => by rw [hφ']; simp only [h, if_true]
    have hhigh : ∀ (k : Nat), φ' (σ.length + k) = φn k := fun k => by
      rw [hφ']; dsimp only; rw [if_neg (by omega)]; congr 1; omega
    have hx : Ext φ φ' := fun l p hp => by
      have : l < σ.length := by
        rcases Nat.lt_or_ge l σ.length with h | h
        · exact h
        · rw [hs.dom l h] at hp; cases hp
      rw [hlow this]; exact hp
    have hsh : ∀ l k p, shiftR σ.length l = some k → φn l = some p → φ' k = some p := fun l k p h1 h2 => by
      obtain rfl := Option.some.inj h1
      rw [hhigh]; exact h2
    have hget : ∀ (m : Nat) (B : Blk), (σ ++ σn.map (reB (shiftR σ.length)))[m]? = some B → (m < σ.length ∧ σ[m]? = some B) ∨ ∃ k B0, m = σ.length + k ∧ σn[k]? = some B0 ∧ B = reB (shiftR σ.length) B0 := fun m B hB => by
      rw [List.getElem?_append] at hB
      split at hB
      · rename_i hm; exact .inl ⟨hm, hB⟩
      · rename_i hm
        obtain ⟨B0, h1, h2⟩ := getElem?_map_some hB
        exact .inr ⟨m - σ.length, B0, by omega, h1, h2.symm⟩
    have hown : ∀ {k : Nat} {B0 : Blk} {b j : Nat}, own φ' (σ.length + k) (reB (shiftR σ.length) B0) b j → own φn k B0 b j := fun h => reB_own (hhigh _).symm h
    have hcalm : Calm R W' W' := fun _ _ _ _ h => h
    have nblk : ∀ (k : Nat) (B0 : Blk), σn[k]? = some B0 → BlkOk R φ' W' (σ.length + k) (reB (shiftR σ.length) B0) := fun k B0 e0 => by
      have hb := hT.sim.blk k B0 e0
      rcases hplain B0 (List.mem_of_getElem? e0) with ⟨sz, n, g, rfl, hpl⟩ | ⟨cs, rfl, hpl⟩ | rfl
      · obtain ⟨h1, h2, h3, h4⟩ := hb
        refine ⟨h1, h2, h3, ?_⟩
        rcases h4 with ⟨e1, e2⟩ | ⟨b, o, e1, fr, hc⟩
        · exact .inl ⟨by rw [hhigh]; exact e1, e2⟩
        · refine .inr ⟨b, o, by rw [hhigh]; exact e1, fr, fun i j u hi hu => ?_⟩
          obtain ⟨x, hx1, hx2⟩ := hc i j u hi hu
          obtain ⟨y, rfl⟩ := hpl i hi u (List.mem_of_getElem? hu)
          have hval : x = y := by cases hx2.1; rfl
          subst hval
          exact ⟨_, hx1, .v _, hx2.2⟩
      · obtain ⟨b, o, e1, fr, hc⟩ := hb
        refine ⟨b, o, by rw [hhigh]; exact e1, fr, fun i u hu => ?_⟩
        obtain ⟨y, hy, rfl⟩ := getElem?_map_some hu
        obtain ⟨x, hx1, hx2⟩ := hc i y hy
        exact ⟨x, hx1, reAV_ok (fun _ h => h) hcalm (fun _ => Nat.le_refl _) hsh (newV_ok (hpl y (List.mem_of_getElem? hy)) hx2)⟩
      · trivial
    refine ⟨v, R, φ', rfl, ⟨fun _ h => h, fun _ h => .inl h, hx, ⟨fun l B e => ?_, fun l l' B B' hne e e' b k k' w w' => ?_, fun l B e b k w hR => ?_, hs.old.keep hk.size (hk.calm fun _ _ h => h.elim), fun l hl => ?_⟩, fun b k ⟨l, B, e, w⟩ => ?_, hk.mono fun _ _ h => h.elim⟩, reAV_ok (fun _ h => h) hcalm (fun _ => Nat.le_refl _) hsh (newU_ok hp hv')⟩
    · rcases hget l B e with ⟨h1, h2⟩ | ⟨k, B0, rfl, h1, rfl⟩
      · exact (hs.blk l B h2).kept hk (fun _ h => h) (fun _ _ h => h.elim) (fun _ _ _ h => h.elim) hx (fun e => (hlow h1).trans e)
      · exact nblk k B0 h1
    · rcases hget l B e with ⟨h1, h2⟩ | ⟨j, B0, rfl, h1, rfl⟩
      · have w1 := (own_ext (hlow h1)).1 w
        rcases hget l' B' e' with ⟨h1', h2'⟩ | ⟨j', B0', rfl, h1', rfl⟩
        · exact hs.sep l l' B B' hne h2 h2' b k k' w1 ((own_ext (hlow h1')).1 w')
        · rcases hT.reg b k' ⟨j', B0', h1', hown w'⟩ with h | h
          · exact hno b k' h
          · have := (hs.blk l B h2).owned w1; omega
      · have w1 := hown w
        rcases hget l' B' e' with ⟨h1', h2'⟩ | ⟨j', B0', rfl, h1', rfl⟩
        · rcases hT.reg b k ⟨j, B0, h1, w1⟩ with h | h
          · exact hno b k h
          · have := (hs.blk l' B' h2').owned ((own_ext (hlow h1')).1 w'); omega
        · exact hT.sim.sep j j' B0 B0' (fun he => hne (by rw [he])) h1 h1' b k k' w1 (hown w')
    · rcases hget l B e with ⟨h1, h2⟩ | ⟨j, B0, rfl, h1, rfl⟩
      · exact hs.ro l B h2 b k ((own_ext (hlow h1)).1 w) hR
      · rcases hT.reg b k ⟨j, B0, h1, hown w⟩ with h | h
        · exact hno b k h
        · have := hs.old b hR; omega
    · simp only [List.length_append, List.length_map] at hl
      rw [show l = σ.length + (l - σ.length) by omega, hhigh]
      exact hT.sim.dom _ (by omega)
    · rcases hget l B e with ⟨h1, h2⟩ | ⟨j, B0, rfl, h1, rfl⟩
      · exact .inl ⟨l, B, h2, (own_ext (hlow h1)).1 w⟩
      · rcases hT.reg b k ⟨j, B0, h1, hown w⟩ with h | h
        · exact (hno b k h).elim
        · exact .inr h

theorem freshCtr_foot (G : List AV → Option (Bool × AV × St)) : CtrFoot reads2 (freshCtr G) := by
  intro args σ c u σ' h
  unfold freshCtr at h ⊢
  split at h
  case h_2 => cases h
  rename_i hlt
  split at h
  case h_2 => cases h
  rename_i c1 u1 σn hG1
  split at h
  case h_2 => cases h
  rename_i hp
  simp only [Option.some.injEq, Prod.mk.injEq] at h
  obtain ⟨rfl, rfl, rfl⟩ := h
  have hlt' : ∀ m ∈ reads2 args σ, m < σ.length := fun m hm => by
    have := List.all_eq_true.1 hlt m hm
    simpa [Nat.blt_eq] using this
  refine ⟨hlt', by simp, fun m hm _ => List.getElem?_append_left hm, fun σ₂ hn hg => ?_⟩
  have e0 : reads2 args σ₂ = reads2 args σ := by
    unfold reads2
    congr 1
    have gen : ∀ L : List Nat, (∀ l ∈ L, rootsB σ₂[l]? = rootsB σ[l]?) → (L.flatMap fun l => rootsB σ₂[l]?) = L.flatMap fun l => rootsB σ[l]? := fun L => by
      induction L with
      | nil => intro _; rfl
      | cons a t ih => intro h; rw [List.flatMap_cons, List.flatMap_cons, h a (List.mem_cons_self), ih fun l hl => h l (List.mem_cons_of_mem _ hl)]
    exact gen _ fun l hl => by rw [hg l (List.mem_append_left _ hl)]
  have each : ∀ y ∈ args, viewD σ₂ y = viewD σ y ∧ vokD σ₂ y = vokD σ y := fun y hy => by
    have hin : ∀ l ∈ rootsAV y, l ∈ readsL args := fun l hl => List.mem_flatMap.2 ⟨y, hy, hl⟩
    exact viewD_cong (fun l hl => hg l (List.mem_append_left _ (hin l hl))) fun l hl m hm => hg m (List.mem_append_right _ (List.mem_flatMap.2 ⟨l, hin l hl, hm⟩))
  have e1 : args.map (viewD σ₂) = args.map (viewD σ) := List.map_congr_left fun y hy => (each y hy).1
  have e2 : args.all (vokD σ₂) = args.all (vokD σ) := by
    rw [Bool.eq_iff_iff, List.all_eq_true, List.all_eq_true]
    exact ⟨fun g y hy => by rw [← (each y hy).2]; exact g y hy, fun g y hy => by rw [(each y hy).2]; exact g y hy⟩
  refine ⟨e0, ?_⟩
  have e3 : ((reads2 args σ₂).all fun l => Nat.blt l σ.length) = true := by rw [e0]; exact hlt
  simp only [hn, e3, e1, hG1, hp, e2]
  refine ⟨σ₂ ++ σn.map (reB (shiftR σ.length)), rfl, by simp [hn], fun m hm _ => List.getElem?_append_left (by omega), fun m hm => ?_⟩
  rcases hm with hm | hm
  · have := hlt' m hm
    rw [List.getElem?_append_left (by omega), List.getElem?_append_left this]
    exact hg m hm
  · rw [List.getElem?_append_right (by omega), List.getElem?_append_right hm, hn]
theorem CxOk.fresh {P : Program} {X : Cx} (hX : CxOk P X) {g : Nat} {G : List AV → Option (Bool × AV × St)} (hG : CtrOk P g (freshCtr G)) : CxOk P (X.add g (.foot reads2) (freshCtr G)) := hX.add hG (freshCtr_foot G)
end Go.Proofs.YtaneamfnjhiigaaDoor.E
