/- The engine, part 29: contracts that read the roots among their arguments, which nobody writes meanwhile. -/
import Derived.Test.YtaneamfnjhiigaaDoorEDec
namespace Go.Proofs.YtaneamfnjhiigaaDoor.E
open Go
set_option linter.unusedSimpArgs false
set_option linter.unusedVariables false

/-- An argument, as it is while nobody writes. -/
def view1 (σ : St) : AV → AV
  | .v x => .v x
  | .i sz n g => .i sz n g
  | .ip cs j => .ip cs j
  | .z => .z
  | .p m off => match σ[m]? with
    | some (.lit cs) => match cs.all pureCell && !cs.isEmpty with | true => .ip cs off | false => .dead
    | _ => .dead
  | .s m sz o n => match σ[m]? with
    | some (.tab sz' n' g) => match Nat.beq sz sz' with | true => .i sz n (fun k => g (o + k)) | false => .dead
    | some (.lit cs) => match cs.all pureCell && Nat.blt 0 sz with | true => .i sz n (fun k => (cs.drop ((o + k) * sz)).take sz) | false => .dead
    | _ => .dead
  | _ => .dead
def vok1 (σ : St) : AV → Bool
  | .s m sz o n => match σ[m]? with
    | some (.tab _ n' _) => decide (o + n ≤ n')
    | some (.lit cs) => decide ((o + n) * sz ≤ cs.length) && decide (n * sz < 281474976710656)
    | _ => true
  | _ => true
def view (σ : St) : AV → AV
  | .a us => .a (us.map (view1 σ))
  | u => view1 σ u
def vok (σ : St) : AV → Bool
  | .a us => us.all (vok1 σ)
  | u => vok1 σ u
theorem view1_fit {σ : St} {u : AV} (h : vok1 σ u = true) : Fit [] σ (view1 σ u) u := by
  cases u with
  | v x => exact .v x
  | i sz n g => exact .i fun _ _ => rfl
  | ip cs j => exact .ip
  | z => exact .z
  | p m off =>
    simp only [view1]
    split
    · rename_i cs hm
      split
      · rename_i hc
        simp only [Bool.and_eq_true, Bool.not_eq_true', List.isEmpty_eq_false_iff] at hc
        exact .fzp hm (by simp) hc.1 hc.2
      · exact .dead _
    · exact .dead _
  | s m sz o n =>
    simp only [view1]
    simp only [vok1] at h
    split
    · rename_i sz' n' g hm
      simp only [hm, decide_eq_true_eq] at h
      split
      · rename_i hc
        obtain rfl := Nat.eq_of_beq_eq_true hc
        exact .fz hm (by simp) h fun _ _ => rfl
      · exact .dead _
    · rename_i cs hm
      simp only [hm, Bool.and_eq_true, decide_eq_true_eq] at h
      split
      · rename_i hc
        simp only [Bool.and_eq_true, Nat.blt_eq] at hc
        exact .fzl hm (by simp) hc.1 hc.2 h.1 h.2 fun _ _ => rfl
      · exact .dead _
    · exact .dead _
  | _ => exact .dead _
theorem view_fit {σ : St} {u : AV} (h : vok σ u = true) : Fit [] σ (view σ u) u := by
  cases u with
  | a us =>
    simp only [vok] at h
    refine .a (by simp) fun k u0 u h0 h1 => ?_
    obtain ⟨y, hy, rfl⟩ := getElem?_map_some h0
    rw [hy] at h1
    obtain rfl := Option.some.inj h1
    exact view1_fit (List.all_eq_true.1 h y (List.mem_of_getElem? hy))
  | v x => exact view1_fit (u := .v x) h
  | p l off => exact view1_fit (u := .p l off) h
  | q l sz i j => exact view1_fit (u := .q l sz i j) h
  | s l sz o n => exact view1_fit (u := .s l sz o n) h
  | i sz n g => exact view1_fit (u := .i sz n g) h
  | ip cs j => exact view1_fit (u := .ip cs j) h
  | z => exact view1_fit (u := .z) h
  | t vs => exact .dead _
  | f fn us cs => exact .dead _
  | y l => exact .dead _
  | dead => exact .dead _

/-- Values that name nothing. -/
def plain1 : AV → Bool
  | .v x => scal x
  | _ => false
def plain : AV → Bool
  | .v x => scal x
  | .a cs => cs.all plain1
  | .t cs => cs.all fun u => match u with | .a cs => cs.all plain1 | u => plain1 u
  | _ => false
theorem plain_ok {R R' : Nat → Prop} {φ φ' : Phi} {W W' : World} {u : AV} {v : Value} (hp : plain u = true) (h : VR R φ W u v) : VR R' φ' W' u v := by
  have p1 : ∀ {u : AV} {v : Value}, plain1 u = true → VR R φ W u v → VR R' φ' W' u v := fun {u v} hp h => by
    cases u with
    | v x => rw [h.val]; exact .imm (.v _)
    | _ => cases hp
  have ag : ∀ {cs : List AV} {v : Value}, cs.all plain1 = true → VR R φ W (.a cs) v → VR R' φ' W' (.a cs) v := by
    intro cs v hp h
    obtain ⟨vs, rfl, hl, hr⟩ := h.agg
    exact .a hl fun k w x hw hx => p1 (List.all_eq_true.1 hp w (List.mem_of_getElem? hw)) (hr k w x hw hx)
  cases u with
  | v x => exact p1 hp h
  | a cs => exact ag hp h
  | t cs =>
    obtain ⟨vs, rfl, hl, hr⟩ := h.tup
    refine .t hl fun k w x hw hx => ?_
    have := List.all_eq_true.1 hp w (List.mem_of_getElem? hw)
    have hv := hr k w x hw hx
    cases w with
    | a cs => exact ag this hv
    | _ => exact p1 this hv
  | _ => cases hp

def readsL : List AV → List Nat := fun args => args.flatMap rootsAV
/-- A contract of plain values that reads what its arguments name. -/
def borCtr (G : List AV → Option (Bool × AV)) : Ctr := fun args σ => match (readsL args).all fun l => Nat.blt l σ.length with
  | true => match G (args.map (view σ)) with
    | some (c, u) => match plain u with
      | true => some (args.all (vok σ) && c, u, σ)
      | false => none
    | none => none
  | false => none

theorem borCtr_ok {P : Program} {X : Cx} (hX : CxOk P X) {g : Nat} {fn : Func} (hg : P.funcs[g]? = some fn) (hnm : (fn.name == "runtime.NumGoroutine") = false) (hc : fn.body = some (bodyOf fn)) {G : List AV → Option (Bool × AV)}
    (hG : ∀ args u, G args = some (true, u) → runF X fn args [] u []) : CtrOk P g (borCtr G) := by
  refine ⟨⟨fn, hg, hnm, by rw [hc]; rfl⟩, ?_⟩
  intro args σ u σ' h R φ W hs vals hv
  unfold borCtr at h
  split at h
  case h_2 => cases h
  split at h
  case h_2 => cases h
  rename_i c1 u1 hG1
  split at h
  case h_2 => cases h
  rename_i hp
  simp only [Option.some.injEq, Prod.mk.injEq, Bool.and_eq_true] at h
  obtain ⟨⟨hok, rfl⟩, rfl, rfl⟩ := h
  have hs' : Sim (more [] σ φ R) (fun _ => none) [] W := sim_nil (hs.old.to (fun _ h => .inl h) (fun _ _ _ _ h => h) fun b hb => by
    rcases hb with hb | ⟨m, B, k, _, e, w⟩
    · exact hs.old b hb
    · exact (hs.blk m B e).owned w)
  have hren : (ren [] φ) = fun _ => none := by funext l; simp [ren]
  refine (runF_ok hX hg hnm hc (hG _ _ hG1) hs' ⟨by simpa using hv.1, fun k w x hw hx => ?_⟩).mono ?_
  · obtain ⟨y, hy, rfl⟩ := getElem?_map_some hw
    have := (view_fit (List.all_eq_true.1 hok y (List.mem_of_getElem? hy))).ok hs (hv.2 k y x hy hx)
    rwa [hren] at this
  · rintro e W' ⟨v, R', φ', rfl, hT, hv'⟩
    have hno : ∀ b k, ¬ Owned (fun _ => none) [] b k := fun b k ⟨l, B, e, _⟩ => by simp at e
    have hk : Keep (fun _ _ => False) W W' := hT.keep.mono fun b k hw => hno b k hw
    exact ⟨v, R, φ, rfl, ⟨fun _ h => h, fun _ h => .inl h, Ext.refl _, ⟨fun l B e => (hs.blk l B e).kept hk (fun _ h => h) (fun _ _ h => h.elim) (fun _ _ _ h => h.elim) (Ext.refl _) (fun h => h), hs.sep, hs.ro, hs.old.keep hk.size (hk.calm fun _ _ h => h.elim), hs.dom⟩, fun _ _ h => .inl h, hk.mono fun _ _ h => h.elim⟩, plain_ok hp hv'⟩

theorem view1_eq {σ σ₂ : St} {u : AV} (h : ∀ l ∈ rootsAV.rootsAV1 u, σ₂[l]? = σ[l]?) : view1 σ₂ u = view1 σ u ∧ vok1 σ₂ u = vok1 σ u := by
  cases u with
  | p m off => simp only [view1, vok1, h m (by simp [rootsAV.rootsAV1])]; exact ⟨trivial, trivial⟩
  | s m sz o n => simp only [view1, vok1, h m (by simp [rootsAV.rootsAV1])]; exact ⟨trivial, trivial⟩
  | _ => exact ⟨rfl, rfl⟩
theorem view_eq {σ σ₂ : St} {u : AV} (h : ∀ l ∈ rootsAV u, σ₂[l]? = σ[l]?) : view σ₂ u = view σ u ∧ vok σ₂ u = vok σ u := by
  cases u with
  | a us =>
    have each : ∀ y ∈ us, view1 σ₂ y = view1 σ y ∧ vok1 σ₂ y = vok1 σ y := fun y hy => view1_eq fun l hl => h l (by simp only [rootsAV, List.mem_flatMap]; exact ⟨y, hy, hl⟩)
    simp only [view, vok]
    refine ⟨congrArg AV.a (List.map_congr_left fun y hy => (each y hy).1), ?_⟩
    rw [Bool.eq_iff_iff, List.all_eq_true, List.all_eq_true]
    exact ⟨fun g y hy => by rw [← (each y hy).2]; exact g y hy, fun g y hy => by rw [(each y hy).2]; exact g y hy⟩
  | p m off => exact view1_eq (u := .p m off) h
  | s m sz o n => exact view1_eq (u := .s m sz o n) h
  | _ => exact ⟨rfl, rfl⟩
theorem borCtr_reads (G : List AV → Option (Bool × AV)) : CtrReads readsL (borCtr G) := by
  intro args σ c u σ' h
  unfold borCtr at h
  split at h
  case h_2 => cases h
  rename_i hlt
  split at h
  case h_2 => cases h
  rename_i c1 u1 hG1
  split at h
  case h_2 => cases h
  rename_i hp
  simp only [Option.some.injEq, Prod.mk.injEq] at h
  obtain ⟨rfl, rfl, rfl⟩ := h
  have hlt' : ∀ l ∈ readsL args, l < σ.length := fun l hl => by
    have := List.all_eq_true.1 hlt l hl
    simpa [Nat.blt_eq] using this
  refine ⟨rfl, hlt', fun σ₂ h2 => ?_⟩
  have each : ∀ y ∈ args, view σ₂ y = view σ y ∧ vok σ₂ y = vok σ y := fun y hy => view_eq fun l hl => h2 l (by unfold readsL; exact List.mem_flatMap.2 ⟨y, hy, hl⟩)
  unfold borCtr
  have e1 : ((readsL args).all fun l => Nat.blt l σ₂.length) = true := List.all_eq_true.2 fun l hl => by
    have h3 := h2 l hl
    have h4 := hlt' l hl
    rw [List.getElem?_eq_getElem h4] at h3
    simpa [Nat.blt_eq] using lt_of_get? h3
  have e2 : args.map (view σ₂) = args.map (view σ) := List.map_congr_left fun y hy => (each y hy).1
  have e3 : args.all (vok σ₂) = args.all (vok σ) := by
    rw [Bool.eq_iff_iff, List.all_eq_true, List.all_eq_true]
    exact ⟨fun g y hy => by rw [← (each y hy).2]; exact g y hy, fun g y hy => by rw [(each y hy).2]; exact g y hy⟩
  simp only [e1, e2, e3, hG1, hp]
theorem CxOk.bor {P : Program} {X : Cx} (hX : CxOk P X) {g : Nat} {G : List AV → Option (Bool × AV)} (hG : CtrOk P g (borCtr G)) : CxOk P (X.add g (.reads readsL) (borCtr G)) := hX.add hG (borCtr_reads G)
theorem CxOk.loc {P : Program} {X : Cx} (hX : CxOk P X) {g : Nat} {G : List AV → St → Option (Bool × AV × St)} (hG : CtrOk P g (localCtr G)) : CxOk P (X.add g (.foot footL) (localCtr G)) := hX.add hG (localCtr_foot G)
/-- A contract whose arguments are taken as what they fit: rows in one form. -/
theorem pureCtr_can {P : Program} {X : Cx} (hX : CxOk P X) {g : Nat} {fn : Func} (hg : P.funcs[g]? = some fn) (hnm : (fn.name == "runtime.NumGoroutine") = false) (hc : fn.body = some (bodyOf fn)) {G : List AV → Option (Bool × AV)}
    (hG : ∀ args u, G args = some (true, u) → closed u = true ∧ args.all closed = true ∧ ∃ args', FitL [] [] args' args ∧ runF X fn args' [] u []) : CtrOk P g (pureCtr G) := by
  refine ⟨⟨fn, hg, hnm, by rw [hc]; rfl⟩, ?_⟩
  intro args σ u σ' h R φ W hs vals hv
  unfold pureCtr at h
  split at h
  case h_2 => cases h
  rename_i c1 u1 hG1
  simp only [Option.some.injEq, Prod.mk.injEq] at h
  obtain ⟨rfl, rfl, rfl⟩ := h
  obtain ⟨hcl, hca, args', hf, hrun⟩ := hG args u1 hG1
  have hs0 : Sim R (fun _ => none) [] W := sim_nil hs.old
  have hren : (ren [] fun _ => none) = (fun _ => none : Phi) := by funext l; simp [ren]
  have hmore : more [] [] (fun _ => none) R = R := by
    funext b
    refine propext ⟨fun h => ?_, .inl⟩
    rcases h with h | ⟨m, B, k, _, e, _⟩
    · exact h
    · simp at e
  refine (runF_ok hX hg hnm hc hrun hs0 ⟨hf.len.trans hv.1, fun k w x hw hx => ?_⟩).mono ?_
  · obtain ⟨y, hy⟩ := get?_of_lt (l := args) (k := k) (by rw [← hf.len]; exact lt_of_get? hw)
    have := (hf.get k w y hw hy).ok hs0 (closed_ok (List.all_eq_true.1 hca y (List.mem_of_getElem? hy)) (hv.2 k y x hy hx))
    rwa [hren, hmore] at this
  rintro e W' ⟨v, R', φ', rfl, hT, hv'⟩
  exact ⟨v, R', φ, rfl, hT.closed hs, closed_ok hcl hv'⟩
theorem more_nil (R : Nat → Prop) (φ : Phi) : more [] [] φ R = R := by
  funext b
  refine propext ⟨fun h => ?_, .inl⟩
  rcases h with h | ⟨m, B, k, _, e, _⟩
  · exact h
  · simp at e
theorem borCtr_can {P : Program} {X : Cx} (hX : CxOk P X) {g : Nat} {fn : Func} (hg : P.funcs[g]? = some fn) (hnm : (fn.name == "runtime.NumGoroutine") = false) (hc : fn.body = some (bodyOf fn)) {G : List AV → Option (Bool × AV)}
    (hG : ∀ args u, G args = some (true, u) → ∃ args', FitL [] [] args' args ∧ runF X fn args' [] u []) : CtrOk P g (borCtr G) := by
  refine ⟨⟨fn, hg, hnm, by rw [hc]; rfl⟩, ?_⟩
  intro args σ u σ' h R φ W hs vals hv
  unfold borCtr at h
  split at h
  case h_2 => cases h
  split at h
  case h_2 => cases h
  rename_i c1 u1 hG1
  split at h
  case h_2 => cases h
  rename_i hp
  simp only [Option.some.injEq, Prod.mk.injEq, Bool.and_eq_true] at h
  obtain ⟨⟨hok, rfl⟩, rfl, rfl⟩ := h
  have hs' : Sim (more [] σ φ R) (fun _ => none) [] W := sim_nil (hs.old.to (fun _ h => .inl h) (fun _ _ _ _ h => h) fun b hb => by
    rcases hb with hb | ⟨m, B, k, _, e, w⟩
    · exact hs.old b hb
    · exact (hs.blk m B e).owned w)
  have hren : (ren [] φ) = fun _ => none := by funext l; simp [ren]
  have hren0 : (ren [] fun _ => none) = (fun _ => none : Phi) := by funext l; simp [ren]
  obtain ⟨args', hf, hrun⟩ := hG _ _ hG1
  refine (runF_ok hX hg hnm hc hrun hs' ⟨by rw [hf.len]; simpa using hv.1, fun k w x hw hx => ?_⟩).mono ?_
  · obtain ⟨z0, hz⟩ := get?_of_lt (l := args.map (view σ)) (k := k) (by rw [← hf.len]; exact lt_of_get? hw)
    obtain ⟨y, hy, e⟩ := getElem?_map_some hz
    have := (view_fit (List.all_eq_true.1 hok y (List.mem_of_getElem? hy))).ok hs (hv.2 k y x hy hx)
    rw [hren] at this
    subst e
    have := (hf.get k w _ hw hz).ok hs' this
    rwa [hren0, more_nil] at this
  · rintro e W' ⟨v, R', φ', rfl, hT, hv'⟩
    have hno : ∀ b k, ¬ Owned (fun _ => none) [] b k := fun b k ⟨l, B, e, _⟩ => by simp at e
    have hk : Keep (fun _ _ => False) W W' := hT.keep.mono fun b k hw => hno b k hw
    exact ⟨v, R, φ, rfl, ⟨fun _ h => h, fun _ h => .inl h, Ext.refl _, ⟨fun l B e => (hs.blk l B e).kept hk (fun _ h => h) (fun _ _ h => h.elim) (fun _ _ _ h => h.elim) (Ext.refl _) (fun h => h), hs.sep, hs.ro, hs.old.keep hk.size (hk.calm fun _ _ h => h.elim), hs.dom⟩, fun _ _ h => .inl h, hk.mono fun _ _ h => h.elim⟩, plain_ok hp hv'⟩
/-- The end, where roots are told. -/
theorem finS {nb : Nat} {u u' : AV} {σ σ' : St} (ρ : List Nat) (hn : ρ.Nodup) (h1 : Fit ρ σ' u u') (h2 : FitS ρ σ' ρ σ) (hid : idUpto nb ρ = true) : tr (Fin nb u σ u' σ') := .mk ρ hn ⟨h1, trivial⟩ h2 hid
/-- The end, where roots are told; one that is gone may have moved. -/
theorem finD {nb : Nat} {u u' : AV} {σ σ' : St} (ρ : List Nat) (hn : uniqB ρ σ = true) (h1 : Fit ρ σ' u u') (h2 : FitS ρ σ' ρ σ) (hid : idUpto nb ρ = true) : tr (Fin nb u σ u' σ') := .mkd ρ hn ⟨h1, trivial⟩ h2 hid
end Go.Proofs.YtaneamfnjhiigaaDoor.E
