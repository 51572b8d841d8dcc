/- The contracts of snapshots: which may be, by the program and by the document; which car may serve a want. -/
import Derived.Test.YtglpeibbkkikgaaSitesE
import Derived.Test.YtglpeibbkkikgaaBitsE
import Derived.Test.YtglpeibbkkikgaaEngE
namespace Go.Proofs.Ytglpeibbkkikgaa.E
open Go NumMath
set_option linter.unusedSimpArgs false
set_option linter.unusedVariables false
set_option maxRecDepth 100000
set_option maxHeartbeats 4000000

theorem nxt (k : Nat) (h : k ≤ 1000000000) : IntKind.i64.wrap ((k : Int) + 1) = ((k + 1 : Nat) : Int) := by rw [i64w _ (by omega) (by omega)]; omega
theorem fit_s {ρ : List Nat} {σ : St} {l m sz o n o' n' : Nat} (h : ρ[l]? = some m) (ho : o = o') (hn : n = n') : Fit ρ σ (.s l sz o n) (.s m sz o' n') := by subst ho hn; exact .s h
theorem isRow_get {α : Type} {e : Elt α} {n sz : Nat} {g : Nat → List AV} (h : isRow e n sz g = true) : sz = e.sz ∧ RowIs e n g (rows e n g) ∧ n < 281474976710656 := by
  unfold isRow at h
  simp only [Bool.and_eq_true, Nat.blt_eq] at h
  exact ⟨Nat.eq_of_beq_eq_true h.1, ⟨(rows_len e n g).symm, fun k hk => okRow_get e h.2.1 hk⟩, h.2.2⟩
/-- A car that is ready; a want; a snapshot. -/
structure Rdy where
  (fl af : Int)
structure Wnt where
  (fl ca : Int)
structure Snap where
  s : Site
  cs : List Rdy
  ws : List Wnt
def eRd : Elt Rdy := ⟨2, fun u => match u with | [.v (.int .i64 a), .v (.int .i64 b)] => some ⟨a, b⟩ | _ => none, fun a => [i64 a.fl, i64 a.af], ⟨0, 0⟩, fun {u a} h => (by split at h <;> first | (obtain rfl := Option.some.inj h; rfl) | cases h), fun _ => rfl⟩
def eWn : Elt Wnt := ⟨2, fun u => match u with | [.v (.int .i64 a), .v (.int .i64 b)] => some ⟨a, b⟩ | _ => none, fun a => [i64 a.fl, i64 a.ca], ⟨0, 0⟩, fun {u a} h => (by split at h <;> first | (obtain rfl := Option.some.inj h; rfl) | cases h), fun _ => rfl⟩
abbrev snapC (p : Snap) : List AV := [i64 p.s.fl, i64 p.s.ca, i64 p.s.st, i64 p.s.sp, i64 p.s.so, i64 p.s.op, i64 p.s.wa, i64 p.s.cl, i64 p.s.nu, i64 p.s.ag, i64 p.s.si, i64 p.s.bu, i64 p.s.pe, row eRd p.cs, row eWn p.ws]
abbrev Snap.av (p : Snap) : AV := .a (snapC p)
def adSnap : Ad Snap := ⟨fun u => match u with
  | .a [.v (.int .i64 a), .v (.int .i64 b), .v (.int .i64 c), .v (.int .i64 d), .v (.int .i64 e), .v (.int .i64 f), .v (.int .i64 g), .v (.int .i64 h), .v (.int .i64 i), .v (.int .i64 j), .v (.int .i64 k), .v (.int .i64 l), .v (.int .i64 m), x, y] => match (adR eRd).dec x, (adR eWn).dec y with
    | some (c1, r), some (c2, w) => some (c1 && c2, ⟨⟨a, b, c, d, e, f, g, h, i, j, k, l, m⟩, r, w⟩)
    | _, _ => none
  | _ => none, Snap.av, fun p => p.cs.length < 281474976710656 ∧ p.ws.length < 281474976710656, fun {u a} h => by
  split at h
  case h_2 => cases h
  split at h
  case h_2 => cases h
  rename_i c1 r c2 w hx hy
  simp only [Option.some.injEq, Prod.mk.injEq, Bool.and_eq_true] at h
  obtain ⟨⟨rfl, rfl⟩, rfl⟩ := h
  obtain ⟨f1, l1⟩ := (adR eRd).ok hx
  obtain ⟨f2, l2⟩ := (adR eWn).ok hy
  exact ⟨Fit.al ⟨.v _, .v _, .v _, .v _, .v _, .v _, .v _, .v _, .v _, .v _, .v _, .v _, .v _, f1, f2, trivial⟩, l1, l2⟩⟩

def Site.there (s : Site) (f : Int) : Bool := cond (decide (0 ≤ f)) (decide (f < s.fl)) false
def rdOk (s : Site) (r : Rdy) : Bool := s.there r.fl && (decide (0 ≤ r.af) && decide (r.af ≤ 1000000))
def wnOk (s : Site) (w : Wnt) : Bool := s.there w.fl && (decide (1 ≤ w.ca) && decide (w.ca < 2 ^ s.ca.toNat))
def Snap.right (p : Snap) : Bool := p.s.right && (decide ((p.cs.length : Int) = p.s.ca) && (decide (p.ws.length ≤ 128) && (p.cs.all (rdOk p.s) && p.ws.all (wnOk p.s))))

theorem Snap.noR {p : Snap} {k : Nat} (hk : k < p.cs.length) (hb : rdOk p.s (p.cs.getD k eRd.dflt) = false) : p.right = false := by
  unfold Snap.right
  have : p.cs.all (rdOk p.s) = false := by
    rw [Bool.eq_false_iff]
    intro hh
    have := List.all_eq_true.1 hh p.cs[k] (List.getElem_mem hk)
    rw [List.getD_eq_getElem?_getD, List.getElem?_eq_getElem hk] at hb
    rw [Option.getD_some, this] at hb; cases hb
  rw [this]; simp
theorem Snap.noW {p : Snap} {k : Nat} (hk : k < p.ws.length) (hb : wnOk p.s (p.ws.getD k eWn.dflt) = false) : p.right = false := by
  unfold Snap.right
  have : p.ws.all (wnOk p.s) = false := by
    rw [Bool.eq_false_iff]
    intro hh
    have := List.all_eq_true.1 hh p.ws[k] (List.getElem_mem hk)
    rw [List.getD_eq_getElem?_getD, List.getElem?_eq_getElem hk] at hb
    rw [Option.getD_some, this] at hb; cases hb
  rw [this]; simp
theorem Snap.yes {p : Snap} (hr : p.s.right = true) (hcl : decide ((p.cs.length : Int) = p.s.ca) = true) (hwl : p.ws.length ≤ 128) (hok : ∀ j, j < p.cs.length → rdOk p.s (p.cs.getD j eRd.dflt) = true) (hokw : ∀ j, j < p.ws.length → wnOk p.s (p.ws.getD j eWn.dflt) = true) : p.right = true := by
  unfold Snap.right
  have all1 : p.cs.all (rdOk p.s) = true := List.all_eq_true.2 fun x hx => by
    obtain ⟨j, hj, rfl⟩ := List.getElem_of_mem hx
    have := hok j (by omega)
    rwa [List.getD_eq_getElem?_getD, List.getElem?_eq_getElem hj] at this
  have all2 : p.ws.all (wnOk p.s) = true := List.all_eq_true.2 fun x hx => by
    obtain ⟨j, hj, rfl⟩ := List.getElem_of_mem hx
    have := hokw j (by omega)
    rwa [List.getD_eq_getElem?_getD, List.getElem?_eq_getElem hj] at this
  rw [hr, hcl, all1, all2, show decide (p.ws.length ≤ 128) = true from decide_eq_true hwl]; rfl
/-- What a right snapshot is. -/
theorem Snap.right_bd {p : Snap} (h : p.right = true) : p.s.right = true ∧ (p.cs.length : Int) = p.s.ca ∧ p.ws.length ≤ 128 ∧ (∀ x ∈ p.cs, rdOk p.s x = true) ∧ ∀ x ∈ p.ws, wnOk p.s x = true := by
  unfold Snap.right at h
  simp only [Bool.and_eq_true, decide_eq_true_eq, List.all_eq_true] at h
  exact ⟨h.1, h.2.1, h.2.2.1, h.2.2.2.1, h.2.2.2.2⟩
theorem pow_bd {n : Nat} (h : n ≤ 8) : (1 : Int) ≤ 2 ^ n ∧ (2 : Int) ^ n ≤ 256 := by
  have : (2 : Int) ^ n ≤ 2 ^ 8 := by exact_mod_cast Nat.pow_le_pow_right (by decide) h
  have h0 : (0 : Int) < 2 ^ n := Int.pow_pos (by decide)
  omega

/-! ### The program's way -/
def XN0 : Cx := ⟨tt, [], [], []⟩
theorem XN0_ok : CxOk Try.prog XN0 := CxOk.nil tt_ok mixed
def r1G : List AV → Option (Bool × AV)
  | [.v (.int .i64 f), .ip (.v (.int .i64 fl) :: cs) 0] => giv true (boo (cond (decide (0 ≤ f)) (decide (f < fl)) false))
  | _ => none
theorem r1_ok : CtrOk Try.prog 37 (borCtr r1G) :=
  borCtr_ok XN0_ok Try.func37 (by decide) rfl fun args u h => by
    unfold r1G at h
    split at h
    case h_2 => cases h
    obtain ⟨_, rfl⟩ := giv_some h
    clear h
    unfold runF
    (conv => arg 1; whnf)
    refine br (fun h1 => ?_) (fun h1 => ?_)
    · (conv => arg 1; whnf); (repeat' (first | (refine brt (by assumption) ?_; (conv => arg 1; whnf)) | (refine brf (by assumption) ?_; (conv => arg 1; whnf)) | fail))
      refine finB ?_
      rw [h1]; rfl
    · (conv => arg 1; whnf); (repeat' (first | (refine brt (by assumption) ?_; (conv => arg 1; whnf)) | (refine brf (by assumption) ?_; (conv => arg 1; whnf)) | fail))
      refine finB ?_
      rw [h1]; rfl
def XN1 : Cx := XN0.add 37 (.reads readsL) (borCtr r1G)
theorem XN1_ok : CxOk Try.prog XN1 := XN0_ok.bor r1_ok
noncomputable def XN2 : Cx := (XN0.addRun 38 (runFn XN1 Try.f38 (bodyOf Try.f38))).addRun 39 (runFn XN1 Try.f39 (bodyOf Try.f39))
theorem XN2_ok : CxOk Try.prog XN2 := (XN0_ok.addRun (runFn_ok XN1_ok Try.func38 (by decide) rfl)).addRun (runFn_ok XN1_ok Try.func39 (by decide) rfl)
noncomputable def XN3 : Cx := ((XN0.add 36 .pure (pureCtr rightG)).addRun 40 (runFn XN2 Try.f40 (bodyOf Try.f40))).addRun 41 (runFn XN2 Try.f41 (bodyOf Try.f41))
theorem XN3_ok : CxOk Try.prog XN3 := ((XN0_ok.pure right_ok).addRun (runFn_ok XN2_ok Try.func40 (by decide) rfl)).addRun (runFn_ok XN2_ok Try.func41 (by decide) rfl)
def give (c : Bool) (u : AV) (σ : St) : Option (Bool × AV × St) := some (c, u, σ)
theorem give_some {c : Bool} {u v : AV} {σ σ' : St} (h : give c u σ = some (true, v, σ')) : c = true ∧ v = u ∧ σ' = σ := by
  simp only [give, Option.some.injEq, Prod.mk.injEq] at h
  exact ⟨h.1, h.2.1.symm, h.2.2.symm⟩
theorem plainNil : PlainS [] := fun B h => by simp at h
def srightG : List AV → Option (Bool × AV × St) := ad1 adSnap fun p => some (true, boo p.right, [])
theorem sright_ok : CtrOk Try.prog 14 (freshCtr srightG) :=
  freshCtr_ok XN3_ok Try.func14 (by decide) rfl fun args u σn h => by
    obtain ⟨p, hf, ⟨hp1, hp2⟩, hv⟩ := ad1_some h
    simp only [Option.some.injEq, Prod.mk.injEq, true_and] at hv
    obtain ⟨rfl, rfl⟩ := hv
    refine ⟨plainNil, _, hf, ?_⟩
    clear h hf
    have eS : ∀ x : Bool, p.s.right = x → ({ fl := p.s.fl, ca := p.s.ca, st := p.s.st, sp := p.s.sp, so := p.s.so, op := p.s.op, wa := p.s.wa, cl := p.s.cl, nu := p.s.nu, ag := p.s.ag, si := p.s.si, bu := p.s.bu, pe := p.s.pe } : Site).right = x := fun x h => h
    have noR : ∀ k, k < p.cs.length → rdOk p.s (p.cs.getD k eRd.dflt) = false → p.right = false := fun k hk hb => by
      unfold Snap.right
      have : p.cs.all (rdOk p.s) = false := by
        rw [Bool.eq_false_iff]
        intro hh
        have := List.all_eq_true.1 hh p.cs[k] (List.getElem_mem hk)
        rw [List.getD_eq_getElem?_getD, List.getElem?_eq_getElem hk] at hb
        rw [Option.getD_some, this] at hb; cases hb
      rw [this]; simp
    have noW : ∀ k, k < p.ws.length → wnOk p.s (p.ws.getD k eWn.dflt) = false → p.right = false := fun k hk hb => by
      unfold Snap.right
      have : p.ws.all (wnOk p.s) = false := by
        rw [Bool.eq_false_iff]
        intro hh
        have := List.all_eq_true.1 hh p.ws[k] (List.getElem_mem hk)
        rw [List.getD_eq_getElem?_getD, List.getElem?_eq_getElem hk] at hb
        rw [Option.getD_some, this] at hb; cases hb
      rw [this]; simp
    unfold runF
    (conv => arg 1; whnf)
    refine br (fun h1 => ?_) (fun h1 => ?_)
    · have h1 : (!p.s.right) = true := h1
      (conv => arg 1; whnf); (repeat' (first | (refine brt (by assumption) ?_; (conv => arg 1; whnf)) | (refine brf (by assumption) ?_; (conv => arg 1; whnf)) | fail))
      refine finB ?_
      unfold Snap.right; rw [show p.s.right = false by simpa using h1]; rfl
    · have h1 : (!p.s.right) = false := h1
      have hr : p.s.right = true := by simpa using h1
      have hb := Site.right_bd hr
      (conv => arg 1; whnf); (repeat' (first | (refine brt (by assumption) ?_; (conv => arg 1; whnf)) | (refine brf (by assumption) ?_; (conv => arg 1; whnf)) | fail))
      refine br (fun h2 => ?_) (fun h2 => ?_)
      · have h2 : (!(decide ((p.cs.length : Int) = p.s.ca))) = true := h2
        (conv => arg 1; whnf); (repeat' (first | (refine brt (by assumption) ?_; (conv => arg 1; whnf)) | (refine brf (by assumption) ?_; (conv => arg 1; whnf)) | fail))
        refine finB ?_
        unfold Snap.right; rw [hr, show decide ((p.cs.length : Int) = p.s.ca) = false by simpa using h2]; rfl
      · have h2 : (!(decide ((p.cs.length : Int) = p.s.ca))) = false := h2
        have hcl : decide ((p.cs.length : Int) = p.s.ca) = true := by simpa using h2
        (conv => arg 1; whnf); (repeat' (first | (refine brt (by assumption) ?_; (conv => arg 1; whnf)) | (refine brf (by assumption) ?_; (conv => arg 1; whnf)) | fail))
        refine br (fun h3 => ?_) (fun h3 => ?_)
        · (conv => arg 1; whnf); (repeat' (first | (refine brt (by assumption) ?_; (conv => arg 1; whnf)) | (refine brf (by assumption) ?_; (conv => arg 1; whnf)) | fail))
          refine finB ?_
          unfold Snap.right; rw [show decide (p.ws.length ≤ 128) = false from decide_eq_false (by have := of_decide_eq_true h3; omega)]; simp
        · have hwl : p.ws.length ≤ 128 := by have := of_decide_eq_false h3; omega
          (conv => arg 1; whnf); (repeat' (first | (refine brt (by assumption) ?_; (conv => arg 1; whnf)) | (refine brf (by assumption) ?_; (conv => arg 1; whnf)) | fail))
          refine loopIn (fun k : Nat => k ≤ p.cs.length ∧ ∀ j, j < k → rdOk p.s (p.cs.getD j eRd.dflt) = true) (fun k => frm 18 [(1, .f (.func 38) [] [.p 1 0]), (7, row eRd p.cs), (8, i64 p.cs.length), (9, i64 k)]) (fun _ => [.lit (snapC p), .lit [.f (.func 37) [] [.p 0 0]]]) (fun k => p.cs.length - k) 0 [0, 1] ⟨Nat.zero_le _, fun j hj => absurd hj (Nat.not_lt_zero j)⟩ (by decide) ?_ ?_ rfl fun k hi => ?_
          · repeat' (first | exact True.intro | exact Fit.dead _ | exact Fit.v _ | exact .p rfl | exact row_self eRd _ | refine Fit.fl ?_ ?_ | refine And.intro ?_ ?_)
          · refine ⟨⟨_, rfl, .lit ?_⟩, ⟨_, rfl, .lit ?_⟩, trivial⟩
            · repeat' (first | exact True.intro | exact Fit.v _ | exact row_self eRd _ | exact row_self eWn _ | refine And.intro ?_ ?_)
            · repeat' (first | exact True.intro | exact .p rfl | refine Fit.fl ?_ ?_ | refine And.intro ?_ ?_)
          · obtain ⟨hk, hok⟩ := hi
            (conv => arg 1; whnf)
            refine br (fun h4 => ?_) (fun h4 => ?_)
            · have hlt : k < p.cs.length := by have := of_decide_eq_true h4; omega
              have e1 : (decide (0 ≤ (k : Int)) && decide ((k : Int) < (p.cs.length : Int))) = true := by simp only [Bool.and_eq_true, decide_eq_true_eq]; omega
              have bad := noR k hlt
              have ok : rdOk p.s (p.cs.getD k eRd.dflt) = (p.s.there (p.cs.getD k eRd.dflt).fl && (decide (0 ≤ (p.cs.getD k eRd.dflt).af) && decide ((p.cs.getD k eRd.dflt).af ≤ 1000000))) := rfl
              have ek : (k : Int).toNat = k := by omega
              (conv => arg 1; whnf); (repeat' (first | (refine brt (by assumption) ?_; (conv => arg 1; whnf)) | (refine brf (by assumption) ?_; (conv => arg 1; whnf)) | fail))
              refine br (fun a1 => ?_) (fun a1 => ?_)
              · have a1 : p.s.there (p.cs.getD (k : Int).toNat eRd.dflt).fl = true := a1
                rw [ek] at a1
                (conv => arg 1; whnf); (repeat' (first | (refine brt (by assumption) ?_; (conv => arg 1; whnf)) | (refine brf (by assumption) ?_; (conv => arg 1; whnf)) | fail))
                refine br (fun a2 => ?_) (fun a2 => ?_)
                · have a2 := a2
                  rw [ek] at a2
                  (conv => arg 1; whnf); (repeat' (first | (refine brt (by assumption) ?_; (conv => arg 1; whnf)) | (refine brf (by assumption) ?_; (conv => arg 1; whnf)) | fail))
                  refine br (fun a3 => ?_) (fun a3 => ?_)
                  · rw [ek] at a3
                    (conv => arg 1; whnf); (repeat' (first | (refine brt (by assumption) ?_; (conv => arg 1; whnf)) | (refine brf (by assumption) ?_; (conv => arg 1; whnf)) | fail))
                    refine leaveRet ?_
                    show tr _
                    (conv => arg 1; whnf); (repeat' (first | (refine brt (by assumption) ?_; (conv => arg 1; whnf)) | (refine brf (by assumption) ?_; (conv => arg 1; whnf)) | fail))
                    refine finB (bad ?_)
                    rw [ok, a1, a2]
                    simpa using a3
                  · rw [ek] at a3
                    (conv => arg 1; whnf); (repeat' (first | (refine brt (by assumption) ?_; (conv => arg 1; whnf)) | (refine brf (by assumption) ?_; (conv => arg 1; whnf)) | fail))
                    refine again (k + 1) [0, 1] ⟨hlt, fun j hj => ?_⟩ (by show p.cs.length - (k + 1) < p.cs.length - k; omega) (by decide) ?_ ?_ rfl
                    · rcases Nat.lt_or_ge j k with hj' | hj'
                      · exact hok j hj'
                      · have : j = k := by omega
                        rw [this, ok, a1, a2]
                        simpa using a3
                    · have hcs : p.cs.length ≤ 8 := by have := of_decide_eq_true hcl; omega
                      repeat' (first | exact True.intro | exact Fit.dead _ | exact Fit.v _ | exact .p rfl | exact row_self eRd _ | refine Fit.fl ?_ ?_ | exact Fit.v' (congrArg (Value.int .i64) (nxt k (by omega)).symm) | refine And.intro ?_ ?_)
                    · refine ⟨⟨_, rfl, .lit ?_⟩, ⟨_, rfl, .lit ?_⟩, trivial⟩
                      · repeat' (first | exact True.intro | exact Fit.v _ | exact row_self eRd _ | exact row_self eWn _ | refine And.intro ?_ ?_)
                      · repeat' (first | exact True.intro | exact .p rfl | refine Fit.fl ?_ ?_ | refine And.intro ?_ ?_)
                · have a2 := a2
                  rw [ek] at a2
                  (conv => arg 1; whnf); (repeat' (first | (refine brt (by assumption) ?_; (conv => arg 1; whnf)) | (refine brf (by assumption) ?_; (conv => arg 1; whnf)) | fail))
                  refine leaveRet ?_
                  show tr _
                  (conv => arg 1; whnf); (repeat' (first | (refine brt (by assumption) ?_; (conv => arg 1; whnf)) | (refine brf (by assumption) ?_; (conv => arg 1; whnf)) | fail))
                  refine finB (bad ?_)
                  rw [ok, a1, a2]; rfl
              · have a1 : p.s.there (p.cs.getD (k : Int).toNat eRd.dflt).fl = false := a1
                rw [ek] at a1
                (conv => arg 1; whnf); (repeat' (first | (refine brt (by assumption) ?_; (conv => arg 1; whnf)) | (refine brf (by assumption) ?_; (conv => arg 1; whnf)) | fail))
                refine leaveRet ?_
                show tr _
                (conv => arg 1; whnf); (repeat' (first | (refine brt (by assumption) ?_; (conv => arg 1; whnf)) | (refine brf (by assumption) ?_; (conv => arg 1; whnf)) | fail))
                refine finB (bad ?_)
                rw [ok, a1]; rfl
            · have hkl : k = p.cs.length := by have := of_decide_eq_false h4; omega
              (conv => arg 1; whnf); (repeat' (first | (refine brt (by assumption) ?_; (conv => arg 1; whnf)) | (refine brf (by assumption) ?_; (conv => arg 1; whnf)) | fail))
              refine leave ?_
              show tr _
              have hsh : IntKind.i64.wrap (1 * 2 ^ min p.s.ca.toNat 64) = 2 ^ p.s.ca.toNat := by
                have h8 : p.s.ca.toNat ≤ 8 := by omega
                rw [Nat.min_eq_left (by omega), Int.one_mul]
                have : (2 : Int) ^ p.s.ca.toNat ≤ 2 ^ 8 := by exact_mod_cast Nat.pow_le_pow_right (by decide) h8
                have h0 : (0 : Int) ≤ 2 ^ p.s.ca.toNat := Int.le_of_lt (Int.pow_pos (by decide))
                exact i64w _ (by omega) (by omega)
              have q0 : decide ((0 : Int) ≤ p.s.ca) = true := decide_eq_true (by omega)
              (conv => arg 1; whnf); (repeat' (first | (refine brt (by assumption) ?_; (conv => arg 1; whnf)) | (refine brf (by assumption) ?_; (conv => arg 1; whnf)) | fail))
              refine loopIn (fun i : Nat => i ≤ p.ws.length ∧ ∀ j, j < i → wnOk p.s (p.ws.getD j eWn.dflt) = true) (fun i => frm 18 [(1, .f (.func 39) [] [.p 1 0, .p 0 0]), (7, row eWn p.ws), (8, i64 p.ws.length), (9, i64 i)]) (fun _ => [.lit (snapC p), .lit [.f (.func 37) [] [.p 0 0]]]) (fun i => p.ws.length - i) 0 [0, 1] ⟨Nat.zero_le _, fun j hj => absurd hj (Nat.not_lt_zero j)⟩ (by decide) ?_ ?_ rfl fun i hi => ?_
              · repeat' (first | exact True.intro | exact Fit.dead _ | exact Fit.v _ | exact .p rfl | exact row_self eWn _ | refine Fit.fl ?_ ?_ | refine And.intro ?_ ?_)
              · refine ⟨⟨_, rfl, .lit ?_⟩, ⟨_, rfl, .lit ?_⟩, trivial⟩
                · repeat' (first | exact True.intro | exact Fit.v _ | exact row_self eRd _ | exact row_self eWn _ | refine And.intro ?_ ?_)
                · repeat' (first | exact True.intro | exact .p rfl | refine Fit.fl ?_ ?_ | refine And.intro ?_ ?_)
              · obtain ⟨hi, hokw⟩ := hi
                (conv => arg 1; whnf)
                refine br (fun h5 => ?_) (fun h5 => ?_)
                · have hlt : i < p.ws.length := by have := of_decide_eq_true h5; omega
                  have e1 : (decide (0 ≤ (i : Int)) && decide ((i : Int) < (p.ws.length : Int))) = true := by simp only [Bool.and_eq_true, decide_eq_true_eq]; omega
                  have bad := noW i hlt
                  have ok : wnOk p.s (p.ws.getD i eWn.dflt) = (p.s.there (p.ws.getD i eWn.dflt).fl && (decide (1 ≤ (p.ws.getD i eWn.dflt).ca) && decide ((p.ws.getD i eWn.dflt).ca < 2 ^ p.s.ca.toNat))) := rfl
                  have ek : (i : Int).toNat = i := by omega
                  (conv => arg 1; whnf); (repeat' (first | (refine brt (by assumption) ?_; (conv => arg 1; whnf)) | (refine brf (by assumption) ?_; (conv => arg 1; whnf)) | fail))
                  refine br (fun a1 => ?_) (fun a1 => ?_)
                  · have a1 : p.s.there (p.ws.getD (i : Int).toNat eWn.dflt).fl = true := a1
                    rw [ek] at a1
                    (conv => arg 1; whnf); (repeat' (first | (refine brt (by assumption) ?_; (conv => arg 1; whnf)) | (refine brf (by assumption) ?_; (conv => arg 1; whnf)) | fail))
                    refine br (fun a2 => ?_) (fun a2 => ?_)
                    · have a2 := a2
                      rw [ek] at a2
                      (conv => arg 1; whnf); (repeat' (first | (refine brt (by assumption) ?_; (conv => arg 1; whnf)) | (refine brf (by assumption) ?_; (conv => arg 1; whnf)) | fail))
                      refine br (fun a3 => ?_) (fun a3 => ?_)
                      · have a3 : (!(decide ((p.ws.getD (i : Int).toNat eWn.dflt).ca < IntKind.i64.wrap (1 * 2 ^ min p.s.ca.toNat 64)))) = true := a3
                        rw [ek, hsh] at a3
                        (conv => arg 1; whnf); (repeat' (first | (refine brt (by assumption) ?_; (conv => arg 1; whnf)) | (refine brf (by assumption) ?_; (conv => arg 1; whnf)) | fail))
                        refine leaveRet ?_
                        show tr _
                        (conv => arg 1; whnf); (repeat' (first | (refine brt (by assumption) ?_; (conv => arg 1; whnf)) | (refine brf (by assumption) ?_; (conv => arg 1; whnf)) | fail))
                        refine finB (bad ?_)
                        rw [ok, a1, a2]
                        simpa using a3
                      · have a3 : (!(decide ((p.ws.getD (i : Int).toNat eWn.dflt).ca < IntKind.i64.wrap (1 * 2 ^ min p.s.ca.toNat 64)))) = false := a3
                        rw [ek, hsh] at a3
                        (conv => arg 1; whnf); (repeat' (first | (refine brt (by assumption) ?_; (conv => arg 1; whnf)) | (refine brf (by assumption) ?_; (conv => arg 1; whnf)) | fail))
                        refine again (i + 1) [0, 1] ⟨hlt, fun j hj => ?_⟩ (by show p.ws.length - (i + 1) < p.ws.length - i; omega) (by decide) ?_ ?_ rfl
                        · rcases Nat.lt_or_ge j i with hj' | hj'
                          · exact hokw j hj'
                          · have : j = i := by omega
                            rw [this, ok, a1, a2]
                            simpa using a3
                        · repeat' (first | exact True.intro | exact Fit.dead _ | exact Fit.v _ | exact .p rfl | exact row_self eWn _ | refine Fit.fl ?_ ?_ | exact Fit.v' (congrArg (Value.int .i64) (nxt i (by omega)).symm) | refine And.intro ?_ ?_)
                        · refine ⟨⟨_, rfl, .lit ?_⟩, ⟨_, rfl, .lit ?_⟩, trivial⟩
                          · repeat' (first | exact True.intro | exact Fit.v _ | exact row_self eRd _ | exact row_self eWn _ | refine And.intro ?_ ?_)
                          · repeat' (first | exact True.intro | exact .p rfl | refine Fit.fl ?_ ?_ | refine And.intro ?_ ?_)
                    · have a2 := a2
                      rw [ek] at a2
                      (conv => arg 1; whnf); (repeat' (first | (refine brt (by assumption) ?_; (conv => arg 1; whnf)) | (refine brf (by assumption) ?_; (conv => arg 1; whnf)) | fail))
                      refine leaveRet ?_
                      show tr _
                      (conv => arg 1; whnf); (repeat' (first | (refine brt (by assumption) ?_; (conv => arg 1; whnf)) | (refine brf (by assumption) ?_; (conv => arg 1; whnf)) | fail))
                      refine finB (bad ?_)
                      rw [ok, a1, a2]; rfl
                  · have a1 : p.s.there (p.ws.getD (i : Int).toNat eWn.dflt).fl = false := a1
                    rw [ek] at a1
                    (conv => arg 1; whnf); (repeat' (first | (refine brt (by assumption) ?_; (conv => arg 1; whnf)) | (refine brf (by assumption) ?_; (conv => arg 1; whnf)) | fail))
                    refine leaveRet ?_
                    show tr _
                    (conv => arg 1; whnf); (repeat' (first | (refine brt (by assumption) ?_; (conv => arg 1; whnf)) | (refine brf (by assumption) ?_; (conv => arg 1; whnf)) | fail))
                    refine finB (bad ?_)
                    rw [ok, a1]; rfl
                · have hil : i = p.ws.length := by have := of_decide_eq_false h5; omega
                  (conv => arg 1; whnf); (repeat' (first | (refine brt (by assumption) ?_; (conv => arg 1; whnf)) | (refine brf (by assumption) ?_; (conv => arg 1; whnf)) | fail))
                  refine leave ?_
                  show tr _
                  (conv => arg 1; whnf); (repeat' (first | (refine brt (by assumption) ?_; (conv => arg 1; whnf)) | (refine brf (by assumption) ?_; (conv => arg 1; whnf)) | fail))
                  refine finB ?_
                  unfold Snap.right
                  have all1 : p.cs.all (rdOk p.s) = true := List.all_eq_true.2 fun x hx => by
                    obtain ⟨j, hj, rfl⟩ := List.getElem_of_mem hx
                    have := hok j (by omega)
                    rwa [List.getD_eq_getElem?_getD, List.getElem?_eq_getElem hj] at this
                  have all2 : p.ws.all (wnOk p.s) = true := List.all_eq_true.2 fun x hx => by
                    obtain ⟨j, hj, rfl⟩ := List.getElem_of_mem hx
                    have := hokw j (by omega)
                    rwa [List.getD_eq_getElem?_getD, List.getElem?_eq_getElem hj] at this
                  rw [hr, hcl, all1, all2, show decide (p.ws.length ≤ 128) = true from decide_eq_true hwl]; rfl

/-! ### The document's way -/
noncomputable def XN4 : Cx := XN0.add 24 .pure (pureCtr rightG)
theorem XN4_ok : CxOk Try.prog XN4 := XN0_ok.pure rright_ok
theorem rsright_ok : CtrOk Try.prog 15 (freshCtr srightG) :=
  freshCtr_ok XN4_ok Try.func15 (by decide) rfl fun args u σn h => by
    obtain ⟨p, hf, ⟨hp1, hp2⟩, hv⟩ := ad1_some h
    simp only [Option.some.injEq, Prod.mk.injEq, true_and] at hv
    obtain ⟨rfl, rfl⟩ := hv
    refine ⟨plainNil, _, hf, ?_⟩
    clear h hf
    unfold runF
    (conv => arg 1; whnf)
    refine br (fun h1 => ?_) (fun h1 => ?_)
    · have h1 : (!p.s.right) = true := h1
      (conv => arg 1; whnf); (repeat' (first | (refine brt (by assumption) ?_; (conv => arg 1; whnf)) | (refine brf (by assumption) ?_; (conv => arg 1; whnf)) | fail))
      refine finB ?_
      unfold Snap.right; rw [show p.s.right = false by simpa using h1]; rfl
    · have h1 : (!p.s.right) = false := h1
      have hr : p.s.right = true := by simpa using h1
      have hb := Site.right_bd hr
      (conv => arg 1; whnf); (repeat' (first | (refine brt (by assumption) ?_; (conv => arg 1; whnf)) | (refine brf (by assumption) ?_; (conv => arg 1; whnf)) | fail))
      refine br (fun h2 => ?_) (fun h2 => ?_)
      · have h2 : (!(decide ((p.cs.length : Int) = p.s.ca))) = true := h2
        (conv => arg 1; whnf); (repeat' (first | (refine brt (by assumption) ?_; (conv => arg 1; whnf)) | (refine brf (by assumption) ?_; (conv => arg 1; whnf)) | fail))
        refine finB ?_
        unfold Snap.right; rw [hr, show decide ((p.cs.length : Int) = p.s.ca) = false by simpa using h2]; rfl
      · have h2 : (!(decide ((p.cs.length : Int) = p.s.ca))) = false := h2
        have hcl : decide ((p.cs.length : Int) = p.s.ca) = true := by simpa using h2
        have hcs : p.cs.length ≤ 8 := by have := of_decide_eq_true hcl; omega
        (conv => arg 1; whnf); (repeat' (first | (refine brt (by assumption) ?_; (conv => arg 1; whnf)) | (refine brf (by assumption) ?_; (conv => arg 1; whnf)) | fail))
        refine br (fun h3 => ?_) (fun h3 => ?_)
        · (conv => arg 1; whnf); (repeat' (first | (refine brt (by assumption) ?_; (conv => arg 1; whnf)) | (refine brf (by assumption) ?_; (conv => arg 1; whnf)) | fail))
          refine finB ?_
          unfold Snap.right; rw [show decide (p.ws.length ≤ 128) = false from decide_eq_false (by have := of_decide_eq_true h3; omega)]; simp
        · have hwl : p.ws.length ≤ 128 := by have := of_decide_eq_false h3; omega
          (conv => arg 1; whnf); (repeat' (first | (refine brt (by assumption) ?_; (conv => arg 1; whnf)) | (refine brf (by assumption) ?_; (conv => arg 1; whnf)) | fail))
          refine loopIn (fun k : Nat => k ≤ p.cs.length ∧ ∀ j, j < k → rdOk p.s (p.cs.getD j eRd.dflt) = true) (fun k => frm 104 [(1, .p 0 0), (3, i64 k)]) (fun _ => [.lit (snapC p)]) (fun k => p.cs.length - k) 0 [0] ⟨Nat.zero_le _, fun j hj => absurd hj (Nat.not_lt_zero j)⟩ (by decide) ?_ ?_ rfl fun k hi => ?_
          · repeat' (first | exact True.intro | exact Fit.dead _ | exact Fit.v _ | exact .i fun _ _ => rfl | exact Fit.ip | exact .p rfl | exact .q rfl | exact .s rfl | exact .y rfl | refine Fit.al ?_ | refine Fit.fl ?_ ?_ | refine And.intro ?_ ?_)
          · refine ⟨⟨_, rfl, .lit ?_⟩, trivial⟩
            repeat' (first | exact True.intro | exact Fit.v _ | exact row_self eRd _ | exact row_self eWn _ | refine And.intro ?_ ?_)
          · obtain ⟨hk, hok⟩ := hi
            (conv => arg 1; whnf)
            refine br (fun h4 => ?_) (fun h4 => ?_)
            · have hlt : k < p.cs.length := by have := of_decide_eq_true h4; omega
              have e1 : (decide (0 ≤ (k : Int)) && decide ((k : Int) < (p.cs.length : Int))) = true := by simp only [Bool.and_eq_true, decide_eq_true_eq]; omega
              have bad : rdOk p.s (p.cs.getD k eRd.dflt) = false → p.right = false := Snap.noR hlt
              have ek : (k : Int).toNat = k := by omega
              have ok : rdOk p.s (p.cs.getD k eRd.dflt) = (p.s.there (p.cs.getD k eRd.dflt).fl && (decide (0 ≤ (p.cs.getD k eRd.dflt).af) && decide ((p.cs.getD k eRd.dflt).af ≤ 1000000))) := rfl
              have oth : p.s.there (p.cs.getD k eRd.dflt).fl = (decide (0 ≤ (p.cs.getD k eRd.dflt).fl) && decide ((p.cs.getD k eRd.dflt).fl < p.s.fl)) := by unfold Site.there; cases decide (0 ≤ (p.cs.getD k eRd.dflt).fl) <;> rfl
              (conv => arg 1; whnf); (repeat' (first | (refine brt (by assumption) ?_; (conv => arg 1; whnf)) | (refine brf (by assumption) ?_; (conv => arg 1; whnf)) | fail))
              refine br (fun a1 => ?_) (fun a1 => ?_)
              · (conv => arg 1; whnf); (repeat' (first | (refine brt (by assumption) ?_; (conv => arg 1; whnf)) | (refine brf (by assumption) ?_; (conv => arg 1; whnf)) | fail))
                refine leaveRet ?_
                show tr _
                (conv => arg 1; whnf); (repeat' (first | (refine brt (by assumption) ?_; (conv => arg 1; whnf)) | (refine brf (by assumption) ?_; (conv => arg 1; whnf)) | fail))
                rw [ek] at a1
                refine finB (bad ?_)
                have := of_decide_eq_true a1
                rw [ok, oth, show decide (0 ≤ (p.cs.getD k eRd.dflt).fl) = false from decide_eq_false (by omega)]; rfl
              · (conv => arg 1; whnf); (repeat' (first | (refine brt (by assumption) ?_; (conv => arg 1; whnf)) | (refine brf (by assumption) ?_; (conv => arg 1; whnf)) | fail))
                refine br (fun a2 => ?_) (fun a2 => ?_)
                · (conv => arg 1; whnf); (repeat' (first | (refine brt (by assumption) ?_; (conv => arg 1; whnf)) | (refine brf (by assumption) ?_; (conv => arg 1; whnf)) | fail))
                  refine leaveRet ?_
                  show tr _
                  (conv => arg 1; whnf); (repeat' (first | (refine brt (by assumption) ?_; (conv => arg 1; whnf)) | (refine brf (by assumption) ?_; (conv => arg 1; whnf)) | fail))
                  rw [ek] at a2
                  refine finB (bad ?_)
                  have := of_decide_eq_true a2
                  rw [ok, oth, show decide ((p.cs.getD k eRd.dflt).fl < p.s.fl) = false from decide_eq_false (by omega)]; simp
                · (conv => arg 1; whnf); (repeat' (first | (refine brt (by assumption) ?_; (conv => arg 1; whnf)) | (refine brf (by assumption) ?_; (conv => arg 1; whnf)) | fail))
                  refine br (fun a3 => ?_) (fun a3 => ?_)
                  · (conv => arg 1; whnf); (repeat' (first | (refine brt (by assumption) ?_; (conv => arg 1; whnf)) | (refine brf (by assumption) ?_; (conv => arg 1; whnf)) | fail))
                    refine leaveRet ?_
                    show tr _
                    (conv => arg 1; whnf); (repeat' (first | (refine brt (by assumption) ?_; (conv => arg 1; whnf)) | (refine brf (by assumption) ?_; (conv => arg 1; whnf)) | fail))
                    rw [ek] at a3
                    refine finB (bad ?_)
                    have := of_decide_eq_true a3
                    rw [ok, show decide (0 ≤ (p.cs.getD k eRd.dflt).af) = false from decide_eq_false (by omega)]; simp
                  · (conv => arg 1; whnf); (repeat' (first | (refine brt (by assumption) ?_; (conv => arg 1; whnf)) | (refine brf (by assumption) ?_; (conv => arg 1; whnf)) | fail))
                    refine br (fun a4 => ?_) (fun a4 => ?_)
                    · (conv => arg 1; whnf); (repeat' (first | (refine brt (by assumption) ?_; (conv => arg 1; whnf)) | (refine brf (by assumption) ?_; (conv => arg 1; whnf)) | fail))
                      refine leaveRet ?_
                      show tr _
                      (conv => arg 1; whnf); (repeat' (first | (refine brt (by assumption) ?_; (conv => arg 1; whnf)) | (refine brf (by assumption) ?_; (conv => arg 1; whnf)) | fail))
                      rw [ek] at a4
                      refine finB (bad ?_)
                      have := of_decide_eq_true a4
                      rw [ok, show decide ((p.cs.getD k eRd.dflt).af ≤ 1000000) = false from decide_eq_false (by omega)]; simp
                    · (conv => arg 1; whnf); (repeat' (first | (refine brt (by assumption) ?_; (conv => arg 1; whnf)) | (refine brf (by assumption) ?_; (conv => arg 1; whnf)) | fail))
                      rw [ek] at a1 a2 a3 a4
                      have a1 := of_decide_eq_false a1
                      have a2 := of_decide_eq_false a2
                      have a3 := of_decide_eq_false a3
                      have a4 := of_decide_eq_false a4
                      refine again (k + 1) [0] ⟨hlt, fun j hj => ?_⟩ (by show p.cs.length - (k + 1) < p.cs.length - k; omega) (by decide) ?_ ?_ rfl
                      · rcases Nat.lt_or_ge j k with hj' | hj'
                        · exact hok j hj'
                        · have : j = k := by omega
                          rw [this, ok, oth]
                          simp only [Bool.and_eq_true, decide_eq_true_eq]
                          omega
                      · repeat' (first | exact True.intro | exact Fit.dead _ | exact .p rfl | exact Fit.v' (congrArg (Value.int .i64) (nxt k (by omega)).symm) | refine And.intro ?_ ?_)
                      · refine ⟨⟨_, rfl, .lit ?_⟩, trivial⟩
                        repeat' (first | exact True.intro | exact Fit.v _ | exact row_self eRd _ | exact row_self eWn _ | refine And.intro ?_ ?_)
            · have hkl : k = p.cs.length := by have := of_decide_eq_false h4; omega
              (conv => arg 1; whnf); (repeat' (first | (refine brt (by assumption) ?_; (conv => arg 1; whnf)) | (refine brf (by assumption) ?_; (conv => arg 1; whnf)) | fail))
              refine leave ?_
              show tr _
              (conv => arg 1; whnf); (repeat' (first | (refine brt (by assumption) ?_; (conv => arg 1; whnf)) | (refine brf (by assumption) ?_; (conv => arg 1; whnf)) | fail))
              refine loopIn (fun i : Nat => (i : Int) ≤ p.s.ca) (fun i => frm 104 [(1, .p 0 0), (5, i64 (2 ^ i)), (6, i64 i)]) (fun _ => [.lit (snapC p)]) (fun i => p.s.ca.toNat - i) 0 [0] (by show ((0 : Nat) : Int) ≤ p.s.ca; omega) (by decide) ?_ ?_ rfl fun i hi => ?_
              · repeat' (first | exact True.intro | exact Fit.dead _ | exact Fit.v _ | exact .i fun _ _ => rfl | exact Fit.ip | exact .p rfl | exact .q rfl | exact .s rfl | exact .y rfl | refine Fit.al ?_ | refine Fit.fl ?_ ?_ | refine And.intro ?_ ?_)
              · refine ⟨⟨_, rfl, .lit ?_⟩, trivial⟩
                repeat' (first | exact True.intro | exact Fit.v _ | exact row_self eRd _ | exact row_self eWn _ | refine And.intro ?_ ?_)
              · have hi : (i : Int) ≤ p.s.ca := hi
                (conv => arg 1; whnf)
                refine br (fun h5 => ?_) (fun h5 => ?_)
                · have hlt : (i : Int) < p.s.ca := of_decide_eq_true h5
                  obtain ⟨w1, w2⟩ := pow_bd (n := i + 1) (by omega)
                  (conv => arg 1; whnf); (repeat' (first | (refine brt (by assumption) ?_; (conv => arg 1; whnf)) | (refine brf (by assumption) ?_; (conv => arg 1; whnf)) | fail))
                  refine again (i + 1) [0] (by show ((i + 1 : Nat) : Int) ≤ p.s.ca; omega) (by show p.s.ca.toNat - (i + 1) < p.s.ca.toNat - i; omega) (by decide) ?_ ?_ rfl
                  · repeat' (first | exact True.intro | exact Fit.dead _ | exact .p rfl | exact Fit.v' (congrArg (Value.int .i64) (nxt i (by omega)).symm) | exact Fit.v' (congrArg (Value.int .i64) (show (2 : Int) ^ (i + 1) = IntKind.i64.wrap (2 * 2 ^ i) by rw [Int.pow_succ, Int.mul_comm] at *; exact (i64w _ (by omega) (by omega)).symm)) | refine And.intro ?_ ?_)
                  · refine ⟨⟨_, rfl, .lit ?_⟩, trivial⟩
                    repeat' (first | exact True.intro | exact Fit.v _ | exact row_self eRd _ | exact row_self eWn _ | refine And.intro ?_ ?_)
                · have hic : (i : Int) = p.s.ca := by have := of_decide_eq_false h5; omega
                  have hin : p.s.ca.toNat = i := by omega
                  (conv => arg 1; whnf); (repeat' (first | (refine brt (by assumption) ?_; (conv => arg 1; whnf)) | (refine brf (by assumption) ?_; (conv => arg 1; whnf)) | fail))
                  refine leave ?_
                  show tr _
                  (conv => arg 1; whnf); (repeat' (first | (refine brt (by assumption) ?_; (conv => arg 1; whnf)) | (refine brf (by assumption) ?_; (conv => arg 1; whnf)) | fail))
                  refine loopIn (fun i : Nat => i ≤ p.ws.length ∧ ∀ j, j < i → wnOk p.s (p.ws.getD j eWn.dflt) = true) (fun k => frm 104 [(1, .p 0 0), (5, i64 (2 ^ i)), (7, i64 k)]) (fun _ => [.lit (snapC p)]) (fun i => p.ws.length - i) 0 [0] ⟨Nat.zero_le _, fun j hj => absurd hj (Nat.not_lt_zero j)⟩ (by decide) ?_ ?_ rfl fun k hk => ?_
                  · repeat' (first | exact True.intro | exact Fit.dead _ | exact Fit.v _ | exact .i fun _ _ => rfl | exact Fit.ip | exact .p rfl | exact .q rfl | exact .s rfl | exact .y rfl | refine Fit.al ?_ | refine Fit.fl ?_ ?_ | refine And.intro ?_ ?_)
                  · refine ⟨⟨_, rfl, .lit ?_⟩, trivial⟩
                    repeat' (first | exact True.intro | exact Fit.v _ | exact row_self eRd _ | exact row_self eWn _ | refine And.intro ?_ ?_)
                  · obtain ⟨hk, hokw⟩ := hk
                    (conv => arg 1; whnf)
                    refine br (fun h6 => ?_) (fun h6 => ?_)
                    · have hlt : k < p.ws.length := by have := of_decide_eq_true h6; omega
                      have e1 : (decide (0 ≤ (k : Int)) && decide ((k : Int) < (p.ws.length : Int))) = true := by simp only [Bool.and_eq_true, decide_eq_true_eq]; omega
                      have bad : wnOk p.s (p.ws.getD k eWn.dflt) = false → p.right = false := Snap.noW hlt
                      have ek : (k : Int).toNat = k := by omega
                      have ok : wnOk p.s (p.ws.getD k eWn.dflt) = (p.s.there (p.ws.getD k eWn.dflt).fl && (decide (1 ≤ (p.ws.getD k eWn.dflt).ca) && decide ((p.ws.getD k eWn.dflt).ca < 2 ^ p.s.ca.toNat))) := rfl
                      rw [hin] at ok
                      have oth : p.s.there (p.ws.getD k eWn.dflt).fl = (decide (0 ≤ (p.ws.getD k eWn.dflt).fl) && decide ((p.ws.getD k eWn.dflt).fl < p.s.fl)) := by unfold Site.there; cases decide (0 ≤ (p.ws.getD k eWn.dflt).fl) <;> rfl
                      (conv => arg 1; whnf); (repeat' (first | (refine brt (by assumption) ?_; (conv => arg 1; whnf)) | (refine brf (by assumption) ?_; (conv => arg 1; whnf)) | fail))
                      refine br (fun a1 => ?_) (fun a1 => ?_)
                      · (conv => arg 1; whnf); (repeat' (first | (refine brt (by assumption) ?_; (conv => arg 1; whnf)) | (refine brf (by assumption) ?_; (conv => arg 1; whnf)) | fail))
                        refine leaveRet ?_
                        show tr _
                        (conv => arg 1; whnf); (repeat' (first | (refine brt (by assumption) ?_; (conv => arg 1; whnf)) | (refine brf (by assumption) ?_; (conv => arg 1; whnf)) | fail))
                        rw [ek] at a1
                        refine finB (bad ?_)
                        have := of_decide_eq_true a1
                        rw [ok, oth, show decide (0 ≤ (p.ws.getD k eWn.dflt).fl) = false from decide_eq_false (by omega)]; rfl
                      · (conv => arg 1; whnf); (repeat' (first | (refine brt (by assumption) ?_; (conv => arg 1; whnf)) | (refine brf (by assumption) ?_; (conv => arg 1; whnf)) | fail))
                        refine br (fun a2 => ?_) (fun a2 => ?_)
                        · (conv => arg 1; whnf); (repeat' (first | (refine brt (by assumption) ?_; (conv => arg 1; whnf)) | (refine brf (by assumption) ?_; (conv => arg 1; whnf)) | fail))
                          refine leaveRet ?_
                          show tr _
                          (conv => arg 1; whnf); (repeat' (first | (refine brt (by assumption) ?_; (conv => arg 1; whnf)) | (refine brf (by assumption) ?_; (conv => arg 1; whnf)) | fail))
                          rw [ek] at a2
                          refine finB (bad ?_)
                          have := of_decide_eq_true a2
                          rw [ok, oth, show decide ((p.ws.getD k eWn.dflt).fl < p.s.fl) = false from decide_eq_false (by omega)]; simp
                        · (conv => arg 1; whnf); (repeat' (first | (refine brt (by assumption) ?_; (conv => arg 1; whnf)) | (refine brf (by assumption) ?_; (conv => arg 1; whnf)) | fail))
                          refine br (fun a3 => ?_) (fun a3 => ?_)
                          · (conv => arg 1; whnf); (repeat' (first | (refine brt (by assumption) ?_; (conv => arg 1; whnf)) | (refine brf (by assumption) ?_; (conv => arg 1; whnf)) | fail))
                            refine leaveRet ?_
                            show tr _
                            (conv => arg 1; whnf); (repeat' (first | (refine brt (by assumption) ?_; (conv => arg 1; whnf)) | (refine brf (by assumption) ?_; (conv => arg 1; whnf)) | fail))
                            rw [ek] at a3
                            refine finB (bad ?_)
                            have := of_decide_eq_true a3
                            rw [ok, show decide (1 ≤ (p.ws.getD k eWn.dflt).ca) = false from decide_eq_false (by omega)]; simp
                          · (conv => arg 1; whnf); (repeat' (first | (refine brt (by assumption) ?_; (conv => arg 1; whnf)) | (refine brf (by assumption) ?_; (conv => arg 1; whnf)) | fail))
                            refine br (fun a4 => ?_) (fun a4 => ?_)
                            · (conv => arg 1; whnf); (repeat' (first | (refine brt (by assumption) ?_; (conv => arg 1; whnf)) | (refine brf (by assumption) ?_; (conv => arg 1; whnf)) | fail))
                              refine leaveRet ?_
                              show tr _
                              (conv => arg 1; whnf); (repeat' (first | (refine brt (by assumption) ?_; (conv => arg 1; whnf)) | (refine brf (by assumption) ?_; (conv => arg 1; whnf)) | fail))
                              rw [ek] at a4
                              refine finB (bad ?_)
                              have := of_decide_eq_true a4
                              rw [ok, show decide ((p.ws.getD k eWn.dflt).ca < 2 ^ i) = false from decide_eq_false (by omega)]; simp
                            · (conv => arg 1; whnf); (repeat' (first | (refine brt (by assumption) ?_; (conv => arg 1; whnf)) | (refine brf (by assumption) ?_; (conv => arg 1; whnf)) | fail))
                              rw [ek] at a1 a2 a3 a4
                              have a1 := of_decide_eq_false a1
                              have a2 := of_decide_eq_false a2
                              have a3 := of_decide_eq_false a3
                              have a4 := of_decide_eq_false a4
                              refine again (k + 1) [0] ⟨hlt, fun j hj => ?_⟩ (by show p.ws.length - (k + 1) < p.ws.length - k; omega) (by decide) ?_ ?_ rfl
                              · rcases Nat.lt_or_ge j k with hj' | hj'
                                · exact hokw j hj'
                                · have : j = k := by omega
                                  rw [this, ok, oth]
                                  simp only [Bool.and_eq_true, decide_eq_true_eq]
                                  omega
                              · repeat' (first | exact True.intro | exact Fit.dead _ | exact .p rfl | exact Fit.v _ | exact Fit.v' (congrArg (Value.int .i64) (nxt k (by omega)).symm) | refine And.intro ?_ ?_)
                              · refine ⟨⟨_, rfl, .lit ?_⟩, trivial⟩
                                repeat' (first | exact True.intro | exact Fit.v _ | exact row_self eRd _ | exact row_self eWn _ | refine And.intro ?_ ?_)
                    · have hkw : k = p.ws.length := by have := of_decide_eq_false h6; omega
                      (conv => arg 1; whnf); (repeat' (first | (refine brt (by assumption) ?_; (conv => arg 1; whnf)) | (refine brf (by assumption) ?_; (conv => arg 1; whnf)) | fail))
                      refine leave ?_
                      show tr _
                      (conv => arg 1; whnf); (repeat' (first | (refine brt (by assumption) ?_; (conv => arg 1; whnf)) | (refine brf (by assumption) ?_; (conv => arg 1; whnf)) | fail))
                      exact finB (Snap.yes hr hcl hwl (fun j hj => hok j (by omega)) fun j hj => hokw j (by omega))

/-! ### Which car may serve a want -/
def mayB (w c : Int) : Bool := decide ((w / 2 ^ c.toNat) % 2 = 1)
def smayG : List AV → Option (Bool × AV × St) := ad3 adSnap adI adI fun p w c => some ((decide (0 ≤ w) && decide (w < (p.ws.length : Int))) && ((decide (0 ≤ c) && decide (c ≤ 60)) && (decide (0 ≤ (p.ws.getD w.toNat eWn.dflt).ca) && decide ((p.ws.getD w.toNat eWn.dflt).ca ≤ 1000000))), boo (mayB (p.ws.getD w.toNat eWn.dflt).ca c), [])
theorem smay_ok : CtrOk Try.prog 42 (freshCtr smayG) :=
  freshCtr_ok XN0_ok Try.func42 (by decide) rfl fun args u σn h => by
    obtain ⟨p, w, c, hf, ⟨hp1, hp2⟩, _, _, hv⟩ := ad3_some h
    simp only [Option.some.injEq, Prod.mk.injEq] at hv
    obtain ⟨hc, rfl, rfl⟩ := hv
    refine ⟨plainNil, _, hf, ?_⟩
    clear h hf
    have c1 : (decide (0 ≤ w) && decide (w < (p.ws.length : Int))) = true := by
      simp only [Bool.and_eq_true] at hc ⊢; exact hc.1
    simp only [Bool.and_eq_true, decide_eq_true_eq] at hc
    obtain ⟨_, ⟨hc0, hc1⟩, hn, hn1⟩ := hc
    have c2 : decide (0 ≤ c) = true := decide_eq_true hc0
    unfold runF
    (conv => arg 1; whnf); (repeat' (first | (refine brt (by assumption) ?_; (conv => arg 1; whnf)) | (refine brf (by assumption) ?_; (conv => arg 1; whnf)) | fail))
    refine finB ?_
    show mayB _ c = decide (bits .and .i64 ((p.ws.getD w.toNat eWn.dflt).ca.fdiv (2 ^ min c.toNat 64)) 1 = 1)
    rw [and1, Nat.min_eq_left (by omega), Int.fdiv_eq_ediv_of_nonneg _ (Int.le_of_lt (Int.pow_pos (by decide)))]
    rfl
theorem rsmay_ok : CtrOk Try.prog 44 (freshCtr smayG) :=
  freshCtr_ok XN0_ok Try.func44 (by decide) rfl fun args u σn h => by
    obtain ⟨p, w, c, hf, ⟨hp1, hp2⟩, _, _, hv⟩ := ad3_some h
    simp only [Option.some.injEq, Prod.mk.injEq] at hv
    obtain ⟨hc, rfl, rfl⟩ := hv
    refine ⟨plainNil, _, hf, ?_⟩
    clear h hf
    have c1 : (decide (0 ≤ w) && decide (w < (p.ws.length : Int))) = true := by
      simp only [Bool.and_eq_true] at hc ⊢; exact hc.1
    simp only [Bool.and_eq_true, decide_eq_true_eq] at hc
    obtain ⟨_, ⟨hc0, hc1⟩, hn, hn1⟩ := hc
    obtain ⟨m, hm⟩ : ∃ m, m = (p.ws.getD w.toNat eWn.dflt).ca := ⟨_, rfl⟩
    rw [← hm] at hn hn1
    unfold runF
    (conv => arg 1; whnf); (repeat' (first | (refine brt (by assumption) ?_; (conv => arg 1; whnf)) | (refine brf (by assumption) ?_; (conv => arg 1; whnf)) | fail))
    refine loopIn (fun i : Nat => (i : Int) ≤ c) (fun i => frm 25 [(2, i64 c), (7, i64 (m / 2 ^ i)), (8, i64 i)]) (fun _ => []) (fun i => c.toNat - i) 0 [] (by show ((0 : Nat) : Int) ≤ c; omega) List.nodup_nil ?_ True.intro rfl fun i hi => ?_
    · repeat' (first | exact True.intro | exact Fit.dead _ | exact Fit.v _ | exact Fit.v' (congrArg (Value.int .i64) (show m / 2 ^ 0 = (p.ws.getD w.toNat eWn.dflt).ca by rw [hm]; simp)) | refine And.intro ?_ ?_)
    · have hi : (i : Int) ≤ c := hi
      have h0 : 0 ≤ m / 2 ^ i := Int.ediv_nonneg hn (Int.le_of_lt (Int.pow_pos (by decide)))
      have h9 : m / 2 ^ i ≤ m := Int.ediv_le_self _ hn
      (conv => arg 1; whnf)
      refine br (fun h => ?_) (fun h => ?_)
      · have hlt : (i : Int) < c := of_decide_eq_true h
        have e2 : (!(decide ((2 : Int) = 0))) = true := rfl
        (conv => arg 1; whnf); (repeat' (first | (refine brt (by assumption) ?_; (conv => arg 1; whnf)) | (refine brf (by assumption) ?_; (conv => arg 1; whnf)) | fail))
        refine again (i + 1) [] (by show ((i + 1 : Nat) : Int) ≤ c; omega) (by show c.toNat - (i + 1) < c.toNat - i; omega) List.nodup_nil ?_ True.intro rfl
        repeat' (first | exact True.intro | exact Fit.dead _ | exact Fit.v _ | exact Fit.v' (congrArg (Value.int .i64) (nxt i (by omega)).symm) | exact Fit.v' (congrArg (Value.int .i64) (show m / 2 ^ (i + 1) = IntKind.i64.wrap ((m / 2 ^ i).tdiv 2) by rw [Int.tdiv_eq_ediv_of_nonneg h0, i64w _ (by omega) (by omega), Int.pow_succ, Int.ediv_ediv_of_nonneg (Int.le_of_lt (Int.pow_pos (by decide)))])) | refine And.intro ?_ ?_)
      · have hic : c.toNat = i := by have := of_decide_eq_false h; omega
        have e2 : (!(decide ((2 : Int) = 0))) = true := rfl
        (conv => arg 1; whnf); (repeat' (first | (refine brt (by assumption) ?_; (conv => arg 1; whnf)) | (refine brf (by assumption) ?_; (conv => arg 1; whnf)) | fail))
        refine leave ?_
        show tr _
        (conv => arg 1; whnf); (repeat' (first | (refine brt (by assumption) ?_; (conv => arg 1; whnf)) | (refine brf (by assumption) ?_; (conv => arg 1; whnf)) | fail))
        refine finB ?_
        show mayB (p.ws.getD w.toNat eWn.dflt).ca c = decide ((m / 2 ^ i).tmod 2 = 1)
        rw [Int.tmod_eq_emod_of_nonneg h0, ← hm]
        unfold mayB
        rw [hic]
end Go.Proofs.Ytglpeibbkkikgaa.E
