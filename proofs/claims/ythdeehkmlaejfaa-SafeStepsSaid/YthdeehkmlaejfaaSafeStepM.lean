/- Cars that step and calls that grow older: plain laws, and helpers. -/
import Derived.Test.YthdeehkmlaejfaaSafeLawE
namespace Go.Proofs.Ythdeehkmlaejfaa.E
open Go NumMath
set_option linter.unusedSimpArgs false
set_option linter.unusedVariables false
set_option maxRecDepth 100000
set_option maxHeartbeats 8000000
theorem sfreshAt {G : List AV → Option (Bool × AV × St)} {args : List AV} {σ : St} {c : Bool} {u : AV} {σn : St} (h0 : ((reads2 args σ).all fun l => Nat.blt l σ.length) = true) (h1 : G (args.map (viewD σ)) = some (c, u, σn)) (h2 : newU u = true) :
    freshCtr G args σ = some (args.all (vokD σ) && c, reAV (shiftR σ.length) u, σ ++ σn.map (reB (shiftR σ.length))) := by
  unfold freshCtr
  simp only [h0, h1, h2]
theorem stickAt {args : List AV} {σ : St} {c : Bool} {L' L : List Int} (h0 : ((reads2 args σ).all fun l => Nat.blt l σ.length) = true) (h1 : tickG (args.map (viewD σ)) = some (c, resL L')) (hL : L' = L) :
    Prod.snd (9, freshCtr tickG) args σ = some (args.all (vokD σ) && c, reAV (shiftR σ.length) (resL L).1, σ ++ (resL L).2.map (reB (shiftR σ.length))) := by
  subst hL
  exact sfreshAt h0 h1 (by cases L' <;> rfl)
def eCm : Elt Cmd := ⟨2, fun u => match u with | [.v (.bool a), .v (.int .i64 b)] => some ⟨a, b⟩ | _ => none, fun c => [boo c.op, i64 c.go], ⟨false, 0⟩, fun {u a} h => (by split at h <;> first | (obtain rfl := Option.some.inj h; rfl) | cases h), fun _ => rfl⟩
theorem cars_arg {u : AV} (h : isArg tt 24 u) : ∃ l : List Car, u = row eCr l ∧ l.length < 281474976710656 := by
  obtain ⟨m, g, e, hm, hg, hz⟩ := h
  obtain rfl := (List.cons.inj e).1
  obtain ⟨l, e, h1, _⟩ := row_eq eCr (m := m) (g := g) (p := fun _ => True) (fun k hk => by
    obtain ⟨_, _, e1, ⟨a1, rfl, w1⟩, _, _, rfl, ⟨a2, rfl, w2⟩, _, _, rfl, ⟨a3, rfl, w3⟩, _, _, rfl, ⟨_, _, rfl, ⟨a4, rfl, w4⟩, _, _, rfl, ⟨a5, rfl, w5⟩, _, _, rfl, ⟨a6, rfl, w6⟩, _, _, rfl, ⟨a7, rfl⟩, rfl⟩, _, _, rfl, ⟨a8, rfl⟩, rfl⟩ := hg k hk
    exact ⟨⟨a1, a2, a3, ⟨a4, a5, a6, a7⟩, a8⟩, e1, trivial⟩) hz (by have : m * 8 < 281474976710656 := hm; omega)
  exact ⟨l, e, h1⟩
theorem cmds_arg {u : AV} (h : isArg tt 25 u) : ∃ l : List Cmd, u = row eCm l ∧ l.length < 281474976710656 := by
  obtain ⟨m, g, e, hm, hg, hz⟩ := h
  obtain rfl := (List.cons.inj e).1
  obtain ⟨l, e, h1, _⟩ := row_eq eCm (m := m) (g := g) (p := fun _ => True) (fun k hk => by
    obtain ⟨_, _, e1, ⟨a, rfl⟩, _, _, rfl, ⟨b, rfl, w2⟩, rfl⟩ := hg k hk
    exact ⟨⟨a, b⟩, e1, trivial⟩) hz (by have : m * 2 < 281474976710656 := hm; omega)
  exact ⟨l, e, h1⟩
theorem calls_arg {u : AV} (h : isArg tt 26 u) : ∃ l : List Cll, u = row eCl l ∧ l.length < 281474976710656 := by
  obtain ⟨m, g, e, hm, hg, hz⟩ := h
  obtain rfl := (List.cons.inj e).1
  obtain ⟨l, e, h1, _⟩ := row_eq eCl (m := m) (g := g) (p := fun _ => True) (fun k hk => by
    obtain ⟨_, _, e1, ⟨a1, rfl, w1⟩, _, _, rfl, ⟨a2, rfl, w2⟩, _, _, rfl, ⟨a3, rfl, w3⟩, _, _, rfl, ⟨a4, rfl⟩, rfl⟩ := hg k hk
    exact ⟨⟨a1, a2, a3, a4⟩, e1, trivial⟩) hz (by have : m * 4 < 281474976710656 := hm; omega)
  exact ⟨l, e, h1⟩
/-- Cars behind a step. -/
def stpL (s : Site) (cs : List Car) (ds : List Cmd) (b : Bool) (k : Nat) : List Car := (List.range k).map fun j => (cs.getD j eCr.dflt).step s (ds.getD j eCm.dflt) b
theorem stpL_len {s : Site} {cs : List Car} {ds : List Cmd} {b : Bool} {k : Nat} : (stpL s cs ds b k).length = k := by unfold stpL; simp
theorem stpL_succ {s : Site} {cs : List Car} {ds : List Cmd} {b : Bool} {k : Nat} : stpL s cs ds b (k + 1) = stpL s cs ds b k ++ [(cs.getD k eCr.dflt).step s (ds.getD k eCm.dflt) b] := by
  unfold stpL; rw [List.range_succ, List.map_append]; rfl
theorem stpL_get {s : Site} {cs : List Car} {ds : List Cmd} {b : Bool} {k j : Nat} (h : j < k) : (stpL s cs ds b k).getD j eCr.dflt = (cs.getD j eCr.dflt).step s (ds.getD j eCm.dflt) b := by
  unfold stpL
  rw [List.getD_eq_getElem?_getD, List.getElem?_eq_getElem (by simpa using h)]; simp
theorem lp_step {s : Site} {cs : List Car} {ds : List Cmd} {b : Bool} {N : Nat} (hl : cs.length = N) (hN : (N : Int) = s.ca) (h1 : 1 ≤ s.ca) (hr : ∀ j, j < N → (cs.getD j eCr.dflt).right s = true) : leapsB s cs (stpL s cs ds b N) = false := by
  unfold leapsB
  rw [stpL_len, hl, decide_eq_true rfl, decide_eq_true hN, decide_eq_false (by omega : ¬ s.ca < 1)]
  show (List.range N).any _ = false
  refine any_no fun j hj => ?_
  rw [stpL_get hj, Car.step_safe (hr j hj)]; rfl
theorem lp_jump {s : Site} {cs now : List Car} {n : Nat} {c : Car} (hn : n < now.length) (h0 : (cs.getD n eCr.dflt).ti = 0) (hc0 : c.ti = 0) (hc : (cs.getD n eCr.dflt).fl ≠ c.fl) : leapsB s cs (now.set n c) = true := by
  unfold leapsB
  have e : (now.set n c).getD n eCr.dflt = c := by
    rw [List.getD_eq_getElem?_getD, List.getElem?_eq_getElem (by simpa using hn)]; simp
  have h : ((List.range (now.set n c).length).any fun k => !(cs.getD k eCr.dflt).safe s ((now.set n c).getD k eCr.dflt)) = true := by
    refine any_yes (k := n) (by simpa using hn) ?_
    rw [e]
    unfold Car.safe
    rw [if_pos hc0, if_pos h0, decide_eq_false hc]
    simp
  rw [h]; simp
/-! ### Calls that grow older -/
def oldC (c : Cll) : Cll := ⟨c.fl, c.ca, c.ag + 1, c.up⟩
theorem sameK_symm {a b : Cll} (h : sameK a b = true) : sameK b a = true := by
  unfold sameK at h ⊢
  simp only [Bool.and_eq_true, decide_eq_true_eq, beq_iff_eq] at h ⊢
  exact ⟨h.1.symm, h.2.1.symm, trivial, h.2.2.2.symm⟩
/-- No two are alike. -/
def Apart (W : List Cll) : Prop := W.Pairwise fun a b => sameK b a = false
theorem apart_nodup {W : List Cll} (h : Apart W) : nodupK W = true := by
  unfold nodupK
  refine List.all_eq_true.2 fun i hi => List.all_eq_true.2 fun j hj => ?_
  have hi := List.mem_range.1 hi
  have hj := List.mem_range.1 hj
  have := (List.pairwise_iff_getElem.1 h) j i (by omega) hi hj
  rw [List.getD_eq_getElem?_getD, List.getD_eq_getElem?_getD, List.getElem?_eq_getElem hi, List.getElem?_eq_getElem (show j < W.length by omega)]
  show (!sameK W[i] W[j]) = true
  rw [this]; rfl
theorem apart_old {W : List Cll} (h : Apart W) : Apart (W.map oldC) := by
  unfold Apart
  rw [List.pairwise_map]
  exact h
theorem apart_snoc {W : List Cll} {c : Cll} (h : Apart W) (hc : ∀ d ∈ W, sameK c d = false) : Apart (W ++ [c]) := by
  refine List.pairwise_append.2 ⟨h, List.pairwise_singleton _ _, fun a ha b hb => ?_⟩
  rw [List.mem_singleton.1 hb]; exact hc a ha
theorem find_old : ∀ {W : List Cll} {c : Cll}, Apart W → c ∈ W → W.find? (sameK (oldC c)) = some c
  | [], _, _, h => by cases h
  | e :: W, c, ha, h => by
    obtain ⟨h1, h2⟩ := List.pairwise_cons.1 ha
    rcases List.mem_cons.1 h with rfl | h
    · exact List.find?_cons_of_pos (sameK_refl c)
    · rw [List.find?_cons_of_neg (by rw [show sameK (oldC c) e = sameK c e from rfl, h1 c h]; simp)]
      exact find_old h2 h
theorem vn_old (b : List Car) (W : List Cll) : vnF b W (W.map oldC) = false := by
  unfold vnF vanB
  rw [List.any_eq_false]
  intro c hc
  have : ((W.map oldC).any (sameK c)) = true := List.any_eq_true.2 ⟨oldC c, List.mem_map_of_mem hc, sameK_refl c⟩
  rw [this]; simp
theorem yg_old {W : List Cll} (h : Apart W) (ha : ∀ c ∈ W, 0 ≤ c.ag ∧ c.ag ≤ 65535) : ygF W (W.map oldC) = false := by
  unfold ygF youB
  rw [List.any_eq_false]
  intro c hc
  obtain ⟨d, hd, rfl⟩ := List.mem_map.1 hc
  rw [find_old h hd]
  have := ha d hd
  have e : (oldC d).ag = lim (lim d.ag + lim 1) := by unfold lim oldC; dsimp; omega
  simp [e]
theorem tick_same {s : Site} {cs : List Car} {ds : List Cmd} {b : Bool} {N : Nat} {W : List Cll} (hl : cs.length = N) (hN : (N : Int) = s.ca) (h1 : 1 ≤ s.ca) (h8 : s.ca ≤ 8) (hr : ∀ j, j < N → (cs.getD j eCr.dflt).right s = true) (hW : Apart W) (ha : ∀ c ∈ W, 0 ≤ c.ag ∧ c.ag ≤ 65535) (hlen : W.length ≤ 100) :
    tickL s cs (stpL s cs ds b N) W (W.map oldC) false = [] ∧ tickC s cs (stpL s cs ds b N) W (W.map oldC) false = true := by
  have e1 : lpF s cs (stpL s cs ds b N) = false := lp_step hl hN h1 hr
  have e2 : awF false cs (stpL s cs ds b N) = false := rfl
  unfold tickL tickC
  rw [e1, e2, vn_old, yg_old hW ha, apart_nodup hW, apart_nodup (apart_old hW), stpL_len, hl]
  simp [few4]
  omega
theorem tick_jump {s : Site} {cs now : List Car} {N n : Nat} {c : Car} {W : List Cll} (hl : cs.length = N) (hl2 : now.length = N) (hN : (N : Int) = s.ca) (h8 : s.ca ≤ 8) (hn : n < N) (h0 : (cs.getD n eCr.dflt).ti = 0) (hc0 : c.ti = 0) (hc : (cs.getD n eCr.dflt).fl ≠ c.fl) (hW : Apart W) (ha : ∀ c ∈ W, 0 ≤ c.ag ∧ c.ag ≤ 65535) (hlen : W.length ≤ 100) :
    tickL s cs (now.set n c) W (W.map oldC) false = [1] ∧ tickC s cs (now.set n c) W (W.map oldC) false = true := by
  have e1 : lpF s cs (now.set n c) = true := lp_jump (by omega) h0 hc0 hc
  have e2 : awF false cs (now.set n c) = false := rfl
  unfold tickL tickC
  rw [e1, e2, vn_old, yg_old hW ha, apart_nodup hW, apart_nodup (apart_old hW)]
  simp [few4, hl, hl2]
  omega
/-! ### The set of calls seen -/
def entT (c : Cll) (i : Nat) : MapEntry := ⟨.agg #[.int .i64 c.fl, .int .i64 c.ca, .int .i64 0, .bool c.up], .bool true, i⟩
def seenF : Nat → List Cll → List MapEntry
  | _, [] => []
  | i, c :: l => entT c i :: seenF (i + 1) l
theorem seenF_snoc (c : Cll) : ∀ (l : List Cll) (i : Nat), seenF i (l ++ [c]) = seenF i l ++ [entT c (i + l.length)]
  | [], i => rfl
  | d :: l, i => by
    simp only [List.cons_append, seenF, seenF_snoc c l (i + 1), List.length_cons]
    rw [show i + 1 + l.length = i + (l.length + 1) by omega]
theorem eqS_entT (c d : Cll) (i : Nat) : eqS tt 39 (keyC c) (entT d i) = some (sameK c d) := rfl
theorem okS_seen (c : Cll) : ∀ (l : List Cll) (i : Nat), okS tt 39 (keyC c) (seenF i l) = true
  | [], _ => rfl
  | d :: l, i => by
    simp only [seenF, okS, eqS_entT, Bool.and_eq_true]
    exact ⟨rfl, okS_seen c l (i + 1)⟩
theorem seen_none {c : Cll} : ∀ {l : List Cll} (i j : Nat), (∀ d ∈ l, sameK c d = false) → mFindS tt 39 (keyC c) (seenF i l) j = none
  | [], _, _, _ => rfl
  | d :: l, i, j, h => by
    simp only [seenF, mFindS, eqS_entT, h d List.mem_cons_self, cond]
    exact seen_none (i + 1) (j + 1) fun e he => h e (List.mem_cons_of_mem _ he)
theorem seen_some {c : Cll} : ∀ {l : List Cll} (i j : Nat), l.any (sameK c) = true → ∃ k, mFindS tt 39 (keyC c) (seenF i l) j = some (k, .bool true)
  | [], _, _, h => by cases h
  | e :: l, i, j, h => by
    simp only [seenF, mFindS, eqS_entT]
    cases hq : sameK c e with
    | true => exact ⟨j, rfl⟩
    | false =>
      rw [List.any_cons, hq, Bool.false_or] at h
      exact seen_some (i + 1) (j + 1) h
end Go.Proofs.Ythdeehkmlaejfaa.E
