/- The document's book of calls, told so that its truths need not be looked at one by one. -/
import Derived.Test.YtbilkjolopdeiaaCallsActsMath
namespace Go.Proofs.Ytbilkjolopdeiaa.E
open Go NumMath
set_option linter.unusedSimpArgs false
set_option linter.unusedVariables false
set_option maxRecDepth 100000
set_option maxHeartbeats 4000000
/-- What is asked of the book: the call's other arguments, the site, the calls, the truths; what is answered (it may name the roots behind), the truths, the new tables (the first one is the book's). -/
abbrev RbF := List AV → Site → List Call → List Bool → Option (Bool × (Nat → AV) × List Bool × List (List Call))
def rbNew (s : Site) (r m n : Nat) (bl : List Bool) (new : List (List Call)) (σ : St) : St := match new with
  | [] => σ.set r (.lit (rbookC s m n bl))
  | l :: more => (σ.set r (.lit (rbookC s σ.length l.length bl))).set m .gone ++ (l :: more).map (tabl eC)
def rbCtr (F : RbF) : Ctr := fun args σ => match args with
  | .p r 0 :: rest => match σ[r]? with
    | some (.lit cs) => match rdRBook cs with
      | some (s, m, n, x) => match Nat.beq r m with
        | false => match σ[m]? with
          | some (.tab 4 N g) => match F rest s (rows eC n g) (bools x) with
            | some (c, u, bl, new) => some (c && (Nat.beq n N && (isRow eC n 4 g && (Nat.ble n 128 && boolsOk x))), u σ.length, rbNew s r m n bl new σ)
            | none => none
          | _ => none
        | true => none
      | none => none
    | _ => none
  | _ => none
def rbFoot : List AV → St → List Nat := fun args σ => match args with
  | .p r 0 :: _ => match σ[r]? with
    | some (.lit cs) => match rdRBook cs with
      | some (_, m, _, _) => [r, m]
      | none => []
    | _ => []
  | _ => []
theorem rbCtr_some {F : RbF} {args : List AV} {σ σ' : St} {c : Bool} {u : AV} (h : rbCtr F args σ = some (c, u, σ')) : ∃ r rest s m n x N g c0 u0 bl new, args = .p r 0 :: rest ∧ σ[r]? = some (.lit ([i64 s.fl, i64 s.ca, i64 s.st, i64 s.sp, i64 s.so, i64 s.op, i64 s.wa, i64 s.cl, i64 s.nu, i64 s.ag, i64 s.si, i64 s.bu, i64 s.pe, .s m 4 0 n] ++ x)) ∧ r ≠ m ∧ σ[m]? = some (.tab 4 N g) ∧ F rest s (rows eC n g) (bools x) = some (c0, u0, bl, new) ∧ c = (c0 && (Nat.beq n N && (isRow eC n 4 g && (Nat.ble n 128 && boolsOk x)))) ∧ u = u0 σ.length ∧ σ' = rbNew s r m n bl new σ := by
  unfold rbCtr at h
  split at h
  case h_2 => cases h
  rename_i r rest
  split at h
  case h_2 => cases h
  rename_i cs hcs
  split at h
  case h_2 => cases h
  rename_i s m n x hb
  split at h
  case h_2 => cases h
  rename_i hrm
  split at h
  case h_2 => cases h
  rename_i N g hm
  split at h
  case h_2 => cases h
  rename_i c0 u0 bl new hF
  simp only [Option.some.injEq, Prod.mk.injEq] at h
  obtain ⟨rfl, rfl, rfl⟩ := h
  have hcs' := rdRBook_some hb
  simp only at hcs'
  exact ⟨r, rest, s, m, n, x, N, g, c0, u0, bl, new, rfl, by rw [hcs, hcs'], fun e => (by rw [e, Nat.beq_refl] at hrm; cases hrm), hm, hF, rfl, rfl, rfl⟩
theorem rdR_mk (s : Site) (m n : Nat) (x : List AV) : rdRBook ([i64 s.fl, i64 s.ca, i64 s.st, i64 s.sp, i64 s.so, i64 s.op, i64 s.wa, i64 s.cl, i64 s.nu, i64 s.ag, i64 s.si, i64 s.bu, i64 s.pe, .s m 4 0 n] ++ x) = some (s, m, n, x) := rfl
theorem rbCtr_mk {F : RbF} {σ : St} {r m n N : Nat} {rest : List AV} {s : Site} {x : List AV} {g : Nat → List AV} {c0 : Bool} {u0 : Nat → AV} {bl : List Bool} {new : List (List Call)} (h1 : σ[r]? = some (.lit ([i64 s.fl, i64 s.ca, i64 s.st, i64 s.sp, i64 s.so, i64 s.op, i64 s.wa, i64 s.cl, i64 s.nu, i64 s.ag, i64 s.si, i64 s.bu, i64 s.pe, .s m 4 0 n] ++ x))) (h2 : r ≠ m) (h3 : σ[m]? = some (.tab 4 N g)) (h4 : F rest s (rows eC n g) (bools x) = some (c0, u0, bl, new)) :
    rbCtr F (.p r 0 :: rest) σ = some (c0 && (Nat.beq n N && (isRow eC n 4 g && (Nat.ble n 128 && boolsOk x))), u0 σ.length, rbNew s r m n bl new σ) ∧ rbFoot (.p r 0 :: rest) σ = [r, m] := by
  have hb : Nat.beq r m = false := by rw [Bool.eq_false_iff]; intro e; exact h2 (Nat.eq_of_beq_eq_true e)
  constructor
  · simp only [rbCtr, h1, rdR_mk, hb, h3, h4]
  · simp only [rbFoot, h1, rdR_mk]
theorem rbNew_len (s : Site) (r m n : Nat) (bl : List Bool) (new : List (List Call)) (σ : St) : (rbNew s r m n bl new σ).length = σ.length + new.length := by
  unfold rbNew; cases new <;> simp
theorem rbNew_other {s : Site} {r m n : Nat} {bl : List Bool} {new : List (List Call)} {σ : St} {k : Nat} (hk : k < σ.length) (h1 : k ≠ r) (h2 : k ≠ m) : (rbNew s r m n bl new σ)[k]? = σ[k]? := by
  unfold rbNew
  cases new with
  | nil => rw [List.getElem?_set_ne (Ne.symm h1)]
  | cons l more => rw [List.getElem?_append_left (by simpa using hk), List.getElem?_set_ne (Ne.symm h2), List.getElem?_set_ne (Ne.symm h1)]
theorem rbNew_same {s : Site} {r m n : Nat} {bl : List Bool} {new : List (List Call)} {σ σ₂ : St} (hl : σ₂.length = σ.length) (hr : r < σ.length) (hm : m < σ.length) {k : Nat} (hk : k = r ∨ k = m ∨ σ.length ≤ k) (hmm : σ₂[m]? = σ[m]?) : (rbNew s r m n bl new σ₂)[k]? = (rbNew s r m n bl new σ)[k]? := by
  unfold rbNew
  cases new with
  | nil =>
    simp only [List.getElem?_set]
    rcases hk with rfl | rfl | hk
    · simp [hr, hl]
    · simp [hmm, hl]
    · rw [List.getElem?_eq_none (by omega : σ₂.length ≤ k), List.getElem?_eq_none (by omega : σ.length ≤ k)]
      simp [hl]
  | cons l more =>
    simp only [hl]
    by_cases hkl : k < σ.length
    · rw [List.getElem?_append_left (by simpa [hl] using hkl), List.getElem?_append_left (by simpa using hkl)]
      simp only [List.getElem?_set, List.length_set, hl]
      rcases hk with rfl | rfl | hk
      · simp [hr]
      · simp [hm]
      · omega
    · rw [List.getElem?_append_right (by simpa [hl] using Nat.le_of_not_lt hkl), List.getElem?_append_right (by simpa using Nat.le_of_not_lt hkl)]
      simp [hl]
theorem rbCtr_foot (F : RbF) : CtrFoot rbFoot (rbCtr F) := by
  intro args σ c u σ' h
  obtain ⟨r, rest, s, m, n, x, N, g, c0, u0, bl, new, rfl, h1, h2, h3, h4, rfl, rfl, rfl⟩ := rbCtr_some h
  have hf := (rbCtr_mk h1 h2 h3 h4).2
  have hr := lt_of_get? h1
  have hm := lt_of_get? h3
  rw [hf]
  refine ⟨fun k hk => ?_, by rw [rbNew_len]; omega, fun k hk hn => ?_, fun σ₂ hl hg => ?_⟩
  · simp only [List.mem_cons, List.not_mem_nil, or_false] at hk
    rcases hk with rfl | rfl <;> assumption
  · simp only [List.mem_cons, List.not_mem_nil, or_false, not_or] at hn
    exact rbNew_other hk hn.1 hn.2
  · have g1 := hg r (by simp)
    have g2 := hg m (by simp)
    obtain ⟨q1, q2⟩ := rbCtr_mk (σ := σ₂) (g1.trans h1) h2 (g2.trans h3) h4
    refine ⟨q2, rbNew s r m n bl new σ₂, by rw [q1, hl], by rw [rbNew_len, rbNew_len, hl], fun k hk hn => ?_, fun k hk => ?_⟩
    · simp only [List.mem_cons, List.not_mem_nil, or_false, not_or] at hn
      exact rbNew_other (by omega) hn.1 hn.2
    · refine rbNew_same hl hr hm ?_ g2
      simp only [List.mem_cons, List.not_mem_nil, or_false] at hk
      omega
theorem bools_roots (bl : List Bool) : (bl.map boo).flatMap rootsAV = [] := by
  induction bl with
  | nil => rfl
  | cons b bl ih => simp only [List.map_cons, List.flatMap_cons, ih]; rfl
theorem bools_re (h : Nat → Option Nat) (bl : List Bool) : (bl.map boo).map (reAV h) = bl.map boo := by
  rw [List.map_map]; rfl
theorem bools_map (bl : List Bool) : bools (bl.map boo) = bl := by unfold bools; rw [rdBools_map]
theorem reach_rb {σ : St} {r m n N : Nat} {s : Site} {bl : List Bool} {g : Nat → List AV} (h1 : σ[r]? = some (.lit (rbookC s m n bl))) (h2 : r ≠ m) (h3 : σ[m]? = some (.tab 4 N g)) : reach σ 64 [r] [] = [r, m] := by
  have hb : Nat.beq m r = false := by rw [Bool.eq_false_iff]; intro e; exact h2 (Nat.eq_of_beq_eq_true e).symm
  have e1 : rootsB σ[r]? = [m] := by
    rw [h1]
    show (_ ++ bl.map boo).flatMap rootsAV = [m]
    rw [List.flatMap_append, bools_roots]
    rfl
  have e2 : rootsB σ[m]? = [] := by rw [h3]; rfl
  simp only [reach, memN, e1, e2, hb, List.append_nil, List.nil_append, List.cons_append]
def rbLoc (s : Site) (n : Nat) (bl : List Bool) (new : List (List Call)) (B : Blk) : St := match new with
  | [] => [.lit (rbookC s 1 n bl), B]
  | l :: more => .lit (rbookC s 2 l.length bl) :: .gone :: (l :: more).map (tabl eC)
theorem rbCtr_ok {g : Nat} {G : List AV → St → Option (Bool × AV × St)} {F : RbF} (hG : CtrOk Try.prog g (localCtr G))
    (hF : ∀ {rest : List AV} {s : Site} {l : List Call} {bl : List Bool} {c : Bool} {u : Nat → AV} {bl' : List Bool} {new : List (List Call)}, F rest s l bl = some (c, u, bl', new) → rest.flatMap rootsAV = [] ∧ (∀ h, rest.map (reAV h) = rest) ∧ (∀ r m N, reAV (back [r, m] N) (u 2) = u N) ∧
      ∀ σ, G (.p 0 0 :: rest) σ = onRBook (fun s l bl => match F rest s l bl with
        | some (c, u, bl', new) => some (c, u 2, fun _ B => rbLoc s l.length bl' new B)
        | none => none) σ) : CtrOk Try.prog g (rbCtr F) := by
  refine ⟨hG.callable, fun {args σ u σ'} h => hG.ok ?_⟩
  obtain ⟨r, rest, s, m, n, x, N, g, c0, u0, bl', new, rfl, h1, h2, h3, h4, hc, rfl, rfl⟩ := rbCtr_some h
  have hc := hc.symm
  simp only [Bool.and_eq_true] at hc
  obtain ⟨rfl, k1, k2, k3, k4⟩ := hc
  unfold boolsOk at k4
  split at k4
  case h_2 => cases k4
  rename_i bl hbl
  obtain rfl := rdBools_some hbl
  obtain rfl := Nat.eq_of_beq_eq_true k1
  obtain ⟨f1, f2, f3, f4⟩ := hF h4
  have hrow := (isRow_get k2).2.1
  rw [bools_map] at h4
  unfold localCtr
  have ha : (AV.p r 0 :: rest).flatMap rootsAV = [r] := by
    rw [List.flatMap_cons, f1]; rfl
  rw [normL_eq, ha, reach_rb h1 h2 h3]
  have hg : gath σ [r, m] = some [.lit (rbookC s m n bl), .tab 4 n g] := by simp only [gath, h1, h3]
  have hm : Nat.beq r m = false := by rw [Bool.eq_false_iff]; intro e; exact h2 (Nat.eq_of_beq_eq_true e)
  have hi0 : idxOf [r, m] r = some 0 := by simp only [idxOf, Nat.beq_refl]
  have hi1 : idxOf [r, m] m = some 1 := by simp only [idxOf, hm, Nat.beq_refl]
  have hargs : (AV.p r 0 :: rest).map (reAV (idxOf [r, m])) = .p 0 0 :: rest := by
    rw [List.map_cons, f2]
    congr 1
    show re1 (idxOf [r, m]) (.p r 0) = _
    simp only [re1, hi0]
  have hcells : ∀ (h : Nat → Option Nat) (a b k : Nat) (bl : List Bool), h a = some b → (rbookC s a k bl).map (reAV h) = rbookC s b k bl := fun h a b k bl hab => by
    show (_ ++ bl.map boo).map (reAV h) = _
    rw [List.map_append, bools_re]
    simp only [List.map_cons, List.map_nil, reAV, re1, hab]
  have hbs : [Blk.lit (rbookC s m n bl), .tab 4 n g].map (reB (idxOf [r, m])) = [.lit (rbookC s 1 n bl), .tab 4 n g] := by
    simp only [List.map_cons, List.map_nil, reB, hcells _ _ _ _ _ hi1]
  have hlen : (rows eC n g).length = n := hrow.len.symm
  have hGv : G (.p 0 0 :: rest) [.lit (rbookC s 1 n bl), .tab 4 n g] = some (true, u0 2, rbLoc s n bl' new (.tab 4 n g)) := by
    rw [f4]
    unfold onRBook
    simp only [rdR_mk, bools_map, h4, hlen]
    unfold boolsOk
    simp only [rdBools_map, k2, k3, k4, Nat.beq_refl, Bool.and_self]
  simp only [hg, hargs, hbs, hGv]
  have hnd : nodupB [r, m] = true := by simp only [nodupB, memN, hm]
  have hb2 : ∀ k, back [r, m] σ.length (k + 2) = some (σ.length + k) := fun k => by simp [back]
  have hb1 : back [r, m] σ.length 1 = some m := rfl
  cases new with
  | nil =>
    simp only [hnd, rbLoc, Bool.true_and]
    rw [show Nat.ble [r, m].length [Blk.lit (rbookC s 1 n bl'), .tab 4 n g].length = true from rfl, f3]
    simp only [List.map_cons, List.map_nil, reB, hcells _ _ _ _ _ hb1]
    refine congrArg some (Prod.ext rfl (Prod.ext rfl ?_))
    show setAll σ [r, m] [.lit (rbookC s m n bl'), .tab 4 n g] ++ [] = σ.set r (.lit (rbookC s m n bl'))
    simp only [setAll, List.append_nil]
    refine List.ext_getElem? fun i => ?_
    rw [List.getElem?_set]
    split
    · rename_i e
      subst e
      have hlt := lt_of_get? h3
      rw [if_pos (by simpa using hlt), List.getElem?_set_ne h2, h3]
    · rfl
  | cons l' more =>
    simp only [hnd, rbLoc, Bool.true_and]
    rw [show Nat.ble [r, m].length (Blk.lit (rbookC s 2 l'.length bl') :: .gone :: (l' :: more).map (tabl eC)).length = true from rfl, f3]
    have ht : ∀ (h : Nat → Option Nat) (L : List (List Call)), (L.map (tabl eC)).map (reB h) = L.map (tabl eC) := fun h L => by rw [List.map_map]; rfl
    rw [List.map_cons, List.map_cons, ht]
    simp only [reB, hcells _ _ _ _ _ (hb2 0)]
    refine congrArg some (Prod.ext rfl (Prod.ext rfl ?_))
    rfl
/-! ### What is done with the book -/
def pressB : RbF := fun rest s l bl => match rest with
  | [u] => match dCall.dec u with
    | some c => some (decide (s.fl ≤ 64), fun _ => i64 (pressF s l (fun f => bl.getD f.toNat false) c).1, bl, [(pressF s l (fun f => bl.getD f.toNat false) c).2])
    | none => none
  | _ => none
theorem pressB_ok : CtrOk Try.prog 30 (rbCtr pressB) :=
  rbCtr_ok rpress_ok fun {rest s l bl c u bl' new} h => by
    unfold pressB at h
    split at h
    case h_2 => cases h
    rename_i u0
    split at h
    case h_2 => cases h
    rename_i c hc
    obtain rfl := dCall.ok hc
    simp only [Option.some.injEq, Prod.mk.injEq] at h
    obtain ⟨rfl, rfl, rfl, rfl⟩ := h
    refine ⟨rfl, fun h => rfl, fun r m N => rfl, fun σ => ?_⟩
    rfl
def barB : RbF := fun rest s l bl => match rest with
  | [.v (.int .i64 f), .v (.bool on)] => some (decide (s.fl ≤ 64), fun _ => i64 (rbarL s bl f on).1, (rbarL s bl f on).2, [])
  | _ => none
theorem barB_ok : CtrOk Try.prog 31 (rbCtr barB) :=
  rbCtr_ok rbar_ok fun {rest s l bl c u bl' new} h => by
    unfold barB at h
    split at h
    case h_2 => cases h
    simp only [Option.some.injEq, Prod.mk.injEq] at h
    obtain ⟨rfl, rfl, rfl, rfl⟩ := h
    exact ⟨rfl, fun h => rfl, fun r m N => rfl, fun σ => rfl⟩
def tickB : RbF := fun rest s l bl => match rest with
  | [] => some (true, fun _ => .t [], bl, [l.map rtickC])
  | _ => none
theorem tickB_ok : CtrOk Try.prog 32 (rbCtr tickB) :=
  rbCtr_ok rtick_ok fun {rest s l bl c u bl' new} h => by
    unfold tickB at h
    split at h
    case h_2 => cases h
    simp only [Option.some.injEq, Prod.mk.injEq] at h
    obtain ⟨rfl, rfl, rfl, rfl⟩ := h
    exact ⟨rfl, fun h => rfl, fun r m N => rfl, fun σ => by
      show onRBook (fun s l bl => some (true, .t [], fun _ _ => [.lit (rbookC s 2 l.length bl), .gone, tabl eC (l.map rtickC)])) σ = onRBook (fun s l bl => some (true, .t [], fun _ _ => [.lit (rbookC s 2 (l.map rtickC).length bl), .gone, tabl eC (l.map rtickC)])) σ
      simp only [List.length_map]⟩
def servedB : RbF := fun rest s l bl => match rest with
  | [.v (.int .i64 car), .v (.int .i64 fl), .v (.bool up), .v (.bool down)] => some (true, fun N => .s (N + 1) 4 0 (l.filter (rservB car fl up down)).length, bl, [l.filter fun c => !rservB car fl up down c, l.filter (rservB car fl up down)])
  | _ => none
theorem servedB_ok : CtrOk Try.prog 34 (rbCtr servedB) :=
  rbCtr_ok rserve_ok fun {rest s l bl c u bl' new} h => by
    unfold servedB at h
    split at h
    case h_2 => cases h
    simp only [Option.some.injEq, Prod.mk.injEq] at h
    obtain ⟨rfl, rfl, rfl, rfl⟩ := h
    exact ⟨rfl, fun h => rfl, fun r m N => rfl, fun σ => rfl⟩
theorem CxOk.rb {P : Program} {X : Cx} (hX : CxOk P X) {g : Nat} {F : RbF} (hG : CtrOk P g (rbCtr F)) : CxOk P (X.add g (.foot rbFoot) (rbCtr F)) := hX.add hG (rbCtr_foot F)
end Go.Proofs.Ytbilkjolopdeiaa.E
