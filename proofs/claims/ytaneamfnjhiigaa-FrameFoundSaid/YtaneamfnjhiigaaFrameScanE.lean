/- Frames out of a stream of bytes: what is found; rows of frames that are one; the document's way. -/
import Derived.Test.YtaneamfnjhiigaaFrameDecE
namespace Go.Proofs.Ytaneamfnjhiigaa.E
open Go
set_option linter.unusedSimpArgs false
set_option linter.unusedVariables false
set_option maxRecDepth 100000
set_option maxHeartbeats 4000000

/-! ### What is found -/
def scan (l : List Int) : List Fr × Int × List Int :=
  if h : l.length < 10 then ([], 0, l)
  else if (decL (l.take 10)).2 = 0 then ((decL (l.take 10)).1 :: (scan (l.drop 10)).1, (scan (l.drop 10)).2)
  else ((scan (l.drop 1)).1, 1 + (scan (l.drop 1)).2.1, (scan (l.drop 1)).2.2)
termination_by l.length
decreasing_by all_goals (simp; omega)
theorem scan_end {l : List Int} (h : l.length < 10) : scan l = ([], 0, l) := by
  rw [scan, dif_pos h]
theorem scan_hit {l : List Int} (h : ¬ l.length < 10) (e : (decL (l.take 10)).2 = 0) : scan l = ((decL (l.take 10)).1 :: (scan (l.drop 10)).1, (scan (l.drop 10)).2) := by
  rw [scan, dif_neg h, if_pos e]
theorem scan_miss {l : List Int} (h : ¬ l.length < 10) (e : ¬ (decL (l.take 10)).2 = 0) : scan l = ((scan (l.drop 1)).1, 1 + (scan (l.drop 1)).2.1, (scan (l.drop 1)).2.2) := by
  rw [scan, dif_neg h, if_neg e]
def eFr : Elt Fr := ⟨6, fun u => match u with | [.v (.int .i64 a), .v (.int .i64 b), .v (.int .i64 c), .v (.int .i64 d), .v (.int .i64 e), .v (.int .i64 f)] => some ⟨a, b, c, d, e, f⟩ | _ => none, fun f => [i64 f.ki, i64 f.ca, i64 f.sq, i64 f.a, i64 f.b, i64 f.c], ⟨0, 0, 0, 0, 0, 0⟩, fun {u a} h => (by split at h <;> first | (obtain rfl := Option.some.inj h; rfl) | cases h), fun _ => rfl⟩
/-! ### Rows of frames that are one -/
theorem fr_eq (f g : Fr) : (decide (f.ki = g.ki) && (decide (f.ca = g.ca) && (decide (f.sq = g.sq) && (decide (f.a = g.a) && (decide (f.b = g.b) && decide (f.c = g.c)))))) = true ↔ f = g := by
  obtain ⟨a, b, c, d, e, o⟩ := f
  obtain ⟨a', b', c', d', e', o'⟩ := g
  simp only [Bool.and_eq_true, decide_eq_true_eq, Fr.mk.injEq]
noncomputable def frEq (a b : List Fr) : Bool := @decide (a = b) (Classical.propDecidable _)
noncomputable def sameFG : List AV → Option (Bool × AV) := ad2 (adR eFr) (adR eFr) fun a b => giv true (boo (frEq a b))
theorem frEq_yes {a b : List Fr} (h : a = b) : frEq a b = true := @decide_eq_true _ (Classical.propDecidable _) h
theorem frEq_no {a b : List Fr} (h : ¬ a = b) : frEq a b = false := @decide_eq_false _ (Classical.propDecidable _) h
theorem getD_extF {a b : List Fr} (h : a.length = b.length) (hg : ∀ j, j < a.length → a.getD j eFr.dflt = b.getD j eFr.dflt) : a = b := by
  apply List.ext_getElem h
  intro i h1 h2
  have := hg i h1
  rw [List.getD_eq_getElem?_getD, List.getD_eq_getElem?_getD, List.getElem?_eq_getElem h1, List.getElem?_eq_getElem h2] at this
  exact this
theorem sameF_ok : CtrOk Try.prog 32 (borCtr sameFG) :=
  borCtr_can XF0_ok Try.func32 (by decide) rfl fun args u h => by
    obtain ⟨a, b, hf, ha, hb, hv⟩ := ad2_some h
    obtain ⟨_, rfl⟩ := giv_some hv
    refine ⟨_, hf, ?_⟩
    clear h hv hf
    have ha : a.length < 281474976710656 := ha
    have hb : b.length < 281474976710656 := hb
    unfold runF
    (conv => arg 1; whnf)
    refine br (fun h => ?_) (fun h => ?_)
    · (conv => arg 1; whnf)
      refine finB (frEq_no fun e => ?_)
      rw [e] at h
      simp at h
    · have hl : a.length = b.length := by
        have h' : (!decide ((a.length : Int) = (b.length : Int))) = false := h
        simp at h'
        omega
      (conv => arg 1; whnf)
      refine loopIn (fun k : Nat => k ≤ a.length ∧ ∀ j, j < k → a.getD j eFr.dflt = b.getD j eFr.dflt) (fun k => frm 26 [(0, row eFr a), (1, row eFr b), (5, i64 k)]) (fun _ => []) (fun k => a.length - k) 0 [] ⟨Nat.zero_le _, fun j hj => by omega⟩ List.nodup_nil ?_ True.intro rfl fun k hi => ?_
      · repeat' (first | exact True.intro | exact Fit.dead _ | exact Fit.v _ | exact row_self eFr _ | refine And.intro ?_ ?_)
      · obtain ⟨hk, hall⟩ := hi
        (conv => arg 1; whnf)
        refine br (fun h => ?_) (fun h => ?_)
        · have h : (k : Int) < (a.length : Int) := of_decide_eq_true h
          have e1 : (decide (0 ≤ (k : Int)) && decide ((k : Int) < (a.length : Int))) = true := by simp only [Bool.and_eq_true, decide_eq_true_eq]; omega
          have e2 : (decide (0 ≤ (k : Int)) && decide ((k : Int) < (b.length : Int))) = true := by simp only [Bool.and_eq_true, decide_eq_true_eq]; omega
          (conv => arg 1; whnf); (repeat' (first | (refine brt (by assumption) ?_; (conv => arg 1; whnf)) | (refine brf (by assumption) ?_; (conv => arg 1; whnf)) | fail))
          refine br (fun h1 => ?_) (fun h1 => ?_)
          · (conv => arg 1; whnf)
            refine leaveRet ?_
            show tr _
            (conv => arg 1; whnf)
            refine finB (frEq_no fun e => ?_)
            rw [e] at h1
            simp at h1
          · have h1 : a.getD k eFr.dflt = b.getD k eFr.dflt := (fr_eq _ _).1 (by simpa using h1)
            (conv => arg 1; whnf)
            refine again (k + 1) [] ⟨by omega, fun j hj => ?_⟩ (by omega) List.nodup_nil ?_ True.intro rfl
            · rcases Nat.lt_or_ge j k with g | g
              · exact hall j g
              · obtain rfl : j = k := by omega
                exact h1
            · repeat' (first | exact True.intro | exact Fit.dead _ | exact Fit.v _ | exact row_self eFr _ | refine And.intro ?_ ?_)
              exact Fit.v' (congrArg (Value.int .i64) (nxt k (by omega)).symm)
        · have h : ¬ (k : Int) < (a.length : Int) := of_decide_eq_false h
          (conv => arg 1; whnf)
          refine leave ?_
          show tr _
          (conv => arg 1; whnf)
          exact finB (frEq_yes (getD_extF hl fun j hj => hall j (by omega)))
end Go.Proofs.Ytaneamfnjhiigaa.E
