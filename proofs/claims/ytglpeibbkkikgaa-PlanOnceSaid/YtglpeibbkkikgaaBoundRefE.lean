/- The document's least cost of a beginning. -/
import Derived.Test.YtglpeibbkkikgaaBoundMath
import Derived.Test.YtglpeibbkkikgaaBoundE
namespace Go.Proofs.Ytglpeibbkkikgaa.E
open Go NumMath
set_option linter.unusedSimpArgs false
set_option linter.unusedVariables false
set_option maxRecDepth 100000
set_option maxHeartbeats 8000000
theorem not_t {b : Bool} (h : (!b) = true) : b = false := by cases b <;> simp_all
theorem not_f {b : Bool} (h : (!b) = false) : b = true := by cases b <;> simp_all
theorem allD {σ : St} {a b d : AV} {m n k : Nat} {g : Nat → List AV} (ha : vokD σ a = true) (hb : vokD σ b = true) (hσ : σ[m]? = some (.tab 1 n g)) (hn : 0 + k ≤ n) (hd : vokD σ d = true) : [a, b, .s m 1 0 k, d].all (vokD σ) = true := by
  have hs : vokD σ (.s m 1 0 k) = true := by simp only [vokD, vokD1, vok1, hσ]; exact decide_eq_true hn
  simp only [List.all_cons, List.all_nil, ha, hb, hd, hs, Bool.and_true]
theorem rowApp (A : List Int) (b : Int) {g0 g2 : Nat → List AV} (h : g2 0 = [i64 b]) : RowIs eI (0 + A.length + 1) (fun k => joined (0 + A.length) (fun k => joined 0 g0 (fun k => eI.enc (A.getD k eI.dflt)) (0 + k)) g2 (0 + k)) (A ++ [b]) :=
  RowIs.all eI (RowIs.snoc eI (RowIs.all eI (RowIs.joined eI (RowIs.nil eI g0) (RowIs.row eI A))) h)
theorem timeC {p : Snap} {c a : Int} {n : Nat} {g : Nat → List AV} {l : List Int} (hR : RowIs eI n g l) (h1 : p.right = true) (h2 : 0 ≤ c ∧ c < (p.cs.length : Int)) (h3 : 0 ≤ a ∧ a < (l.length : Int)) (h4 : l.all (inW p) = true) (h5 : l.length ≤ 1000) : ((p.right && (decide (0 ≤ c) && decide (c < (p.cs.length : Int)))) && ((decide (0 ≤ a) && decide (a < ((rows eI n g).length : Int))) && ((rows eI n g).all (inW p) && decide ((rows eI n g).length ≤ 1000)))) = true := by
  rw [hR.rows eI, h1, h4]
  simp only [Bool.true_and, Bool.and_eq_true, decide_eq_true_eq]
  exact ⟨h2, h3, h5⟩
theorem candV {p : Snap} {pl : List (List Int)} {w : Int} {c : Nat} {ci a : Int} {A : List Int} {b : Int} {g0 g2 : Nat → List AV} (h : g2 0 = [i64 b]) (hA : A = pl.getD c []) (hb : b = w) (hc : ci.toNat = c) (ha : a = (A.length : Int)) : (stAt p.rd ci.toNat (rows eI (0 + A.length + 1) (fun k => joined (0 + A.length) (fun k => joined 0 g0 (fun k => eI.enc (A.getD k eI.dflt)) (0 + k)) g2 (0 + k))) (a.toNat + 1)).he = candT p pl w c := by
  rw [(rowApp A b h).rows eI, p.rd_eq, hc, ha, hb, show ((A.length : Int)).toNat = A.length by omega]
  rw [stAt_succ p c (by simp)]
  unfold candT
  rw [← hA]
  have e1 : (A ++ [w]).getD A.length 0 = w := by simp
  have e2 : stAt p c (A ++ [w]) A.length = stAt p c A A.length := by unfold stAt; simp
  rw [e1, e2]
def rleastG : List AV → Option (Bool × AV × St) := ad4 adSnap adI (adRR eI) (adR eI) fun p car pl left => some (((p.right && decide (pl.length = p.cs.length)) && (decide (0 ≤ car) && decide (car < (pl.length : Int)))) && ((pl.all fun l => decide (l.length ≤ 900) && l.all (inW p)) && (left.all (inW p) && decide (left.length ≤ 1000))), i64 (rleast p car.toNat pl left (costS p pl (car.toNat + 1) 0)), [])
noncomputable def XV1j : Cx := (XV1.add 44 (.foot reads2) (freshCtr smayG)).join 100007
theorem XV1j_ok : CxOk Try.prog XV1j := (XV1_ok.fresh rsmay_ok).join 100007 rfl
theorem rleast_ok : CtrOk Try.prog 33 (freshCtr rleastG) :=
  freshCtr_ok XV1j_ok Try.func33 (by decide) rfl fun args u σn h => by
    obtain ⟨p, car, pl, lf, hf, ⟨hp1, hp2⟩, _, ⟨hp3, hp4⟩, hlf, hv⟩ := ad4_some h
    simp only [Option.some.injEq, Prod.mk.injEq, Bool.and_eq_true, decide_eq_true_eq, List.all_eq_true] at hv
    obtain ⟨⟨⟨⟨hr, hpl⟩, hc0, hc1⟩, hls, hlw, hll⟩, rfl, rfl⟩ := hv
    refine ⟨plainNil, _, hf, ?_⟩
    clear h hf
    obtain ⟨b1, b2, b3, b4, b5⟩ := Snap.right_bd hr
    have hb := Site.right_bd b1
    obtain ⟨cn, hcn⟩ : ∃ cn : Nat, (cn : Int) = car := ⟨car.toNat, by omega⟩
    subst hcn
    have hcl : cn < pl.length := by omega
    have hgl : ∀ c, c < pl.length → (pl.getD c []).length ≤ 900 ∧ (pl.getD c []).all (inW p) = true := fun c hc => by
      rw [List.getD_eq_getElem?_getD, List.getElem?_eq_getElem hc]
      have := hls _ (List.getElem_mem hc)
      exact ⟨this.1, List.all_eq_true.2 this.2⟩
    rw [show ((cn : Int)).toNat = cn by omega]
    unfold runF
    (conv => arg 1; whnf); (repeat' (first | (refine brt (by assumption) ?_; (conv => arg 1; whnf)) | (refine brf (by assumption) ?_; (conv => arg 1; whnf)) | fail))
    refine loopIn (fun c : Nat => c ≤ cn + 1 ∧ 0 ≤ costS p pl c 0 ∧ costS p pl c 0 ≤ 70000000000 * (c : Int)) (fun c => frm 95 [(1, i64 cn), (2, rrow eI pl), (3, row eI lf), (4, .p 0 0), (9, i64 (costS p pl c 0)), (10, i64 c)]) (fun c => [.lit (snapC p)]) (fun c => cn + 1 - c) 0 [0] ⟨Nat.zero_le _, by rw [costS_zero]; omega, by rw [costS_zero]; omega⟩ (by decide) ?_ ?_ rfl fun c hi => ?_
    · rw [costS_zero]
      repeat' (first | exact True.intro | exact Fit.dead _ | exact Fit.v _ | exact .p rfl | exact .s rfl | exact .i fun _ _ => rfl | exact row_self eI _ | refine And.intro ?_ ?_)
    · exact ⟨⟨_, rfl, .lit (by repeat' (first | exact True.intro | exact Fit.v _ | exact row_self eRd _ | exact row_self eWn _ | refine And.intro ?_ ?_))⟩, trivial⟩
    obtain ⟨hc, n0, n1⟩ := hi
    have hc : c ≤ cn + 1 := hc
    (conv => arg 1; whnf)
    refine br (fun h5 => ?_) (fun h5 => ?_)
    · have hlt : c ≤ cn := by have := of_decide_eq_true h5; omega
      have hltp : c < pl.length := by omega
      have e1 : (decide (0 ≤ (c : Int)) && decide ((c : Int) < (pl.length : Int))) = true := by simp only [Bool.and_eq_true, decide_eq_true_eq]; omega
      have ec : (c : Int).toNat = c := by omega
      obtain ⟨l, hl⟩ : ∃ l, l = pl.getD c [] := ⟨_, rfl⟩
      have hl1 : l.length ≤ 900 := by rw [hl]; exact (hgl c hltp).1
      have hall : l.all (inW p) = true := by rw [hl]; exact (hgl c hltp).2
      have hl' : pl.getD (c : Int).toNat [] = l := by rw [ec, hl]
      have htb := stAt_bd hr (by omega : c < p.cs.length) (pl.getD c [])
      (conv => arg 1; whnf); (repeat' (first | (refine brt (by assumption) ?_; (conv => arg 1; whnf)) | (refine brf (by assumption) ?_; (conv => arg 1; whnf)) | fail))
      refine loopIn (fun j : Nat => j ≤ l.length ∧ 0 ≤ costS p pl c j ∧ costS p pl c j ≤ 70000000000 * (c : Int) + 70000000 * (j : Int)) (fun j => frm 95 [(1, i64 cn), (2, rrow eI pl), (3, row eI lf), (4, .p 0 0), (9, i64 (costS p pl c j)), (10, i64 c), (11, i64 j)]) (fun j => [.lit (snapC p)]) (fun j => l.length - j) 0 [0] ⟨Nat.zero_le _, n0, by omega⟩ (by decide) ?_ ?_ rfl fun j hj => ?_
      · repeat' (first | exact True.intro | exact Fit.dead _ | exact Fit.v _ | exact .p rfl | exact .s rfl | exact .i fun _ _ => rfl | exact row_self eI _ | refine And.intro ?_ ?_)
      · exact ⟨⟨_, rfl, .lit (by repeat' (first | exact True.intro | exact Fit.v _ | exact row_self eRd _ | exact row_self eWn _ | refine And.intro ?_ ?_))⟩, trivial⟩
      obtain ⟨hj, m0, m1⟩ := hj
      have hj : j ≤ l.length := hj
      (conv => arg 1; whnf); (repeat' (first | (refine brt (by assumption) ?_; (conv => arg 1; whnf)) | (refine brf (by assumption) ?_; (conv => arg 1; whnf)) | fail))
      refine br (fun h6 => ?_) (fun h6 => ?_)
      · have hlj : j < l.length := by have := of_decide_eq_true h6; rw [hl'] at this; omega
        have ej : (j : Int).toNat = j := by omega
        have hF : ((p.rd.right && (decide (0 ≤ (c : Int)) && decide ((c : Int) < (p.rd.cs.length : Int)))) && ((decide (0 ≤ (j : Int)) && decide ((j : Int) < ((rows eI (pl.getD (c : Int).toNat []).length fun k => eI.enc ((pl.getD (c : Int).toNat []).getD k eI.dflt)).length : Int))) && ((rows eI (pl.getD (c : Int).toNat []).length fun k => eI.enc ((pl.getD (c : Int).toNat []).getD k eI.dflt)).all (inW p.rd) && decide ((rows eI (pl.getD (c : Int).toNat []).length fun k => eI.enc ((pl.getD (c : Int).toNat []).getD k eI.dflt)).length ≤ 1000)))) = true := by
          rw [p.rd_eq, hl', rows_row, hr, hall]
          simp only [Bool.true_and, Bool.and_eq_true, decide_eq_true_eq]
          omega
        have hT : (stAt p.rd (c : Int).toNat (rows eI (pl.getD (c : Int).toNat []).length fun k => eI.enc ((pl.getD (c : Int).toNat []).getD k eI.dflt)) ((j : Int).toNat + 1)).he = (stAt p c l (j + 1)).he := by
          rw [p.rd_eq, hl', rows_row, ec, ej]
        have hrw : isRow eI (pl.getD (c : Int).toNat []).length eI.sz (fun k => eI.enc ((pl.getD (c : Int).toNat []).getD k eI.dflt)) = true := by rw [hl']; exact isRow_row eI (by omega)
        have hst := costS_step p pl c j
        rw [← hl] at hst htb
        have htj := htb (j + 1) (by omega)
        (conv => arg 1; whnf); (repeat' (first | (refine brt (by assumption) ?_; (conv => arg 1; whnf)) | (refine brf (by assumption) ?_; (conv => arg 1; whnf)) | fail))
        (refine brt ?_ ?_; (focus (exact and2 rfl (and2 (and2 (and2 (and2 hF rfl) hrw) rfl) (snapRows hp1 hp2)); done)); (conv => arg 1; whnf))
        (conv => arg 1; whnf); (repeat' (first | (refine brt (by assumption) ?_; (conv => arg 1; whnf)) | (refine brf (by assumption) ?_; (conv => arg 1; whnf)) | fail))
        refine again (j + 1) [0] ⟨hlj, by rw [hst]; have := htj.2.2.2.2 (by omega); omega, by rw [hst]; have := htj.2.2.2.1; omega⟩ (by show l.length - (j + 1) < l.length - j; omega) (by decide) ?_ ?_ rfl
        · repeat' (first | exact True.intro | exact Fit.dead _ | exact Fit.v _ | exact .p rfl | exact .s rfl | exact .i fun _ _ => rfl | exact row_self eI _ | exact Fit.v' (congrArg (Value.int .i64) (nxt j (by omega)).symm) | exact Fit.v' (congrArg (Value.int .i64) (show costS p pl c (j + 1) = IntKind.i64.wrap (costS p pl c j + _) by rw [hT, hst, i64w _ (by have := htj.2.2.2.2 (by omega); omega) (by have := htj.2.2.2.1; omega)])) | refine And.intro ?_ ?_)
        · exact ⟨⟨_, rfl, .lit (by repeat' (first | exact True.intro | exact Fit.v _ | exact row_self eRd _ | exact row_self eWn _ | refine And.intro ?_ ?_))⟩, trivial⟩
      · have hjl : j = l.length := by have := of_decide_eq_false h6; rw [hl'] at this; omega
        have hnx : costS p pl c j = costS p pl (c + 1) 0 := by rw [← costS_next, ← hl, ← hjl]
        (conv => arg 1; whnf); (repeat' (first | (refine brt (by assumption) ?_; (conv => arg 1; whnf)) | (refine brf (by assumption) ?_; (conv => arg 1; whnf)) | fail))
        refine leave ?_
        show tr _
        (conv => arg 1; whnf); (repeat' (first | (refine brt (by assumption) ?_; (conv => arg 1; whnf)) | (refine brf (by assumption) ?_; (conv => arg 1; whnf)) | fail))
        refine again (c + 1) [0] ⟨by omega, by rw [← hnx]; exact m0, by rw [← hnx]; omega⟩ (by show cn + 1 - (c + 1) < cn + 1 - c; omega) (by decide) ?_ ?_ rfl
        · rw [← hnx]
          repeat' (first | exact True.intro | exact Fit.dead _ | exact Fit.v _ | exact .p rfl | exact .s rfl | exact .i fun _ _ => rfl | exact row_self eI _ | exact Fit.v' (congrArg (Value.int .i64) (nxt c (by omega)).symm) | refine And.intro ?_ ?_)
        · exact ⟨⟨_, rfl, .lit (by repeat' (first | exact True.intro | exact Fit.v _ | exact row_self eRd _ | exact row_self eWn _ | refine And.intro ?_ ?_))⟩, trivial⟩
    · have hcc : c = cn + 1 := by have := of_decide_eq_false h5; omega
      subst hcc
      (conv => arg 1; whnf); (repeat' (first | (refine brt (by assumption) ?_; (conv => arg 1; whnf)) | (refine brf (by assumption) ?_; (conv => arg 1; whnf)) | fail))
      refine leave ?_
      show tr _
      (conv => arg 1; whnf); (repeat' (first | (refine brt (by assumption) ?_; (conv => arg 1; whnf)) | (refine brf (by assumption) ?_; (conv => arg 1; whnf)) | fail))
      obtain ⟨R, hR⟩ : ∃ R, R = rleast p cn pl lf (costS p pl (cn + 1) 0) := ⟨_, rfl⟩
      rw [← hR]
      refine loopIn (fun x : Nat × Int => x.1 ≤ lf.length ∧ rleast p cn pl (lf.drop x.1) x.2 = R ∧ 0 ≤ x.2 ∧ x.2 ≤ 1000000000000 + 70000000 * (x.1 : Int)) (fun x => frm 95 [(1, i64 cn), (2, rrow eI pl), (3, row eI lf), (4, .p 0 0), (9, i64 x.2), (12, i64 x.1)]) (fun x => [.lit (snapC p)]) (fun x => lf.length - x.1) (0, costS p pl (cn + 1) 0) [0] ⟨Nat.zero_le _, hR.symm, n0, by simp only; omega⟩ (by decide) ?_ ?_ rfl fun x hi => ?_
      · repeat' (first | exact True.intro | exact Fit.dead _ | exact Fit.v _ | exact .p rfl | exact .s rfl | exact .i fun _ _ => rfl | exact row_self eI _ | refine And.intro ?_ ?_)
      · exact ⟨⟨_, rfl, .lit (by repeat' (first | exact True.intro | exact Fit.v _ | exact row_self eRd _ | exact row_self eWn _ | refine And.intro ?_ ?_))⟩, trivial⟩
      obtain ⟨i, n⟩ := x
      obtain ⟨hi, hRi, n0, n1⟩ := hi
      have hi : i ≤ lf.length := hi
      simp only at hRi n0 n1
      (conv => arg 1; whnf)
      refine br (fun h6 => ?_) (fun h6 => ?_)
      · have hli : i < lf.length := by have h6 : decide ((i : Int) < (lf.length : Int)) = true := h6; have := of_decide_eq_true h6; omega
        have ei : (i : Int).toNat = i := by omega
        obtain ⟨w, hw⟩ : ∃ w, w = lf.getD i 0 := ⟨_, rfl⟩
        have hww : inW p w = true := by
          rw [hw, List.getD_eq_getElem?_getD, List.getElem?_eq_getElem hli]
          exact hlw _ (List.getElem_mem hli)
        have hwb : 0 ≤ w ∧ w < (p.ws.length : Int) := by
          unfold inW at hww
          simp only [Bool.and_eq_true, decide_eq_true_eq] at hww
          exact hww
        have hRs : rleast p cn pl (lf.drop i) n = if lw p cn pl w (pl.length - cn) < 0 then 1099511627776 else rleast p cn pl (lf.drop (i + 1)) (n + lw p cn pl w (pl.length - cn)) := by
          rw [List.drop_eq_getElem_cons hli, rleast, hw, List.getD_eq_getElem?_getD, List.getElem?_eq_getElem hli, Option.getD_some]
        have e2 : (decide (0 ≤ (i : Int)) && decide ((i : Int) < (lf.length : Int))) = true := by simp only [Bool.and_eq_true, decide_eq_true_eq]; omega
        have hw' : lf.getD (i : Int).toNat eI.dflt = w := by rw [ei, hw]; rfl
        have hlwb := lw_bd hr hpl (fun c hc => by have := (hgl c hc).1; omega) cn w
        (conv => arg 1; whnf); (repeat' (first | (refine brt (by assumption) ?_; (conv => arg 1; whnf)) | (refine brf (by assumption) ?_; (conv => arg 1; whnf)) | fail))
        refine loopIn (fun k : Nat => cn + k ≤ pl.length) (fun k => frm 95 [(1, i64 cn), (2, rrow eI pl), (3, row eI lf), (4, .p 0 0), (9, i64 n), (12, i64 i), (13, i64 (lw p cn pl w k)), (14, i64 ((cn + k : Nat) : Int))]) (fun k => [.lit (snapC p)]) (fun k => pl.length - (cn + k)) 0 [0] (by show cn + 0 ≤ pl.length; omega) (by decide) ?_ ?_ rfl fun k hk => ?_
        · repeat' (first | exact True.intro | exact Fit.dead _ | exact Fit.v _ | exact .p rfl | exact .s rfl | exact .i fun _ _ => rfl | exact row_self eI _ | refine And.intro ?_ ?_)
        · exact ⟨⟨_, rfl, .lit (by repeat' (first | exact True.intro | exact Fit.v _ | exact row_self eRd _ | exact row_self eWn _ | refine And.intro ?_ ?_))⟩, trivial⟩
        have hk : cn + k ≤ pl.length := hk
        obtain ⟨c, hc⟩ : ∃ c, c = cn + k := ⟨_, rfl⟩
        rw [← hc] at hk
        (conv => arg 1; whnf)
        refine br (fun h7 => ?_) (fun h7 => ?_)
        · have h7 : decide (((cn + k : Nat) : Int) < (pl.length : Int)) = true := h7
          have hltp : c < pl.length := by have := of_decide_eq_true h7; omega
          have ec : ((cn + k : Nat) : Int).toNat = c := by omega
          have e3 : (decide (0 ≤ ((cn + k : Nat) : Int)) && decide (((cn + k : Nat) : Int) < (pl.length : Int))) = true := by simp only [Bool.and_eq_true, decide_eq_true_eq]; omega
          have hwn : wnOk p.s (p.ws.getD w.toNat eWn.dflt) = true := b5 _ (by rw [List.getD_eq_getElem?_getD, List.getElem?_eq_getElem (show w.toNat < p.ws.length by omega)]; exact List.getElem_mem _)
          have hca : 1 ≤ (p.ws.getD w.toNat eWn.dflt).ca ∧ (p.ws.getD w.toNat eWn.dflt).ca ≤ 1000000 := by
            unfold wnOk at hwn
            simp only [Bool.and_eq_true, decide_eq_true_eq] at hwn
            have := pow_bd (n := p.s.ca.toNat) (by omega)
            omega
          have Fc : ((decide (0 ≤ lf.getD (i : Int).toNat eI.dflt) && decide (lf.getD (i : Int).toNat eI.dflt < (p.rd.ws.length : Int))) && ((decide (0 ≤ ((cn + k : Nat) : Int)) && decide (((cn + k : Nat) : Int) ≤ 60)) && (decide (0 ≤ (p.rd.ws.getD (lf.getD (i : Int).toNat eI.dflt).toNat eWn.dflt).ca) && decide ((p.rd.ws.getD (lf.getD (i : Int).toNat eI.dflt).toNat eWn.dflt).ca ≤ 1000000)))) = true := by
            rw [p.rd_eq, hw']; simp only [Bool.and_eq_true, decide_eq_true_eq]; omega
          (conv => arg 1; whnf); (repeat' (first | (refine brt (by assumption) ?_; (conv => arg 1; whnf)) | (refine brf (by assumption) ?_; (conv => arg 1; whnf)) | fail))
          refine joinIn (fun _ : Unit => True) (fun _ => frm 95 [(1, i64 cn), (2, rrow eI pl), (3, row eI lf), (4, .p 0 0), (9, i64 n), (12, i64 i), (13, i64 (lw p cn pl w (k + 1))), (14, i64 ((cn + k : Nat) : Int))]) (fun _ => [.lit (snapC p)]) ?_ (fun _ _ => ?_)
          · (conv => arg 1; whnf); (repeat' (first | (refine brt (by assumption) ?_; (conv => arg 1; whnf)) | (refine brf (by assumption) ?_; (conv => arg 1; whnf)) | fail))
            (refine brt ?_ ?_; (focus (exact and2 rfl (and2 (and2 (and2 Fc rfl) rfl) (snapRows hp1 hp2)); done)); (conv => arg 1; whnf))
            refine br (fun a4 => ?_) (fun a4 => ?_)
            · have a4 : (!(mayB (p.rd.ws.getD (lf.getD (i : Int).toNat eI.dflt).toNat eWn.dflt).ca ((cn + k : Nat) : Int))) = true := a4
              rw [p.rd_eq, hw'] at a4
              have hm : mayW p w (cn + k) = false := not_t a4
              (conv => arg 1; whnf); (repeat' (first | (refine brt (by assumption) ?_; (conv => arg 1; whnf)) | (refine brf (by assumption) ?_; (conv => arg 1; whnf)) | fail))
              refine joinTo () [0] trivial (by decide) ?_ ?_ rfl
              · rw [show lw p cn pl w (k + 1) = lw p cn pl w k by rw [lw, if_neg (by rw [hm]; decide)]]
                repeat' (first | exact True.intro | exact Fit.dead _ | exact Fit.v _ | exact .p rfl | exact .s rfl | exact .i fun _ _ => rfl | exact row_self eI _ | refine And.intro ?_ ?_)
              · exact ⟨⟨_, rfl, .lit (by repeat' (first | exact True.intro | exact Fit.v _ | exact row_self eRd _ | exact row_self eWn _ | refine And.intro ?_ ?_))⟩, trivial⟩
            · have a4 : (!(mayB (p.rd.ws.getD (lf.getD (i : Int).toNat eI.dflt).toNat eWn.dflt).ca ((cn + k : Nat) : Int))) = false := a4
              rw [p.rd_eq, hw'] at a4
              have hm : mayW p w (cn + k) = true := not_f a4
              obtain ⟨l, hl⟩ : ∃ l, l = pl.getD c [] := ⟨_, rfl⟩
              have hl1 : l.length ≤ 900 := by rw [hl]; exact (hgl c hltp).1
              have hall : l.all (inW p) = true := by rw [hl]; exact (hgl c hltp).2
              have hl' : pl.getD ((cn + k : Nat) : Int).toNat [] = l := by rw [ec, hl]
              have e5 : (Nat.ble (0 + 0) 0 && (true && Nat.ble (0 + (pl.getD ((cn + k : Nat) : Int).toNat []).length) 4294967295)) = true := and2 rfl (and2 rfl (Nat.ble_eq_true_of_le (by rw [hl']; omega)))
              have e6 : (Nat.ble (0 + (0 + (pl.getD ((cn + k : Nat) : Int).toNat []).length)) (0 + (pl.getD ((cn + k : Nat) : Int).toNat []).length) && (Nat.ble (0 + 1) 1 && Nat.ble (0 + (pl.getD ((cn + k : Nat) : Int).toNat []).length + 1) 4294967295)) = true := and2 (Nat.ble_eq_true_of_le (by omega)) (and2 rfl (Nat.ble_eq_true_of_le (by rw [hl']; omega)))
              have ha : IntKind.i64.wrap (((0 + (pl.getD ((cn + k : Nat) : Int).toNat []).length + 1 : Nat) : Int) - 1) = (l.length : Int) := by rw [hl', i64w _ (by omega) (by omega)]; omega
              have hlast : (pl.getD ((cn + k : Nat) : Int).toNat [] ++ [lf.getD (i : Int).toNat eI.dflt]) = l ++ [w] := by rw [hl', hw']
              have t2 : 0 ≤ ((cn + k : Nat) : Int) ∧ ((cn + k : Nat) : Int) < (p.rd.cs.length : Int) := by rw [p.rd_eq]; omega
              have t3 : 0 ≤ IntKind.i64.wrap (((0 + (pl.getD ((cn + k : Nat) : Int).toNat []).length + 1 : Nat) : Int) - 1) ∧ IntKind.i64.wrap (((0 + (pl.getD ((cn + k : Nat) : Int).toNat []).length + 1 : Nat) : Int) - 1) < ((pl.getD ((cn + k : Nat) : Int).toNat [] ++ [lf.getD (i : Int).toNat eI.dflt]).length : Int) := by rw [hlast, List.length_append, ha]; simp; omega
              have t4 : (pl.getD ((cn + k : Nat) : Int).toNat [] ++ [lf.getD (i : Int).toNat eI.dflt]).all (inW p.rd) = true := by rw [hlast, p.rd_eq, List.all_append, hall]; simp [hww]
              have t5 : (pl.getD ((cn + k : Nat) : Int).toNat [] ++ [lf.getD (i : Int).toNat eI.dflt]).length ≤ 1000 := by rw [hlast, List.length_append]; simp; omega
              (conv => arg 1; whnf); (repeat' (first | (refine brt (by assumption) ?_; (conv => arg 1; whnf)) | (refine brf (by assumption) ?_; (conv => arg 1; whnf)) | fail))
              (refine brt ?_ ?_; (focus (exact and2 (allD rfl rfl rfl (Nat.le_of_eq (Nat.zero_add _)) rfl) (and2 (and2 (and2 (and2 (timeC (p := p.rd) (rowApp (pl.getD ((cn + k : Nat) : Int).toNat []) (lf.getD (i : Int).toNat eI.dflt) rfl) (by rw [p.rd_eq]; exact hr) t2 t3 t4 t5) rfl) (rowT (rowApp (pl.getD ((cn + k : Nat) : Int).toNat []) (lf.getD (i : Int).toNat eI.dflt) rfl) (Nat.lt_of_le_of_lt t5 (by decide)))) rfl) (snapRows hp1 hp2)); done)); (conv => arg 1; whnf))
              cases h8 : decide (lw p cn pl w k < 0) with
              | true =>
                (conv => arg 1; whnf); (repeat' (first | (refine brt (by assumption) ?_; (conv => arg 1; whnf)) | (refine brf (by assumption) ?_; (conv => arg 1; whnf)) | fail))
                refine joinTo () [0] trivial (by decide) ?_ ?_ rfl
                · rw [show lw p cn pl w (k + 1) = candT p pl w (cn + k) by rw [lw, if_pos hm, if_pos (.inl (of_decide_eq_true h8))]]
                  repeat' (first | exact True.intro | exact Fit.dead _ | exact Fit.v _ | exact .p rfl | exact .s rfl | exact .i fun _ _ => rfl | exact row_self eI _ | exact Fit.v' (congrArg (Value.int .i64) (candV rfl (by rw [ec, hc]) hw' (by omega) (ha.trans (by rw [hl']))).symm) | refine And.intro ?_ ?_)
                · exact ⟨⟨_, rfl, .lit (by repeat' (first | exact True.intro | exact Fit.v _ | exact row_self eRd _ | exact row_self eWn _ | refine And.intro ?_ ?_))⟩, trivial⟩
              | false =>
                have h8' := of_decide_eq_false h8
                (conv => arg 1; whnf); (repeat' (first | (refine brt (by assumption) ?_; (conv => arg 1; whnf)) | (refine brf (by assumption) ?_; (conv => arg 1; whnf)) | fail))
                refine br (fun h9 => ?_) (fun h9 => ?_)
                · have h9' : decide (candT p pl w (cn + k) < lw p cn pl w k) = true := (congrArg (fun t => decide (t < lw p cn pl w k)) (candV (p := p) (pl := pl) (w := w) (c := cn + k) rfl (by rw [ec, hc]) hw' (by omega) (ha.trans (by rw [hl'])))).symm.trans h9
                  (conv => arg 1; whnf); (repeat' (first | (refine brt (by assumption) ?_; (conv => arg 1; whnf)) | (refine brf (by assumption) ?_; (conv => arg 1; whnf)) | fail))
                  refine joinTo () [0] trivial (by decide) ?_ ?_ rfl
                  · rw [show lw p cn pl w (k + 1) = candT p pl w (cn + k) by rw [lw, if_pos hm, if_pos (.inr (of_decide_eq_true h9'))]]
                    repeat' (first | exact True.intro | exact Fit.dead _ | exact Fit.v _ | exact .p rfl | exact .s rfl | exact .i fun _ _ => rfl | exact row_self eI _ | exact Fit.v' (congrArg (Value.int .i64) (candV rfl (by rw [ec, hc]) hw' (by omega) (ha.trans (by rw [hl']))).symm) | refine And.intro ?_ ?_)
                  · exact ⟨⟨_, rfl, .lit (by repeat' (first | exact True.intro | exact Fit.v _ | exact row_self eRd _ | exact row_self eWn _ | refine And.intro ?_ ?_))⟩, trivial⟩
                · have h9' : decide (candT p pl w (cn + k) < lw p cn pl w k) = false := (congrArg (fun t => decide (t < lw p cn pl w k)) (candV (p := p) (pl := pl) (w := w) (c := cn + k) rfl (by rw [ec, hc]) hw' (by omega) (ha.trans (by rw [hl'])))).symm.trans h9
                  (conv => arg 1; whnf); (repeat' (first | (refine brt (by assumption) ?_; (conv => arg 1; whnf)) | (refine brf (by assumption) ?_; (conv => arg 1; whnf)) | fail))
                  refine joinTo () [0] trivial (by decide) ?_ ?_ rfl
                  · rw [show lw p cn pl w (k + 1) = lw p cn pl w k by rw [lw, if_pos hm, if_neg (fun h => h.elim h8' (of_decide_eq_false h9'))]]
                    repeat' (first | exact True.intro | exact Fit.dead _ | exact Fit.v _ | exact .p rfl | exact .s rfl | exact .i fun _ _ => rfl | exact row_self eI _ | refine And.intro ?_ ?_)
                  · exact ⟨⟨_, rfl, .lit (by repeat' (first | exact True.intro | exact Fit.v _ | exact row_self eRd _ | exact row_self eWn _ | refine And.intro ?_ ?_))⟩, trivial⟩
          · (conv => arg 1; whnf); (repeat' (first | (refine brt (by assumption) ?_; (conv => arg 1; whnf)) | (refine brf (by assumption) ?_; (conv => arg 1; whnf)) | fail))
            refine again (k + 1) [0] (by show cn + (k + 1) ≤ pl.length; omega) (by show pl.length - (cn + (k + 1)) < pl.length - (cn + k); omega) (by decide) ?_ ?_ rfl
            · repeat' (first | exact True.intro | exact Fit.dead _ | exact Fit.v _ | exact .p rfl | exact .s rfl | exact .i fun _ _ => rfl | exact row_self eI _ | exact Fit.v' (congrArg (Value.int .i64) (nxt (cn + k) (by omega)).symm) | refine And.intro ?_ ?_)
            · exact ⟨⟨_, rfl, .lit (by repeat' (first | exact True.intro | exact Fit.v _ | exact row_self eRd _ | exact row_self eWn _ | refine And.intro ?_ ?_))⟩, trivial⟩
        · have h7 : decide (((cn + k : Nat) : Int) < (pl.length : Int)) = false := h7
          have hkl : k = pl.length - cn := by have := of_decide_eq_false h7; omega
          obtain ⟨g1, g2, g3⟩ := hlwb k (by omega)
          rw [← hkl] at hRs
          (conv => arg 1; whnf); (repeat' (first | (refine brt (by assumption) ?_; (conv => arg 1; whnf)) | (refine brf (by assumption) ?_; (conv => arg 1; whnf)) | fail))
          refine leave ?_
          show tr _
          (conv => arg 1; whnf); (repeat' (first | (refine brt (by assumption) ?_; (conv => arg 1; whnf)) | (refine brf (by assumption) ?_; (conv => arg 1; whnf)) | fail))
          refine br (fun h8 => ?_) (fun h8 => ?_)
          · have h8' : lw p cn pl w k < 0 := of_decide_eq_true h8
            (conv => arg 1; whnf); (repeat' (first | (refine brt (by assumption) ?_; (conv => arg 1; whnf)) | (refine brf (by assumption) ?_; (conv => arg 1; whnf)) | fail))
            refine leaveRet ?_
            show tr _
            (conv => arg 1; whnf); (repeat' (first | (refine brt (by assumption) ?_; (conv => arg 1; whnf)) | (refine brf (by assumption) ?_; (conv => arg 1; whnf)) | fail))
            rw [if_pos h8'] at hRs
            exact finI (by rw [← hRi, hRs])
          · have h8' : ¬ lw p cn pl w k < 0 := of_decide_eq_false h8
            rw [if_neg h8'] at hRs
            (conv => arg 1; whnf); (repeat' (first | (refine brt (by assumption) ?_; (conv => arg 1; whnf)) | (refine brf (by assumption) ?_; (conv => arg 1; whnf)) | fail))
            refine again (i + 1, n + lw p cn pl w k) [0] ⟨by show i + 1 ≤ lf.length; omega, by show rleast p cn pl (lf.drop (i + 1)) (n + lw p cn pl w k) = R; rw [← hRs, hRi], by show 0 ≤ n + lw p cn pl w k; omega, by show n + lw p cn pl w k ≤ 1000000000000 + 70000000 * ((i + 1 : Nat) : Int); omega⟩ (by show lf.length - (i + 1) < lf.length - i; omega) (by decide) ?_ ?_ rfl
            · repeat' (first | exact True.intro | exact Fit.dead _ | exact Fit.v _ | exact .p rfl | exact .s rfl | exact .i fun _ _ => rfl | exact row_self eI _ | exact Fit.v' (congrArg (Value.int .i64) (nxt i (by omega)).symm) | exact Fit.v' (congrArg (Value.int .i64) (i64w (n + lw p cn pl w k) (by omega) (by omega)).symm) | refine And.intro ?_ ?_)
            · exact ⟨⟨_, rfl, .lit (by repeat' (first | exact True.intro | exact Fit.v _ | exact row_self eRd _ | exact row_self eWn _ | refine And.intro ?_ ?_))⟩, trivial⟩
      · have h6 : decide ((i : Int) < (lf.length : Int)) = false := h6
        have hil : i = lf.length := by have := of_decide_eq_false h6; omega
        (conv => arg 1; whnf); (repeat' (first | (refine brt (by assumption) ?_; (conv => arg 1; whnf)) | (refine brf (by assumption) ?_; (conv => arg 1; whnf)) | fail))
        refine leave ?_
        show tr _
        (conv => arg 1; whnf); (repeat' (first | (refine brt (by assumption) ?_; (conv => arg 1; whnf)) | (refine brf (by assumption) ?_; (conv => arg 1; whnf)) | fail))
        rw [hil, List.drop_length] at hRi
        exact finI hRi.symm
end Go.Proofs.Ytglpeibbkkikgaa.E
