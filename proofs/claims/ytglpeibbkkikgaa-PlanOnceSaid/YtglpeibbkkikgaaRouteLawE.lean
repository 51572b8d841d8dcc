/- The laws of routes: what they call. -/
import Derived.Test.YtglpeibbkkikgaaRouteRE
import Derived.Test.YtglpeibbkkikgaaArgsE
namespace Go.Proofs.Ytglpeibbkkikgaa.E
open Go NumMath
set_option linter.unusedSimpArgs false
set_option linter.unusedVariables false
set_option maxRecDepth 100000
set_option maxHeartbeats 4000000

noncomputable def XV1 : Cx := XN0.add 47 (.foot reads2) (freshCtr timeG)
theorem XV1_ok : CxOk Try.prog XV1 := XN0_ok.fresh rtime_ok
def rwaitsG : List AV → Option (Bool × AV × St) := ad2 adSnap (adRR eI) fun p pl => some (feasB p pl && (pl.all fun l => decide (l.length ≤ 1000)), .s 0 1 0 (waitsL p pl).length, [tabl eI (waitsL p pl)])
theorem rwaits_ok : CtrOk Try.prog 22 (freshCtr rwaitsG) :=
  freshCtr_ok XV1_ok Try.func22 (by decide) rfl fun args u σn h => by
    obtain ⟨p, pl, hf, ⟨hp1, hp2⟩, ⟨hp3, hp4⟩, hv⟩ := ad2_some h
    simp only [Option.some.injEq, Prod.mk.injEq, Bool.and_eq_true] at hv
    obtain ⟨⟨hfea, hls'⟩, rfl, rfl⟩ := hv
    refine ⟨plainTab, _, hf, ?_⟩
    clear h hf
    have hls : ∀ l ∈ pl, l.length ≤ 1000 := fun l hl => of_decide_eq_true (List.all_eq_true.1 hls' l hl)
    obtain ⟨hr, hpl, hent, hone⟩ := feas_ent hfea
    obtain ⟨b1, b2, b3, b4, b5⟩ := Snap.right_bd hr
    have hb := Site.right_bd b1
    have hwl : (waitsL p pl).length = p.ws.length := asgOf_len _ _
    have hmk : (decide ((0 : Int) ≤ (p.ws.length : Int)) && Nat.ble (p.ws.length : Int).toNat 1073741823) = true := and2 (decide_eq_true (by omega)) (Nat.ble_eq_true_of_le (by omega))
    unfold runF
    (conv => arg 1; whnf); (repeat' (first | (refine brt (by assumption) ?_; (conv => arg 1; whnf)) | (refine brf (by assumption) ?_; (conv => arg 1; whnf)) | fail))
    refine loopIn (fun c : Nat => c ≤ pl.length) (fun c => frm 45 [(1, rrow eI pl), (2, .p 0 0), (5, .s 1 1 0 p.ws.length), (6, i64 c)]) (fun c => [.lit (snapC p), .tab 1 p.ws.length fun k => eI.enc ((asgOf p.ws.length (tpre p pl c 0)).getD k eI.dflt)]) (fun c => pl.length - c) 0 [0, 1] (Nat.zero_le _) (by decide) ?_ ?_ rfl fun c hc => ?_
    · repeat' (first | exact True.intro | exact Fit.dead _ | exact Fit.v _ | exact .p rfl | exact .s rfl | exact .i fun _ _ => rfl | refine And.intro ?_ ?_)
    · refine ⟨⟨_, rfl, .lit (by repeat' (first | exact True.intro | exact Fit.v _ | exact row_self eRd _ | exact row_self eWn _ | refine And.intro ?_ ?_))⟩, ⟨_, rfl, ?_⟩, trivial⟩
      show FitB _ _ (.tab 1 p.ws.length fun k => eI.enc ((asgOf p.ws.length (tpre p pl 0 0)).getD k eI.dflt)) (.tab 1 p.ws.length fun _ => [i64 0])
      exact .tab fun k hk => by rw [tpre_zero, asgOf_get _ _ hk]; rfl
    · have hc : c ≤ pl.length := hc
      (conv => arg 1; whnf)
      refine br (fun h2 => ?_) (fun h2 => ?_)
      · have hlt : c < pl.length := by have := of_decide_eq_true h2; omega
        have e1 : (decide (0 ≤ (c : Int)) && decide ((c : Int) < (pl.length : Int))) = true := by simp only [Bool.and_eq_true, decide_eq_true_eq]; omega
        have ec : (c : Int).toNat = c := by omega
        obtain ⟨l, hl⟩ : ∃ l, l = pl.getD c [] := ⟨_, rfl⟩
        have hl' : pl.getD (c : Int).toNat [] = l := by rw [ec, hl]
        have hl1 : l.length ≤ 1000 := by
          rw [hl, List.getD_eq_getElem?_getD, List.getElem?_eq_getElem hlt]
          exact hls _ (List.getElem_mem hlt)
        (conv => arg 1; whnf); (repeat' (first | (refine brt (by assumption) ?_; (conv => arg 1; whnf)) | (refine brf (by assumption) ?_; (conv => arg 1; whnf)) | fail))
        refine loopIn (fun j : Nat => j ≤ l.length) (fun j => frm 45 [(1, rrow eI pl), (2, .p 0 0), (5, .s 1 1 0 p.ws.length), (6, i64 c), (7, i64 j)]) (fun j => [.lit (snapC p), .tab 1 p.ws.length fun k => eI.enc ((asgOf p.ws.length (tpre p pl c j)).getD k eI.dflt)]) (fun j => l.length - j) 0 [0, 1] (Nat.zero_le _) (by decide) ?_ ?_ rfl fun j hj => ?_
        · repeat' (first | exact True.intro | exact Fit.dead _ | exact Fit.v _ | exact .p rfl | exact .s rfl | exact .i fun _ _ => rfl | refine And.intro ?_ ?_)
        · exact ⟨⟨_, rfl, .lit (by repeat' (first | exact True.intro | exact Fit.v _ | exact row_self eRd _ | exact row_self eWn _ | refine And.intro ?_ ?_))⟩, ⟨_, rfl, .tab fun _ _ => rfl⟩, trivial⟩
        · have hj : j ≤ l.length := hj
          (conv => arg 1; whnf); (repeat' (first | (refine brt (by assumption) ?_; (conv => arg 1; whnf)) | (refine brf (by assumption) ?_; (conv => arg 1; whnf)) | fail))
          refine br (fun h3 => ?_) (fun h3 => ?_)
          · have hlj : j < l.length := by have := of_decide_eq_true h3; rw [hl'] at this; omega
            have e2 : (decide (0 ≤ (j : Int)) && decide ((j : Int) < ((pl.getD (c : Int).toNat []).length : Int))) = true := by rw [hl']; simp only [Bool.and_eq_true, decide_eq_true_eq]; omega
            have ej : (j : Int).toNat = j := by omega
            obtain ⟨w, hw⟩ : ∃ w, w = l.getD j 0 := ⟨_, rfl⟩
            have hw' : ((pl.getD (c : Int).toNat []).getD (j : Int).toNat eI.dflt) = w := by rw [hl', ej, hw]; rfl
            have hgd := good_bd (hent c j hlt (by rw [← hl]; exact hlj))
            rw [← hl, ← hw] at hgd
            have q1 : (decide (0 ≤ ((pl.getD (c : Int).toNat []).getD (j : Int).toNat eI.dflt)) && decide (((pl.getD (c : Int).toNat []).getD (j : Int).toNat eI.dflt) < (p.ws.length : Int))) = true := by rw [hw']; simp only [Bool.and_eq_true, decide_eq_true_eq]; omega
            have q2 : decide (0 + ((pl.getD (c : Int).toNat []).getD (j : Int).toNat eI.dflt).toNat < p.ws.length) = true := by rw [hw']; exact decide_eq_true (by omega)
            have hall : l.all (inW p) = true := List.all_eq_true.2 fun x hx => by
              obtain ⟨k, hk, rfl⟩ := List.getElem_of_mem hx
              have := good_bd (hent c k hlt (by rw [← hl]; exact hk))
              rw [← hl, List.getD_eq_getElem?_getD, List.getElem?_eq_getElem hk, Option.getD_some] at this
              unfold inW
              simp only [Bool.and_eq_true, decide_eq_true_eq]
              exact this
            have hF : ((p.rd.right && (decide (0 ≤ (c : Int)) && decide ((c : Int) < (p.rd.cs.length : Int)))) && ((decide (0 ≤ (j : Int)) && decide ((j : Int) < ((rows eI (pl.getD (c : Int).toNat []).length fun k => eI.enc ((pl.getD (c : Int).toNat []).getD k eI.dflt)).length : Int))) && ((rows eI (pl.getD (c : Int).toNat []).length fun k => eI.enc ((pl.getD (c : Int).toNat []).getD k eI.dflt)).all (inW p.rd) && decide ((rows eI (pl.getD (c : Int).toNat []).length fun k => eI.enc ((pl.getD (c : Int).toNat []).getD k eI.dflt)).length ≤ 1000)))) = true := by
              rw [p.rd_eq, hl', rows_row, hr, hall]
              simp only [Bool.true_and, Bool.and_eq_true, decide_eq_true_eq]
              omega
            have hT : (stAt p.rd (c : Int).toNat (rows eI (pl.getD (c : Int).toNat []).length fun k => eI.enc ((pl.getD (c : Int).toNat []).getD k eI.dflt)) ((j : Int).toNat + 1)).he = (stAt p c l (j + 1)).he := by
              rw [p.rd_eq, hl', rows_row, ec, ej]
            have hrw : isRow eI (pl.getD (c : Int).toNat []).length eI.sz (fun k => eI.enc ((pl.getD (c : Int).toNat []).getD k eI.dflt)) = true := by rw [hl']; exact isRow_row eI (by omega)
            (conv => arg 1; whnf); (repeat' (first | (refine brt (by assumption) ?_; (conv => arg 1; whnf)) | (refine brf (by assumption) ?_; (conv => arg 1; whnf)) | fail))
            (refine brt ?_ ?_; (focus (exact and2 rfl (and2 (and2 (and2 (and2 hF rfl) hrw) rfl) (snapRows hp1 hp2)); done)); (conv => arg 1; whnf))
            (conv => arg 1; whnf); (repeat' (first | (refine brt (by assumption) ?_; (conv => arg 1; whnf)) | (refine brf (by assumption) ?_; (conv => arg 1; whnf)) | fail))
            refine again (j + 1) [0, 1] hlj (by show l.length - (j + 1) < l.length - j; omega) (by decide) ?_ ?_ rfl
            · repeat' (first | exact True.intro | exact Fit.dead _ | exact Fit.v _ | exact .p rfl | exact .s rfl | exact .i fun _ _ => rfl | exact Fit.v' (congrArg (Value.int .i64) (nxt j (by omega)).symm) | refine And.intro ?_ ?_)
            · refine ⟨⟨_, rfl, .lit (by repeat' (first | exact True.intro | exact Fit.v _ | exact row_self eRd _ | exact row_self eWn _ | refine And.intro ?_ ?_))⟩, ⟨_, rfl, .tab fun k hk => ?_⟩, trivial⟩
              have hrow := RowIs.put eI (n := p.ws.length) (i := w.toNat) (i' := 0 + ((pl.getD (c : Int).toNat []).getD (j : Int).toNat eI.dflt).toNat) (j := 0) (g := fun k => eI.enc ((asgOf p.ws.length (tpre p pl c j)).getD k eI.dflt)) (l := asgOf p.ws.length (tpre p pl c j)) (cs := [i64 (stAt p.rd (c : Int).toNat (rows eI (pl.getD (c : Int).toNat []).length fun k => eI.enc ((pl.getD (c : Int).toNat []).getD k eI.dflt)) ((j : Int).toNat + 1)).he]) (a := (stAt p c l (j + 1)).he) ⟨(asgOf_len _ _).symm, fun _ _ => rfl⟩ (by rw [hw', Nat.zero_add]) (by omega) (by rw [hT]; rfl)
              have hst := tpre_step p pl c j
              rw [← hl, ← hw] at hst
              rw [asgOf_set, show ((w.toNat : Nat) : Int) = w by omega, ← hst] at hrow
              exact (hrow.get k hk).symm
          · have hjl : j = l.length := by have := of_decide_eq_false h3; rw [hl'] at this; omega
            (conv => arg 1; whnf); (repeat' (first | (refine brt (by assumption) ?_; (conv => arg 1; whnf)) | (refine brf (by assumption) ?_; (conv => arg 1; whnf)) | fail))
            refine leave ?_
            show tr _
            (conv => arg 1; whnf); (repeat' (first | (refine brt (by assumption) ?_; (conv => arg 1; whnf)) | (refine brf (by assumption) ?_; (conv => arg 1; whnf)) | fail))
            refine again (c + 1) [0, 1] hlt (by show pl.length - (c + 1) < pl.length - c; omega) (by decide) ?_ ?_ rfl
            · repeat' (first | exact True.intro | exact Fit.dead _ | exact Fit.v _ | exact .p rfl | exact .s rfl | exact .i fun _ _ => rfl | exact Fit.v' (congrArg (Value.int .i64) (nxt c (by omega)).symm) | refine And.intro ?_ ?_)
            · exact ⟨⟨_, rfl, .lit (by repeat' (first | exact True.intro | exact Fit.v _ | exact row_self eRd _ | exact row_self eWn _ | refine And.intro ?_ ?_))⟩, ⟨_, rfl, .tab fun k hk => by rw [← tpre_next, ← hl, ← hjl]⟩, trivial⟩
      · have hcl : c = pl.length := by have := of_decide_eq_false h2; omega
        (conv => arg 1; whnf); (repeat' (first | (refine brt (by assumption) ?_; (conv => arg 1; whnf)) | (refine brf (by assumption) ?_; (conv => arg 1; whnf)) | fail))
        refine leave ?_
        show tr _
        (conv => arg 1; whnf); (repeat' (first | (refine brt (by assumption) ?_; (conv => arg 1; whnf)) | (refine brf (by assumption) ?_; (conv => arg 1; whnf)) | fail))
        refine finS [1] (by decide) (fit_s rfl rfl hwl) ⟨⟨_, rfl, ?_⟩, trivial⟩ rfl
        exact fit_tab (e := eI) ⟨(asgOf_len _ _).symm, fun k hk => by rw [hcl]; rfl⟩
noncomputable def XV2 : Cx := XN0.add 22 (.foot reads2) (freshCtr rwaitsG)
theorem XV2_ok : CxOk Try.prog XV2 := XN0_ok.fresh rwaits_ok
def rcostG : List AV → Option (Bool × AV × St) := ad2 adSnap (adRR eI) fun p pl => some (feasB p pl && (pl.all fun l => decide (l.length ≤ 1000)), i64 (waitsL p pl).sum, [])
theorem rcost_ok : CtrOk Try.prog 23 (freshCtr rcostG) :=
  freshCtr_ok XV2_ok Try.func23 (by decide) rfl fun args u σn h => by
    obtain ⟨p, pl, hf, ⟨hp1, hp2⟩, ⟨hp3, hp4⟩, hv⟩ := ad2_some h
    simp only [Option.some.injEq, Prod.mk.injEq, Bool.and_eq_true] at hv
    obtain ⟨⟨hfea, hls'⟩, rfl, rfl⟩ := hv
    refine ⟨plainNil, _, hf, ?_⟩
    clear h hf
    have hls : ∀ l ∈ pl, l.length ≤ 1000 := fun l hl => of_decide_eq_true (List.all_eq_true.1 hls' l hl)
    obtain ⟨hr, hpl, hent, hone⟩ := feas_ent hfea
    obtain ⟨b1, b2, b3, b4, b5⟩ := Snap.right_bd hr
    have hwl : (waitsL p pl).length = p.ws.length := asgOf_len _ _
    have hwb := waits_bd hfea hls
    have hfe : waitsL p.rd (rowsRR eI pl.length fun k => [row eI (pl.getD k [])]) = waitsL p pl := by rw [p.rd_eq, rowsRR_row]
    unfold runF
    (conv => arg 1; whnf)
    (refine brt ?_ ?_; (focus (exact and2 rfl (and2 (and2 (and2 (by show feasB p.rd (rowsRR eI pl.length fun k => [row eI (pl.getD k [])]) = true; rw [p.rd_eq, rowsRR_row]; exact hfea) (by rw [rowsRR_row]; exact hls')) (planRows hp3 hp4)) (snapRows hp1 hp2)); done)); (conv => arg 1; whnf))
    rw [hfe]
    generalize waitsL p pl = L at hwl hwb ⊢
    refine loopIn (fun k : Nat => k ≤ L.length) (fun k => frm 24 [(5, .s 0 1 0 L.length), (6, i64 (L.take k).sum), (7, i64 k)]) (fun _ => [tabl eI L]) (fun k => L.length - k) 0 [1] (Nat.zero_le _) (by decide) ?_ ?_ rfl fun k hk => ?_
    · repeat' (first | exact True.intro | exact Fit.dead _ | exact Fit.v _ | exact .p rfl | exact .s rfl | exact .i fun _ _ => rfl | refine And.intro ?_ ?_)
    · exact ⟨⟨_, rfl, .tab fun _ _ => rfl⟩, trivial⟩
    · have hk : k ≤ L.length := hk
      have s1 := sum_bd (m := 69002000) (by decide) hwb k
      have s2 : (L.take k).length ≤ 128 := by simp; omega
      (conv => arg 1; whnf)
      refine br (fun h => ?_) (fun h => ?_)
      · have hlt : k < L.length := by have := of_decide_eq_true h; omega
        have e1 : (decide (0 ≤ (k : Int)) && decide ((k : Int) < (L.length : Int))) = true := by simp only [Bool.and_eq_true, decide_eq_true_eq]; omega
        have e2 : decide (0 + (k : Int).toNat < L.length) = true := decide_eq_true (by omega)
        have ek : 0 + (k : Int).toNat = k := by omega
        have hx := hwb (L.getD k 0) (by rw [List.getD_eq_getElem?_getD, List.getElem?_eq_getElem hlt]; exact List.getElem_mem _)
        (conv => arg 1; whnf); (repeat' (first | (refine brt (by assumption) ?_; (conv => arg 1; whnf)) | (refine brf (by assumption) ?_; (conv => arg 1; whnf)) | fail))
        refine again (k + 1) [0] hlt (by show L.length - (k + 1) < L.length - k; omega) (by decide) ?_ ?_ rfl
        · repeat' (first | exact True.intro | exact Fit.dead _ | exact Fit.v _ | exact .s rfl | exact Fit.v' (congrArg (Value.int .i64) (nxt k (by omega)).symm) | exact Fit.v' (congrArg (Value.int .i64) (show (L.take (k + 1)).sum = IntKind.i64.wrap ((L.take k).sum + L.getD (0 + (k : Int).toNat) eI.dflt) by rw [ek, take_sum hlt]; exact (i64w _ (by show _ ≤ (L.take k).sum + L.getD k 0; omega) (by show (L.take k).sum + L.getD k 0 ≤ _; omega)).symm)) | refine And.intro ?_ ?_)
        · exact ⟨⟨_, rfl, .tab fun _ _ => rfl⟩, trivial⟩
      · have hkl : k = L.length := by have := of_decide_eq_false h; omega
        (conv => arg 1; whnf); (repeat' (first | (refine brt (by assumption) ?_; (conv => arg 1; whnf)) | (refine brf (by assumption) ?_; (conv => arg 1; whnf)) | fail))
        refine leave ?_
        show tr _
        (conv => arg 1; whnf); (repeat' (first | (refine brt (by assumption) ?_; (conv => arg 1; whnf)) | (refine brf (by assumption) ?_; (conv => arg 1; whnf)) | fail))
        exact finI (by rw [hkl, List.take_length])

/-! ### Rows that are one; what is more than is looked at -/
theorem getD_extI {a b : List Int} (h : a.length = b.length) (hg : ∀ j, j < a.length → a.getD j 0 = b.getD j 0) : a = b := by
  apply List.ext_getElem h
  intro i h1 h2
  have := hg i h1
  rw [List.getD_eq_getElem?_getD, List.getD_eq_getElem?_getD, List.getElem?_eq_getElem h1, List.getElem?_eq_getElem h2] at this
  exact this
def sameIG : List AV → Option (Bool × AV) := ad2 (adR eI) (adR eI) fun a b => giv (decide (a.length ≤ 1000000)) (boo (decide (a = b)))
theorem sameI_ok : CtrOk Try.prog 21 (borCtr sameIG) :=
  borCtr_can XN0_ok Try.func21 (by decide) rfl fun args u h => by
    obtain ⟨a, b, hf, ha, hb, hv⟩ := ad2_some h
    obtain ⟨hal, rfl⟩ := giv_some hv
    have hal := of_decide_eq_true hal
    refine ⟨_, hf, ?_⟩
    clear h hv hf
    unfold runF
    (conv => arg 1; whnf)
    refine br (fun h => ?_) (fun h => ?_)
    · (conv => arg 1; whnf)
      refine finB (decide_eq_false fun e => ?_)
      rw [e] at h
      simp at h
    · have hl : a.length = b.length := by
        have h' : (!decide ((a.length : Int) = (b.length : Int))) = false := h
        simp at h'
        omega
      (conv => arg 1; whnf)
      refine loopIn (fun k : Nat => k ≤ a.length ∧ ∀ j, j < k → a.getD j 0 = b.getD j 0) (fun k => frm 26 [(0, row eI a), (1, row eI b), (5, i64 k)]) (fun _ => []) (fun k => a.length - k) 0 [] ⟨Nat.zero_le _, fun j hj => absurd hj (Nat.not_lt_zero j)⟩ List.nodup_nil ?_ True.intro rfl fun k hi => ?_
      · repeat' (first | exact True.intro | exact Fit.dead _ | exact Fit.v _ | exact row_self eI _ | refine And.intro ?_ ?_)
      · obtain ⟨hk, hall⟩ := hi
        (conv => arg 1; whnf)
        refine br (fun h1 => ?_) (fun h1 => ?_)
        · have hlt : k < a.length := by have := of_decide_eq_true h1; omega
          have e1 : (decide (0 ≤ (k : Int)) && decide ((k : Int) < (a.length : Int))) = true := by simp only [Bool.and_eq_true, decide_eq_true_eq]; omega
          have e2 : (decide (0 ≤ (k : Int)) && decide ((k : Int) < (b.length : Int))) = true := by simp only [Bool.and_eq_true, decide_eq_true_eq]; omega
          have ek : (k : Int).toNat = k := by omega
          (conv => arg 1; whnf); (repeat' (first | (refine brt (by assumption) ?_; (conv => arg 1; whnf)) | (refine brf (by assumption) ?_; (conv => arg 1; whnf)) | fail))
          refine br (fun h2 => ?_) (fun h2 => ?_)
          · have h2 : (!(decide (a.getD (k : Int).toNat 0 = b.getD (k : Int).toNat 0))) = true := h2
            (conv => arg 1; whnf); (repeat' (first | (refine brt (by assumption) ?_; (conv => arg 1; whnf)) | (refine brf (by assumption) ?_; (conv => arg 1; whnf)) | fail))
            refine leaveRet ?_
            show tr _
            (conv => arg 1; whnf); (repeat' (first | (refine brt (by assumption) ?_; (conv => arg 1; whnf)) | (refine brf (by assumption) ?_; (conv => arg 1; whnf)) | fail))
            refine finB (decide_eq_false fun e => ?_)
            rw [e] at h2
            simp at h2
          · have h2 : (!(decide (a.getD (k : Int).toNat 0 = b.getD (k : Int).toNat 0))) = false := h2
            (conv => arg 1; whnf); (repeat' (first | (refine brt (by assumption) ?_; (conv => arg 1; whnf)) | (refine brf (by assumption) ?_; (conv => arg 1; whnf)) | fail))
            rw [ek] at h2
            refine again (k + 1) [] ⟨hlt, fun j hj => ?_⟩ (by show a.length - (k + 1) < a.length - k; omega) List.nodup_nil ?_ True.intro rfl
            · rcases Nat.lt_or_ge j k with hj' | hj'
              · exact hall j hj'
              · have : j = k := by omega
                rw [this]; simpa using h2
            · repeat' (first | exact True.intro | exact Fit.dead _ | exact Fit.v _ | exact row_self eI _ | exact Fit.v' (congrArg (Value.int .i64) (nxt k (by omega)).symm) | refine And.intro ?_ ?_)
        · have hkl : k = a.length := by have := of_decide_eq_false h1; omega
          (conv => arg 1; whnf); (repeat' (first | (refine brt (by assumption) ?_; (conv => arg 1; whnf)) | (refine brf (by assumption) ?_; (conv => arg 1; whnf)) | fail))
          refine leave ?_
          show tr _
          (conv => arg 1; whnf); (repeat' (first | (refine brt (by assumption) ?_; (conv => arg 1; whnf)) | (refine brf (by assumption) ?_; (conv => arg 1; whnf)) | fail))
          exact finB (decide_eq_true (getD_extI hl fun j hj => hall j (by omega)))
def greatB (p : Snap) (pl : List (List Int)) : Bool := decide (20 < p.cs.length) || (decide (200 < p.ws.length) || (decide (20 < pl.length) || pl.any fun l => decide (200 < l.length)))
theorem great_no {p : Snap} {pl : List (List Int)} (h : greatB p pl = false) : p.cs.length ≤ 20 ∧ p.ws.length ≤ 200 ∧ pl.length ≤ 20 ∧ ∀ l ∈ pl, l.length ≤ 200 := by
  unfold greatB at h
  simp only [Bool.or_eq_false_iff, decide_eq_false_iff_not, List.any_eq_false, decide_eq_true_eq] at h
  exact ⟨by omega, by omega, by omega, fun l hl => by have := h.2.2.2 l hl; omega⟩
def greatG : List AV → Option (Bool × AV × St) := ad2 adSnap (adRR eI) fun p pl => some (true, boo (greatB p pl), [])
theorem great_ok : CtrOk Try.prog 13 (freshCtr greatG) :=
  freshCtr_ok XN0_ok Try.func13 (by decide) rfl fun args u σn h => by
    obtain ⟨p, pl, hf, ⟨hp1, hp2⟩, ⟨hp3, hp4⟩, hv⟩ := ad2_some h
    simp only [Option.some.injEq, Prod.mk.injEq, true_and] at hv
    obtain ⟨rfl, rfl⟩ := hv
    refine ⟨plainNil, _, hf, ?_⟩
    clear h hf
    unfold runF
    (conv => arg 1; whnf)
    refine br (fun h1 => ?_) (fun h1 => ?_)
    · (conv => arg 1; whnf); (repeat' (first | (refine brt (by assumption) ?_; (conv => arg 1; whnf)) | (refine brf (by assumption) ?_; (conv => arg 1; whnf)) | fail))
      refine finB ?_
      unfold greatB; rw [show decide (20 < p.cs.length) = true from decide_eq_true (by have := of_decide_eq_true h1; omega)]; rfl
    · (conv => arg 1; whnf); (repeat' (first | (refine brt (by assumption) ?_; (conv => arg 1; whnf)) | (refine brf (by assumption) ?_; (conv => arg 1; whnf)) | fail))
      refine br (fun h2 => ?_) (fun h2 => ?_)
      · (conv => arg 1; whnf); (repeat' (first | (refine brt (by assumption) ?_; (conv => arg 1; whnf)) | (refine brf (by assumption) ?_; (conv => arg 1; whnf)) | fail))
        refine finB ?_
        unfold greatB; rw [show decide (200 < p.ws.length) = true from decide_eq_true (by have := of_decide_eq_true h2; omega)]; simp
      · (conv => arg 1; whnf); (repeat' (first | (refine brt (by assumption) ?_; (conv => arg 1; whnf)) | (refine brf (by assumption) ?_; (conv => arg 1; whnf)) | fail))
        refine br (fun h3 => ?_) (fun h3 => ?_)
        · (conv => arg 1; whnf); (repeat' (first | (refine brt (by assumption) ?_; (conv => arg 1; whnf)) | (refine brf (by assumption) ?_; (conv => arg 1; whnf)) | fail))
          refine finB ?_
          unfold greatB; rw [show decide (20 < pl.length) = true from decide_eq_true (by have := of_decide_eq_true h3; omega)]; simp
        · have n1 : ¬ 20 < p.cs.length := by have := of_decide_eq_false h1; omega
          have n2 : ¬ 200 < p.ws.length := by have := of_decide_eq_false h2; omega
          have n3 : ¬ 20 < pl.length := by have := of_decide_eq_false h3; omega
          (conv => arg 1; whnf); (repeat' (first | (refine brt (by assumption) ?_; (conv => arg 1; whnf)) | (refine brf (by assumption) ?_; (conv => arg 1; whnf)) | fail))
          refine loopIn (fun k : Nat => k ≤ pl.length ∧ ∀ j, j < k → ¬ 200 < (pl.getD j []).length) (fun k => frm 32 [(22, rrow eI pl), (23, i64 pl.length), (24, i64 k)]) (fun _ => []) (fun k => pl.length - k) 0 [] ⟨Nat.zero_le _, fun j hj => absurd hj (Nat.not_lt_zero j)⟩ List.nodup_nil ?_ True.intro rfl fun k hi => ?_
          · repeat' (first | exact True.intro | exact Fit.dead _ | exact Fit.v _ | exact .i fun _ _ => rfl | refine And.intro ?_ ?_)
          · obtain ⟨hk, hno⟩ := hi
            (conv => arg 1; whnf)
            refine br (fun h4 => ?_) (fun h4 => ?_)
            · have hlt : k < pl.length := by have := of_decide_eq_true h4; omega
              have e1 : (decide (0 ≤ (k : Int)) && decide ((k : Int) < (pl.length : Int))) = true := by simp only [Bool.and_eq_true, decide_eq_true_eq]; omega
              have ek : (k : Int).toNat = k := by omega
              (conv => arg 1; whnf); (repeat' (first | (refine brt (by assumption) ?_; (conv => arg 1; whnf)) | (refine brf (by assumption) ?_; (conv => arg 1; whnf)) | fail))
              refine br (fun h5 => ?_) (fun h5 => ?_)
              · (conv => arg 1; whnf); (repeat' (first | (refine brt (by assumption) ?_; (conv => arg 1; whnf)) | (refine brf (by assumption) ?_; (conv => arg 1; whnf)) | fail))
                refine leaveRet ?_
                show tr _
                (conv => arg 1; whnf); (repeat' (first | (refine brt (by assumption) ?_; (conv => arg 1; whnf)) | (refine brf (by assumption) ?_; (conv => arg 1; whnf)) | fail))
                rw [ek] at h5
                refine finB ?_
                unfold greatB
                have : pl.any (fun l => decide (200 < l.length)) = true := List.any_eq_true.2 ⟨pl.getD k [], by rw [List.getD_eq_getElem?_getD, List.getElem?_eq_getElem hlt]; exact List.getElem_mem hlt, decide_eq_true (by have := of_decide_eq_true h5; omega)⟩
                rw [this]; simp
              · (conv => arg 1; whnf); (repeat' (first | (refine brt (by assumption) ?_; (conv => arg 1; whnf)) | (refine brf (by assumption) ?_; (conv => arg 1; whnf)) | fail))
                rw [ek] at h5
                refine again (k + 1) [] ⟨hlt, fun j hj => ?_⟩ (by show pl.length - (k + 1) < pl.length - k; omega) List.nodup_nil ?_ True.intro rfl
                · rcases Nat.lt_or_ge j k with hj' | hj'
                  · exact hno j hj'
                  · have : j = k := by omega
                    rw [this]; have := of_decide_eq_false h5; omega
                · repeat' (first | exact True.intro | exact Fit.dead _ | exact Fit.v _ | exact .i fun _ _ => rfl | exact Fit.v' (congrArg (Value.int .i64) (nxt k (by omega)).symm) | refine And.intro ?_ ?_)
            · have hkl : k = pl.length := by have := of_decide_eq_false h4; omega
              (conv => arg 1; whnf); (repeat' (first | (refine brt (by assumption) ?_; (conv => arg 1; whnf)) | (refine brf (by assumption) ?_; (conv => arg 1; whnf)) | fail))
              refine leave ?_
              show tr _
              (conv => arg 1; whnf); (repeat' (first | (refine brt (by assumption) ?_; (conv => arg 1; whnf)) | (refine brf (by assumption) ?_; (conv => arg 1; whnf)) | fail))
              refine finB ?_
              unfold greatB
              rw [decide_eq_false n1, decide_eq_false n2, decide_eq_false n3]
              simp only [Bool.false_or]
              rw [List.any_eq_false]
              intro l hl
              obtain ⟨j, hj, rfl⟩ := List.getElem_of_mem hl
              have := hno j (by omega)
              rw [List.getD_eq_getElem?_getD, List.getElem?_eq_getElem hj, Option.getD_some] at this
              simp; omega

/-! ### The example, and what laws call -/
noncomputable def XL0 : Cx := XN0.add 20 (.foot reads2) (freshCtr costG)
theorem XL0_ok : CxOk Try.prog XL0 := XN0_ok.fresh cost_ok
theorem speaks10_ok : CtrOk Try.prog 18 (pureCtr (fn0 (giv true (boo true)))) :=
  pureCtr_ok XL0_ok Try.func18 (by decide) rfl fun args u hh => by
    obtain ⟨rfl, hv⟩ := fn0_some hh
    obtain ⟨_, rfl⟩ := giv_some hv
    clear hh hv
    refine ⟨rfl, rfl, ?_⟩
    unfold runF
    (conv => arg 1; whnf)
    exact finB rfl
noncomputable def XL1 : Cx := (((((((((XN0.add 18 .pure (pureCtr (fn0 (giv true (boo true))))).add 13 (.foot reads2) (freshCtr greatG)).add 19 (.foot reads2) (freshCtr waitsG)).add 20 (.foot reads2) (freshCtr costG)).add 17 (.foot reads2) (freshCtr feasG)).add 22 (.foot reads2) (freshCtr rwaitsG)).add 23 (.foot reads2) (freshCtr rcostG)).add 21 (.reads readsL) (borCtr sameIG)).add 24 .pure (pureCtr rightG)).add 27 .pure (pureCtr travelG)
theorem XL1_ok : CxOk Try.prog XL1 := (((((((((XN0_ok.pure speaks10_ok).fresh great_ok).fresh waits_ok).fresh cost_ok).fresh rfeas_ok).fresh rwaits_ok).fresh rcost_ok).bor sameI_ok).pure rright_ok).pure rtravel_ok
theorem snap_arg {u : AV} (h : isArg tt 27 u) : ∃ p : Snap, u = p.av ∧ p.cs.length < 281474976710656 ∧ p.ws.length < 281474976710656 := by
  obtain ⟨_, ⟨_, _, rfl, ⟨_, _, rfl, ⟨a1, rfl, w1⟩, _, _, rfl, ⟨a2, rfl, w2⟩, _, _, rfl, ⟨a3, rfl, w3⟩, _, _, rfl, ⟨a4, rfl, w4⟩, _, _, rfl, ⟨a5, rfl, w5⟩, _, _, rfl, ⟨a6, rfl, w6⟩, _, _, rfl, ⟨a7, rfl, w7⟩, _, _, rfl, ⟨a8, rfl, w8⟩, _, _, rfl, ⟨a9, rfl, w9⟩, _, _, rfl, ⟨a10, rfl, w10⟩, _, _, rfl, ⟨a11, rfl, w11⟩, _, _, rfl, ⟨a12, rfl, w12⟩, _, _, rfl, ⟨a13, rfl, w13⟩, rfl⟩, _, _, rfl, ⟨m, g, e, hm, hg, hz⟩, _, _, rfl, ⟨m', g', e', hm', hg', hz'⟩, rfl⟩, rfl⟩ := h
  subst e e'
  obtain ⟨cs, e1, h1, _⟩ := row_eq eRd (m := m) (g := g) (p := fun _ => True) (fun k hk => by
    obtain ⟨_, _, e1, ⟨a, rfl, _⟩, _, _, rfl, ⟨b, rfl, _⟩, rfl⟩ := hg k hk
    exact ⟨⟨a, b⟩, e1, trivial⟩) hz (by have : m * 2 < 281474976710656 := hm; omega)
  obtain ⟨ws, e2, h2, _⟩ := row_eq eWn (m := m') (g := g') (p := fun _ => True) (fun k hk => by
    obtain ⟨_, _, e1, ⟨a, rfl, _⟩, _, _, rfl, ⟨b, rfl, _⟩, rfl⟩ := hg' k hk
    exact ⟨⟨a, b⟩, e1, trivial⟩) hz' (by have : m' * 2 < 281474976710656 := hm'; omega)
  refine ⟨⟨⟨a1, a2, a3, a4, a5, a6, a7, a8, a9, a10, a11, a12, a13⟩, cs, ws⟩, ?_, h1, h2⟩
  show AV.a [i64 a1, i64 a2, i64 a3, i64 a4, i64 a5, i64 a6, i64 a7, i64 a8, i64 a9, i64 a10, i64 a11, i64 a12, i64 a13, .i 2 m g, .i 2 m' g'] = _
  rw [show AV.i 2 m g = row eRd cs from e1, show AV.i 2 m' g' = row eWn ws from e2]
theorem plan_arg {u : AV} (h : isArg tt 29 u) : ∃ pl : List (List Int), Fit [] [] (rrow eI pl) u ∧ pl.length < 281474976710656 ∧ ∀ l ∈ pl, l.length < 281474976710656 := by
  obtain ⟨m, g, e, hm, hg, hz⟩ := h
  obtain rfl := (List.cons.inj e).1
  have each : ∀ k, k < m → ∃ l : List Int, g k = [row eI l] ∧ l.length < 281474976710656 := fun k hk => by
    obtain ⟨m', g', e', hm', hg', hz'⟩ := hg k hk
    obtain ⟨l, e1, h1, _⟩ := row_eq eI (m := m') (g := g') (p := fun _ => True) (fun k hk => by obtain ⟨z, hz, hw⟩ := hg' k hk; exact ⟨z, hz, trivial⟩) hz' (by have : m' * 1 < 281474976710656 := hm'; omega)
    exact ⟨l, by rw [e', ← e1]; rfl, h1⟩
  have hf : ∃ f : Nat → List Int, ∀ k, k < m → g k = [row eI (f k)] ∧ (f k).length < 281474976710656 :=
    ⟨fun k => if h : k < m then (each k h).choose else [], fun k hk => by simp only [hk, dif_pos]; exact (each k hk).choose_spec⟩
  obtain ⟨f, hf⟩ := hf
  refine ⟨(List.range m).map f, ?_, by have : m * 1 < 281474976710656 := hm; simp; omega, fun l hl => ?_⟩
  · have hlen : ((List.range m).map f).length = m := by simp
    show Fit [] [] (.i 1 ((List.range m).map f).length fun k => [row eI (((List.range m).map f).getD k [])]) (.i 1 m g)
    rw [hlen]
    exact .i fun k hk => by rw [(hf k hk).1, getD_range _ _ hk]
  · obtain ⟨k, hk, rfl⟩ := List.mem_map.1 hl
    exact (hf k (List.mem_range.1 hk)).2
theorem rdy_arg {u : AV} (h : isArg tt 46 u) : ∃ r : Rdy, u = .a [i64 r.fl, i64 r.af] := by
  obtain ⟨_, ⟨_, _, rfl, ⟨a1, rfl, w1⟩, _, _, rfl, ⟨a2, rfl, w2⟩, rfl⟩, rfl⟩ := h
  exact ⟨⟨a1, a2⟩, rfl⟩
end Go.Proofs.Ytglpeibbkkikgaa.E
