/- The law FrameCodes, by the engine. -/
import Derived.Test.YtaneamfnjhiigaaFrameBytE
import Derived.Test.YtaneamfnjhiigaaFrameLawsE
namespace Go.Proofs.Ytaneamfnjhiigaa.E
open Go
set_option linter.unusedSimpArgs false
set_option linter.unusedVariables false
set_option maxRecDepth 100000
set_option maxHeartbeats 4000000
theorem fr_arg {u : AV} (h : isArg tt 40 u) : ∃ f : Fr, u = f.av := by
  obtain ⟨_, ⟨_, _, rfl, ⟨a1, rfl, w1⟩, _, _, rfl, ⟨a2, rfl, w2⟩, _, _, rfl, ⟨a3, rfl, w3⟩, _, _, rfl, ⟨a4, rfl, w4⟩, _, _, rfl, ⟨a5, rfl, w5⟩, _, _, rfl, ⟨a6, rfl, w6⟩, rfl⟩, rfl⟩ := h
  exact ⟨⟨a1, a2, a3, a4, a5, a6⟩, rfl⟩
def XFC : Cx := (((((XFB.add 23 (.reads readsL) (borCtr decG)).add 24 (.reads readsL) (borCtr decG)).add 25 (.reads readsL) (borCtr rsumG)).add 27 (.reads readsL) (borCtr mayG)).add 29 (.foot reads2) (freshCtr bytG)).add 28 (.reads readsL) (borCtr sameG)
theorem XFC_ok : CxOk Try.prog XFC := (((((XFB_ok.bor dec_ok).bor rdec_ok).bor rsum_ok).bor may_ok).fresh rbytes_ok).bor same_ok
theorem freshAt {G : List AV → Option (Bool × AV × St)} {args : List AV} {σ : St} {c : Bool} {u : AV} {σn : St} (h0 : ((reads2 args σ).all fun l => Nat.blt l σ.length) = true) (h1 : G (args.map (viewD σ)) = some (c, u, σn)) (h2 : newU u = true) :
    freshCtr G args σ = some (args.all (vokD σ) && c, reAV (shiftR σ.length) u, σ ++ σn.map (reB (shiftR σ.length))) := by
  unfold freshCtr
  simp only [h0, h1, h2]
theorem encG_yes {f : Fr} (h : f.may = true) : encG [f.av] = some (true, .t [.s 0 1 0 10, i64 0], [tabl eY f.bytes]) := by
  obtain ⟨a, b, c, d, e, g⟩ := f
  show andC true ((fun f : Fr => match f.may with
    | true => some (true, AV.t [.s 0 1 0 10, i64 0], [tabl eY f.bytes])
    | false => some (true, .t [.v (.slice none 0 0), i64 1], [])) ⟨a, b, c, d, e, g⟩) = _
  simp only [h]
  rfl
theorem encG_no {f : Fr} (h : f.may = false) : encG [f.av] = some (true, .t [.v (.slice none 0 0), i64 1], []) := by
  obtain ⟨a, b, c, d, e, g⟩ := f
  show andC true ((fun f : Fr => match f.may with
    | true => some (true, AV.t [.s 0 1 0 10, i64 0], [tabl eY f.bytes])
    | false => some (true, .t [.v (.slice none 0 0), i64 1], [])) ⟨a, b, c, d, e, g⟩) = _
  simp only [h]
  rfl
theorem encAt_yes {f : Fr} (h : f.may = true) {args : List AV} {σ : St} (h0 : ((reads2 args σ).all fun l => Nat.blt l σ.length) = true) (h1 : args.map (viewD σ) = [f.av]) :
    Prod.snd (26, freshCtr encG) args σ = some (args.all (vokD σ) && true, reAV (shiftR σ.length) (.t [.s 0 1 0 10, i64 0]), σ ++ [tabl eY f.bytes].map (reB (shiftR σ.length))) :=
  freshAt h0 (by rw [h1]; exact encG_yes h) rfl
theorem encAt_no {f : Fr} (h : f.may = false) {args : List AV} {σ : St} (h0 : ((reads2 args σ).all fun l => Nat.blt l σ.length) = true) (h1 : args.map (viewD σ) = [f.av]) :
    Prod.snd (26, freshCtr encG) args σ = some (args.all (vokD σ) && true, reAV (shiftR σ.length) (.t [.v (.slice none 0 0), i64 1]), σ ++ [].map (reB (shiftR σ.length))) :=
  freshAt h0 (by rw [h1]; exact encG_no h) rfl
theorem FrameCodes (us : List AV) (h : areArgs tt [40, 34] us) : runF XFC Try.f7 us [] (boo true) [] := by
  obtain ⟨_, _, rfl, hf, _, _, rfl, hs, rfl⟩ := h
  obtain ⟨l, rfl, hlen, hby⟩ := bytes_row hs
  obtain ⟨f, rfl⟩ := fr_arg hf
  clear hs hf
  have hrow := RowIs.row eY l
  have e0 : isRow eY l.length eY.sz (fun k => eY.enc (l.getD k eY.dflt)) = true := isRow_row eY hlen
  have hbk : bytesOk l = true := by
    simp only [bytesOk, List.all_eq_true, Bool.and_eq_true, decide_eq_true_eq]
    exact fun n hn => by have := hby n hn; omega
  unfold runF
  (conv => arg 1; whnf); (repeat' (first | (refine brt (by assumption) ?_; (conv => arg 1; whnf)) | (refine brf (by assumption) ?_; (conv => arg 1; whnf)) | fail))
  refine br (fun h => ?_) (fun h => ?_)
  · (conv => arg 1; whnf); (repeat' (first | (refine brt (by assumption) ?_; (conv => arg 1; whnf)) | (refine brf (by assumption) ?_; (conv => arg 1; whnf)) | fail))
    exact finB rfl
  · have h300 := of_decide_eq_false h
    (conv => arg 1; whnf); (repeat' (first | (refine brt (by assumption) ?_; (conv => arg 1; whnf)) | (refine brf (by assumption) ?_; (conv => arg 1; whnf)) | fail))
    have f2 : ((0 + 0).ble 0 && (true && (0 + l.length).ble 4294967295)) = true := by simp [Nat.ble_eq]; omega
    (conv => arg 1; whnf); (repeat' (first | (refine brt (by assumption) ?_; (conv => arg 1; whnf)) | (refine brf (by assumption) ?_; (conv => arg 1; whnf)) | fail))
    obtain ⟨p, hp⟩ : ∃ p, p = decL l := ⟨_, rfl⟩
    obtain ⟨⟨x1, x2, x3, x4, x5, x6⟩, xe⟩ := p
    (refine brt ?_ ?_; (focus (refine and2 (bor1 rfl (by omega)) (and2 ?_ (rowT (e := eY) (l := [] ++ l) (RowIs.all eY (RowIs.joined eY (RowIs.nil eY _) hrow)) (by rw [List.nil_append]; omega))); rw [RowIs.rows (l := [] ++ l) eY (RowIs.all eY (RowIs.joined eY (RowIs.nil eY _) hrow))]; exact hbk; done)); (conv => arg 1; whnf))
    rw [RowIs.rows (l := [] ++ l) eY (RowIs.all eY (RowIs.joined eY (RowIs.nil eY _) hrow)), show decL ([] ++ l) = _ from hp.symm]
    (conv => arg 1; whnf); (repeat' (first | (refine brt (by assumption) ?_; (conv => arg 1; whnf)) | (refine brf (by assumption) ?_; (conv => arg 1; whnf)) | fail))
    (refine brt ?_ ?_; (focus (refine and2 rfl (and2 ?_ e0); rw [rows_row eY l]; exact hbk; done)); (conv => arg 1; whnf))
    rw [rows_row eY l, ← hp]
    have s1 : (!(decide (x1 = x1) && (decide (x2 = x2) && (decide (x3 = x3) && (decide (x4 = x4) && (decide (x5 = x5) && decide (x6 = x6))))))) = false := by simp
    have s2 : (!decide (xe = xe)) = false := by simp
    have s3 : (!decide (crc l = crc l)) = false := by simp
    (conv => arg 1; whnf); (repeat' (first | (refine brt (by assumption) ?_; (conv => arg 1; whnf)) | (refine brf (by assumption) ?_; (conv => arg 1; whnf)) | fail))
    (refine brt ?_ ?_; (focus (refine and2 rfl (and2 ?_ e0); rw [rows_row eY l]; exact hbk; done)); (conv => arg 1; whnf))
    rw [rows_row eY l]
    (conv => arg 1; whnf); (repeat' (first | (refine brt (by assumption) ?_; (conv => arg 1; whnf)) | (refine brf (by assumption) ?_; (conv => arg 1; whnf)) | fail))
    by_cases hm : f.may = true
    · have m1 : (!f.may) = false := by rw [hm]; rfl
      have hb := bytesOk_bytes hm
      conv in (Prod.snd (26, freshCtr encG) _ _) =>
        tactic => refine encAt_yes hm ?_ ?_ <;> rfl
      (conv => arg 1; whnf); (repeat' (first | (refine brt (by assumption) ?_; (conv => arg 1; whnf)) | (refine brf (by assumption) ?_; (conv => arg 1; whnf)) | fail))
      (refine brt ?_ ?_; (focus (exact and2 rfl (and2 hb rfl); done)); (conv => arg 1; whnf))
      rw [show (rows eY 10 fun k => (fun k => eY.enc (f.bytes.getD k eY.dflt)) (0 + k)) = f.bytes from rfl, dec_bytes hm]
      (conv => arg 1; whnf); (repeat' (first | (refine brt (by assumption) ?_; (conv => arg 1; whnf)) | (refine brf (by assumption) ?_; (conv => arg 1; whnf)) | fail))
      (refine brt ?_ ?_; (focus (exact and2 rfl (and2 hm rfl); done)); (conv => arg 1; whnf))
      (conv => arg 1; whnf); (repeat' (first | (refine brt (by assumption) ?_; (conv => arg 1; whnf)) | (refine brf (by assumption) ?_; (conv => arg 1; whnf)) | fail))
      (refine brt ?_ ?_; (focus (exact and2 rfl (and2 (and2 (and2 hb hb) rfl) rfl); done)); (conv => arg 1; whnf))
      have g1 : decide (f.bytes = f.bytes) = true := by simp
      have g2 : (decide (f.ki = f.ki) && (decide (f.ca = f.ca) && (decide (f.sq = f.sq) && (decide (f.a = f.a) && (decide (f.b = f.b) && decide (f.c = f.c)))))) = true := by simp
      (conv => arg 1; whnf); (repeat' (first | (refine brt (by assumption) ?_; (conv => arg 1; whnf)) | (refine brf (by assumption) ?_; (conv => arg 1; whnf)) | fail))
      exact finB g2.symm
    · have m1 : (!f.may) = true := by simpa using hm
      conv in (Prod.snd (26, freshCtr encG) _ _) =>
        tactic => refine encAt_no (by simpa using hm) ?_ ?_ <;> rfl
      (conv => arg 1; whnf); (repeat' (first | (refine brt (by assumption) ?_; (conv => arg 1; whnf)) | (refine brf (by assumption) ?_; (conv => arg 1; whnf)) | fail))
      exact finB rfl
end Go.Proofs.Ytaneamfnjhiigaa.E
