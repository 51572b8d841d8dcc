/- The law FrameTurned, by the engine. -/
import Derived.Test.YtaneamfnjhiigaaFrameCodesE
namespace Go.Proofs.Ytaneamfnjhiigaa.E
open Go
set_option linter.unusedSimpArgs false
set_option linter.unusedVariables false
set_option maxRecDepth 100000
set_option maxHeartbeats 4000000
theorem bytes_inj {f g : Fr} (hf : f.may = true) (hg : g.may = true) (h : f.bytes = g.bytes) : f = g := by
  have := dec_bytes hf
  rw [h, dec_bytes hg] at this
  exact (Prod.mk.inj this).1.symm
theorem dec_flip {f : Fr} (hm : f.may = true) {i : Nat} {v : Int} (hi : i < 10) (hv : 0 ≤ v ∧ v < 256) (hne : v ≠ f.bytes.getD i 0) : (decL (f.bytes.set i v)).2 ≠ 0 := by
  have hb := Fr.may_bd hm
  have hcb := crc_bd f.body
  by_cases h0 : i = 0
  · subst h0
    have hne : v ≠ 165 := hne
    unfold decL
    rw [if_pos (.inr (show v ≠ 165 from hne))]
    decide
  · have key : [(f.bytes.set i v).getD 8 0, (f.bytes.set i v).getD 9 0] ≠ pairL (crc ((f.bytes.set i v).take 8)) := by
      intro e
      have hcb2 := crc_bd ((f.bytes.set i v).take 8)
      rw [pairL_eq _ hcb2.1 hcb2.2, List.cons.injEq, List.cons.injEq] at e
      obtain ⟨e1, e2, _⟩ := e
      have hc : i = 8 ∨ i = 9 ∨ i = 1 ∨ i = 2 ∨ i = 3 ∨ i = 4 ∨ i = 5 ∨ i = 6 ∨ i = 7 := by omega
      rcases hc with rfl | rfl | rfl | rfl | rfl | rfl | rfl | rfl | rfl
      · have e1 : v = crc f.body / 256 := e1
        exact hne e1
      · have e2 : v = crc f.body % 256 := e2
        exact hne e2
      · have e1 : crc f.body / 256 = crc [165, v, f.ca, f.sq / 256, f.sq % 256, f.a, f.b, f.c] / 256 := e1
        have e2 : crc f.body % 256 = crc [165, v, f.ca, f.sq / 256, f.sq % 256, f.a, f.b, f.c] % 256 := e2
        exact crc_burst [] [f.ca, f.sq / 256, f.sq % 256, f.a, f.b, f.c] 165 f.ki 165 v (by omega) hv (by omega) (by omega) (.inr hne.symm) (show crc [165, v, f.ca, f.sq / 256, f.sq % 256, f.a, f.b, f.c] = crc f.body by omega)
      · have e1 : crc f.body / 256 = crc [165, f.ki, v, f.sq / 256, f.sq % 256, f.a, f.b, f.c] / 256 := e1
        have e2 : crc f.body % 256 = crc [165, f.ki, v, f.sq / 256, f.sq % 256, f.a, f.b, f.c] % 256 := e2
        exact crc_burst [165] [f.sq / 256, f.sq % 256, f.a, f.b, f.c] (f.ki) (f.ca) (f.ki) v (by omega) hv (by omega) (by omega) (.inr hne.symm) (show crc [165, f.ki, v, f.sq / 256, f.sq % 256, f.a, f.b, f.c] = crc f.body by omega)
      · have e1 : crc f.body / 256 = crc [165, f.ki, f.ca, v, f.sq % 256, f.a, f.b, f.c] / 256 := e1
        have e2 : crc f.body % 256 = crc [165, f.ki, f.ca, v, f.sq % 256, f.a, f.b, f.c] % 256 := e2
        exact crc_burst [165, f.ki] [f.sq % 256, f.a, f.b, f.c] (f.ca) (f.sq / 256) (f.ca) v (by omega) hv (by omega) (by omega) (.inr hne.symm) (show crc [165, f.ki, f.ca, v, f.sq % 256, f.a, f.b, f.c] = crc f.body by omega)
      · have e1 : crc f.body / 256 = crc [165, f.ki, f.ca, f.sq / 256, v, f.a, f.b, f.c] / 256 := e1
        have e2 : crc f.body % 256 = crc [165, f.ki, f.ca, f.sq / 256, v, f.a, f.b, f.c] % 256 := e2
        exact crc_burst [165, f.ki, f.ca] [f.a, f.b, f.c] (f.sq / 256) (f.sq % 256) (f.sq / 256) v (by omega) hv (by omega) (by omega) (.inr hne.symm) (show crc [165, f.ki, f.ca, f.sq / 256, v, f.a, f.b, f.c] = crc f.body by omega)
      · have e1 : crc f.body / 256 = crc [165, f.ki, f.ca, f.sq / 256, f.sq % 256, v, f.b, f.c] / 256 := e1
        have e2 : crc f.body % 256 = crc [165, f.ki, f.ca, f.sq / 256, f.sq % 256, v, f.b, f.c] % 256 := e2
        exact crc_burst [165, f.ki, f.ca, f.sq / 256] [f.b, f.c] (f.sq % 256) (f.a) (f.sq % 256) v (by omega) hv (by omega) (by omega) (.inr hne.symm) (show crc [165, f.ki, f.ca, f.sq / 256, f.sq % 256, v, f.b, f.c] = crc f.body by omega)
      · have e1 : crc f.body / 256 = crc [165, f.ki, f.ca, f.sq / 256, f.sq % 256, f.a, v, f.c] / 256 := e1
        have e2 : crc f.body % 256 = crc [165, f.ki, f.ca, f.sq / 256, f.sq % 256, f.a, v, f.c] % 256 := e2
        exact crc_burst [165, f.ki, f.ca, f.sq / 256, f.sq % 256] [f.c] (f.a) (f.b) (f.a) v (by omega) hv (by omega) (by omega) (.inr hne.symm) (show crc [165, f.ki, f.ca, f.sq / 256, f.sq % 256, f.a, v, f.c] = crc f.body by omega)
      · have e1 : crc f.body / 256 = crc [165, f.ki, f.ca, f.sq / 256, f.sq % 256, f.a, f.b, v] / 256 := e1
        have e2 : crc f.body % 256 = crc [165, f.ki, f.ca, f.sq / 256, f.sq % 256, f.a, f.b, v] % 256 := e2
        exact crc_burst [165, f.ki, f.ca, f.sq / 256, f.sq % 256, f.a] [] (f.b) (f.c) (f.b) v (by omega) hv (by omega) (by omega) (.inr hne.symm) (show crc [165, f.ki, f.ca, f.sq / 256, f.sq % 256, f.a, f.b, v] = crc f.body by omega)
    unfold decL
    split
    · decide
    · simp [key]
theorem FrameTurned (us : List AV) (h : areArgs tt [40, 40, 3] us) : runF XFC Try.f8 us [] (boo true) [] := by
  obtain ⟨_, _, rfl, hf, _, _, rfl, hg, _, _, rfl, ha, rfl⟩ := h
  obtain ⟨f, rfl⟩ := fr_arg hf
  obtain ⟨g, rfl⟩ := fr_arg hg
  obtain ⟨at0, rfl, ha1, ha2⟩ := int_arg ha
  clear hf hg ha
  unfold runF
  by_cases hm : f.may = true
  · have m1 : (!f.may) = false := by rw [hm]; rfl
    by_cases hn : g.may = true
    · have n1 : (!g.may) = false := by rw [hn]; rfl
      have hb := bytesOk_bytes hm
      have hb' := bytesOk_bytes hn
      (conv => arg 1; whnf); (repeat' (first | (refine brt (by assumption) ?_; (conv => arg 1; whnf)) | (refine brf (by assumption) ?_; (conv => arg 1; whnf)) | fail))
      conv in (Prod.snd (26, freshCtr encG) _ _) =>
        tactic => refine encAt_yes hm ?_ ?_ <;> rfl
      (conv => arg 1; whnf); (repeat' (first | (refine brt (by assumption) ?_; (conv => arg 1; whnf)) | (refine brf (by assumption) ?_; (conv => arg 1; whnf)) | fail))
      conv in (Prod.snd (26, freshCtr encG) _ _) =>
        tactic => refine encAt_yes hn ?_ ?_ <;> rfl
      (conv => arg 1; whnf); (repeat' (first | (refine brt (by assumption) ?_; (conv => arg 1; whnf)) | (refine brf (by assumption) ?_; (conv => arg 1; whnf)) | fail))
      (refine brt ?_ ?_; (focus (exact and2 rfl (and2 (and2 (and2 hb hb') rfl) rfl); done)); (conv => arg 1; whnf))
      have hq : decide (f.bytes = g.bytes) = (decide (f.ki = g.ki) && (decide (f.ca = g.ca) && (decide (f.sq = g.sq) && (decide (f.a = g.a) && (decide (f.b = g.b) && decide (f.c = g.c)))))) := by
        rw [Bool.eq_iff_iff]
        simp only [decide_eq_true_eq, Bool.and_eq_true]
        constructor
        · intro e
          rw [bytes_inj hm hn e]
          simp
        · rintro ⟨e1, e2, e3, e4, e5, e6⟩
          obtain ⟨a, b, c, d, e, o⟩ := f
          obtain ⟨a', b', c', d', e', o'⟩ := g
          simp only at e1 e2 e3 e4 e5 e6
          subst e1 e2 e3 e4 e5 e6
          rfl
      have q1 : (!(decide (f.bytes = g.bytes) == (decide (f.ki = g.ki) && (decide (f.ca = g.ca) && (decide (f.sq = g.sq) && (decide (f.a = g.a) && (decide (f.b = g.b) && decide (f.c = g.c)))))))) = false := by rw [hq]; simp
      (conv => arg 1; whnf); (repeat' (first | (refine brt (by assumption) ?_; (conv => arg 1; whnf)) | (refine brf (by assumption) ?_; (conv => arg 1; whnf)) | fail))
      obtain ⟨k, hk1, hk⟩ : ∃ k : Nat, k < 80 ∧ (bits BinOp.and IntKind.i64 at0 65535).tmod (IntKind.i64.wrap (8 * ((10 : Nat) : Int))) = (k : Int) := by
        rw [and65535, show IntKind.i64.wrap (8 * ((10 : Nat) : Int)) = 80 from by decide]
        have g0 := Int.tmod_nonneg 80 (show 0 ≤ at0 % 65536 by omega)
        have g1 := Int.tmod_lt_of_pos (at0 % 65536) (show (0 : Int) < 80 by omega)
        exact ⟨((at0 % 65536).tmod 80).toNat, by omega, by omega⟩
      have hi : IntKind.i64.wrap ((k : Int).tdiv 8) = ((k / 8 : Nat) : Int) := by
        rw [Int.tdiv_eq_ediv_of_nonneg (by omega), wf64 _ (by omega) (by omega)]; omega
      have hs : (k : Int).tmod 8 = ((k % 8 : Nat) : Int) := by
        rw [Int.tmod_eq_emod_of_nonneg (by omega)]; omega
      rw [hk, hi]
      have f4 : (decide (0 ≤ ((k / 8 : Nat) : Int)) && decide (((k / 8 : Nat) : Int) < ((10 : Nat) : Int))) = true := by simp; omega
      have f5 : decide (0 + (((k / 8 : Nat) : Int)).toNat < 10) = true := decide_eq_true (by omega)
      have f6 : decide (0 ≤ (k : Int).tmod 8) = true := decide_eq_true (by omega)
      (conv => arg 1; whnf); (repeat' (first | (refine brt (by assumption) ?_; (conv => arg 1; whnf)) | (refine brf (by assumption) ?_; (conv => arg 1; whnf)) | fail))
      obtain ⟨v, hv⟩ : ∃ v, v = bits .xor .u8 (f.bytes.getD (k / 8) 0) (IntKind.u8.wrap (1 * 2 ^ min (((k : Int).tmod 8)).toNat IntKind.u8.bits)) := ⟨_, rfl⟩
      have hr : RowIs eY 10 (fun j => if j = 0 + (((k / 8 : Nat) : Int)).toNat then putCells (eY.enc (f.bytes.getD j 0)) 0 [u8 (bits .xor .u8 (f.bytes.getD (0 + (((k / 8 : Nat) : Int)).toNat) 0) (IntKind.u8.wrap (1 * 2 ^ min (((k : Int).tmod 8)).toNat IntKind.u8.bits)))] else eY.enc (f.bytes.getD j 0)) (f.bytes.set (k / 8) v) := by
        refine RowIs.put eY (RowIs.row eY f.bytes) (by omega) (show k / 8 < 10 by omega) ?_
        rw [show 0 + (((k / 8 : Nat) : Int)).toNat = k / 8 by omega, hv]; rfl
      have hold : ∀ j, j < 10 → 0 ≤ f.bytes.getD j 0 ∧ f.bytes.getD j 0 < 256 := fun j hj => by
        have h1 : j < f.bytes.length := hj
        rw [List.getD_eq_getElem?_getD, List.getElem?_eq_getElem h1]
        simp only [bytesOk, List.all_eq_true, Bool.and_eq_true, decide_eq_true_eq] at hb
        exact hb _ (List.getElem_mem h1)
      have hpow : 0 < IntKind.u8.wrap (1 * 2 ^ min (((k : Int).tmod 8)).toNat IntKind.u8.bits) ∧ IntKind.u8.wrap (1 * 2 ^ min (((k : Int).tmod 8)).toNat IntKind.u8.bits) < 256 := by
        rw [hs]
        have : k % 8 < 8 := Nat.mod_lt _ (by omega)
        generalize k % 8 = s at this ⊢
        match s, this with
        | 0, _ => decide
        | 1, _ => decide
        | 2, _ => decide
        | 3, _ => decide
        | 4, _ => decide
        | 5, _ => decide
        | 6, _ => decide
        | 7, _ => decide
      have ho := hold (k / 8) (by omega)
      obtain ⟨x1, x2⟩ := xor8 ho.1 ho.2 (Int.le_of_lt hpow.1) hpow.2
      have hne : v ≠ f.bytes.getD (k / 8) 0 := fun e => by
        have := xor8_ne ho.1 ho.2 (Int.le_of_lt hpow.1) hpow.2 (by rw [← hv]; exact e)
        omega
      have hvb : 0 ≤ v ∧ v < 256 := by rw [hv, x1]; omega
      have hfl := dec_flip hm (show k / 8 < 10 by omega) hvb hne
      have hbok : bytesOk (f.bytes.set (k / 8) v) = true := by
        simp only [bytesOk, List.all_eq_true, Bool.and_eq_true, decide_eq_true_eq] at hb ⊢
        intro x hx
        rcases List.mem_or_eq_of_mem_set hx with h | h
        · exact hb x h
        · rw [h]; exact hvb
      (refine brt ?_ ?_; (focus (exact and2 rfl (and2 ((congrArg bytesOk (RowIs.rows eY (RowIs.all eY hr))).trans hbok) (rowT (e := eY) (RowIs.all eY hr) (by rw [List.length_set]; exact (by decide : 10 < 281474976710656)))); done)); (conv => arg 1; whnf))
      (conv => arg 1; whnf); (repeat' (first | (refine brt (by assumption) ?_; (conv => arg 1; whnf)) | (refine brf (by assumption) ?_; (conv => arg 1; whnf)) | fail))
      refine finB ?_
      refine Eq.trans ?_ (congrArg (fun z => !decide ((decL z).2 = 0)) (RowIs.rows eY (RowIs.all eY hr)).symm)
      simp [hfl]
    · have n1 : (!g.may) = true := by simpa using hn
      (conv => arg 1; whnf); (repeat' (first | (refine brt (by assumption) ?_; (conv => arg 1; whnf)) | (refine brf (by assumption) ?_; (conv => arg 1; whnf)) | fail))
      exact finB rfl
  · have m1 : (!f.may) = true := by simpa using hm
    (conv => arg 1; whnf); (repeat' (first | (refine brt (by assumption) ?_; (conv => arg 1; whnf)) | (refine brf (by assumption) ?_; (conv => arg 1; whnf)) | fail))
    exact finB rfl
end Go.Proofs.Ytaneamfnjhiigaa.E
