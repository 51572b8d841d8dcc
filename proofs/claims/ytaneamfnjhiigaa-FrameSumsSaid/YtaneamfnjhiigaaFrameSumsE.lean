/- The law FrameSums, by the engine. -/
import Derived.Test.YtaneamfnjhiigaaFrameLawsE
namespace Go.Proofs.Ytaneamfnjhiigaa.E
open Go
set_option linter.unusedSimpArgs false
set_option linter.unusedVariables false
set_option maxRecDepth 100000
set_option maxHeartbeats 4000000
def XFS : Cx := XFB.join 200012
theorem XFS_ok : CxOk Try.prog XFS := XFB_ok.join 200012 rfl
theorem FrameSums (us : List AV) (h : areArgs tt [34, 3, 35] us) : runF XFS Try.f6 us [] (boo true) [] := by
  obtain ⟨_, _, rfl, hs, _, _, rfl, ha, _, _, rfl, hb, rfl⟩ := h
  obtain ⟨l, rfl, hlen, hby⟩ := bytes_row hs
  obtain ⟨at0, rfl, ha1, ha2⟩ := int_arg ha
  obtain ⟨bu, rfl, hb1, hb2⟩ := u16_arg hb
  clear hs ha hb
  have hrow := RowIs.row eY l
  have e0 : isRow eY l.length eY.sz (fun k => eY.enc (l.getD k eY.dflt)) = true := isRow_row eY hlen
  unfold runF
  (conv => arg 1; whnf); (repeat' (first | (refine brt (by assumption) ?_; (conv => arg 1; whnf)) | (refine brf (by assumption) ?_; (conv => arg 1; whnf)) | fail))
  refine br (fun h => ?_) (fun h => ?_)
  · (conv => arg 1; whnf); (repeat' (first | (refine brt (by assumption) ?_; (conv => arg 1; whnf)) | (refine brf (by assumption) ?_; (conv => arg 1; whnf)) | fail))
    exact finB rfl
  · have h300 := of_decide_eq_false h
    have hc := crc_bd l
    have f1 : decide (65535 < crc l) = false := decide_eq_false (by omega)
    have hp := pairL_eq (crc l) (by omega) (by omega)
    (conv => arg 1; whnf); (repeat' (first | (refine brt (by assumption) ?_; (conv => arg 1; whnf)) | (refine brf (by assumption) ?_; (conv => arg 1; whnf)) | fail))
    rw [rows_row eY l]
    have f2 : ((0 + 0).ble 0 && (true && (0 + l.length).ble 4294967295)) = true := by simp [Nat.ble_eq]; omega
    (conv => arg 1; whnf); (repeat' (first | (refine brt (by assumption) ?_; (conv => arg 1; whnf)) | (refine brf (by assumption) ?_; (conv => arg 1; whnf)) | fail))
    (refine brt ?_ ?_; (focus (simp [Nat.ble_eq]; omega; done)); (conv => arg 1; whnf))
    (conv => arg 1; whnf); (repeat' (first | (refine brt (by assumption) ?_; (conv => arg 1; whnf)) | (refine brf (by assumption) ?_; (conv => arg 1; whnf)) | fail))
    (refine brt ?_ ?_; (focus (refine and2 (bor1 rfl (by omega)) (and2 rfl (rowT (e := eY) (l := ([] ++ l) ++ pairL (crc l)) (RowIs.all eY (RowIs.joined eY (RowIs.all eY (RowIs.joined eY (RowIs.nil eY _) hrow)) (RowIs.all eY (row2 rfl rfl)))) ?_)); rw [hp]; simp; omega; done)); (conv => arg 1; whnf))
    (conv => arg 1; whnf); (repeat' (first | (refine brt (by assumption) ?_; (conv => arg 1; whnf)) | (refine brf (by assumption) ?_; (conv => arg 1; whnf)) | fail))
    rw [RowIs.rows (l := ([] ++ l) ++ pairL (crc l)) eY (RowIs.all eY (RowIs.joined eY (RowIs.all eY (RowIs.joined eY (RowIs.nil eY _) hrow)) (RowIs.all eY (row2 rfl rfl))))]
    rw [List.nil_append, hp, crc_zero]
    (conv => arg 1; whnf); (repeat' (first | (refine brt (by assumption) ?_; (conv => arg 1; whnf)) | (refine brf (by assumption) ?_; (conv => arg 1; whnf)) | fail))
    refine br (fun h2 => ?_) (fun h2 => ?_)
    · (conv => arg 1; whnf); (repeat' (first | (refine brt (by assumption) ?_; (conv => arg 1; whnf)) | (refine brf (by assumption) ?_; (conv => arg 1; whnf)) | fail))
      exact finB rfl
    have h2 := of_decide_eq_false h2
    (conv => arg 1; whnf); (repeat' (first | (refine brt (by assumption) ?_; (conv => arg 1; whnf)) | (refine brf (by assumption) ?_; (conv => arg 1; whnf)) | fail))
    refine br (fun h3 => ?_) (fun h3 => ?_)
    · (conv => arg 1; whnf); (repeat' (first | (refine brt (by assumption) ?_; (conv => arg 1; whnf)) | (refine brf (by assumption) ?_; (conv => arg 1; whnf)) | fail))
      exact finB rfl
    have h3 := of_decide_eq_false h3
    have f3 : (!decide (IntKind.i64.wrap ((l.length : Int) - 1) = 0)) = true := by rw [wf64 _ (by omega) (by omega)]; simp; omega
    obtain ⟨k, hk1, hk⟩ : ∃ k : Nat, k + 1 < l.length ∧ (bits BinOp.and IntKind.i64 at0 65535).tmod (IntKind.i64.wrap ((l.length : Int) - 1)) = (k : Int) := by
      rw [and65535, wf64 _ (by omega) (by omega)]
      have g0 := Int.tmod_nonneg ((l.length : Int) - 1) (show 0 ≤ at0 % 65536 by omega)
      have g1 := Int.tmod_lt_of_pos (at0 % 65536) (show 0 < (l.length : Int) - 1 by omega)
      exact ⟨((at0 % 65536).tmod ((l.length : Int) - 1)).toNat, by omega, by omega⟩
    (conv => arg 1; whnf); (repeat' (first | (refine brt (by assumption) ?_; (conv => arg 1; whnf)) | (refine brf (by assumption) ?_; (conv => arg 1; whnf)) | fail))
    rw [hk, joined_zero]
    have f4 : (decide (0 ≤ (k : Int)) && decide ((k : Int) < ((0 + l.length : Nat) : Int))) = true := by simp; omega
    have f5 : decide (0 + (k : Int).toNat < 0 + l.length) = true := decide_eq_true (by omega)
    have w1 : IntKind.i64.wrap ((k : Int) + 1) = ((k + 1 : Nat) : Int) := nxt k (by omega)
    have f6 : (decide (0 ≤ IntKind.i64.wrap ((k : Int) + 1)) && decide (IntKind.i64.wrap ((k : Int) + 1) < ((0 + l.length : Nat) : Int))) = true := by rw [w1]; simp; omega
    have f7 : decide (0 + (IntKind.i64.wrap ((k : Int) + 1)).toNat < 0 + l.length) = true := by rw [w1]; exact decide_eq_true (by omega)
    (conv => arg 1; whnf); (repeat' (first | (refine brt (by assumption) ?_; (conv => arg 1; whnf)) | (refine brf (by assumption) ?_; (conv => arg 1; whnf)) | fail))
    have hget : ∀ j, 0 ≤ l.getD j 0 ∧ l.getD j 0 < 256 := fun j => by
      rw [List.getD_eq_getElem?_getD]
      rcases Nat.lt_or_ge j l.length with hj | hj
      · rw [List.getElem?_eq_getElem hj]
        have := hby _ (List.getElem_mem hj)
        simp only [Option.getD_some]
        omega
      · rw [List.getElem?_eq_none hj]; decide
    obtain ⟨v1, hv1⟩ : ∃ v1, v1 = bits .xor .u8 (l.getD k 0) (IntKind.u8.wrap (bu.fdiv (2 ^ min (Int.toNat 8) IntKind.u16.bits))) := ⟨_, rfl⟩
    obtain ⟨v2, hv2⟩ : ∃ v2, v2 = bits .xor .u8 (l.getD (k + 1) 0) (IntKind.u8.wrap bu) := ⟨_, rfl⟩
    refine joinIn (fun _ : Unit => True) (fun _ => frm 75 [(2, au16 bu), (7, i64 (crc l)), (8, .s 0 1 0 l.length), (9, i64 k)]) (fun _ => [tabl eY (l.set k v1)]) ?_ (fun _ _ => ?_)
    · (conv => arg 1; whnf); (repeat' (first | (refine brt (by assumption) ?_; (conv => arg 1; whnf)) | (refine brf (by assumption) ?_; (conv => arg 1; whnf)) | fail))
      refine joinTo () [5] trivial (by decide) ?_ ⟨⟨_, rfl, ?_⟩, trivial⟩ rfl
      · repeat' (first | exact True.intro | exact Fit.dead _ | exact Fit.v _ | refine And.intro ?_ ?_)
        show Fit [5] _ (.s 0 1 0 l.length) (.s 5 1 0 (0 + l.length))
        rw [Nat.zero_add]
        exact .s rfl
      · rw [hv1]
        refine fit_tab (n := 0 + l.length) ?_
        rw [Nat.zero_add]
        exact RowIs.put eY (RowIs.row eY l) (by omega) (by omega) (by rw [show 0 + (k : Int).toNat = k by omega]; rfl)
    · have hs2 : (l.set k v1).getD (k + 1) 0 = l.getD (k + 1) 0 := by
        rw [List.getD_eq_getElem?_getD, List.getD_eq_getElem?_getD, List.getElem?_set_ne (by omega)]
      have g1 : (decide (0 ≤ ((k + 1 : Nat) : Int)) && decide (((k + 1 : Nat) : Int) < (l.length : Int))) = true := by simp; omega
      have g2 : decide (0 + (((k + 1 : Nat) : Int)).toNat < (l.set k v1).length) = true := by rw [List.length_set]; exact decide_eq_true (by omega)
      have hr2 : RowIs eY l.length (fun k' => if k' = 0 + (((k + 1 : Nat) : Int)).toNat then putCells (eY.enc ((l.set k v1).getD k' 0)) 0 [u8 (bits .xor .u8 ((l.set k v1).getD (0 + (((k + 1 : Nat) : Int)).toNat) 0) (IntKind.u8.wrap bu))] else eY.enc ((l.set k v1).getD k' 0)) ((l.set k v1).set (k + 1) v2) := by
        have e1 : l.length = (l.set k v1).length := List.length_set.symm
        rw [e1]
        refine RowIs.put eY (RowIs.row eY (l.set k v1)) (by omega) (by rw [List.length_set]; omega) ?_
        rw [show 0 + (((k + 1 : Nat) : Int)).toNat = k + 1 by omega, hs2, hv2]; rfl
      (conv => arg 1; whnf)
      rw [w1]
      (conv => arg 1; whnf); (repeat' (first | (refine brt (by assumption) ?_; (conv => arg 1; whnf)) | (refine brf (by assumption) ?_; (conv => arg 1; whnf)) | fail))
      (refine brt ?_ ?_; (focus (refine and2 (bor1 rfl (by rw [List.length_set]; omega)) (and2 rfl (rowT (e := eY) (l := (l.set k v1).set (k + 1) v2) (RowIs.all eY hr2) ?_)); rw [List.length_set, List.length_set]; omega; done)); (conv => arg 1; whnf))
      (conv => arg 1; whnf); (repeat' (first | (refine brt (by assumption) ?_; (conv => arg 1; whnf)) | (refine brf (by assumption) ?_; (conv => arg 1; whnf)) | fail))
      refine finB ?_
      have e9 := RowIs.rows eY (RowIs.all eY hr2)
      refine Eq.trans ?_ (congrArg (fun z => !decide (crc z = crc l)) e9.symm)
      have c1 := hget k
      have c2 := hget (k + 1)
      have hb3 : ¬ bu = 0 := h3
      have hi0 : (bu.fdiv (2 ^ min (Int.toNat 8) IntKind.u16.bits)) = bu / 256 := by
        rw [show (2 : Int) ^ min (Int.toNat 8) IntKind.u16.bits = 256 by decide, Int.fdiv_eq_ediv_of_nonneg _ (by decide)]
      have hi1 : IntKind.u8.wrap (bu.fdiv (2 ^ min (Int.toNat 8) IntKind.u16.bits)) = bu / 256 := by rw [hi0, u8_wrap]; omega
      have lo1 : IntKind.u8.wrap bu = bu % 256 := u8_wrap bu
      rw [hi1] at hv1
      rw [lo1] at hv2
      obtain ⟨x1, x2⟩ := xor8 c1.1 c1.2 (show 0 ≤ bu / 256 by omega) (by omega)
      obtain ⟨y1, y2⟩ := xor8 c2.1 c2.2 (show 0 ≤ bu % 256 by omega) (by omega)
      have hlist : l = l.take k ++ l.getD k 0 :: l.getD (k + 1) 0 :: l.drop (k + 2) := by
        rw [List.getD_eq_getElem?_getD, List.getD_eq_getElem?_getD, List.getElem?_eq_getElem (by omega), List.getElem?_eq_getElem (by omega)]
        simp only [Option.getD_some]
        rw [← List.drop_eq_getElem_cons, ← List.drop_eq_getElem_cons, List.take_append_drop]
      have hset : (l.set k v1).set (k + 1) v2 = l.take k ++ v1 :: v2 :: l.drop (k + 2) := by
        conv => lhs; rw [hlist]
        have hk : (l.take k).length = k := by rw [List.length_take]; omega
        rw [List.set_append, if_neg (by omega), hk, Nat.sub_self, List.set_cons_zero, List.set_append, if_neg (by omega), hk, show k + 1 - k = 1 by omega]
        rfl
      have := crc_burst (l.take k) (l.drop (k + 2)) (l.getD k 0) (l.getD (k + 1) 0) v1 v2 c2 (by rw [hv2, y1]; omega) c1 (by rw [hv1, x1]; omega) (by
        by_cases hz : bu / 256 = 0
        · right
          intro he
          have := xor8_ne c2.1 c2.2 (show 0 ≤ bu % 256 by omega) (by omega) (by rw [← hv2]; exact he.symm)
          omega
        · left
          intro he
          exact hz (xor8_ne c1.1 c1.2 (show 0 ≤ bu / 256 by omega) (by omega) (by rw [← hv1]; exact he.symm)))
      rw [← hlist, ← hset] at this
      simp [this]
end Go.Proofs.Ytaneamfnjhiigaa.E
