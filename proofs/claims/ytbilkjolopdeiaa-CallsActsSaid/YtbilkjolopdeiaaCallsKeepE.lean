/- The law CallsKeep, by the engine. -/
import Derived.Test.YtbilkjolopdeiaaCallsTwiceE
namespace Go.Proofs.Ytbilkjolopdeiaa.E
open Go NumMath
set_option linter.unusedSimpArgs false
set_option linter.unusedVariables false
set_option maxRecDepth 100000
set_option maxHeartbeats 8000000
/-- What is done with a book. -/
structure Act where
  wh : Int
  c : Call
  dn : Bool
def eAct : Elt Act := ⟨6, fun u => match u with | [.v (.int .i64 w), .v (.int .i64 a), .v (.int .i64 b), .v (.int .i64 c), .v (.bool d), .v (.bool e)] => some ⟨w, ⟨a, b, c, d⟩, e⟩ | _ => none, fun a => [i64 a.wh, i64 a.c.fl, i64 a.c.ca, i64 a.c.ag, boo a.c.up, boo a.dn], ⟨0, ⟨0, 0, 0, false⟩, false⟩, fun {u a} h => (by split at h <;> first | (obtain rfl := Option.some.inj h; rfl) | cases h), fun _ => rfl⟩
theorem acts_arg {u : AV} (h : isArg tt 55 u) : ∃ l : List Act, u = row eAct l ∧ l.length < 281474976710656 := by
  obtain ⟨m, g, e, hm, hg, hz⟩ := h
  obtain rfl := (List.cons.inj e).1
  obtain ⟨l, e, h1, _⟩ := row_eq eAct (m := m) (g := g) (p := fun _ => True) (fun k hk => by
    obtain ⟨_, _, e1, ⟨w, rfl, _⟩, _, _, rfl, ⟨_, _, rfl, ⟨a, rfl, _⟩, _, _, rfl, ⟨b, rfl, _⟩, _, _, rfl, ⟨c, rfl, _⟩, _, _, rfl, ⟨d, rfl⟩, rfl⟩, _, _, rfl, ⟨q, rfl⟩, rfl⟩ := hg k hk
    exact ⟨⟨w, ⟨a, b, c, d⟩, q⟩, e1, trivial⟩) hz (by have : m * 6 < 281474976710656 := hm; omega)
  exact ⟨l, e, h1⟩
/-! ### The plain law -/
/-- The calls of a book behind so many acts. -/
structure Fine (k : Nat) (L : List Call) : Prop where
  len : L.length ≤ 128
  old : L.Pairwise fun a b => b.ag ≤ a.ag
  age : ∀ x ∈ L, 0 ≤ x.ag ∧ x.ag ≤ k
theorem Fine.nil (k : Nat) : Fine k [] := ⟨by simp, List.Pairwise.nil, fun x h => by simp at h⟩
theorem Fine.more {k : Nat} {L : List Call} (h : Fine k L) : Fine (k + 1) L := ⟨h.len, h.old, fun x hx => ⟨(h.age x hx).1, by have := (h.age x hx).2; omega⟩⟩
theorem tickC_ag {x : Call} {k : Nat} (hk : k ≤ 1000) (h : 0 ≤ x.ag ∧ x.ag ≤ k) : (tickC x).ag = x.ag + 1 := by
  unfold tickC
  simp only
  rw [lim_id (a := x.ag) (by omega) (by omega), lim_id (a := 1) (by decide) (by decide), lim_id (by omega) (by omega)]
theorem Fine.tick {k : Nat} {L : List Call} (h : Fine k L) (hk : k ≤ 1000) : Fine (k + 1) (L.map tickC) := by
  refine ⟨by simpa using h.len, ?_, fun x hx => ?_⟩
  · rw [List.pairwise_map]
    refine (List.Pairwise.and_mem.1 h.old).imp fun {a b} hab => ?_
    rw [tickC_ag hk (h.age a hab.1), tickC_ag hk (h.age b hab.2.1)]
    have := hab.2.2
    omega
  · obtain ⟨y, hy, rfl⟩ := List.mem_map.1 hx
    rw [tickC_ag hk (h.age y hy)]
    have := h.age y hy
    omega
theorem Fine.filter {k : Nat} {L : List Call} (h : Fine k L) (p : Call → Bool) : Fine k (L.filter p) :=
  ⟨Nat.le_trans (List.length_filter_le _ _) h.len, h.old.filter p, fun x hx => h.age x (List.mem_filter.1 hx).1⟩
theorem Fine.press {k : Nat} {L : List Call} (h : Fine k L) (s : Site) (b : Int) (c : Call) : Fine k (pressL s L b c).2 := by
  rcases press_cases s L b c with ⟨_, e, _⟩ | ⟨_, _, e⟩ | ⟨_, _, hl, e⟩
  · rw [e]; exact h
  · rw [e]; exact h
  · rw [e]
    refine ⟨by simp; omega, ?_, fun x hx => ?_⟩
    · refine List.pairwise_append.2 ⟨h.old, List.pairwise_singleton _ _, fun a ha b hb => ?_⟩
      obtain rfl := List.mem_singleton.1 hb
      exact (h.age a ha).1
    · rcases List.mem_append.1 hx with hx | hx
      · exact h.age x hx
      · obtain rfl := List.mem_singleton.1 hx
        exact ⟨Int.le_refl 0, by show (0 : Int) ≤ k; omega⟩
/-- What was, what is served, what is: told by which are served, and by what came. -/
structure Parted (w : Int) (B F L : List Call) : Prop where
  ex : ∃ (p : Call → Bool) (e : List Call), F = B.filter p ∧ L = B.filter (fun c => !p c) ++ e ∧ e.length ≤ 1 ∧ (e ≠ [] → w = 0) ∧ ∀ x ∈ e, p x = false
theorem Parted.same (w : Int) (L : List Call) : Parted w L [] L := ⟨fun _ => false, [], by simp, by rw [List.append_nil]; exact (List.filter_eq_self.2 fun _ _ => rfl).symm, by simp, fun h => absurd rfl h, fun x h => by simp at h⟩
theorem Parted.press {s : Site} {b : Int} {c : Call} (L : List Call) : Parted 0 L [] (pressL s L b c).2 := by
  rcases press_cases s L b c with ⟨_, e, _⟩ | ⟨_, _, e⟩ | ⟨_, _, hl, e⟩
  · rw [e]; exact .same _ _
  · rw [e]; exact .same _ _
  · rw [e]; exact ⟨fun _ => false, [{ c with ag := 0 }], by simp, by rw [show (L.filter fun c => !(fun _ => false) c) = L from List.filter_eq_self.2 fun _ _ => rfl], by simp, fun _ => rfl, fun x h => rfl⟩
theorem Parted.serve (w : Int) (L : List Call) (p : Call → Bool) : Parted w L (L.filter p) (L.filter fun c => !p c) := ⟨p, [], rfl, by simp, by simp, fun h => absurd rfl h, fun x h => by simp at h⟩
/-- One call is another one. -/
def callEq (x y : Call) : Bool := decide (x.fl = y.fl) && (decide (x.ca = y.ca) && (decide (x.ag = y.ag) && decide (x.up = y.up)))
theorem callEq_iff (x y : Call) : callEq x y = true ↔ x = y := by
  obtain ⟨a, b, c, d⟩ := x
  obtain ⟨a', b', c', d'⟩ := y
  simp [callEq]
/-- Where the calls of what was are found: how many are there still, how many were served. -/
structure At (p : Call → Bool) (B F L : List Call) (j i o : Nat) : Prop where
  hj : j ≤ B.length
  hi : i = ((B.take j).filter fun c => !p c).length
  ho : o = ((B.take j).filter p).length
theorem at_stay {p : Call → Bool} {B e : List Call} {j : Nat} (hj : j < B.length) (h : p (B.getD j eC.dflt) = false) :
    ((B.take j).filter fun c => !p c).length < (B.filter (fun c => !p c) ++ e).length ∧ (B.filter (fun c => !p c) ++ e).getD ((B.take j).filter fun c => !p c).length eC.dflt = B.getD j eC.dflt ∧
    ((B.take (j + 1)).filter fun c => !p c).length = ((B.take j).filter fun c => !p c).length + 1 ∧ ((B.take (j + 1)).filter p).length = ((B.take j).filter p).length := by
  have hg : B.getD j eC.dflt = B[j] := by simp [List.getD_eq_getElem?_getD, hj]
  rw [hg] at h ⊢
  have hs : B = B.take j ++ B[j] :: B.drop (j + 1) := by rw [← List.drop_eq_getElem_cons hj, List.take_append_drop]
  have hf : B.filter (fun c => !p c) = (B.take j).filter (fun c => !p c) ++ B[j] :: (B.drop (j + 1)).filter (fun c => !p c) := by
    conv => lhs; rw [hs]
    rw [List.filter_append, List.filter_cons, if_pos (by simp [h])]
  refine ⟨?_, ?_, ?_, ?_⟩
  · rw [List.length_append, hf, List.length_append, List.length_cons]; omega
  · rw [hf, List.append_assoc, List.getD_eq_getElem?_getD, List.getElem?_append_right (Nat.le_refl _), Nat.sub_self]; rfl
  · rw [List.take_succ_eq_append_getElem hj, List.filter_append, List.length_append]; simp [h]
  · rw [List.take_succ_eq_append_getElem hj, List.filter_append, List.length_append]; simp [h]
theorem at_gone {p : Call → Bool} {B e : List Call} {j : Nat} (hj : j < B.length) (h : p (B.getD j eC.dflt) = true) (he : ∀ x ∈ e, p x = false) :
    (((B.take j).filter fun c => !p c).length < (B.filter (fun c => !p c) ++ e).length → callEq ((B.filter (fun c => !p c) ++ e).getD ((B.take j).filter fun c => !p c).length eC.dflt) (B.getD j eC.dflt) = false) ∧
    ((B.take j).filter p).length < (B.filter p).length ∧ (B.filter p).getD ((B.take j).filter p).length eC.dflt = B.getD j eC.dflt ∧
    ((B.take (j + 1)).filter fun c => !p c).length = ((B.take j).filter fun c => !p c).length ∧ ((B.take (j + 1)).filter p).length = ((B.take j).filter p).length + 1 := by
  have hg : B.getD j eC.dflt = B[j] := by simp [List.getD_eq_getElem?_getD, hj]
  rw [hg] at h ⊢
  have hs : B = B.take j ++ B[j] :: B.drop (j + 1) := by rw [← List.drop_eq_getElem_cons hj, List.take_append_drop]
  have hf : B.filter p = (B.take j).filter p ++ B[j] :: (B.drop (j + 1)).filter p := by
    conv => lhs; rw [hs]
    rw [List.filter_append, List.filter_cons, if_pos (by simp [h])]
  refine ⟨fun hlt => ?_, ?_, ?_, ?_, ?_⟩
  · rw [Bool.eq_false_iff]
    intro hh
    have hh := (callEq_iff _ _).1 hh
    have hm : (B.filter (fun c => !p c) ++ e).getD ((B.take j).filter fun c => !p c).length eC.dflt ∈ B.filter (fun c => !p c) ++ e := by
      rw [List.getD_eq_getElem?_getD, List.getElem?_eq_getElem hlt]; exact List.getElem_mem hlt
    rw [hh] at hm
    rcases List.mem_append.1 hm with hm | hm
    · have := (List.mem_filter.1 hm).2; simp [h] at this
    · have := he _ hm; rw [h] at this; cases this
  · rw [hf, List.length_append, List.length_cons]; omega
  · rw [hf, List.getD_eq_getElem?_getD, List.getElem?_append_right (Nat.le_refl _), Nat.sub_self]; rfl
  · rw [List.take_succ_eq_append_getElem hj, List.filter_append, List.length_append]; simp [h]
  · rw [List.take_succ_eq_append_getElem hj, List.filter_append, List.length_append]; simp [h]

/-! ### The walk -/
noncomputable def XKP : Cx := (XCL6.join 100002).join 200035
theorem XKP_ok : CxOk Try.prog XKP := (XCL6_ok.join 100002 rfl).join 200035 rfl
theorem CallsKeep (us : List AV) (h : areArgs tt [23, 55] us) : runF XKP Try.f9 us [] (boo true) [] := by
  obtain ⟨_, _, rfl, hs, _, _, rfl, ha, rfl⟩ := h
  obtain ⟨s, rfl⟩ := site_arg hs
  obtain ⟨acts, rfl, hal⟩ := acts_arg ha
  clear hs ha
  unfold runF
  (conv => arg 1; whnf); (repeat' (first | (refine brt (by assumption) ?_; (conv => arg 1; whnf)) | (refine brf (by assumption) ?_; (conv => arg 1; whnf)) | fail))
  refine br (fun h => ?_) (fun h => ?_)
  · (conv => arg 1; whnf); (repeat' (first | (refine brt (by assumption) ?_; (conv => arg 1; whnf)) | (refine brf (by assumption) ?_; (conv => arg 1; whnf)) | fail))
    exact finB rfl
  · (conv => arg 1; whnf); (repeat' (first | (refine brt (by assumption) ?_; (conv => arg 1; whnf)) | (refine brf (by assumption) ?_; (conv => arg 1; whnf)) | fail))
    refine br (fun h1 => ?_) (fun h1 => ?_)
    · (conv => arg 1; whnf); (repeat' (first | (refine brt (by assumption) ?_; (conv => arg 1; whnf)) | (refine brf (by assumption) ?_; (conv => arg 1; whnf)) | fail))
      exact finB rfl
    · have hn : acts.length ≤ 300 := by have := of_decide_eq_false h1; omega
      (conv => arg 1; whnf); (repeat' (first | (refine brt (by assumption) ?_; (conv => arg 1; whnf)) | (refine brf (by assumption) ?_; (conv => arg 1; whnf)) | fail))
      refine loopIn (fun x : Nat × List Call × Int => x.1 ≤ acts.length ∧ Fine x.1 x.2.1) (fun x => frm 166 [(5, .p 0 0), (28, row eAct acts), (29, i64 acts.length), (30, i64 x.1)]) (fun x => [.lit (bookC s 1 x.2.1.length x.2.2), tabl eC x.2.1]) (fun x => acts.length - x.1) (0, [], 0) [1, 2] ⟨Nat.zero_le _, .nil 0⟩ (by decide) ?_ ?_ rfl fun x hi => ?_
      · repeat' (first | exact True.intro | exact Fit.dead _ | exact Fit.v _ | exact row_self eAct acts | exact .p rfl | refine And.intro ?_ ?_)
      · exact ⟨⟨_, rfl, .lit (by repeat' (first | exact True.intro | exact Fit.dead _ | exact Fit.v _ | exact .i fun _ _ => rfl | exact Fit.ip | exact .p rfl | exact .q rfl | exact .s rfl | exact .y rfl | refine Fit.al ?_ | refine Fit.fl ?_ ?_ | refine And.intro ?_ ?_))⟩, ⟨_, rfl, .tab fun k hk => absurd hk (Nat.not_lt_zero k)⟩, trivial⟩
      · obtain ⟨k, L, b⟩ := x
        obtain ⟨hk, hL⟩ := hi
        simp only at hk hL
        have b1 := bookOk hL.len
        (conv => arg 1; whnf)
        refine br (fun h => ?_) (fun h => ?_)
        · have hlt : k < acts.length := by have := of_decide_eq_true h; simp only at this; omega
          have e1 : decide ((k : Int).toNat < acts.length) = true := decide_eq_true (by omega)
          have e2 : (decide (0 ≤ (k : Int)) && decide ((k : Int) < (acts.length : Int))) = true := by simp only [Bool.and_eq_true, decide_eq_true_eq]; omega
          have hR := rows_row eC L
          have hLl := hL.len
          (conv => arg 1; whnf); (repeat' (first | (refine brt (by assumption) ?_; (conv => arg 1; whnf)) | (refine brf (by assumption) ?_; (conv => arg 1; whnf)) | fail))
          refine joinIn (fun y : List Call × List Call × List Call × Int => Parted (acts.getD (k : Int).toNat eAct.dflt).wh y.1 y.2.1 y.2.2.1 ∧ Fine (k + 1) y.2.2.1 ∧ y.1.length ≤ 128) (fun y => frm 166 [(5, .p 0 0), (7, .p 2 0), (8, .s 3 4 0 y.1.length), (9, .s 4 4 0 y.2.1.length), (28, row eAct acts), (29, i64 acts.length), (30, i64 k)])
            (fun y => [.lit (bookC s 1 y.2.2.1.length y.2.2.2), tabl eC y.2.2.1, .lit (eAct.enc (acts.getD (k : Int).toNat eAct.dflt)), tabl eC y.1, tabl eC y.2.1]) ?_ (fun y hy => ?_)
          · (conv => arg 1; whnf); (repeat' (first | (refine brt (by assumption) ?_; (conv => arg 1; whnf)) | (refine brf (by assumption) ?_; (conv => arg 1; whnf)) | fail))
            refine br (fun h2 => ?_) (fun h2 => ?_)
            · have hw : (acts.getD (k : Int).toNat eAct.dflt).wh = 0 := of_decide_eq_true h2
              (conv => arg 1; whnf); (repeat' (first | (refine brt (by assumption) ?_; (conv => arg 1; whnf)) | (refine brf (by assumption) ?_; (conv => arg 1; whnf)) | fail))
              refine joinTo (L, [], (pressL s L b (acts.getD (k : Int).toNat eAct.dflt).c).2, b) [0, 5, 2, 3, 4] ⟨by rw [hw]; exact .press L, (hL.press s b _).more, hL.len⟩ (by decide) ?_ ?_ rfl
              · repeat' (first | exact True.intro | exact Fit.dead _ | exact Fit.v _ | exact row_self eAct acts | exact .p rfl | exact .s rfl | exact fit_s rfl rfl (by rw [rows_row]) | refine And.intro ?_ ?_)
              · refine ⟨⟨_, rfl, .lit ?_⟩, ⟨_, rfl, ?_⟩, ⟨_, rfl, .lit (by repeat' (first | exact True.intro | exact Fit.dead _ | exact Fit.v _ | exact .i fun _ _ => rfl | exact Fit.ip | exact .p rfl | exact .q rfl | exact .s rfl | exact .y rfl | refine Fit.al ?_ | refine Fit.fl ?_ ?_ | refine And.intro ?_ ?_))⟩, ⟨_, rfl, ?_⟩, ⟨_, rfl, .tab fun k hk => absurd hk (Nat.not_lt_zero k)⟩, trivial⟩
                · repeat' (first | exact True.intro | exact Fit.v _ | exact fit_s rfl rfl (show (pressL s L b (acts.getD (k : Int).toNat eAct.dflt).c).2.length = (pressL s (rows eC L.length fun k => eC.enc (L.getD k eC.dflt)) b (acts.getD (k : Int).toNat eAct.dflt).c).2.length by rw [rows_row]) | refine And.intro ?_ ?_)
                · show FitB _ _ (tabl eC (pressL s L b (acts.getD (k : Int).toNat eAct.dflt).c).2) (tabl eC (pressL s (rows eC L.length fun k => eC.enc (L.getD k eC.dflt)) b (acts.getD (k : Int).toNat eAct.dflt).c).2)
                  rw [rows_row]
                  exact .tab fun _ _ => rfl
                · show FitB _ _ (tabl eC L) (tabl eC (rows eC L.length fun k => eC.enc (L.getD k eC.dflt)))
                  rw [rows_row]
                  exact .tab fun _ _ => rfl
            · (conv => arg 1; whnf); (repeat' (first | (refine brt (by assumption) ?_; (conv => arg 1; whnf)) | (refine brf (by assumption) ?_; (conv => arg 1; whnf)) | fail))
              refine br (fun h3 => ?_) (fun h3 => ?_)
              · (conv => arg 1; whnf); (repeat' (first | (refine brt (by assumption) ?_; (conv => arg 1; whnf)) | (refine brf (by assumption) ?_; (conv => arg 1; whnf)) | fail))
                refine joinTo (L, [], L, (barL s b (acts.getD (k : Int).toNat eAct.dflt).c.fl (acts.getD (k : Int).toNat eAct.dflt).c.up).2) [0, 1, 2, 3, 4] ⟨.same _ _, hL.more, hL.len⟩ (by decide) ?_ ?_ rfl
                · repeat' (first | exact True.intro | exact Fit.dead _ | exact Fit.v _ | exact row_self eAct acts | exact .p rfl | exact .s rfl | exact fit_s rfl rfl (by rw [rows_row]) | refine And.intro ?_ ?_)
                · refine ⟨⟨_, rfl, .lit ?_⟩, ⟨_, rfl, .tab fun _ _ => rfl⟩, ⟨_, rfl, .lit (by repeat' (first | exact True.intro | exact Fit.dead _ | exact Fit.v _ | exact .i fun _ _ => rfl | exact Fit.ip | exact .p rfl | exact .q rfl | exact .s rfl | exact .y rfl | refine Fit.al ?_ | refine Fit.fl ?_ ?_ | refine And.intro ?_ ?_))⟩, ⟨_, rfl, ?_⟩, ⟨_, rfl, .tab fun k hk => absurd hk (Nat.not_lt_zero k)⟩, trivial⟩
                  · repeat' (first | exact True.intro | exact Fit.v _ | exact fit_s rfl rfl (show L.length = (rows eC L.length fun k => eC.enc (L.getD k eC.dflt)).length by rw [rows_row]) | refine And.intro ?_ ?_)
                  · show FitB _ _ (tabl eC L) (tabl eC (rows eC L.length fun k => eC.enc (L.getD k eC.dflt)))
                    rw [rows_row]
                    exact .tab fun _ _ => rfl
              · (conv => arg 1; whnf); (repeat' (first | (refine brt (by assumption) ?_; (conv => arg 1; whnf)) | (refine brf (by assumption) ?_; (conv => arg 1; whnf)) | fail))
                refine br (fun h4 => ?_) (fun h4 => ?_)
                · (conv => arg 1; whnf); (repeat' (first | (refine brt (by assumption) ?_; (conv => arg 1; whnf)) | (refine brf (by assumption) ?_; (conv => arg 1; whnf)) | fail))
                  refine loopIn (fun i : Nat => i ≤ L.length) (fun i => frm 166 [(5, .p 0 0), (7, .p 2 0), (8, .s 3 4 0 L.length), (9, .s 4 4 0 0), (28, row eAct acts), (29, i64 acts.length), (30, i64 k), (73, i64 L.length), (74, i64 i)]) (fun i => [.lit (bookC s 1 L.length b), tabl eC (L.map tickC), .lit (eAct.enc (acts.getD (k : Int).toNat eAct.dflt)), .tab 4 L.length fun j => eC.enc ((tickK L i).getD j eC.dflt), tabl eC []]) (fun i => L.length - i) 0 [0, 1, 2, 3, 4] (Nat.zero_le _) (by decide) ?_ ?_ rfl fun i hi => ?_
                  · repeat' (first | exact True.intro | exact Fit.dead _ | exact Fit.v _ | exact row_self eAct acts | exact .p rfl | exact .s rfl | exact fit_s rfl rfl (show L.length = (rows eC L.length fun k => eC.enc (L.getD k eC.dflt)).length by rw [rows_row]) | exact Fit.v' (congrArg (Value.int .i64) (show (L.length : Int) = ((rows eC L.length fun k => eC.enc (L.getD k eC.dflt)).length : Int) by rw [rows_row])) | refine And.intro ?_ ?_)
                  · refine ⟨⟨_, rfl, .lit ?_⟩, ⟨_, rfl, ?_⟩, ⟨_, rfl, .lit (by repeat' (first | exact True.intro | exact Fit.dead _ | exact Fit.v _ | exact .i fun _ _ => rfl | exact Fit.ip | exact .p rfl | exact .q rfl | exact .s rfl | exact .y rfl | refine Fit.al ?_ | refine Fit.fl ?_ ?_ | refine And.intro ?_ ?_))⟩, ⟨_, rfl, ?_⟩, ⟨_, rfl, .tab fun k hk => absurd hk (Nat.not_lt_zero k)⟩, trivial⟩
                    · repeat' (first | exact True.intro | exact Fit.v _ | exact .s rfl | exact fit_s rfl rfl (show L.length = (rows eC L.length fun k => eC.enc (L.getD k eC.dflt)).length by rw [rows_row]) | refine And.intro ?_ ?_)
                    · show FitB _ _ (tabl eC (L.map tickC)) (tabl eC ((rows eC L.length fun k => eC.enc (L.getD k eC.dflt)).map tickC))
                      rw [rows_row]
                      exact .tab fun _ _ => rfl
                    · show FitB _ _ (.tab 4 L.length fun j => eC.enc ((tickK L 0).getD j eC.dflt)) (tabl eC (rows eC L.length fun k => eC.enc (L.getD k eC.dflt)))
                      rw [rows_row]
                      exact .tab fun j hj => by simp [tickK]
                  · have hi : i ≤ L.length := hi
                    (conv => arg 1; whnf)
                    refine br (fun h5 => ?_) (fun h5 => ?_)
                    · have hlti : i < L.length := by have := of_decide_eq_true h5; omega
                      have e3 : (decide (0 ≤ (i : Int)) && decide ((i : Int) < (L.length : Int))) = true := by simp only [Bool.and_eq_true, decide_eq_true_eq]; omega
                      have e4 : decide (0 + (i : Int).toNat < L.length) = true := decide_eq_true (by omega)
                      have ei : 0 + (i : Int).toNat = i := by omega
                      (conv => arg 1; whnf); (repeat' (first | (refine brt (by assumption) ?_; (conv => arg 1; whnf)) | (refine brf (by assumption) ?_; (conv => arg 1; whnf)) | fail))
                      refine again (i + 1) [0, 1, 2, 3, 4] hlti (by show L.length - (i + 1) < L.length - i; omega) (by decide) ?_ ?_ rfl
                      · repeat' (first | exact True.intro | exact Fit.dead _ | exact Fit.v _ | exact row_self eAct acts | exact .p rfl | exact .s rfl | exact Fit.v' (congrArg (Value.int .i64) (nxt i (by omega)).symm) | refine And.intro ?_ ?_)
                      · refine ⟨⟨_, rfl, .lit (by repeat' (first | exact True.intro | exact Fit.dead _ | exact Fit.v _ | exact .i fun _ _ => rfl | exact Fit.ip | exact .p rfl | exact .q rfl | exact .s rfl | exact .y rfl | refine Fit.al ?_ | refine Fit.fl ?_ ?_ | refine And.intro ?_ ?_))⟩, ⟨_, rfl, .tab fun _ _ => rfl⟩, ⟨_, rfl, .lit (by repeat' (first | exact True.intro | exact Fit.dead _ | exact Fit.v _ | exact .i fun _ _ => rfl | exact Fit.ip | exact .p rfl | exact .q rfl | exact .s rfl | exact .y rfl | refine Fit.al ?_ | refine Fit.fl ?_ ?_ | refine And.intro ?_ ?_))⟩, ⟨_, rfl, .tab fun j hj => ?_⟩, ⟨_, rfl, .tab fun _ _ => rfl⟩, trivial⟩
                        have hag := hL.age (L.getD i eC.dflt) (by rw [List.getD_eq_getElem?_getD, List.getElem?_eq_getElem hlti]; exact List.getElem_mem hlti)
                        have hrow := RowIs.put eC (n := L.length) (i := i) (i' := 0 + (i : Int).toNat) (j := 2) (g := fun j => eC.enc ((tickK L i).getD j eC.dflt)) (l := tickK L i) (cs := [i64 (tickC (L.getD i eC.dflt)).ag]) (a := tickC (L.getD i eC.dflt)) ⟨(tickK_len L i).symm, fun _ _ => rfl⟩ ei hlti (by rw [tickK_get L i hlti]; rfl)
                        rw [tickK_succ L i hlti] at hrow
                        refine (hrow.get j hj).symm.trans ?_
                        show (if j = 0 + (i : Int).toNat then _ else _) = (if j = 0 + (i : Int).toNat then _ else _)
                        split
                        · show putCells (eC.enc ((tickK L i).getD j eC.dflt)) 2 [i64 (tickC (L.getD i eC.dflt)).ag] = putCells (eC.enc ((tickK L i).getD j eC.dflt)) 2 [i64 (IntKind.i64.wrap (((tickK L i).getD (0 + (i : Int).toNat) eC.dflt).ag + 1))]
                          rw [ei, tickK_get L i hlti, i64w _ (by omega) (by omega), tickC_ag (k := k) (by omega) hag]
                        · rfl
                    · (conv => arg 1; whnf); (repeat' (first | (refine brt (by assumption) ?_; (conv => arg 1; whnf)) | (refine brf (by assumption) ?_; (conv => arg 1; whnf)) | fail))
                      refine leave ?_
                      show tr _
                      have hil : i = L.length := by have := of_decide_eq_false h5; omega
                      (conv => arg 1; whnf); (repeat' (first | (refine brt (by assumption) ?_; (conv => arg 1; whnf)) | (refine brf (by assumption) ?_; (conv => arg 1; whnf)) | fail))
                      refine joinTo (L.map tickC, [], L.map tickC, b) [0, 1, 2, 3, 4] ⟨.same _ _, hL.tick (by omega), by rw [List.length_map]; exact hL.len⟩ (by decide) ?_ ?_ rfl
                      · repeat' (first | exact True.intro | exact Fit.dead _ | exact Fit.v _ | exact row_self eAct acts | exact .p rfl | exact .s rfl | exact fit_s rfl rfl (show (L.map tickC).length = L.length by simp) | refine And.intro ?_ ?_)
                      · refine ⟨⟨_, rfl, .lit ?_⟩, ⟨_, rfl, .tab fun _ _ => rfl⟩, ⟨_, rfl, .lit (by repeat' (first | exact True.intro | exact Fit.dead _ | exact Fit.v _ | exact .i fun _ _ => rfl | exact Fit.ip | exact .p rfl | exact .q rfl | exact .s rfl | exact .y rfl | refine Fit.al ?_ | refine Fit.fl ?_ ?_ | refine And.intro ?_ ?_))⟩, ⟨_, rfl, ?_⟩, ⟨_, rfl, .tab fun _ _ => rfl⟩, trivial⟩
                        · repeat' (first | exact True.intro | exact Fit.v _ | exact fit_s rfl rfl (show (L.map tickC).length = L.length by simp) | refine And.intro ?_ ?_)
                        · refine fit_tab (e := eC) ⟨by simp, fun j hj => ?_⟩
                          rw [hil, tickK_all]
                · (conv => arg 1; whnf); (repeat' (first | (refine brt (by assumption) ?_; (conv => arg 1; whnf)) | (refine brf (by assumption) ?_; (conv => arg 1; whnf)) | fail))
                  refine joinTo (L, L.filter (serveB (acts.getD (k : Int).toNat eAct.dflt).c.ca (acts.getD (k : Int).toNat eAct.dflt).c.fl (acts.getD (k : Int).toNat eAct.dflt).c.up (acts.getD (k : Int).toNat eAct.dflt).dn), L.filter (fun c => !serveB (acts.getD (k : Int).toNat eAct.dflt).c.ca (acts.getD (k : Int).toNat eAct.dflt).c.fl (acts.getD (k : Int).toNat eAct.dflt).c.up (acts.getD (k : Int).toNat eAct.dflt).dn c), b) [0, 5, 2, 3, 6] ⟨.serve _ _ _, (hL.filter _).more, hL.len⟩ (by decide) ?_ ?_ rfl
                  · repeat' (first | exact True.intro | exact Fit.dead _ | exact Fit.v _ | exact row_self eAct acts | exact .p rfl | exact .s rfl | exact fit_s rfl rfl (show (L.filter (serveB (acts.getD (k : Int).toNat eAct.dflt).c.ca (acts.getD (k : Int).toNat eAct.dflt).c.fl (acts.getD (k : Int).toNat eAct.dflt).c.up (acts.getD (k : Int).toNat eAct.dflt).dn)).length = ((rows eC L.length fun k => eC.enc (L.getD k eC.dflt)).filter (serveB (acts.getD (k : Int).toNat eAct.dflt).c.ca (acts.getD (k : Int).toNat eAct.dflt).c.fl (acts.getD (k : Int).toNat eAct.dflt).c.up (acts.getD (k : Int).toNat eAct.dflt).dn)).length by rw [rows_row]) | exact fit_s rfl rfl (by rw [rows_row]) | refine And.intro ?_ ?_)
                  · refine ⟨⟨_, rfl, .lit ?_⟩, ⟨_, rfl, ?_⟩, ⟨_, rfl, .lit (by repeat' (first | exact True.intro | exact Fit.dead _ | exact Fit.v _ | exact .i fun _ _ => rfl | exact Fit.ip | exact .p rfl | exact .q rfl | exact .s rfl | exact .y rfl | refine Fit.al ?_ | refine Fit.fl ?_ ?_ | refine And.intro ?_ ?_))⟩, ⟨_, rfl, ?_⟩, ⟨_, rfl, ?_⟩, trivial⟩
                    · repeat' (first | exact True.intro | exact Fit.v _ | exact fit_s rfl rfl (show (L.filter fun c => !serveB (acts.getD (k : Int).toNat eAct.dflt).c.ca (acts.getD (k : Int).toNat eAct.dflt).c.fl (acts.getD (k : Int).toNat eAct.dflt).c.up (acts.getD (k : Int).toNat eAct.dflt).dn c).length = ((rows eC L.length fun k => eC.enc (L.getD k eC.dflt)).filter fun c => !serveB (acts.getD (k : Int).toNat eAct.dflt).c.ca (acts.getD (k : Int).toNat eAct.dflt).c.fl (acts.getD (k : Int).toNat eAct.dflt).c.up (acts.getD (k : Int).toNat eAct.dflt).dn c).length by rw [rows_row]) | refine And.intro ?_ ?_)
                    · show FitB _ _ (tabl eC (L.filter fun c => !serveB (acts.getD (k : Int).toNat eAct.dflt).c.ca (acts.getD (k : Int).toNat eAct.dflt).c.fl (acts.getD (k : Int).toNat eAct.dflt).c.up (acts.getD (k : Int).toNat eAct.dflt).dn c)) (tabl eC ((rows eC L.length fun k => eC.enc (L.getD k eC.dflt)).filter fun c => !serveB (acts.getD (k : Int).toNat eAct.dflt).c.ca (acts.getD (k : Int).toNat eAct.dflt).c.fl (acts.getD (k : Int).toNat eAct.dflt).c.up (acts.getD (k : Int).toNat eAct.dflt).dn c))
                      rw [rows_row]
                      exact .tab fun _ _ => rfl
                    · show FitB _ _ (tabl eC L) (tabl eC (rows eC L.length fun k => eC.enc (L.getD k eC.dflt)))
                      rw [rows_row]
                      exact .tab fun _ _ => rfl
                    · show FitB _ _ (tabl eC (L.filter (serveB (acts.getD (k : Int).toNat eAct.dflt).c.ca (acts.getD (k : Int).toNat eAct.dflt).c.fl (acts.getD (k : Int).toNat eAct.dflt).c.up (acts.getD (k : Int).toNat eAct.dflt).dn))) (tabl eC ((rows eC L.length fun k => eC.enc (L.getD k eC.dflt)).filter (serveB (acts.getD (k : Int).toNat eAct.dflt).c.ca (acts.getD (k : Int).toNat eAct.dflt).c.fl (acts.getD (k : Int).toNat eAct.dflt).c.up (acts.getD (k : Int).toNat eAct.dflt).dn)))
                      rw [rows_row]
                      exact .tab fun _ _ => rfl
          · obtain ⟨B, F, N, b'⟩ := y
            obtain ⟨⟨p, e, hF, hN, he1, he2, he3⟩, hNf, hB⟩ := hy
            simp only at hF hN hNf hB he2
            have b2 := bookOk hNf.len
            have hNl := hNf.len
            (conv => arg 1; whnf); (repeat' (first | (refine brt (by assumption) ?_; (conv => arg 1; whnf)) | (refine brf (by assumption) ?_; (conv => arg 1; whnf)) | fail))
            refine loopIn (fun j : Nat => j ≤ B.length) (fun j => frm 166 [(5, .p 0 0), (7, .p 2 0), (9, .s 4 4 ((B.take j).filter p).length (F.length - ((B.take j).filter p).length)), (11, .s 5 4 0 N.length), (12, i64 ((B.take j).filter fun c => !p c).length), (28, row eAct acts), (29, i64 acts.length), (30, i64 k), (88, .s 3 4 0 B.length), (89, i64 B.length), (90, i64 j)])
              (fun j => [.lit (bookC s 1 N.length b'), tabl eC N, .lit (eAct.enc (acts.getD (k : Int).toNat eAct.dflt)), tabl eC B, tabl eC F, tabl eC N]) (fun j => B.length - j) 0 [0, 1, 2, 3, 4, 5] (Nat.zero_le _) (by decide) ?_ ?_ rfl fun j hj => ?_
            · repeat' (first | exact True.intro | exact Fit.dead _ | exact Fit.v _ | exact row_self eAct acts | exact .p rfl | exact .s rfl | exact fit_s rfl rfl (by rw [rows_row]) | refine And.intro ?_ ?_)
            · refine ⟨⟨_, rfl, .lit (by repeat' (first | exact True.intro | exact Fit.dead _ | exact Fit.v _ | exact .i fun _ _ => rfl | exact Fit.ip | exact .p rfl | exact .q rfl | exact .s rfl | exact .y rfl | refine Fit.al ?_ | refine Fit.fl ?_ ?_ | refine And.intro ?_ ?_))⟩, ⟨_, rfl, .tab fun _ _ => rfl⟩, ⟨_, rfl, .lit (by repeat' (first | exact True.intro | exact Fit.dead _ | exact Fit.v _ | exact .i fun _ _ => rfl | exact Fit.ip | exact .p rfl | exact .q rfl | exact .s rfl | exact .y rfl | refine Fit.al ?_ | refine Fit.fl ?_ ?_ | refine And.intro ?_ ?_))⟩, ⟨_, rfl, .tab fun _ _ => rfl⟩, ⟨_, rfl, .tab fun _ _ => rfl⟩, ⟨_, rfl, ?_⟩, trivial⟩
              show FitB _ _ (tabl eC N) (tabl eC (rows eC N.length fun k => eC.enc (N.getD k eC.dflt)))
              rw [rows_row]
              exact .tab fun _ _ => rfl
            · have hj : j ≤ B.length := hj
              (conv => arg 1; whnf)
              refine br (fun h5 => ?_) (fun h5 => ?_)
              · have hltj : j < B.length := by have := of_decide_eq_true h5; omega
                have e3 : decide (0 + (j : Int).toNat < B.length) = true := decide_eq_true (by omega)
                have ej : 0 + (j : Int).toNat = j := by omega
                cases hpj : p (B.getD j eC.dflt) with
                | false =>
                  obtain ⟨s1, s2, s3, s4⟩ := at_stay (e := e) hltj hpj
                  rw [← hN] at s1 s2
                  have q1 : decide ((((B.take j).filter fun c => !p c).length : Int) < (N.length : Int)) = true := decide_eq_true (by omega)
                  have q2 : decide (0 + (((B.take j).filter fun c => !p c).length : Int).toNat < N.length) = true := decide_eq_true (by omega)
                  have q3 : (decide (0 ≤ (((B.take j).filter fun c => !p c).length : Int)) && decide ((((B.take j).filter fun c => !p c).length : Int) < (N.length : Int))) = true := by rw [q1]; simp
                  have ei : 0 + (((B.take j).filter fun c => !p c).length : Int).toNat = ((B.take j).filter fun c => !p c).length := by omega
                  have q4 : callEq (N.getD (0 + (((B.take j).filter fun c => !p c).length : Int).toNat) eC.dflt) (B.getD (0 + (j : Int).toNat) eC.dflt) = true := by rw [ei, ej, s2]; exact (callEq_iff _ _).2 rfl
                  (conv => arg 1; whnf); (repeat' (first | (refine brt (by assumption) ?_; (conv => arg 1; whnf)) | (refine brf (by assumption) ?_; (conv => arg 1; whnf)) | fail))
                  refine again (j + 1) [0, 1, 2, 3, 4, 5] hltj (by show B.length - (j + 1) < B.length - j; omega) (by decide) ?_ ?_ rfl
                  · repeat' (first | exact True.intro | exact Fit.dead _ | exact Fit.v _ | exact row_self eAct acts | exact .p rfl | exact .s rfl | exact fit_s rfl s4 (show F.length - ((B.take (j + 1)).filter p).length = F.length - ((B.take j).filter p).length by rw [s4]) | exact Fit.v' (congrArg (Value.int .i64) (show (((B.take (j + 1)).filter fun c => !p c).length : Int) = IntKind.i64.wrap ((((B.take j).filter fun c => !p c).length : Int) + 1) by rw [s3, nxt _ (by omega)])) | exact Fit.v' (congrArg (Value.int .i64) (nxt j (by omega)).symm) | refine And.intro ?_ ?_)
                  · exact ⟨⟨_, rfl, .lit (by repeat' (first | exact True.intro | exact Fit.dead _ | exact Fit.v _ | exact .i fun _ _ => rfl | exact Fit.ip | exact .p rfl | exact .q rfl | exact .s rfl | exact .y rfl | refine Fit.al ?_ | refine Fit.fl ?_ ?_ | refine And.intro ?_ ?_))⟩, ⟨_, rfl, .tab fun _ _ => rfl⟩, ⟨_, rfl, .lit (by repeat' (first | exact True.intro | exact Fit.dead _ | exact Fit.v _ | exact .i fun _ _ => rfl | exact Fit.ip | exact .p rfl | exact .q rfl | exact .s rfl | exact .y rfl | refine Fit.al ?_ | refine Fit.fl ?_ ?_ | refine And.intro ?_ ?_))⟩, ⟨_, rfl, .tab fun _ _ => rfl⟩, ⟨_, rfl, .tab fun _ _ => rfl⟩, ⟨_, rfl, .tab fun _ _ => rfl⟩, trivial⟩
                | true =>
                  obtain ⟨s1, s2, s3, s4, s5⟩ := at_gone (e := e) hltj hpj he3
                  rw [← hN] at s1
                  rw [← hF] at s2 s3
                  have o1 : ((B.take j).filter p).length ≤ F.length := by omega
                  have ec : ((F.length - ((B.take j).filter p).length : Nat) : Int) = (F.length : Int) - (((B.take j).filter p).length : Int) := by omega
                  have r1 : decide (((F.length - ((B.take j).filter p).length : Nat) : Int) = 0) = false := decide_eq_false (by omega)
                  have r2 : (decide ((0 : Int) ≤ 0) && decide ((0 : Int) < ((F.length - ((B.take j).filter p).length : Nat) : Int))) = true := by simp only [Bool.and_eq_true, decide_eq_true_eq]; omega
                  have r3 : decide (((B.take j).filter p).length + (0 : Int).toNat < F.length) = true := decide_eq_true (by show ((B.take j).filter p).length + 0 < F.length; omega)
                  have r4 : (!(callEq (F.getD (((B.take j).filter p).length + (0 : Int).toNat) eC.dflt) (B.getD (0 + (j : Int).toNat) eC.dflt))) = false := by rw [ej]; show (!(callEq (F.getD ((B.take j).filter p).length eC.dflt) _)) = false; rw [s3, (callEq_iff _ _).2 rfl]; rfl
                  have r5 : (decide ((0 : Int) ≤ 1) && (decide ((1 : Int) ≤ ((F.length - ((B.take j).filter p).length : Nat) : Int)) && (decide (((F.length - ((B.take j).filter p).length : Nat) : Int) ≤ ((F.length - ((B.take j).filter p).length : Nat) : Int)) && decide (((F.length - ((B.take j).filter p).length : Nat) : Int) ≤ ((F.length - ((B.take j).filter p).length : Nat) : Int))))) = true := by
                    simp only [Bool.and_eq_true, decide_eq_true_eq]; omega
                  cases q1 : decide ((((B.take j).filter fun c => !p c).length : Int) < (N.length : Int)) with
                  | true =>
                    have hlN : ((B.take j).filter fun c => !p c).length < N.length := by have := of_decide_eq_true q1; omega
                    have ei : 0 + (((B.take j).filter fun c => !p c).length : Int).toNat = ((B.take j).filter fun c => !p c).length := by omega
                    have q2 : decide (0 + (((B.take j).filter fun c => !p c).length : Int).toNat < N.length) = true := decide_eq_true (by omega)
                    have q3 : (decide (0 ≤ (((B.take j).filter fun c => !p c).length : Int)) && decide ((((B.take j).filter fun c => !p c).length : Int) < (N.length : Int))) = true := by rw [q1]; simp
                    have q4 : callEq (N.getD (0 + (((B.take j).filter fun c => !p c).length : Int).toNat) eC.dflt) (B.getD (0 + (j : Int).toNat) eC.dflt) = false := by rw [ei, ej]; exact s1 hlN
                    (conv => arg 1; whnf); (repeat' (first | (refine brt (by assumption) ?_; (conv => arg 1; whnf)) | (refine brf (by assumption) ?_; (conv => arg 1; whnf)) | fail))
                    refine again (j + 1) [0, 1, 2, 3, 4, 5] hltj (by show B.length - (j + 1) < B.length - j; omega) (by decide) ?_ ?_ rfl
                    · repeat' (first | exact True.intro | exact Fit.dead _ | exact Fit.v _ | exact row_self eAct acts | exact .p rfl | exact .s rfl | exact fit_s rfl (show ((B.take (j + 1)).filter p).length = ((B.take j).filter p).length + (1 : Int).toNat from s5) (show F.length - ((B.take (j + 1)).filter p).length = ((F.length - ((B.take j).filter p).length : Nat) : Int).toNat - (1 : Int).toNat by rw [s5]; show _ = (F.length - ((B.take j).filter p).length) - 1; omega) | exact Fit.v' (congrArg (Value.int .i64) (show (((B.take (j + 1)).filter fun c => !p c).length : Int) = (((B.take j).filter fun c => !p c).length : Int) by rw [s4])) | exact Fit.v' (congrArg (Value.int .i64) (nxt j (by omega)).symm) | refine And.intro ?_ ?_)
                    · exact ⟨⟨_, rfl, .lit (by repeat' (first | exact True.intro | exact Fit.dead _ | exact Fit.v _ | exact .i fun _ _ => rfl | exact Fit.ip | exact .p rfl | exact .q rfl | exact .s rfl | exact .y rfl | refine Fit.al ?_ | refine Fit.fl ?_ ?_ | refine And.intro ?_ ?_))⟩, ⟨_, rfl, .tab fun _ _ => rfl⟩, ⟨_, rfl, .lit (by repeat' (first | exact True.intro | exact Fit.dead _ | exact Fit.v _ | exact .i fun _ _ => rfl | exact Fit.ip | exact .p rfl | exact .q rfl | exact .s rfl | exact .y rfl | refine Fit.al ?_ | refine Fit.fl ?_ ?_ | refine And.intro ?_ ?_))⟩, ⟨_, rfl, .tab fun _ _ => rfl⟩, ⟨_, rfl, .tab fun _ _ => rfl⟩, ⟨_, rfl, .tab fun _ _ => rfl⟩, trivial⟩
                  | false =>
                    (conv => arg 1; whnf); (repeat' (first | (refine brt (by assumption) ?_; (conv => arg 1; whnf)) | (refine brf (by assumption) ?_; (conv => arg 1; whnf)) | fail))
                    refine again (j + 1) [0, 1, 2, 3, 4, 5] hltj (by show B.length - (j + 1) < B.length - j; omega) (by decide) ?_ ?_ rfl
                    · repeat' (first | exact True.intro | exact Fit.dead _ | exact Fit.v _ | exact row_self eAct acts | exact .p rfl | exact .s rfl | exact fit_s rfl (show ((B.take (j + 1)).filter p).length = ((B.take j).filter p).length + (1 : Int).toNat from s5) (show F.length - ((B.take (j + 1)).filter p).length = ((F.length - ((B.take j).filter p).length : Nat) : Int).toNat - (1 : Int).toNat by rw [s5]; show _ = (F.length - ((B.take j).filter p).length) - 1; omega) | exact Fit.v' (congrArg (Value.int .i64) (show (((B.take (j + 1)).filter fun c => !p c).length : Int) = (((B.take j).filter fun c => !p c).length : Int) by rw [s4])) | exact Fit.v' (congrArg (Value.int .i64) (nxt j (by omega)).symm) | refine And.intro ?_ ?_)
                    · exact ⟨⟨_, rfl, .lit (by repeat' (first | exact True.intro | exact Fit.dead _ | exact Fit.v _ | exact .i fun _ _ => rfl | exact Fit.ip | exact .p rfl | exact .q rfl | exact .s rfl | exact .y rfl | refine Fit.al ?_ | refine Fit.fl ?_ ?_ | refine And.intro ?_ ?_))⟩, ⟨_, rfl, .tab fun _ _ => rfl⟩, ⟨_, rfl, .lit (by repeat' (first | exact True.intro | exact Fit.dead _ | exact Fit.v _ | exact .i fun _ _ => rfl | exact Fit.ip | exact .p rfl | exact .q rfl | exact .s rfl | exact .y rfl | refine Fit.al ?_ | refine Fit.fl ?_ ?_ | refine And.intro ?_ ?_))⟩, ⟨_, rfl, .tab fun _ _ => rfl⟩, ⟨_, rfl, .tab fun _ _ => rfl⟩, ⟨_, rfl, .tab fun _ _ => rfl⟩, trivial⟩
              · (conv => arg 1; whnf); (repeat' (first | (refine brt (by assumption) ?_; (conv => arg 1; whnf)) | (refine brf (by assumption) ?_; (conv => arg 1; whnf)) | fail))
                refine leave ?_
                show tr _
                have hjl : j = B.length := by have := of_decide_eq_false h5; omega
                have z1 : (B.take j) = B := by rw [hjl, List.take_length]
                rw [z1] at *
                have z2 : F.length - (B.filter p).length = 0 := by rw [hF]; omega
                have z3 : N.length = (B.filter fun c => !p c).length + e.length := by rw [hN, List.length_append]
                have t2 : decide (1 < IntKind.i64.wrap ((N.length : Int) - ((B.filter fun c => !p c).length : Int))) = false := by
                  rw [i64w _ (by omega) (by omega)]; exact decide_eq_false (by omega)
                have t3 : decide (128 < (N.length : Int)) = false := decide_eq_false (by omega)
                have t1 : (!(decide (((F.length - (B.filter p).length : Nat) : Int) = 0))) = false := by rw [z2]; rfl
                (conv => arg 1; whnf); (repeat' (first | (refine brt (by assumption) ?_; (conv => arg 1; whnf)) | (refine brf (by assumption) ?_; (conv => arg 1; whnf)) | fail))
                refine joinIn (fun _ : Unit => True) (fun _ => frm 166 [(5, .p 0 0), (11, .s 2 4 0 N.length), (28, row eAct acts), (29, i64 acts.length), (30, i64 k), (146, boo false)]) (fun _ => [.lit (bookC s 1 N.length b'), tabl eC N, tabl eC N]) ?_ (fun _ _ => ?_)
                · have fin : ∀ (f : List AV), FitL [0, 1, 5] [.lit (bookC s 1 N.length b'), tabl eC N, .lit (eAct.enc (acts.getD (k : Int).toNat eAct.dflt)), tabl eC B, tabl eC F, tabl eC N] (frm 166 [(5, .p 0 0), (11, .s 2 4 0 N.length), (28, row eAct acts), (29, i64 acts.length), (30, i64 k), (146, boo false)]) f → tr (some (∃ y : Unit, True ∧ Cov 0 (frm 166 [(5, .p 0 0), (11, .s 2 4 0 N.length), (28, row eAct acts), (29, i64 acts.length), (30, i64 k), (146, boo false)]) [.lit (bookC s 1 N.length b'), tabl eC N, tabl eC N] f [.lit (bookC s 1 N.length b'), tabl eC N, .lit (eAct.enc (acts.getD (k : Int).toNat eAct.dflt)), tabl eC B, tabl eC F, tabl eC N])) := fun f hf =>
                    joinTo () [0, 1, 5] trivial (by decide) hf ⟨⟨_, rfl, .lit (by repeat' (first | exact True.intro | exact Fit.dead _ | exact Fit.v _ | exact .i fun _ _ => rfl | exact Fit.ip | exact .p rfl | exact .q rfl | exact .s rfl | exact .y rfl | refine Fit.al ?_ | refine Fit.fl ?_ ?_ | refine And.intro ?_ ?_))⟩, ⟨_, rfl, .tab fun _ _ => rfl⟩, ⟨_, rfl, .tab fun _ _ => rfl⟩, trivial⟩ rfl
                  (conv => arg 1; whnf); (repeat' (first | (refine brt (by assumption) ?_; (conv => arg 1; whnf)) | (refine brf (by assumption) ?_; (conv => arg 1; whnf)) | fail))
                  refine br (fun h6 => ?_) (fun h6 => ?_)
                  · have hw : (acts.getD (k : Int).toNat eAct.dflt).wh = 0 := he2 fun e0 => by
                      have := of_decide_eq_true h6
                      rw [e0] at z3
                      simp at z3
                      omega
                    have t4 : (!(decide ((acts.getD (k : Int).toNat eAct.dflt).wh = 0))) = false := by rw [hw]; rfl
                    (conv => arg 1; whnf); (repeat' (first | (refine brt (by assumption) ?_; (conv => arg 1; whnf)) | (refine brf (by assumption) ?_; (conv => arg 1; whnf)) | fail))
                    refine fin _ ?_
                    repeat' (first | exact True.intro | exact Fit.dead _ | exact Fit.v _ | exact row_self eAct acts | exact .p rfl | exact .s rfl | exact Fit.v' (congrArg Value.bool t4.symm) | exact Fit.v' (congrArg Value.bool h6.symm) | refine And.intro ?_ ?_)
                  · (conv => arg 1; whnf); (repeat' (first | (refine brt (by assumption) ?_; (conv => arg 1; whnf)) | (refine brf (by assumption) ?_; (conv => arg 1; whnf)) | fail))
                    refine fin _ ?_
                    repeat' (first | exact True.intro | exact Fit.dead _ | exact Fit.v _ | exact row_self eAct acts | exact .p rfl | exact .s rfl | exact Fit.v' (congrArg Value.bool h6.symm) | refine And.intro ?_ ?_)
                · (conv => arg 1; whnf); (repeat' (first | (refine brt (by assumption) ?_; (conv => arg 1; whnf)) | (refine brf (by assumption) ?_; (conv => arg 1; whnf)) | fail))
                  refine loopIn (fun q : Nat => 1 ≤ q ∧ q ≤ N.length + 1) (fun q => frm 166 [(5, .p 0 0), (11, .s 2 4 0 N.length), (28, row eAct acts), (29, i64 acts.length), (30, i64 k), (15, i64 q)]) (fun _ => [.lit (bookC s 1 N.length b'), tabl eC N, tabl eC N]) (fun q => N.length + 1 - q) 1 [0, 1, 2] ⟨Nat.le_refl 1, by omega⟩ (by decide) ?_ ?_ rfl fun q hq => ?_
                  · repeat' (first | exact True.intro | exact Fit.dead _ | exact Fit.v _ | exact row_self eAct acts | exact .p rfl | exact .s rfl | refine And.intro ?_ ?_)
                  · exact ⟨⟨_, rfl, .lit (by repeat' (first | exact True.intro | exact Fit.dead _ | exact Fit.v _ | exact .i fun _ _ => rfl | exact Fit.ip | exact .p rfl | exact .q rfl | exact .s rfl | exact .y rfl | refine Fit.al ?_ | refine Fit.fl ?_ ?_ | refine And.intro ?_ ?_))⟩, ⟨_, rfl, .tab fun _ _ => rfl⟩, ⟨_, rfl, .tab fun _ _ => rfl⟩, trivial⟩
                  · obtain ⟨hq1, hq2⟩ := hq
                    (conv => arg 1; whnf)
                    refine br (fun h7 => ?_) (fun h7 => ?_)
                    · have hlq : q < N.length := by have := of_decide_eq_true h7; omega
                      have w1 : IntKind.i64.wrap ((q : Int) - 1) = ((q - 1 : Nat) : Int) := by rw [i64w _ (by omega) (by omega)]; omega
                      have u1 : (decide (0 ≤ (q : Int)) && decide ((q : Int) < (N.length : Int))) = true := by simp only [Bool.and_eq_true, decide_eq_true_eq]; omega
                      have u2 : decide (0 + (q : Int).toNat < N.length) = true := decide_eq_true (by omega)
                      have u3 : (decide (0 ≤ IntKind.i64.wrap ((q : Int) - 1)) && decide (IntKind.i64.wrap ((q : Int) - 1) < (N.length : Int))) = true := by rw [w1]; simp only [Bool.and_eq_true, decide_eq_true_eq]; omega
                      have u4 : decide (0 + (IntKind.i64.wrap ((q : Int) - 1)).toNat < N.length) = true := by rw [w1]; exact decide_eq_true (by omega)
                      have u5 : decide ((N.getD (0 + (IntKind.i64.wrap ((q : Int) - 1)).toNat) eC.dflt).ag < (N.getD (0 + (q : Int).toNat) eC.dflt).ag) = false := by
                        rw [w1, show 0 + ((q - 1 : Nat) : Int).toNat = q - 1 by omega, show 0 + (q : Int).toNat = q by omega]
                        refine decide_eq_false ?_
                        have := List.pairwise_iff_getElem.1 hNf.old (q - 1) q (by omega) hlq (by omega)
                        rw [List.getD_eq_getElem?_getD, List.getD_eq_getElem?_getD, List.getElem?_eq_getElem hlq, List.getElem?_eq_getElem (show q - 1 < N.length by omega)]
                        show ¬ N[q - 1].ag < N[q].ag
                        omega
                      (conv => arg 1; whnf); (repeat' (first | (refine brt (by assumption) ?_; (conv => arg 1; whnf)) | (refine brf (by assumption) ?_; (conv => arg 1; whnf)) | fail))
                      refine again (q + 1) [0, 1, 2] ⟨by omega, by omega⟩ (by show N.length + 1 - (q + 1) < N.length + 1 - q; omega) (by decide) ?_ ?_ rfl
                      · repeat' (first | exact True.intro | exact Fit.dead _ | exact Fit.v _ | exact row_self eAct acts | exact .p rfl | exact .s rfl | exact Fit.v' (congrArg (Value.int .i64) (nxt q (by omega)).symm) | refine And.intro ?_ ?_)
                      · exact ⟨⟨_, rfl, .lit (by repeat' (first | exact True.intro | exact Fit.dead _ | exact Fit.v _ | exact .i fun _ _ => rfl | exact Fit.ip | exact .p rfl | exact .q rfl | exact .s rfl | exact .y rfl | refine Fit.al ?_ | refine Fit.fl ?_ ?_ | refine And.intro ?_ ?_))⟩, ⟨_, rfl, .tab fun _ _ => rfl⟩, ⟨_, rfl, .tab fun _ _ => rfl⟩, trivial⟩
                    · (conv => arg 1; whnf); (repeat' (first | (refine brt (by assumption) ?_; (conv => arg 1; whnf)) | (refine brf (by assumption) ?_; (conv => arg 1; whnf)) | fail))
                      refine leave ?_
                      show tr _
                      (conv => arg 1; whnf); (repeat' (first | (refine brt (by assumption) ?_; (conv => arg 1; whnf)) | (refine brf (by assumption) ?_; (conv => arg 1; whnf)) | fail))
                      refine again (k + 1, N, b') [0, 1] ⟨hlt, hNf⟩ (by show acts.length - (k + 1) < acts.length - k; omega) (by decide) ?_ ?_ rfl
                      · repeat' (first | exact True.intro | exact Fit.dead _ | exact Fit.v _ | exact row_self eAct acts | exact .p rfl | exact .s rfl | exact Fit.v' (congrArg (Value.int .i64) (nxt k (by omega)).symm) | refine And.intro ?_ ?_)
                      · exact ⟨⟨_, rfl, .lit (by repeat' (first | exact True.intro | exact Fit.dead _ | exact Fit.v _ | exact .i fun _ _ => rfl | exact Fit.ip | exact .p rfl | exact .q rfl | exact .s rfl | exact .y rfl | refine Fit.al ?_ | refine Fit.fl ?_ ?_ | refine And.intro ?_ ?_))⟩, ⟨_, rfl, .tab fun _ _ => rfl⟩, trivial⟩
        · (conv => arg 1; whnf); (repeat' (first | (refine brt (by assumption) ?_; (conv => arg 1; whnf)) | (refine brf (by assumption) ?_; (conv => arg 1; whnf)) | fail))
          refine leave ?_
          show tr _
          (conv => arg 1; whnf); (repeat' (first | (refine brt (by assumption) ?_; (conv => arg 1; whnf)) | (refine brf (by assumption) ?_; (conv => arg 1; whnf)) | fail))
          exact finB rfl
end Go.Proofs.Ytbilkjolopdeiaa.E
