/- The contracts of frames: a frame as bytes. -/
import Derived.Test.YtaneamfnjhiigaaFrameE
import Derived.Test.YtaneamfnjhiigaaEFresh
namespace Go.Proofs.Ytaneamfnjhiigaa.E
open Go
set_option linter.unusedSimpArgs false
set_option linter.unusedVariables false
set_option maxRecDepth 100000
set_option maxHeartbeats 4000000

/-- A number as two bytes. -/
def pairL (n : Int) : List Int := [IntKind.u8.wrap (n.fdiv (2 ^ min (Int.toNat 8) IntKind.i64.bits)), IntKind.u8.wrap n]
theorem pairL_eq (n : Int) (h : 0 ≤ n) (h' : n < 65536) : pairL n = [n / 256, n % 256] := by
  unfold pairL
  rw [show (2 : Int) ^ min (Int.toNat 8) IntKind.i64.bits = 256 by decide, Int.fdiv_eq_ediv_of_nonneg _ (by decide), u8_wrap, u8_wrap]
  congr 1
  omega
def pairG : List AV → St → Option (Bool × AV × St)
  | [u], [] => match dI.dec u with | some n => some (true, .s 0 1 0 2, [tabl eY (pairL n)]) | none => none
  | _, _ => none
theorem pair_ok : CtrOk Try.prog 40 (localCtr pairG) :=
  localCtr_ok XF0_ok Try.func40 (by decide) rfl fun args σ u σ' h => by
    unfold pairG at h
    split at h
    case h_2 => cases h
    split at h
    case h_2 => cases h
    rename_i n hn
    simp only [Option.some.injEq, Prod.mk.injEq] at h
    obtain ⟨_, rfl, rfl⟩ := h
    rw [dI.ok hn]
    unfold runF
    (conv => arg 1; whnf)
    refine finS [0] (by decide) (.s rfl) ⟨⟨_, rfl, .tab fun k hk => ?_⟩, trivial⟩ rfl
    have hk : k < 2 := hk
    match k, hk with
    | 0, _ => rfl
    | 1, _ => rfl

/-! ### Rows behind each other -/
noncomputable def XE1 : Cx := XF0.addRun 51 (runFn XF0 Try.f51 (bodyOf Try.f51))
theorem XE1_ok : CxOk Try.prog XE1 := XF0_ok.addRun (runFn_ok XF0_ok Try.func51 (by decide) rfl)
def lenS (ls : List (List Int)) (k : Nat) : Nat := ((ls.take k).map List.length).sum
def catS (ls : List (List Int)) (k : Nat) : List Int := (ls.take k).flatten
theorem lenS_succ (ls : List (List Int)) (k : Nat) (h : k < ls.length) : lenS ls (k + 1) = lenS ls k + (ls.getD k []).length := by
  unfold lenS
  rw [List.take_succ_eq_append_getElem h, List.map_append, List.sum_append, List.getD_eq_getElem?_getD, List.getElem?_eq_getElem h]
  simp only [List.map_cons, List.map_nil, List.sum_cons, List.sum_nil, Option.getD_some]
  omega
theorem catS_succ (ls : List (List Int)) (k : Nat) (h : k < ls.length) : catS ls (k + 1) = catS ls k ++ ls.getD k [] := by
  unfold catS
  rw [List.take_succ_eq_append_getElem h, List.flatten_append, List.getD_eq_getElem?_getD, List.getElem?_eq_getElem h]
  simp only [List.flatten_cons, List.flatten_nil, List.append_nil, Option.getD_some]
theorem catS_len (ls : List (List Int)) (k : Nat) : (catS ls k).length = lenS ls k := by
  unfold catS lenS; simp [List.length_flatten]
theorem lenS_le (ls : List (List Int)) {k : Nat} (h : k ≤ ls.length) : lenS ls k ≤ lenS ls ls.length := by
  rw [← catS_len, ← catS_len]
  unfold catS
  rw [List.take_length]
  conv => rhs; rw [← List.take_append_drop k ls, List.flatten_append, List.length_append]
  omega
def concG : List AV → Option (Bool × AV × St) := ad1 (adRR eY) fun ls => some (decide (lenS ls ls.length < 1073741824) && decide (0 < lenS ls ls.length), .s 0 1 0 (lenS ls ls.length), [tabl eY (catS ls ls.length)])
theorem conc_ok : CtrOk Try.prog 43 (freshCtr concG) :=
  freshCtr_ok XE1_ok Try.func43 (by decide) rfl fun args u σn h => by
    obtain ⟨ls, hf, ⟨hlen, hlens⟩, hv⟩ := ad1_some h
    simp only [Option.some.injEq, Prod.mk.injEq, Bool.and_eq_true, decide_eq_true_eq] at hv
    obtain ⟨⟨hsm, hpos⟩, rfl, rfl⟩ := hv
    refine ⟨fun B hB => .inl ?_, _, hf, ?_⟩
    · obtain rfl := List.mem_singleton.1 hB
      exact ⟨_, _, _, rfl, fun k hk u hu => ⟨_, List.mem_singleton.1 hu⟩⟩
    clear h hf
    have hle : ∀ k, k ≤ ls.length → lenS ls k ≤ lenS ls ls.length := fun k hk => lenS_le ls hk
    unfold runF
    (conv => arg 1; whnf)
    refine loopIn (fun k : Nat => k ≤ ls.length) (fun k => frm 36 [(0, rrow eY ls), (3, i64 (lenS ls k)), (9, rrow eY ls), (10, i64 ls.length), (11, i64 k)]) (fun _ => []) (fun k => ls.length - k) 0 [] (Nat.zero_le _) List.nodup_nil ?_ True.intro rfl fun k hi => ?_
    · repeat' (first | exact True.intro | exact Fit.dead _ | exact Fit.v _ | exact .i fun _ _ => rfl | refine And.intro ?_ ?_)
    · (conv => arg 1; whnf)
      refine br (fun hk => ?_) (fun hk => ?_)
      · have hk : (k : Int) < (ls.length : Int) := of_decide_eq_true hk
        have hk : k < ls.length := by omega
        have e1 : (decide (0 ≤ (k : Int)) && decide ((k : Int) < (ls.length : Int))) = true := by simp only [Bool.and_eq_true, decide_eq_true_eq]; omega
        have e3 := lenS_succ ls k hk
        have e4 := hle (k + 1) hk
        have e5 : IntKind.i64.wrap ((lenS ls k : Int) + ((ls.getD k []).length : Int)) = ((lenS ls (k + 1) : Nat) : Int) := by rw [wf64 _ (by omega) (by omega)]; omega
        have e2 : decide (IntKind.i64.wrap ((lenS ls k : Int) + ((ls.getD k []).length : Int)) < 0) = false := by rw [e5]; exact decide_eq_false (by omega)
        (conv => arg 1; whnf); (repeat' (first | (refine brt (by assumption) ?_; (conv => arg 1; whnf)) | (refine brf (by assumption) ?_; (conv => arg 1; whnf)) | fail))
        refine again (k + 1) [] (by show k + 1 ≤ ls.length; omega) (by show ls.length - (k + 1) < ls.length - k; omega) List.nodup_nil ?_ True.intro rfl
        repeat' (first | exact True.intro | exact Fit.dead _ | exact Fit.v _ | exact .i fun _ _ => rfl | refine And.intro ?_ ?_)
        · exact Fit.v' (congrArg (Value.int .i64) e5.symm)
        · exact Fit.v' (congrArg (Value.int .i64) (nxt k (by omega)).symm)
      · have hk : ¬ (k : Int) < (ls.length : Int) := of_decide_eq_false hk
        obtain rfl : k = ls.length := by omega
        have w1 : IntKind.i64.wrap ((0 : Nat) - (0 : Nat) : Int) = 0 := wf64 _ (by omega) (by omega)
        have w2 : IntKind.i64.wrap ((lenS ls ls.length : Int) - IntKind.i64.wrap ((0 : Nat) - (0 : Nat) : Int)) = (lenS ls ls.length : Int) := by rw [w1, wf64 _ (by omega) (by omega)]; omega
        have f0 : decide ((lenS ls ls.length : Int) < 0) = false := decide_eq_false (by omega)
        have f1 : decide (0 < IntKind.i64.wrap ((lenS ls ls.length : Int) - IntKind.i64.wrap ((0 : Nat) - (0 : Nat) : Int))) = true := by rw [w2]; exact decide_eq_true (by omega)
        have f2 : (decide (0 < IntKind.i64.wrap ((lenS ls ls.length : Int) - IntKind.i64.wrap ((0 : Nat) - (0 : Nat) : Int))) && decide (IntKind.i64.wrap ((lenS ls ls.length : Int) - IntKind.i64.wrap ((0 : Nat) - (0 : Nat) : Int)) < 1073741824)) = true := by
          rw [f1, w2, Bool.true_and]; exact decide_eq_true (by omega)
        (conv => arg 1; whnf)
        refine leave ?_
        show tr _
        (conv => arg 1; whnf); (repeat' (first | (refine brt (by assumption) ?_; (conv => arg 1; whnf)) | (refine brf (by assumption) ?_; (conv => arg 1; whnf)) | fail))
        (refine brt ?_ ?_; (focus (simp; exact Int.le_max_right _ _; done)); (conv => arg 1; whnf))
        (conv => arg 1; whnf); (repeat' (first | (refine brt (by assumption) ?_; (conv => arg 1; whnf)) | (refine brf (by assumption) ?_; (conv => arg 1; whnf)) | fail))
        obtain ⟨N, hN⟩ : ∃ N, N = (IntKind.i64.wrap ((lenS ls ls.length : Int) - IntKind.i64.wrap ((0 : Nat) - (0 : Nat) : Int))).toNat := ⟨_, rfl⟩
        refine loopIn (fun k : Nat => k ≤ ls.length) (fun k => frm 36 [(6, .s 0 1 0 (lenS ls k)), (25, rrow eY ls), (26, i64 ls.length), (27, i64 k)]) (fun k => match k with | 0 => [.tab 1 N fun _ => [u8 0]] | k + 1 => [tabl eY (catS ls (k + 1))]) (fun k => ls.length - k) 0 [0] (Nat.zero_le _) (by decide) ?_ ?_ rfl fun k hi => ?_
        · repeat' (first | exact True.intro | exact Fit.dead _ | exact Fit.v _ | exact .s rfl | exact .i fun _ _ => rfl | refine And.intro ?_ ?_)
        · exact ⟨⟨_, rfl, by rw [hN]; exact .tab fun _ _ => rfl⟩, trivial⟩
        · have fin : ∀ {g : Nat → List AV} {m : Nat} {l : List Int} {σ : St} {j : Nat}, σ[j]? = some (.tab 1 m g) → RowIs eY m g l → m = l.length → ∃ B, σ[j]? = some B ∧ FitB [j] σ (tabl eY l) B := fun h1 h2 h3 => ⟨_, h1, fit_tab h2⟩
          rcases k with _ | k
          · (conv => arg 1; whnf)
            refine br (fun hk => ?_) (fun hk => ?_)
            · have hk : ((0 : Nat) : Int) < (ls.length : Int) := of_decide_eq_true hk
              have e1 : (decide (0 ≤ ((0 : Nat) : Int)) && decide (((0 : Nat) : Int) < (ls.length : Int))) = true := by simp only [Bool.and_eq_true, decide_eq_true_eq]; omega
              have e4 := lenS_succ ls 0 (by omega)
              have e5 := hle (0 + 1) (by omega)
              have f3 : ((0 + lenS ls 0).ble N && (true && (lenS ls 0 + (ls.getD 0 []).length).ble 4294967295)) = true := by
                rw [Nat.ble_eq_true_of_le (show 0 + lenS ls 0 ≤ N from Nat.zero_le _), Nat.ble_eq_true_of_le (show lenS ls 0 + (ls.getD 0 []).length ≤ 4294967295 by omega)]; rfl
              (conv => arg 1; whnf); (repeat' (first | (refine brt (by assumption) ?_; (conv => arg 1; whnf)) | (refine brf (by assumption) ?_; (conv => arg 1; whnf)) | fail))
              refine again 1 [1] (by show 1 ≤ ls.length; omega) (by show ls.length - 1 < ls.length - 0; omega) (by decide) ?_ ⟨⟨_, rfl, ?_⟩, trivial⟩ rfl
              · repeat' (first | exact True.intro | exact Fit.dead _ | exact Fit.v _ | exact .i fun _ _ => rfl | refine And.intro ?_ ?_)
                · show Fit _ _ (.s 0 1 0 (lenS ls (0 + 1))) _
                  rw [e4]; exact .s rfl
              · show FitB _ _ (tabl eY (catS ls (0 + 1))) _
                rw [catS_succ ls 0 (by omega)]
                exact fit_tab (RowIs.joined eY (RowIs.nil eY _) (RowIs.row eY _))
            · exfalso
              have hk : ¬ ((0 : Nat) : Int) < (ls.length : Int) := of_decide_eq_false hk
              have : ls.length = 0 := by omega
              rw [this] at hpos
              simp [lenS] at hpos
          · (conv => arg 1; whnf)
            refine br (fun hk => ?_) (fun hk => ?_)
            · have hk : ((k + 1 : Nat) : Int) < (ls.length : Int) := of_decide_eq_true hk
              have e1 : (decide (0 ≤ ((k + 1 : Nat) : Int)) && decide (((k + 1 : Nat) : Int) < (ls.length : Int))) = true := by simp only [Bool.and_eq_true, decide_eq_true_eq]; omega
              have e4 := lenS_succ ls (k + 1) (by omega)
              have e5 := hle (k + 1 + 1) (by omega)
              have f3 : ((0 + lenS ls (k + 1)).ble (catS ls (k + 1)).length && (true && (lenS ls (k + 1) + (ls.getD (k + 1) []).length).ble 4294967295)) = true := by
                rw [catS_len, Nat.ble_eq_true_of_le (show 0 + lenS ls (k + 1) ≤ lenS ls (k + 1) by omega), Nat.ble_eq_true_of_le (show lenS ls (k + 1) + (ls.getD (k + 1) []).length ≤ 4294967295 by omega)]; rfl
              (conv => arg 1; whnf); (repeat' (first | (refine brt (by assumption) ?_; (conv => arg 1; whnf)) | (refine brf (by assumption) ?_; (conv => arg 1; whnf)) | fail))
              refine again (k + 1 + 1) [1] (by show k + 1 + 1 ≤ ls.length; omega) (by show ls.length - (k + 1 + 1) < ls.length - (k + 1); omega) (by decide) ?_ ⟨⟨_, rfl, ?_⟩, trivial⟩ rfl
              · repeat' (first | exact True.intro | exact Fit.dead _ | exact Fit.v _ | exact .i fun _ _ => rfl | refine And.intro ?_ ?_)
                · show Fit _ _ (.s 0 1 0 (lenS ls (k + 1 + 1))) _
                  rw [e4]; exact .s rfl
                · exact Fit.v' (congrArg (Value.int .i64) (nxt (k + 1) (by omega)).symm)
              · show FitB _ _ (tabl eY (catS ls (k + 1 + 1))) _
                rw [catS_succ ls (k + 1) (by omega)]
                refine fit_tab (RowIs.joined eY ?_ (RowIs.row eY _))
                rw [← catS_len]
                exact RowIs.all eY (RowIs.row eY _)
            · have hk : ¬ ((k + 1 : Nat) : Int) < (ls.length : Int) := of_decide_eq_false hk
              have hk : k + 1 = ls.length := by omega
              (conv => arg 1; whnf)
              refine leave ?_
              show tr _
              (conv => arg 1; whnf)
              rw [hk]
              exact finS [0] (by decide) (.s rfl) ⟨⟨_, rfl, .tab fun _ _ => rfl⟩, trivial⟩ rfl

/-! ### A frame as bytes -/
structure Fr where
  (ki ca sq a b c : Int)
def Fr.av (f : Fr) : AV := .a [i64 f.ki, i64 f.ca, i64 f.sq, i64 f.a, i64 f.b, i64 f.c]
def dFr : Dec Fr := ⟨fun u => match u with
  | .a [.v (.int .i64 a), .v (.int .i64 b), .v (.int .i64 c), .v (.int .i64 d), .v (.int .i64 e), .v (.int .i64 f)] => some ⟨a, b, c, d, e, f⟩
  | _ => none, Fr.av, fun {u a} h => (by split at h <;> first | (obtain rfl := Option.some.inj h; rfl) | cases h)⟩
def adFr : Ad Fr := adD dFr fun a => Fit.al ⟨.v _, .v _, .v _, .v _, .v _, .v _, trivial⟩
def Fr.may (f : Fr) : Bool := (decide (1 ≤ f.ki) && decide (f.ki ≤ 3)) && (fitsL 255 [f.ca, f.a, f.b, f.c] && fitsL 65535 [f.sq])
theorem Fr.may_bd {f : Fr} (h : f.may = true) : 1 ≤ f.ki ∧ f.ki ≤ 3 ∧ 0 ≤ f.ca ∧ f.ca ≤ 255 ∧ 0 ≤ f.sq ∧ f.sq ≤ 65535 ∧ 0 ≤ f.a ∧ f.a ≤ 255 ∧ 0 ≤ f.b ∧ f.b ≤ 255 ∧ 0 ≤ f.c ∧ f.c ≤ 255 := by
  unfold Fr.may fitsL at h
  simp only [List.all_cons, List.all_nil, Bool.and_eq_true, decide_eq_true_eq] at h
  omega
def Fr.body (f : Fr) : List Int := [165, f.ki, f.ca, f.sq / 256, f.sq % 256, f.a, f.b, f.c]
/-- The bytes of a frame that may be. -/
def Fr.bytes (f : Fr) : List Int := [165, f.ki, f.ca, f.sq / 256, f.sq % 256, f.a, f.b, f.c, crc f.body / 256, crc f.body % 256]
def encG : List AV → Option (Bool × AV × St) := ad1 adFr fun f => match f.may with
  | true => some (true, .t [.s 0 1 0 10, i64 0], [tabl eY f.bytes])
  | false => some (true, .t [.v (.slice none 0 0), i64 1], [])
def concF : List AV → Option (Bool × AV × St) := ad1 (adRR eY) fun ls => normL ls fun ls => some (decide (lenS ls ls.length < 1073741824) && decide (0 < lenS ls ls.length), .s 0 1 0 (lenS ls ls.length), [tabl eY (catS ls ls.length)])
theorem concF_ok : CtrOk Try.prog 43 (freshCtr concF) := by
  have : concF = concG := by unfold concF concG; simp only [normL_eq]
  rw [this]
  exact conc_ok
def XE2 : Cx := ((((XF0.add 41 .pure (pureCtr kindG)).add 42 (.reads readsL) (borCtr fitsG)).add 40 (.foot footL) (localCtr pairG)).add 22 (.reads readsL) (borCtr sumG)).add 43 (.foot reads2) (freshCtr concF)
theorem XE2_ok : CxOk Try.prog XE2 := ((((XF0_ok.pure kind_ok).bor fits_ok).loc pair_ok).bor sum_ok).fresh concF_ok
theorem enc_ok : CtrOk Try.prog 26 (freshCtr encG) :=
  freshCtr_ok XE2_ok Try.func26 (by decide) rfl fun args u σn h => by
    obtain ⟨f, hf, _, hv⟩ := ad1_some h
    split at hv
    · rename_i hm
      simp only [Option.some.injEq, Prod.mk.injEq, true_and] at hv
      obtain ⟨rfl, rfl⟩ := hv
      refine ⟨fun B hB => .inl ?_, _, hf, ?_⟩
      · obtain rfl := List.mem_singleton.1 hB
        exact ⟨_, _, _, rfl, fun k hk u hu => ⟨_, List.mem_singleton.1 hu⟩⟩
      clear h hf
      have hb := Fr.may_bd hm
      have e1 : (!(decide (1 ≤ f.ki) && decide (f.ki ≤ 3))) = false := by simp; omega
      have e2 : (!fitsL 255 [f.ca, f.a, f.b, f.c]) = false := by unfold fitsL; simp; omega
      have e3 : (!fitsL 65535 [f.sq]) = false := by unfold fitsL; simp; omega
      unfold runF
      (conv => arg 1; whnf); (repeat' (first | (refine brt (by assumption) ?_; (conv => arg 1; whnf)) | (refine brf (by assumption) ?_; (conv => arg 1; whnf)) | fail))
      have w : ∀ n : Int, 0 ≤ n → n ≤ 255 → IntKind.u8.wrap n = n := fun n h0 h1 => by rw [u8_wrap]; omega
      have hp := pairL_eq f.sq (by omega) (by omega)
      have hcb := crc_bd f.body
      have hq := pairL_eq (crc f.body) (by omega) (by omega)
      have hbody : [165, IntKind.u8.wrap f.ki, IntKind.u8.wrap f.ca, (pairL f.sq).getD 0 0, (pairL f.sq).getD 1 0, IntKind.u8.wrap f.a, IntKind.u8.wrap f.b, IntKind.u8.wrap f.c] = f.body := by
        rw [hp, w f.ki (by omega) (by omega), w f.ca (by omega) (by omega), w f.a (by omega) (by omega), w f.b (by omega) (by omega), w f.c (by omega) (by omega)]; rfl
      have h8 : ∀ l, l = f.body → crc f.body / 256 = (pairL (crc l)).getD 0 0 := fun l hl => by rw [hl, hq]; rfl
      have h9 : ∀ l, l = f.body → crc f.body % 256 = (pairL (crc l)).getD 1 0 := fun l hl => by rw [hl, hq]; rfl
      have p0 : f.sq / 256 = (pairL f.sq).getD 0 0 := by rw [hp]; rfl
      have p1 : f.sq % 256 = (pairL f.sq).getD 1 0 := by rw [hp]; rfl
      refine finS [9] (by decide) (.tl ⟨.s rfl, .v _, trivial⟩) ⟨⟨_, rfl, .tab fun k hk => ?_⟩, trivial⟩ rfl
      have hk : k < 10 := hk
      match k, hk with
      | 0, _ => rfl
      | 1, _ => exact congrArg (fun z => [u8 z]) (w f.ki (by omega) (by omega)).symm
      | 2, _ => exact congrArg (fun z => [u8 z]) (w f.ca (by omega) (by omega)).symm
      | 3, _ => exact congrArg (fun z => [u8 z]) p0
      | 4, _ => exact congrArg (fun z => [u8 z]) p1
      | 5, _ => exact congrArg (fun z => [u8 z]) (w f.a (by omega) (by omega)).symm
      | 6, _ => exact congrArg (fun z => [u8 z]) (w f.b (by omega) (by omega)).symm
      | 7, _ => exact congrArg (fun z => [u8 z]) (w f.c (by omega) (by omega)).symm
      | 8, _ => exact congrArg (fun z => [u8 z]) (h8 _ hbody)
      | 9, _ => exact congrArg (fun z => [u8 z]) (h9 _ hbody)
    · rename_i hm
      simp only [Option.some.injEq, Prod.mk.injEq, true_and] at hv
      obtain ⟨rfl, rfl⟩ := hv
      refine ⟨fun B hB => by simp at hB, _, hf, ?_⟩
      clear h hf
      unfold runF
      (conv => arg 1; whnf)
      refine br (fun h1 => ?_) (fun h1 => ?_)
      · (conv => arg 1; whnf); (repeat' (first | (refine brt (by assumption) ?_; (conv => arg 1; whnf)) | (refine brf (by assumption) ?_; (conv => arg 1; whnf)) | fail))
        exact finS [] (by decide) (.tl ⟨.v _, .v _, trivial⟩) True.intro rfl
      · (conv => arg 1; whnf); (repeat' (first | (refine brt (by assumption) ?_; (conv => arg 1; whnf)) | (refine brf (by assumption) ?_; (conv => arg 1; whnf)) | fail))
        refine br (fun h2 => ?_) (fun h2 => ?_)
        · (conv => arg 1; whnf); (repeat' (first | (refine brt (by assumption) ?_; (conv => arg 1; whnf)) | (refine brf (by assumption) ?_; (conv => arg 1; whnf)) | fail))
          exact finS [] (by decide) (.tl ⟨.v _, .v _, trivial⟩) True.intro rfl
        · (conv => arg 1; whnf); (repeat' (first | (refine brt (by assumption) ?_; (conv => arg 1; whnf)) | (refine brf (by assumption) ?_; (conv => arg 1; whnf)) | fail))
          refine br (fun h3 => ?_) (fun h3 => ?_)
          · (conv => arg 1; whnf); (repeat' (first | (refine brt (by assumption) ?_; (conv => arg 1; whnf)) | (refine brf (by assumption) ?_; (conv => arg 1; whnf)) | fail))
            exact finS [] (by decide) (.tl ⟨.v _, .v _, trivial⟩) True.intro rfl
          · exfalso
            have g2 : (!fitsL 255 [f.ca, f.a, f.b, f.c]) = false := h2
            have g3 : (!fitsL 65535 [f.sq]) = false := h3
            unfold Fr.may at hm
            simp only [Bool.not_eq_false'] at h1 g2 g3
            rw [h1, g2, g3] at hm
            cases hm
end Go.Proofs.Ytaneamfnjhiigaa.E
