/- safe.Tick, where no more than one thing is wrong. -/
import Derived.Test.YthdeehkmlaejfaaSafeE
namespace Go.Proofs.Ythdeehkmlaejfaa.E
open Go NumMath
set_option linter.unusedSimpArgs false
set_option linter.unusedVariables false
set_option maxRecDepth 100000
set_option maxHeartbeats 8000000
/-! ### Calls by what they are -/
def sameK (c d : Cll) : Bool := decide (c.fl = d.fl) && (decide (c.ca = d.ca) && (decide ((0 : Int) = 0) && (c.up == d.up)))
abbrev keyC (c : Cll) : List AV := [i64 c.fl, i64 c.ca, i64 0, boo c.up]
def ent (c : Cll) (i : Nat) : MapEntry := ⟨.agg #[.int .i64 c.fl, .int .i64 c.ca, .int .i64 0, .bool c.up], .int .i64 c.ag, i⟩
def bookF : Nat → List Cll → List MapEntry
  | _, [] => []
  | i, c :: l => ent c i :: bookF (i + 1) l
theorem bookF_snoc (c : Cll) : ∀ (l : List Cll) (i : Nat), bookF i (l ++ [c]) = bookF i l ++ [ent c (i + l.length)]
  | [], i => rfl
  | d :: l, i => by
    simp only [List.cons_append, bookF, bookF_snoc c l (i + 1), List.length_cons]
    rw [show i + 1 + l.length = i + (l.length + 1) by omega]
theorem bookF_len : ∀ (l : List Cll) (i : Nat), (bookF i l).length = l.length
  | [], _ => rfl
  | _ :: l, i => by simp only [bookF, List.length_cons, bookF_len l (i + 1)]
theorem eqS_ent (c d : Cll) (i : Nat) : eqS tt 39 (keyC c) (ent d i) = some (sameK c d) := rfl
theorem okS_book (c : Cll) : ∀ (l : List Cll) (i : Nat), okS tt 39 (keyC c) (bookF i l) = true
  | [], _ => rfl
  | d :: l, i => by
    simp only [bookF, okS, eqS_ent, Bool.and_eq_true]
    exact ⟨rfl, okS_book c l (i + 1)⟩
theorem keyS_ok (c : Cll) : keyS tt 39 (keyC c) = true := rfl
theorem find_none {c : Cll} : ∀ {l : List Cll} (i j : Nat), (∀ d ∈ l, sameK c d = false) → mFindS tt 39 (keyC c) (bookF i l) j = none
  | [], _, _, _ => rfl
  | d :: l, i, j, h => by
    simp only [bookF, mFindS, eqS_ent, h d List.mem_cons_self, cond]
    exact find_none (i + 1) (j + 1) fun e he => h e (List.mem_cons_of_mem _ he)
theorem find_some {c : Cll} : ∀ {l : List Cll} (i j : Nat) {d : Cll}, l.find? (sameK c) = some d → ∃ k, mFindS tt 39 (keyC c) (bookF i l) j = some (k, .int .i64 d.ag)
  | [], _, _, _, h => by cases h
  | e :: l, i, j, d, h => by
    simp only [bookF, mFindS, eqS_ent]
    cases hq : sameK c e with
    | true =>
      rw [List.find?_cons_of_pos hq] at h
      obtain rfl := Option.some.inj h
      exact ⟨j, rfl⟩
    | false =>
      rw [List.find?_cons_of_neg (by simp [hq])] at h
      exact find_some (i + 1) (j + 1) h
/-- No two calls are alike. -/
def nodupK (l : List Cll) : Bool := (List.range l.length).all fun i => (List.range i).all fun j => !sameK (l.getD i eCl.dflt) (l.getD j eCl.dflt)
def vanB (b : List Car) (wt : List Cll) (c : Cll) : Bool := (!(wt.any (sameK c))) && !servedB b c
def youB (wd : List Cll) (c : Cll) : Bool := match wd.find? (sameK c) with
  | some d => !decide (c.ag = lim (lim d.ag + lim 1))
  | none => !decide (c.ag = 1)
def lpF (s : Site) (b n : List Car) : Bool := leapsB s b n
def awF (r : Bool) (b n : List Car) : Bool := r && awayB b n
def vnF (b : List Car) (wd wt : List Cll) : Bool := wd.any fun c => vanB b wt c
def ygF (wd wt : List Cll) : Bool := wt.any fun c => youB wd c
/-- No more than one of them. -/
def few4 (a b c d : Bool) : Bool := (!(a && (b || (c || d)))) && ((!(b && (c || d))) && !(c && d))
def tickL (s : Site) (b n : List Car) (wd wt : List Cll) (r : Bool) : List Int := cond (lpF s b n) [1] (cond (awF r b n) [3] (cond (vnF b wd wt) [2] (cond (ygF wd wt) [4] [])))
def adC {α τ : Type} (d : Ad α) (G : α → List AV → Option (Bool × τ)) : List AV → Option (Bool × τ)
  | u :: us => match d.dec u with | some (c, a) => andC c (G a us) | none => none
  | [] => none
theorem adC_some {α τ : Type} {d : Ad α} {G : α → List AV → Option (Bool × τ)} {args : List AV} {v : τ} (h : adC d G args = some (true, v)) : ∃ a u us, args = u :: us ∧ Fit [] [] (d.enc a) u ∧ d.p a ∧ G a us = some (true, v) := by
  unfold adC at h
  split at h
  · rename_i u us
    split at h
    · rename_i c a hd
      obtain ⟨hc, h'⟩ := andC_some h
      subst hc
      exact ⟨a, u, us, rfl, (d.ok hd).1, (d.ok hd).2, h'⟩
    · cases h
  · cases h
def tickC (s : Site) (b n : List Car) (wd wt : List Cll) (r : Bool) : Bool := ((nodupK wd && nodupK wt) && ((decide (b.length ≤ 1000) && decide (n.length ≤ 1000)) && (decide (wd.length ≤ 1000) && decide (wt.length ≤ 1000)))) && few4 (lpF s b n) (awF r b n) (vnF b wd wt) (ygF wd wt)
/-- A slice that holds nothing is none. -/
def resL (l : List Int) : AV × St := match l with | [] => (.v (.slice none 0 0), []) | l => (.s 0 1 0 l.length, [tabl eI l])
def tickG : List AV → Option (Bool × AV × St) := adC (adD dSite fitSiteA) fun s => adC (adR eCr) fun b => ad4 (adR eCr) (adR eCl) (adR eCl) adB fun n wd wt r => some (tickC s b n wd wt r, resL (tickL s b n wd wt r))
/-! ### What is called -/
noncomputable def XI0 : Cx := XF0.addRun 37 (runFn XF0 Try.f37 (bodyOf Try.f37))
theorem XI0_ok : CxOk Try.prog XI0 := XF0_ok.addRun (runFn_ok XF0_ok Try.func37 (by decide) rfl)
noncomputable def XLn : Cx := XF0.addRun 47 (runFn XF0 Try.f47 (bodyOf Try.f47))
theorem XLn_ok : CxOk Try.prog XLn := XF0_ok.addRun (runFn_ok XF0_ok Try.func47 (by decide) rfl)
noncomputable def XSo : Cx := (XF0.addRun 33 (runFn XLn Try.f33 (bodyOf Try.f33))).addRun 32 (runFn XI0 Try.f32 (bodyOf Try.f32))
theorem XSo_ok : CxOk Try.prog XSo := (XF0_ok.addRun (runFn_ok XLn_ok Try.func33 (by decide) rfl)).addRun (runFn_ok XI0_ok Try.func32 (by decide) rfl)
noncomputable def XAp : Cx := XF0.addRun 26 (runFn XF0 Try.f26 (bodyOf Try.f26))
theorem XAp_ok : CxOk Try.prog XAp := XF0_ok.addRun (runFn_ok XF0_ok Try.func26 (by decide) rfl)
noncomputable def XCo : Cx := XF0.addRun 31 (runFn XAp Try.f31 (bodyOf Try.f31))
theorem XCo_ok : CxOk Try.prog XCo := XF0_ok.addRun (runFn_ok XAp_ok Try.func31 (by decide) rfl)
noncomputable def XSd : Cx := (XF0.addRun 24 (runFn XCo Try.f24 (bodyOf Try.f24))).addRun 25 (runFn XSo Try.f25 (bodyOf Try.f25))
theorem XSd_ok : CxOk Try.prog XSd := (XF0_ok.addRun (runFn_ok XCo_ok Try.func24 (by decide) rfl)).addRun (runFn_ok XSo_ok Try.func25 (by decide) rfl)
noncomputable def XBk : Cx := XF0.add 18 .pure (pureCtr keyG)
theorem XBk_ok : CxOk Try.prog XBk := XF0_ok.pure key_ok
noncomputable def XTk : Cx := (((((((((XF0.add 18 .pure (pureCtr keyG)).add 19 .pure (pureCtr addG)).add 14 (.reads readsL) (borCtr leapsG)).add 15 (.reads readsL) (borCtr awayG)).add 17 (.reads readsL) (borCtr servedG)).addRun 16 (runFn XBk Try.f16 (bodyOf Try.f16))).addRun 21 (runFn XF0 Try.f21 (bodyOf Try.f21))).addRun 20 (runFn XSd Try.f20 (bodyOf Try.f20))).join 29).join 36
theorem XTk_ok : CxOk Try.prog XTk := (((((((((XF0_ok.pure key_ok).pure add_ok).bor leaps_ok).bor away_ok).bor served_ok).addRun (runFn_ok XBk_ok Try.func16 (by decide) rfl)).addRun (runFn_ok XF0_ok Try.func21 (by decide) rfl)).addRun (runFn_ok XSd_ok Try.func20 (by decide) rfl)).join 29 rfl).join 36 rfl
/-- What is wrong, as it stands in memory. -/
def fmB : Option Int → Blk
  | none => .map [] 0
  | some k => .map [⟨.int .i64 k, .bool true, 0⟩] 1
theorem plainTabI {l : List Int} : PlainS [tabl eI l] := fun B h => by
  obtain rfl := List.mem_singleton.1 h
  exact .inl ⟨1, l.length, _, rfl, fun k _ u hu => by obtain rfl := List.mem_singleton.1 hu; exact ⟨_, rfl⟩⟩
theorem plainRes {l : List Int} : PlainS (resL l).2 := by
  cases l with
  | nil => exact fun B h => by cases h
  | cons a l => exact plainTabI
theorem fitFm {ρ : List Nat} {σ : St} (f : Option Int) : FitB ρ σ (fmB f) (fmB f) := by cases f <;> exact .map _ _
theorem fitMapS {ρ : List Nat} {σ : St} {es es' : List MapEntry} {c c' : Nat} (h : es = es') (hc : c = c') : FitB ρ σ (.map es c) (.map es' c') := by subst h hc; exact .map es c
theorem nodup_get {l : List Cll} (h : nodupK l = true) {k : Nat} (hk : k < l.length) : ∀ d ∈ l.take k, sameK (l.getD k eCl.dflt) d = false := by
  intro d hd
  obtain ⟨j, hj, rfl⟩ := List.getElem_of_mem hd
  have hj' : j < k := by rw [List.length_take] at hj; omega
  have h1 := List.all_eq_true.1 (List.all_eq_true.1 h k (List.mem_range.2 hk)) j (List.mem_range.2 hj')
  have e : (l.take k)[j] = l.getD j eCl.dflt := by
    rw [List.getElem_take, List.getD_eq_getElem?_getD, List.getElem?_eq_getElem (by omega)]; rfl
  rw [e]
  simpa using h1
theorem take_snoc {l : List Cll} {k : Nat} (hk : k < l.length) : l.take (k + 1) = l.take k ++ [l.getD k eCl.dflt] := by
  rw [List.take_succ_eq_append_getElem hk, List.getD_eq_getElem?_getD, List.getElem?_eq_getElem hk]; rfl
theorem mem_book {e : MapEntry} : ∀ {l : List Cll} {i : Nat}, e ∈ bookF i l → ∃ k, k < l.length ∧ e = ent (l.getD k eCl.dflt) (i + k)
  | [], _, h => by cases h
  | c :: l, i, h => by
    rcases List.mem_cons.1 h with rfl | h
    · exact ⟨0, by simp, rfl⟩
    · obtain ⟨k, hk, rfl⟩ := mem_book h
      exact ⟨k + 1, by simpa using hk, by rw [show i + 1 + k = i + (k + 1) by omega]; rfl⟩
theorem book_mem : ∀ {l : List Cll} {i k : Nat}, k < l.length → ent (l.getD k eCl.dflt) (i + k) ∈ bookF i l
  | [], _, _, h => absurd h (by simp)
  | c :: l, i, 0, _ => List.mem_cons_self
  | c :: l, i, k + 1, h => by
    have := book_mem (l := l) (i := i + 1) (k := k) (by simpa using h)
    rw [show i + 1 + k = i + (k + 1) by omega] at this
    exact List.mem_cons_of_mem _ this
theorem find_book : ∀ {l : List Cll} {i k : Nat}, k < l.length → (bookF i l).find? (fun e => e.born == i + k) = some (ent (l.getD k eCl.dflt) (i + k))
  | [], _, _, h => absurd h (by simp)
  | c :: l, i, 0, _ => List.find?_cons_of_pos (by simp [ent])
  | c :: l, i, k + 1, h => by
    have := find_book (l := l) (i := i + 1) (k := k) (by simpa using h)
    rw [show i + 1 + k = i + (k + 1) by omega] at this
    rw [bookF, List.find?_cons_of_neg (by simp [ent])]
    exact this
theorem bookL {l : List Cll} {seen : List Nat} {e : MapEntry} (h : e ∈ leftE (bookF 0 l) seen) : ∃ k, k < l.length ∧ k ∉ seen ∧ e = ent (l.getD k eCl.dflt) k := by
  unfold leftE at h
  obtain ⟨h1, h2⟩ := List.mem_filter.1 h
  obtain ⟨k, hk, rfl⟩ := mem_book h1
  rw [Nat.zero_add] at h2 ⊢
  exact ⟨k, hk, by simpa [ent] using h2, rfl⟩
theorem bookN {l : List Cll} {seen : List Nat} (h : leftE (bookF 0 l) seen = []) : ∀ k, k < l.length → k ∈ seen := fun k hk => by
  unfold leftE at h
  have := List.filter_eq_nil_iff.1 h _ (book_mem (i := 0) hk)
  simpa [ent] using this
theorem entBook {tt : List TE} {fr : List AV} {σ : St} {x : Operand} {m l s c i : Nat} {seen : List Nat} {L : List Cll} (hx : ev fr x = .p m 0) (hm : σ[m]? = some (.iter l s (seen ++ [i]) c)) (hl : σ[l]? = some (.map (bookF 0 L) c)) (hi : i < L.length) : aOp tt (.entry x) fr σ = some (true, .t [.a (keyC (L.getD i eCl.dflt)), i64 (L.getD i eCl.dflt).ag], σ) := by
  have h1 : (seen ++ [i]).getLast? = some i := by simp
  have h2 := find_book (i := 0) hi
  simp only [Nat.zero_add] at h2
  simp only [aOp, hx, aEntry, hm, hl, h1, h2, keep2, Nat.beq_refl]
  rfl
theorem oldBook {l : List Cll} : (((bookF 0 l).all fun e => Nat.blt e.born l.length) && Nat.ble l.length l.length) = true := by
  refine and2 (List.all_eq_true.2 fun e he => ?_) (Nat.ble_eq_true_of_le (Nat.le_refl _))
  obtain ⟨k, hk, rfl⟩ := mem_book he
  simpa [Nat.blt_eq, ent] using hk
theorem lessSeen {l seen : List Nat} {i : Nat} (h : i ∈ l) (hn : i ∉ seen) : (l.filter fun k => !(seen ++ [i]).contains k).length < (l.filter fun k => !seen.contains k).length := by
  have e : (l.filter fun k => !(seen ++ [i]).contains k) = (l.filter fun k => !seen.contains k).filter fun k => !decide (k = i) := by
    rw [List.filter_filter]
    refine List.filter_congr fun k _ => ?_
    by_cases h1 : k ∈ seen <;> by_cases h2 : k = i <;> simp [h1, h2]
  rw [e]
  exact List.length_filter_lt_length_iff_exists.2 ⟨i, List.mem_filter.2 ⟨h, by simpa using hn⟩, by simp⟩
def vanS (b : List Car) (wd wt : List Cll) (seen : List Nat) : Bool := seen.any fun i => vanB b wt (wd.getD i eCl.dflt)
theorem vanS_all {b : List Car} {wd wt : List Cll} {seen : List Nat} (h1 : ∀ k, k < wd.length → k ∈ seen) (h2 : ∀ i ∈ seen, i < wd.length) : vanS b wd wt seen = vnF b wd wt := by
  unfold vanS vnF
  rw [Bool.eq_iff_iff, List.any_eq_true, List.any_eq_true]
  constructor
  · rintro ⟨i, hi, h⟩
    have := h2 i hi
    rw [List.getD_eq_getElem?_getD, List.getElem?_eq_getElem this] at h
    exact ⟨_, List.getElem_mem this, h⟩
  · rintro ⟨c, hc, h⟩
    obtain ⟨i, hi, rfl⟩ := List.getElem_of_mem hc
    refine ⟨i, h1 i hi, ?_⟩
    rw [List.getD_eq_getElem?_getD, List.getElem?_eq_getElem hi]
    exact h
theorem vanS_snoc {b : List Car} {wd wt : List Cll} {seen : List Nat} {i : Nat} : vanS b wd wt (seen ++ [i]) = (vanS b wd wt seen || vanB b wt (wd.getD i eCl.dflt)) := by
  unfold vanS
  rw [List.any_append]
  simp
theorem vanS_le {b : List Car} {wd wt : List Cll} {seen : List Nat} (h2 : ∀ i ∈ seen, i < wd.length) (h : vanS b wd wt seen = true) : vnF b wd wt = true := by
  unfold vanS at h
  unfold vnF
  obtain ⟨i, hi, h⟩ := List.any_eq_true.1 h
  have := h2 i hi
  rw [List.getD_eq_getElem?_getD, List.getElem?_eq_getElem this] at h
  exact List.any_eq_true.2 ⟨_, List.getElem_mem this, h⟩
theorem tick_ok : CtrOk Try.prog 9 (freshCtr tickG) :=
  freshCtr_ok XTk_ok Try.func9 (by decide) rfl fun args u σn h => by
    obtain ⟨s, us, ar, rfl, hf1, _, h⟩ := adC_some h
    obtain ⟨b, ub, ar, rfl, hf2, hb2, h⟩ := adC_some h
    obtain ⟨n, wd, wt, r, hf, hn2, hwd, hwt, _, hv⟩ := ad4_some h
    simp only [Option.some.injEq, Prod.mk.injEq, Prod.ext_iff] at hv
    obtain ⟨hc, hu, hs⟩ := hv
    obtain ⟨rfl, rfl⟩ : u = (resL (tickL s b n wd wt r)).1 ∧ σn = (resL (tickL s b n wd wt r)).2 := ⟨hu.symm, hs.symm⟩
    refine ⟨plainRes, [s.av, row eCr b, row eCr n, row eCl wd, row eCl wt, boo r], ⟨hf1, hf2, hf⟩, ?_⟩
    clear h hf hf1 hf2
    unfold tickC at hc
    simp only [Bool.and_eq_true, decide_eq_true_eq] at hc
    obtain ⟨⟨⟨hn1, hn3⟩, ⟨hbl, hnl⟩, hwl, htl⟩, hfew⟩ := hc
    obtain ⟨lp, hlp⟩ : ∃ x, x = lpF s b n := ⟨_, rfl⟩
    obtain ⟨aw, haw⟩ : ∃ x, x = awF r b n := ⟨_, rfl⟩
    obtain ⟨vn, hvn⟩ : ∃ x, x = vnF b wd wt := ⟨_, rfl⟩
    obtain ⟨yg, hyg⟩ : ∃ x, x = ygF wd wt := ⟨_, rfl⟩
    have hL : tickL s b n wd wt r = cond lp [1] (cond aw [3] (cond vn [2] (cond yg [4] []))) := by rw [hlp, haw, hvn, hyg]; rfl
    rw [hL]
    rw [← hlp, ← haw, ← hvn, ← hyg] at hfew
    unfold runF
    (conv => arg 1; whnf)
    refine joinIn (fun _ : Unit => True) (fun _ => frm 107 [(1, row eCr b), (2, row eCr n), (3, row eCl wd), (4, row eCl wt), (5, boo r), (13, .mp 1)]) (fun _ => [siteB s, fmB (cond lp (some 1) none)]) ?_ (fun _ _ => ?_)
    · (conv => arg 1; whnf)
      (refine brt ?_ ?_; (focus (exact and2 rfl (and2 (and2 (and2 (decide_eq_true (by rw [rows_row]; exact hnl)) (isRow_row eCr hn2)) (isRow_row eCr hb2)) rfl); done)); (conv => arg 1; whnf))
      have hq : leapsB ⟨s.fl, s.ca, s.st, s.sp, s.so, s.op, s.wa, s.cl, s.nu, s.ag, s.si, s.bu, s.pe⟩ (rows eCr b.length fun k => eCr.enc (b.getD k eCr.dflt)) (rows eCr n.length fun k => eCr.enc (n.getD k eCr.dflt)) = lp := by rw [rows_row, rows_row, hlp]; rfl
      rw [hq]
      cases lp with
      | true =>
        (conv => arg 1; whnf); (repeat' (first | (refine brt (by assumption) ?_; (conv => arg 1; whnf)) | (refine brf (by assumption) ?_; (conv => arg 1; whnf)) | fail))
        refine joinTo () [0, 1] trivial (by decide) ?_ ⟨⟨_, rfl, .lit (by (repeat' (first | exact True.intro | exact Fit.dead _ | exact Fit.v _ | exact .p rfl | exact .s rfl | exact .i fun _ _ => rfl | refine And.intro ?_ ?_)))⟩, ⟨_, rfl, .map _ _⟩, trivial⟩ rfl
        (repeat' (first | exact True.intro | exact Fit.dead _ | exact Fit.v _ | exact .p rfl | exact .s rfl | exact .i fun _ _ => rfl | exact .mp rfl | refine And.intro ?_ ?_))
      | false =>
        (conv => arg 1; whnf); (repeat' (first | (refine brt (by assumption) ?_; (conv => arg 1; whnf)) | (refine brf (by assumption) ?_; (conv => arg 1; whnf)) | fail))
        refine joinTo () [0, 1] trivial (by decide) ?_ ⟨⟨_, rfl, .lit (by (repeat' (first | exact True.intro | exact Fit.dead _ | exact Fit.v _ | exact .p rfl | exact .s rfl | exact .i fun _ _ => rfl | refine And.intro ?_ ?_)))⟩, ⟨_, rfl, .map _ _⟩, trivial⟩ rfl
        (repeat' (first | exact True.intro | exact Fit.dead _ | exact Fit.v _ | exact .p rfl | exact .s rfl | exact .i fun _ _ => rfl | exact .mp rfl | refine And.intro ?_ ?_))
    (conv => arg 1; whnf)
    refine joinIn (fun _ : Unit => True) (fun _ => frm 107 [(1, row eCr b), (2, row eCr n), (3, row eCl wd), (4, row eCl wt), (13, .mp 1)]) (fun _ => [siteB s, fmB (cond aw (some 3) (cond lp (some 1) none))]) ?_ (fun _ _ => ?_)
    · cases r with
      | false =>
        have haw0 : aw = false := by rw [haw]; rfl
        subst haw0
        (conv => arg 1; whnf); (repeat' (first | (refine brt (by assumption) ?_; (conv => arg 1; whnf)) | (refine brf (by assumption) ?_; (conv => arg 1; whnf)) | fail))
        refine joinTo () [0, 1] trivial (by decide) ?_ ⟨⟨_, rfl, .lit (by (repeat' (first | exact True.intro | exact Fit.dead _ | exact Fit.v _ | exact .p rfl | exact .s rfl | exact .i fun _ _ => rfl | refine And.intro ?_ ?_)))⟩, ⟨_, rfl, ?_⟩, trivial⟩ rfl
        · (repeat' (first | exact True.intro | exact Fit.dead _ | exact Fit.v _ | exact .p rfl | exact .s rfl | exact .i fun _ _ => rfl | exact .mp rfl | refine And.intro ?_ ?_))
        · cases lp <;> exact .map _ _
      | true =>
        (conv => arg 1; whnf); (repeat' (first | (refine brt (by assumption) ?_; (conv => arg 1; whnf)) | (refine brf (by assumption) ?_; (conv => arg 1; whnf)) | fail))
        (refine brt ?_ ?_; (focus (exact and2 rfl (and2 (and2 (and2 (decide_eq_true (by rw [rows_row]; exact hbl)) (decide_eq_true (by rw [rows_row]; exact hnl))) (isRow_row eCr hn2)) (isRow_row eCr hb2)); done)); (conv => arg 1; whnf))
        have hq : awayB (rows eCr b.length fun k => eCr.enc (b.getD k eCr.dflt)) (rows eCr n.length fun k => eCr.enc (n.getD k eCr.dflt)) = aw := by rw [rows_row, rows_row, haw]; rfl
        rw [hq]
        cases aw with
        | true =>
          have hlp0 : lp = false := by
            cases lp with
            | false => rfl
            | true => exact absurd hfew (by cases vn <;> cases yg <;> decide)
          subst hlp0
          (conv => arg 1; whnf); (repeat' (first | (refine brt (by assumption) ?_; (conv => arg 1; whnf)) | (refine brf (by assumption) ?_; (conv => arg 1; whnf)) | fail))
          refine joinTo () [0, 1] trivial (by decide) ?_ ⟨⟨_, rfl, .lit (by (repeat' (first | exact True.intro | exact Fit.dead _ | exact Fit.v _ | exact .p rfl | exact .s rfl | exact .i fun _ _ => rfl | refine And.intro ?_ ?_)))⟩, ⟨_, rfl, .map _ _⟩, trivial⟩ rfl
          (repeat' (first | exact True.intro | exact Fit.dead _ | exact Fit.v _ | exact .p rfl | exact .s rfl | exact .i fun _ _ => rfl | exact .mp rfl | refine And.intro ?_ ?_))
        | false =>
          (conv => arg 1; whnf); (repeat' (first | (refine brt (by assumption) ?_; (conv => arg 1; whnf)) | (refine brf (by assumption) ?_; (conv => arg 1; whnf)) | fail))
          refine joinTo () [0, 1] trivial (by decide) ?_ ⟨⟨_, rfl, .lit (by (repeat' (first | exact True.intro | exact Fit.dead _ | exact Fit.v _ | exact .p rfl | exact .s rfl | exact .i fun _ _ => rfl | refine And.intro ?_ ?_)))⟩, ⟨_, rfl, ?_⟩, trivial⟩ rfl
          · (repeat' (first | exact True.intro | exact Fit.dead _ | exact Fit.v _ | exact .p rfl | exact .s rfl | exact .i fun _ _ => rfl | exact .mp rfl | refine And.intro ?_ ?_))
          · cases lp <;> exact .map _ _
    obtain ⟨f2, hf2⟩ : ∃ f : Option Int, f = cond aw (some 3) (cond lp (some 1) none) := ⟨_, rfl⟩
    rw [← hf2]
    (conv => arg 1; whnf)
    refine loopM [0, 4, 8, 9] (fun k : Nat => k ≤ wd.length) (fun k => [(10, i64 k)]) (fun k => [(2, .map (bookF 0 (wd.take k)) k)]) (fun k => wd.length - k) 0 (Nat.zero_le _) rfl ?_ ?_ fun k hk => ?_
    · (repeat' (first | exact True.intro | exact Fit.dead _ | exact Fit.v _ | exact .p rfl | exact .s rfl | exact .i fun _ _ => rfl | exact .mp rfl | refine And.intro ?_ ?_))
    · exact ⟨⟨_, rfl, .lit (by (repeat' (first | exact True.intro | exact Fit.dead _ | exact Fit.v _ | exact .p rfl | exact .s rfl | exact .i fun _ _ => rfl | refine And.intro ?_ ?_)))⟩, ⟨_, rfl, fitFm _⟩, ⟨_, rfl, .map _ _⟩, trivial⟩
    have hk : k ≤ wd.length := hk
    (conv => arg 1; whnf)
    refine br (fun h3 => ?_) (fun h3 => ?_)
    · have hlt : k < wd.length := by have := of_decide_eq_true h3; omega
      have ek : (k : Int).toNat = k := by omega
      have e1 : (decide (0 ≤ (k : Int)) && decide ((k : Int) < (wd.length : Int))) = true := by simp only [Bool.and_eq_true, decide_eq_true_eq]; omega
      (conv => arg 1; whnf); (repeat' (first | (refine brt (by assumption) ?_; (conv => arg 1; whnf)) | (refine brf (by assumption) ?_; (conv => arg 1; whnf)) | fail))
      (refine brt ?_ ?_; (focus (exact and2 (and2 (keyS_ok (wd.getD k eCl.dflt)) (okS_book (wd.getD k eCl.dflt) _ 0)) (by show noneB (mFindS tt 39 (keyC (wd.getD k eCl.dflt)) (bookF 0 (wd.take k)) 0) = true; rw [find_none 0 0 (nodup_get hn1 hlt)]; rfl); done)); (conv => arg 1; whnf))
      (conv => arg 1; whnf); (repeat' (first | (refine brt (by assumption) ?_; (conv => arg 1; whnf)) | (refine brf (by assumption) ?_; (conv => arg 1; whnf)) | fail))
      refine again (k + 1) [0, 1, 2] (by show k + 1 ≤ wd.length; omega) (by show wd.length - (k + 1) < wd.length - k; omega) (by decide) ?_ ?_ rfl
      · (repeat' (first | exact True.intro | exact Fit.dead _ | exact Fit.v _ | exact .p rfl | exact .s rfl | exact .i fun _ _ => rfl | exact .mp rfl | exact Fit.v' (congrArg (Value.int .i64) (knxt k (by omega)).symm) | refine And.intro ?_ ?_))
      · refine ⟨⟨_, rfl, .lit (by (repeat' (first | exact True.intro | exact Fit.dead _ | exact Fit.v _ | exact .p rfl | exact .s rfl | exact .i fun _ _ => rfl | refine And.intro ?_ ?_)))⟩, ⟨_, rfl, fitFm _⟩, ⟨_, rfl, fitMapS ?_ rfl⟩, trivial⟩
        rw [take_snoc hlt, bookF_snoc, List.length_take, Nat.min_eq_left (by omega), Nat.zero_add]
        show _ ++ [ent (wd.getD k eCl.dflt) k] = _ ++ [ent (wd.getD (k : Int).toNat eCl.dflt) k]
        rw [ek]
    have hkw : k = wd.length := by have := of_decide_eq_false h3; omega
    rw [hkw, List.take_length]
    (conv => arg 1; whnf); (repeat' (first | (refine brt (by assumption) ?_; (conv => arg 1; whnf)) | (refine brf (by assumption) ?_; (conv => arg 1; whnf)) | fail))
    refine leave ?_
    show tr _
    (conv => arg 1; whnf); (repeat' (first | (refine brt (by assumption) ?_; (conv => arg 1; whnf)) | (refine brf (by assumption) ?_; (conv => arg 1; whnf)) | fail))
    refine loopM [0, 4, 8, 9] (fun k : Nat => k ≤ wt.length) (fun k => [(10, i64 k)]) (fun k => [(3, .map (bookF 0 (wt.take k)) k)]) (fun k => wt.length - k) 0 (Nat.zero_le _) rfl ?_ ?_ fun k hk => ?_
    · (repeat' (first | exact True.intro | exact Fit.dead _ | exact Fit.v _ | exact .p rfl | exact .s rfl | exact .i fun _ _ => rfl | exact .mp rfl | refine And.intro ?_ ?_))
    · exact ⟨⟨_, rfl, .lit (by (repeat' (first | exact True.intro | exact Fit.dead _ | exact Fit.v _ | exact .p rfl | exact .s rfl | exact .i fun _ _ => rfl | refine And.intro ?_ ?_)))⟩, ⟨_, rfl, fitFm _⟩, ⟨_, rfl, .map _ _⟩, ⟨_, rfl, .map _ _⟩, trivial⟩
    have hk : k ≤ wt.length := hk
    (conv => arg 1; whnf)
    refine br (fun h3 => ?_) (fun h3 => ?_)
    · have hlt : k < wt.length := by have := of_decide_eq_true h3; omega
      have ek : (k : Int).toNat = k := by omega
      have e1 : (decide (0 ≤ (k : Int)) && decide ((k : Int) < (wt.length : Int))) = true := by simp only [Bool.and_eq_true, decide_eq_true_eq]; omega
      (conv => arg 1; whnf); (repeat' (first | (refine brt (by assumption) ?_; (conv => arg 1; whnf)) | (refine brf (by assumption) ?_; (conv => arg 1; whnf)) | fail))
      (refine brt ?_ ?_; (focus (exact and2 (and2 (keyS_ok (wt.getD k eCl.dflt)) (okS_book (wt.getD k eCl.dflt) _ 0)) (by show noneB (mFindS tt 39 (keyC (wt.getD k eCl.dflt)) (bookF 0 (wt.take k)) 0) = true; rw [find_none 0 0 (nodup_get hn3 hlt)]; rfl); done)); (conv => arg 1; whnf))
      (conv => arg 1; whnf); (repeat' (first | (refine brt (by assumption) ?_; (conv => arg 1; whnf)) | (refine brf (by assumption) ?_; (conv => arg 1; whnf)) | fail))
      refine again (k + 1) [0, 1, 2, 3] (by show k + 1 ≤ wt.length; omega) (by show wt.length - (k + 1) < wt.length - k; omega) (by decide) ?_ ?_ rfl
      · (repeat' (first | exact True.intro | exact Fit.dead _ | exact Fit.v _ | exact .p rfl | exact .s rfl | exact .i fun _ _ => rfl | exact .mp rfl | exact Fit.v' (congrArg (Value.int .i64) (knxt k (by omega)).symm) | refine And.intro ?_ ?_))
      · refine ⟨⟨_, rfl, .lit (by (repeat' (first | exact True.intro | exact Fit.dead _ | exact Fit.v _ | exact .p rfl | exact .s rfl | exact .i fun _ _ => rfl | refine And.intro ?_ ?_)))⟩, ⟨_, rfl, fitFm _⟩, ⟨_, rfl, .map _ _⟩, ⟨_, rfl, fitMapS ?_ rfl⟩, trivial⟩
        rw [take_snoc hlt, bookF_snoc, List.length_take, Nat.min_eq_left (by omega), Nat.zero_add]
        show _ ++ [ent (wt.getD k eCl.dflt) k] = _ ++ [ent (wt.getD (k : Int).toNat eCl.dflt) k]
        rw [ek]
    have hkw : k = wt.length := by have := of_decide_eq_false h3; omega
    rw [hkw, List.take_length]
    (conv => arg 1; whnf); (repeat' (first | (refine brt (by assumption) ?_; (conv => arg 1; whnf)) | (refine brf (by assumption) ?_; (conv => arg 1; whnf)) | fail))
    refine leave ?_
    show tr _
    have q1 : (!decide (((bookF 0 wt).length : Int) = (wt.length : Int))) = false := by rw [bookF_len]; simp
    (conv => arg 1; whnf); (repeat' (first | (refine brt (by assumption) ?_; (conv => arg 1; whnf)) | (refine brf (by assumption) ?_; (conv => arg 1; whnf)) | fail))
    refine loopIn (fun seen : List Nat => ∀ i ∈ seen, i < wd.length) (fun seen => frm 107 [(1, row eCr b), (4, row eCl wt), (13, .mp 1), (14, .mp 2), (16, .mp 3), (52, .p 4 0)]) (fun seen => [siteB s, fmB (cond (vanS b wd wt seen) (some 2) f2), .map (bookF 0 wd) wd.length, .map (bookF 0 wt) wt.length, .iter 2 wd.length seen wd.length]) (fun seen => ((List.range wd.length).filter fun i => !seen.contains i).length) [] [0, 1, 2, 3, 4] (fun i hi => absurd hi (List.not_mem_nil)) (by decide) ?_ ?_ rfl fun seen hsub => ?_
    · (repeat' (first | exact True.intro | exact Fit.dead _ | exact Fit.v _ | exact .p rfl | exact .s rfl | exact .i fun _ _ => rfl | exact .mp rfl | exact .p rfl | refine And.intro ?_ ?_))
    · exact ⟨⟨_, rfl, .lit (by (repeat' (first | exact True.intro | exact Fit.dead _ | exact Fit.v _ | exact .p rfl | exact .s rfl | exact .i fun _ _ => rfl | refine And.intro ?_ ?_)))⟩, ⟨_, rfl, fitFm _⟩, ⟨_, rfl, .map _ _⟩, ⟨_, rfl, .map _ _⟩, ⟨_, rfl, .iter _ _ _ rfl⟩, trivial⟩
    have hsub : ∀ i ∈ seen, i < wd.length := hsub
    (conv => arg 1; whnf)
    refine ⟨oldBook, fun hnil => ?_, fun e he => ?_⟩
    · rw [vanS_all (bookN hnil) hsub, ← hvn]
      obtain ⟨f3, hf3⟩ : ∃ f : Option Int, f = cond vn (some 2) f2 := ⟨_, rfl⟩
      rw [← hf3]
      (conv => arg 1; whnf); (repeat' (first | (refine brt (by assumption) ?_; (conv => arg 1; whnf)) | (refine brf (by assumption) ?_; (conv => arg 1; whnf)) | fail))
      refine leave ?_
      show tr _
      (conv => arg 1; whnf); (repeat' (first | (refine brt (by assumption) ?_; (conv => arg 1; whnf)) | (refine brf (by assumption) ?_; (conv => arg 1; whnf)) | fail))
      refine loopM [13, 14, 72, 73] (fun k : Nat => k ≤ wt.length) (fun k => [(74, i64 k)]) (fun k => [(1, fmB (cond ((wt.take k).any (youB wd)) (some 4) f3))]) (fun k => wt.length - k) 0 (Nat.zero_le _) rfl ?_ ?_ fun k hk => ?_
      · (repeat' (first | exact True.intro | exact Fit.dead _ | exact Fit.v _ | exact .p rfl | exact .s rfl | exact .i fun _ _ => rfl | exact .mp rfl | refine And.intro ?_ ?_))
      · exact ⟨⟨_, rfl, .lit (by (repeat' (first | exact True.intro | exact Fit.dead _ | exact Fit.v _ | exact .p rfl | exact .s rfl | exact .i fun _ _ => rfl | refine And.intro ?_ ?_)))⟩, ⟨_, rfl, fitFm _⟩, ⟨_, rfl, .map _ _⟩, ⟨_, rfl, .map _ _⟩, ⟨_, rfl, .iter _ _ _ rfl⟩, trivial⟩
      have hk : k ≤ wt.length := hk
      (conv => arg 1; whnf)
      refine br (fun h3 => ?_) (fun h3 => ?_)
      · have hlt : k < wt.length := by have := of_decide_eq_true h3; omega
        have ek : (k : Int).toNat = k := by omega
        have e1 : (decide (0 ≤ (k : Int)) && decide ((k : Int) < (wt.length : Int))) = true := by simp only [Bool.and_eq_true, decide_eq_true_eq]; omega
        have hY1 : (wt.take (k + 1)).any (youB wd) = ((wt.take k).any (youB wd) || youB wd (wt.getD k eCl.dflt)) := by
          rw [take_snoc hlt, List.any_append]
          simp
        have hY2 : youB wd (wt.getD k eCl.dflt) = true → yg = true := fun h => by
          rw [hyg]
          rw [List.getD_eq_getElem?_getD, List.getElem?_eq_getElem hlt] at h
          exact List.any_eq_true.2 ⟨_, List.getElem_mem hlt, h⟩
        obtain ⟨Y, hY⟩ : ∃ Y, Y = (wt.take k).any (youB wd) := ⟨_, rfl⟩
        rw [← hY] at hY1 ⊢
        (conv => arg 1; whnf); (repeat' (first | (refine brt (by assumption) ?_; (conv => arg 1; whnf)) | (refine brf (by assumption) ?_; (conv => arg 1; whnf)) | fail))
        (refine brt ?_ ?_; (focus (exact and2 (keyS_ok (wt.getD k eCl.dflt)) (okS_book (wt.getD k eCl.dflt) wd 0); done)); (conv => arg 1; whnf))
        cases hq : wd.find? (sameK (wt.getD k eCl.dflt)) with
        | some d =>
          obtain ⟨j, hm⟩ := find_some (c := wt.getD k eCl.dflt) 0 0 hq
          have hm : mFindS XTk.tt 39 (keyC (wt.getD (k : Int).toNat eCl.dflt)) (bookF 0 wd) 0 = some (j, .int .i64 d.ag) := hm
          have hyv : youB wd (wt.getD k eCl.dflt) = !decide ((wt.getD (k : Int).toNat eCl.dflt).ag = lim (lim d.ag + lim 1)) := by
            unfold youB
            rw [hq, ek]
          rw [hm]
          (conv => arg 1; whnf); (repeat' (first | (refine brt (by assumption) ?_; (conv => arg 1; whnf)) | (refine brf (by assumption) ?_; (conv => arg 1; whnf)) | fail))
          cases hd : decide ((wt.getD (k : Int).toNat eCl.dflt).ag = lim (lim d.ag + lim 1)) with
          | true =>
            rw [hd, Bool.not_true] at hyv
            rw [hyv, Bool.or_false] at hY1
            (conv => arg 1; whnf); (repeat' (first | (refine brt (by assumption) ?_; (conv => arg 1; whnf)) | (refine brf (by assumption) ?_; (conv => arg 1; whnf)) | fail))
            refine again (k + 1) [0, 1, 2, 3, 4] (by show k + 1 ≤ wt.length; omega) (by show wt.length - (k + 1) < wt.length - k; omega) (by decide) ?_ ?_ rfl
            · (repeat' (first | exact True.intro | exact Fit.dead _ | exact Fit.v _ | exact .p rfl | exact .s rfl | exact .i fun _ _ => rfl | exact .mp rfl | exact Fit.v' (congrArg (Value.int .i64) (knxt k (by omega)).symm) | refine And.intro ?_ ?_))
            · rw [hY1]
              exact ⟨⟨_, rfl, .lit (by (repeat' (first | exact True.intro | exact Fit.dead _ | exact Fit.v _ | exact .p rfl | exact .s rfl | exact .i fun _ _ => rfl | refine And.intro ?_ ?_)))⟩, ⟨_, rfl, fitFm _⟩, ⟨_, rfl, .map _ _⟩, ⟨_, rfl, .map _ _⟩, ⟨_, rfl, .iter _ _ _ rfl⟩, trivial⟩
          | false =>
            rw [hd, Bool.not_false] at hyv
            rw [hyv, Bool.or_true] at hY1
            have hf0 : f3 = none := by
              rw [hf3, hf2]
              rw [hY2 hyv] at hfew
              cases aw <;> cases lp <;> cases vn <;> first | rfl | exact absurd hfew (by decide)
            subst hf0
            cases Y with
            | true =>
              (conv => arg 1; whnf); (repeat' (first | (refine brt (by assumption) ?_; (conv => arg 1; whnf)) | (refine brf (by assumption) ?_; (conv => arg 1; whnf)) | fail))
              refine again (k + 1) [0, 1, 2, 3, 4] (by show k + 1 ≤ wt.length; omega) (by show wt.length - (k + 1) < wt.length - k; omega) (by decide) ?_ ?_ rfl
              · (repeat' (first | exact True.intro | exact Fit.dead _ | exact Fit.v _ | exact .p rfl | exact .s rfl | exact .i fun _ _ => rfl | exact .mp rfl | exact Fit.v' (congrArg (Value.int .i64) (knxt k (by omega)).symm) | refine And.intro ?_ ?_))
              · rw [hY1]
                exact ⟨⟨_, rfl, .lit (by (repeat' (first | exact True.intro | exact Fit.dead _ | exact Fit.v _ | exact .p rfl | exact .s rfl | exact .i fun _ _ => rfl | refine And.intro ?_ ?_)))⟩, ⟨_, rfl, fitFm (some 4)⟩, ⟨_, rfl, .map _ _⟩, ⟨_, rfl, .map _ _⟩, ⟨_, rfl, .iter _ _ _ rfl⟩, trivial⟩
            | false =>
              (conv => arg 1; whnf); (repeat' (first | (refine brt (by assumption) ?_; (conv => arg 1; whnf)) | (refine brf (by assumption) ?_; (conv => arg 1; whnf)) | fail))
              refine again (k + 1) [0, 1, 2, 3, 4] (by show k + 1 ≤ wt.length; omega) (by show wt.length - (k + 1) < wt.length - k; omega) (by decide) ?_ ?_ rfl
              · (repeat' (first | exact True.intro | exact Fit.dead _ | exact Fit.v _ | exact .p rfl | exact .s rfl | exact .i fun _ _ => rfl | exact .mp rfl | exact Fit.v' (congrArg (Value.int .i64) (knxt k (by omega)).symm) | refine And.intro ?_ ?_))
              · rw [hY1]
                exact ⟨⟨_, rfl, .lit (by (repeat' (first | exact True.intro | exact Fit.dead _ | exact Fit.v _ | exact .p rfl | exact .s rfl | exact .i fun _ _ => rfl | refine And.intro ?_ ?_)))⟩, ⟨_, rfl, fitFm (some 4)⟩, ⟨_, rfl, .map _ _⟩, ⟨_, rfl, .map _ _⟩, ⟨_, rfl, .iter _ _ _ rfl⟩, trivial⟩
        | none =>
          have hm : mFindS XTk.tt 39 (keyC (wt.getD (k : Int).toNat eCl.dflt)) (bookF 0 wd) 0 = none := find_none 0 0 fun d hd => by simpa using List.find?_eq_none.1 hq d hd
          have hyv : youB wd (wt.getD k eCl.dflt) = !decide ((wt.getD (k : Int).toNat eCl.dflt).ag = 1) := by
            unfold youB
            rw [hq, ek]
          rw [hm]
          (conv => arg 1; whnf); (repeat' (first | (refine brt (by assumption) ?_; (conv => arg 1; whnf)) | (refine brf (by assumption) ?_; (conv => arg 1; whnf)) | fail))
          cases hd : decide ((wt.getD (k : Int).toNat eCl.dflt).ag = 1) with
          | true =>
            rw [hd, Bool.not_true] at hyv
            rw [hyv, Bool.or_false] at hY1
            (conv => arg 1; whnf); (repeat' (first | (refine brt (by assumption) ?_; (conv => arg 1; whnf)) | (refine brf (by assumption) ?_; (conv => arg 1; whnf)) | fail))
            refine again (k + 1) [0, 1, 2, 3, 4] (by show k + 1 ≤ wt.length; omega) (by show wt.length - (k + 1) < wt.length - k; omega) (by decide) ?_ ?_ rfl
            · (repeat' (first | exact True.intro | exact Fit.dead _ | exact Fit.v _ | exact .p rfl | exact .s rfl | exact .i fun _ _ => rfl | exact .mp rfl | exact Fit.v' (congrArg (Value.int .i64) (knxt k (by omega)).symm) | refine And.intro ?_ ?_))
            · rw [hY1]
              exact ⟨⟨_, rfl, .lit (by (repeat' (first | exact True.intro | exact Fit.dead _ | exact Fit.v _ | exact .p rfl | exact .s rfl | exact .i fun _ _ => rfl | refine And.intro ?_ ?_)))⟩, ⟨_, rfl, fitFm _⟩, ⟨_, rfl, .map _ _⟩, ⟨_, rfl, .map _ _⟩, ⟨_, rfl, .iter _ _ _ rfl⟩, trivial⟩
          | false =>
            rw [hd, Bool.not_false] at hyv
            rw [hyv, Bool.or_true] at hY1
            have hf0 : f3 = none := by
              rw [hf3, hf2]
              rw [hY2 hyv] at hfew
              cases aw <;> cases lp <;> cases vn <;> first | rfl | exact absurd hfew (by decide)
            subst hf0
            cases Y with
            | true =>
              (conv => arg 1; whnf); (repeat' (first | (refine brt (by assumption) ?_; (conv => arg 1; whnf)) | (refine brf (by assumption) ?_; (conv => arg 1; whnf)) | fail))
              refine again (k + 1) [0, 1, 2, 3, 4] (by show k + 1 ≤ wt.length; omega) (by show wt.length - (k + 1) < wt.length - k; omega) (by decide) ?_ ?_ rfl
              · (repeat' (first | exact True.intro | exact Fit.dead _ | exact Fit.v _ | exact .p rfl | exact .s rfl | exact .i fun _ _ => rfl | exact .mp rfl | exact Fit.v' (congrArg (Value.int .i64) (knxt k (by omega)).symm) | refine And.intro ?_ ?_))
              · rw [hY1]
                exact ⟨⟨_, rfl, .lit (by (repeat' (first | exact True.intro | exact Fit.dead _ | exact Fit.v _ | exact .p rfl | exact .s rfl | exact .i fun _ _ => rfl | refine And.intro ?_ ?_)))⟩, ⟨_, rfl, fitFm (some 4)⟩, ⟨_, rfl, .map _ _⟩, ⟨_, rfl, .map _ _⟩, ⟨_, rfl, .iter _ _ _ rfl⟩, trivial⟩
            | false =>
              (conv => arg 1; whnf); (repeat' (first | (refine brt (by assumption) ?_; (conv => arg 1; whnf)) | (refine brf (by assumption) ?_; (conv => arg 1; whnf)) | fail))
              refine again (k + 1) [0, 1, 2, 3, 4] (by show k + 1 ≤ wt.length; omega) (by show wt.length - (k + 1) < wt.length - k; omega) (by decide) ?_ ?_ rfl
              · (repeat' (first | exact True.intro | exact Fit.dead _ | exact Fit.v _ | exact .p rfl | exact .s rfl | exact .i fun _ _ => rfl | exact .mp rfl | exact Fit.v' (congrArg (Value.int .i64) (knxt k (by omega)).symm) | refine And.intro ?_ ?_))
              · rw [hY1]
                exact ⟨⟨_, rfl, .lit (by (repeat' (first | exact True.intro | exact Fit.dead _ | exact Fit.v _ | exact .p rfl | exact .s rfl | exact .i fun _ _ => rfl | refine And.intro ?_ ?_)))⟩, ⟨_, rfl, fitFm (some 4)⟩, ⟨_, rfl, .map _ _⟩, ⟨_, rfl, .map _ _⟩, ⟨_, rfl, .iter _ _ _ rfl⟩, trivial⟩
      · have hkw : k = wt.length := by have := of_decide_eq_false h3; omega
        rw [hkw, List.take_length, show wt.any (youB wd) = yg from hyg.symm]
        have hfin : ∃ f : Option Int, f = cond yg (some 4) f3 ∧ cond lp [1] (cond aw [3] (cond vn [2] (cond yg [4] []))) = f.toList := by
          refine ⟨_, rfl, ?_⟩
          rw [hf3, hf2]
          revert hfew
          cases lp <;> cases aw <;> cases vn <;> cases yg <;> decide
        obtain ⟨f, hf, hl⟩ := hfin
        rw [← hf, hl]
        (conv => arg 1; whnf); (repeat' (first | (refine brt (by assumption) ?_; (conv => arg 1; whnf)) | (refine brf (by assumption) ?_; (conv => arg 1; whnf)) | fail))
        refine leave ?_
        show tr _
        cases f with
        | none =>
          (conv => arg 1; whnf); (repeat' (first | (refine brt (by assumption) ?_; (conv => arg 1; whnf)) | (refine brf (by assumption) ?_; (conv => arg 1; whnf)) | fail))
          repeat (first | (refine loopUn 2 ?_; (conv => arg 1; whnf); (repeat' (first | (refine brt (by assumption) ?_; (conv => arg 1; whnf)) | (refine brf (by assumption) ?_; (conv => arg 1; whnf)) | fail))) | (refine nextUn ?_; (conv => arg 1; whnf); (repeat' (first | (refine brt (by assumption) ?_; (conv => arg 1; whnf)) | (refine brf (by assumption) ?_; (conv => arg 1; whnf)) | fail))) | (refine leave ?_; show tr _; (conv => arg 1; whnf); (repeat' (first | (refine brt (by assumption) ?_; (conv => arg 1; whnf)) | (refine brf (by assumption) ?_; (conv => arg 1; whnf)) | fail))) | (refine leaveRet ?_; show tr _; (conv => arg 1; whnf); (repeat' (first | (refine brt (by assumption) ?_; (conv => arg 1; whnf)) | (refine brf (by assumption) ?_; (conv => arg 1; whnf)) | fail))) | (refine nilUn (by decide) ?_; (conv => arg 1; whnf); (repeat' (first | (refine brt (by assumption) ?_; (conv => arg 1; whnf)) | (refine brf (by assumption) ?_; (conv => arg 1; whnf)) | fail))) | (refine ⟨rfl, fun _ => ?_, fun e he => (List.not_mem_nil (a := e) he).elim⟩; (conv => arg 1; whnf); (repeat' (first | (refine brt (by assumption) ?_; (conv => arg 1; whnf)) | (refine brf (by assumption) ?_; (conv => arg 1; whnf)) | fail))) | (refine ⟨rfl, fun h => (List.cons_ne_nil _ _ h).elim, fun e he => ?_⟩; obtain rfl := List.mem_singleton.1 he; (conv => arg 1; whnf); (repeat' (first | (refine brt (by assumption) ?_; (conv => arg 1; whnf)) | (refine brf (by assumption) ?_; (conv => arg 1; whnf)) | fail))))
          exact finS [] (by decide) (.v _) trivial rfl
        | some v =>
          (conv => arg 1; whnf); (repeat' (first | (refine brt (by assumption) ?_; (conv => arg 1; whnf)) | (refine brf (by assumption) ?_; (conv => arg 1; whnf)) | fail))
          repeat (first | (refine loopUn 2 ?_; (conv => arg 1; whnf); (repeat' (first | (refine brt (by assumption) ?_; (conv => arg 1; whnf)) | (refine brf (by assumption) ?_; (conv => arg 1; whnf)) | fail))) | (refine nextUn ?_; (conv => arg 1; whnf); (repeat' (first | (refine brt (by assumption) ?_; (conv => arg 1; whnf)) | (refine brf (by assumption) ?_; (conv => arg 1; whnf)) | fail))) | (refine leave ?_; show tr _; (conv => arg 1; whnf); (repeat' (first | (refine brt (by assumption) ?_; (conv => arg 1; whnf)) | (refine brf (by assumption) ?_; (conv => arg 1; whnf)) | fail))) | (refine leaveRet ?_; show tr _; (conv => arg 1; whnf); (repeat' (first | (refine brt (by assumption) ?_; (conv => arg 1; whnf)) | (refine brf (by assumption) ?_; (conv => arg 1; whnf)) | fail))) | (refine nilUn (by decide) ?_; (conv => arg 1; whnf); (repeat' (first | (refine brt (by assumption) ?_; (conv => arg 1; whnf)) | (refine brf (by assumption) ?_; (conv => arg 1; whnf)) | fail))) | (refine ⟨rfl, fun _ => ?_, fun e he => (List.not_mem_nil (a := e) he).elim⟩; (conv => arg 1; whnf); (repeat' (first | (refine brt (by assumption) ?_; (conv => arg 1; whnf)) | (refine brf (by assumption) ?_; (conv => arg 1; whnf)) | fail))) | (refine ⟨rfl, fun h => (List.cons_ne_nil _ _ h).elim, fun e he => ?_⟩; obtain rfl := List.mem_singleton.1 he; (conv => arg 1; whnf); (repeat' (first | (refine brt (by assumption) ?_; (conv => arg 1; whnf)) | (refine brf (by assumption) ?_; (conv => arg 1; whnf)) | fail))))
          exact finS [10] (by decide) (.s rfl) ⟨⟨_, rfl, .tab fun k hk => by
            obtain rfl : k = 0 := by
              have : k < 1 := hk
              omega
            rfl⟩, trivial⟩ rfl
    · obtain ⟨i, hi, hiS, rfl⟩ := bookL he
      have hlast : (seen ++ [i]).getLast? = some i := by simp
      have hsub' : ∀ j ∈ seen ++ [i], j < wd.length := fun j hj => by
        rcases List.mem_append.1 hj with h | h
        · exact hsub j h
        · rw [List.mem_singleton.1 h]; exact hi
      have hV1 := vanS_snoc (b := b) (wd := wd) (wt := wt) (seen := seen) (i := i)
      have hV2 : vanS b wd wt (seen ++ [i]) = true → vn = true := fun h => by rw [hvn]; exact vanS_le hsub' h
      obtain ⟨V, hV⟩ : ∃ V, V = vanS b wd wt seen := ⟨_, rfl⟩
      rw [← hV] at hV1 ⊢
      (conv => arg 1; whnf); (repeat' (first | (refine brt (by assumption) ?_; (conv => arg 1; whnf)) | (refine brf (by assumption) ?_; (conv => arg 1; whnf)) | fail))
      conv in (aOp _ (.entry _) _ _) => tactic => exact entBook (m := 4) (l := 2) (i := i) (seen := seen) (L := wd) rfl rfl rfl hi
      (conv => arg 1; whnf); (repeat' (first | (refine brt (by assumption) ?_; (conv => arg 1; whnf)) | (refine brf (by assumption) ?_; (conv => arg 1; whnf)) | fail))
      (refine brt ?_ ?_; (focus (exact and2 (keyS_ok (wd.getD i eCl.dflt)) (okS_book (wd.getD i eCl.dflt) wt 0); done)); (conv => arg 1; whnf))
      cases hq : wt.find? (sameK (wd.getD i eCl.dflt)) with
      | some d =>
        obtain ⟨k, hm⟩ := find_some (c := wd.getD i eCl.dflt) 0 0 hq
        have hm : mFindS XTk.tt 39 (keyC (wd.getD i eCl.dflt)) (bookF 0 wt) 0 = some (k, .int .i64 d.ag) := hm
        have hvi : vanB b wt (wd.getD i eCl.dflt) = false := by
          unfold vanB
          rw [show wt.any (sameK (wd.getD i eCl.dflt)) = true from List.any_eq_true.2 ⟨d, List.mem_of_find?_eq_some hq, List.find?_some hq⟩]
          rfl
        rw [hvi, Bool.or_false] at hV1
        rw [hm]
        (conv => arg 1; whnf); (repeat' (first | (refine brt (by assumption) ?_; (conv => arg 1; whnf)) | (refine brf (by assumption) ?_; (conv => arg 1; whnf)) | fail))
        refine again (seen ++ [i]) [0, 1, 2, 3, 4] hsub' (lessSeen (List.mem_range.2 hi) hiS) (by decide) ?_ ?_ rfl
        · (repeat' (first | exact True.intro | exact Fit.dead _ | exact Fit.v _ | exact .p rfl | exact .s rfl | exact .i fun _ _ => rfl | exact .mp rfl | exact .p rfl | refine And.intro ?_ ?_))
        · rw [hV1]
          exact ⟨⟨_, rfl, .lit (by (repeat' (first | exact True.intro | exact Fit.dead _ | exact Fit.v _ | exact .p rfl | exact .s rfl | exact .i fun _ _ => rfl | refine And.intro ?_ ?_)))⟩, ⟨_, rfl, fitFm _⟩, ⟨_, rfl, .map _ _⟩, ⟨_, rfl, .map _ _⟩, ⟨_, rfl, .iter _ _ _ rfl⟩, trivial⟩
      | none =>
        have hm : mFindS XTk.tt 39 (keyC (wd.getD i eCl.dflt)) (bookF 0 wt) 0 = none := find_none 0 0 fun d hd => by simpa using List.find?_eq_none.1 hq d hd
        have hvi : vanB b wt (wd.getD i eCl.dflt) = !servedB b (wd.getD i eCl.dflt) := by
          unfold vanB
          rw [show wt.any (sameK (wd.getD i eCl.dflt)) = false from List.any_eq_false.2 fun d hd => by simpa using List.find?_eq_none.1 hq d hd]
          rfl
        rw [hvi] at hV1
        rw [hm]
        (conv => arg 1; whnf); (repeat' (first | (refine brt (by assumption) ?_; (conv => arg 1; whnf)) | (refine brf (by assumption) ?_; (conv => arg 1; whnf)) | fail))
        (refine brt ?_ ?_; (focus (exact and2 rfl (and2 (and2 (decide_eq_true (by rw [rows_row]; exact hbl)) rfl) (isRow_row eCr hb2)); done)); (conv => arg 1; whnf))
        have hsv : servedB (rows eCr b.length fun k => eCr.enc (b.getD k eCr.dflt)) ⟨(wd.getD i eCl.dflt).fl, (wd.getD i eCl.dflt).ca, 0, (wd.getD i eCl.dflt).up⟩ = servedB b (wd.getD i eCl.dflt) := by rw [rows_row]; rfl
        rw [hsv]
        cases hsv2 : servedB b (wd.getD i eCl.dflt) with
        | true =>
          rw [hsv2, Bool.not_true, Bool.or_false] at hV1
          (conv => arg 1; whnf); (repeat' (first | (refine brt (by assumption) ?_; (conv => arg 1; whnf)) | (refine brf (by assumption) ?_; (conv => arg 1; whnf)) | fail))
          refine again (seen ++ [i]) [0, 1, 2, 3, 4] hsub' (lessSeen (List.mem_range.2 hi) hiS) (by decide) ?_ ?_ rfl
          · (repeat' (first | exact True.intro | exact Fit.dead _ | exact Fit.v _ | exact .p rfl | exact .s rfl | exact .i fun _ _ => rfl | exact .mp rfl | exact .p rfl | refine And.intro ?_ ?_))
          · rw [hV1]
            exact ⟨⟨_, rfl, .lit (by (repeat' (first | exact True.intro | exact Fit.dead _ | exact Fit.v _ | exact .p rfl | exact .s rfl | exact .i fun _ _ => rfl | refine And.intro ?_ ?_)))⟩, ⟨_, rfl, fitFm _⟩, ⟨_, rfl, .map _ _⟩, ⟨_, rfl, .map _ _⟩, ⟨_, rfl, .iter _ _ _ rfl⟩, trivial⟩
        | false =>
          rw [hsv2, Bool.not_false, Bool.or_true] at hV1
          have hvt := hV2 hV1
          have hf0 : f2 = none := by
            rw [hf2]
            cases aw <;> cases lp <;> cases yg <;> first | rfl | (rw [hvt] at hfew; exact absurd hfew (by decide))
          subst hf0
          cases V with
          | true =>
            (conv => arg 1; whnf); (repeat' (first | (refine brt (by assumption) ?_; (conv => arg 1; whnf)) | (refine brf (by assumption) ?_; (conv => arg 1; whnf)) | fail))
            refine again (seen ++ [i]) [0, 1, 2, 3, 4] hsub' (lessSeen (List.mem_range.2 hi) hiS) (by decide) ?_ ?_ rfl
            · (repeat' (first | exact True.intro | exact Fit.dead _ | exact Fit.v _ | exact .p rfl | exact .s rfl | exact .i fun _ _ => rfl | exact .mp rfl | exact .p rfl | refine And.intro ?_ ?_))
            · rw [hV1]
              exact ⟨⟨_, rfl, .lit (by (repeat' (first | exact True.intro | exact Fit.dead _ | exact Fit.v _ | exact .p rfl | exact .s rfl | exact .i fun _ _ => rfl | refine And.intro ?_ ?_)))⟩, ⟨_, rfl, fitFm _⟩, ⟨_, rfl, .map _ _⟩, ⟨_, rfl, .map _ _⟩, ⟨_, rfl, .iter _ _ _ rfl⟩, trivial⟩
          | false =>
            (conv => arg 1; whnf); (repeat' (first | (refine brt (by assumption) ?_; (conv => arg 1; whnf)) | (refine brf (by assumption) ?_; (conv => arg 1; whnf)) | fail))
            refine again (seen ++ [i]) [0, 1, 2, 3, 4] hsub' (lessSeen (List.mem_range.2 hi) hiS) (by decide) ?_ ?_ rfl
            · (repeat' (first | exact True.intro | exact Fit.dead _ | exact Fit.v _ | exact .p rfl | exact .s rfl | exact .i fun _ _ => rfl | exact .mp rfl | exact .p rfl | refine And.intro ?_ ?_))
            · rw [hV1]
              exact ⟨⟨_, rfl, .lit (by (repeat' (first | exact True.intro | exact Fit.dead _ | exact Fit.v _ | exact .p rfl | exact .s rfl | exact .i fun _ _ => rfl | refine And.intro ?_ ?_)))⟩, ⟨_, rfl, fitFm _⟩, ⟨_, rfl, .map _ _⟩, ⟨_, rfl, .map _ _⟩, ⟨_, rfl, .iter _ _ _ rfl⟩, trivial⟩
end Go.Proofs.Ythdeehkmlaejfaa.E
