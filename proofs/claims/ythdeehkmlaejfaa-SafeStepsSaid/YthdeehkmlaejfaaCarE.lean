/- The contracts of cars, by the program and by the document. -/
import Derived.Test.YthdeehkmlaejfaaDoorMathE
namespace Go.Proofs.Ythdeehkmlaejfaa.E
open Go
set_option linter.unusedSimpArgs false
set_option linter.unusedVariables false
set_option maxRecDepth 100000
set_option maxHeartbeats 4000000

structure Car where
  (fl ta ti : Int)
  d : Door
  fa : Bool
def Car.av (c : Car) : AV := .a [i64 c.fl, i64 c.ta, i64 c.ti, i64 c.d.ph, i64 c.d.le, i64 c.d.ru, boo c.d.he, boo c.fa]
def dCar : Dec Car := ⟨fun u => match u with
  | .a [.v (.int .i64 a), .v (.int .i64 b), .v (.int .i64 c), .v (.int .i64 d), .v (.int .i64 e), .v (.int .i64 f), .v (.bool g), .v (.bool h)] => some ⟨a, b, c, ⟨d, e, f, g⟩, h⟩
  | _ => none, Car.av, fun {u a} h => (by split at h <;> first | (obtain rfl := Option.some.inj h; rfl) | cases h)⟩
theorem finCar {x : Car} {a b c d e f : Int} {g h : Bool} {σ' : St} (hx : x = ⟨a, b, c, ⟨d, e, f, g⟩, h⟩) : tr (Fin 0 x.av [] (.a [i64 a, i64 b, i64 c, i64 d, i64 e, i64 f, boo g, boo h]) σ') := by
  subst hx; exact finA ⟨.v _, .v _, .v _, .v _, .v _, .v _, .v _, .v _, trivial⟩
/-- What a car is told. -/
structure Cmd where
  op : Bool
  go : Int
def Cmd.av (c : Cmd) : AV := .a [boo c.op, i64 c.go]
def dCmd : Dec Cmd := ⟨fun u => match u with
  | .a [.v (.bool a), .v (.int .i64 b)] => some ⟨a, b⟩
  | _ => none, Cmd.av, fun {u a} h => (by split at h <;> first | (obtain rfl := Option.some.inj h; rfl) | cases h)⟩

def Door.zero (d : Door) : Bool := decide (d.ph = 0) && (decide (d.le = 0) && (decide (d.ru = 0) && !d.he))
def Site.has (s : Site) (f : Int) : Bool := decide (0 ≤ f) && decide (f < s.fl)
def Car.idle (c : Car) : Bool := decide (c.ti = 0) && decide (c.d.ph = 0)
/-- Which cars may be. -/
def Car.right (s : Site) (c : Car) : Bool := c.d.right s && (s.has c.fl && (s.has c.ta && (if c.ti = 0 then decide (c.fl = c.ta) else c.d.zero && (decide (1 ≤ c.ti) && decide (c.ti ≤ s.travel c.fl c.ta)))))
/-- A car behind a tick. -/
def Car.step (s : Site) (c : Car) (o : Cmd) (b : Bool) : Car :=
  if c.ti ≠ 0 then (if c.ti - 1 = 0 then ⟨c.ta, c.ta, 0, c.d, c.fa⟩ else ⟨c.fl, c.ta, c.ti - 1, c.d, c.fa⟩)
  else if c.d.ph ≠ 0 ∨ (c.fa = false ∧ o.op = true) then ⟨c.fl, c.ta, c.ti, c.d.step s o.op b, c.fa⟩
  else if c.fa = false ∧ s.has o.go = true ∧ o.go ≠ c.fl then ⟨c.fl, o.go, s.travel c.fl o.go, c.d, c.fa⟩
  else c

def XC0 : Cx := ⟨tt, [], [], []⟩
theorem XC0_ok : CxOk Try.prog XC0 := CxOk.nil tt_ok mixed
def movesG : List AV → Option (Bool × AV) := fn1 dCar fun c => giv true (boo (!decide (c.ti = 0)))
theorem moves_ok : CtrOk Try.prog 28 (pureCtr movesG) :=
  pureCtr_ok XC0_ok Try.func28 (by decide) rfl fun args u hh => by
    obtain ⟨c, rfl, hv⟩ := fn1_some hh
    obtain ⟨_, rfl⟩ := giv_some hv
    clear hh hv
    refine ⟨rfl, rfl, ?_⟩
    unfold runF
    (conv => arg 1; whnf)
    exact finB rfl
def shutG : List AV → Option (Bool × AV) := fn1 dCar fun c => giv true (boo c.d.zero)
theorem shut_ok : CtrOk Try.prog 30 (pureCtr shutG) :=
  pureCtr_ok XC0_ok Try.func30 (by decide) rfl fun args u hh => by
    obtain ⟨c, rfl, hv⟩ := fn1_some hh
    obtain ⟨_, rfl⟩ := giv_some hv
    clear hh hv
    refine ⟨rfl, rfl, ?_⟩
    unfold runF
    (conv => arg 1; whnf)
    repeat' (first | (refine brt (by assumption) ?_; (conv => arg 1; whnf)) | (refine brf (by assumption) ?_; (conv => arg 1; whnf)) | (refine br (fun h => ?_) (fun h => ?_) <;> ((conv => arg 1; whnf))))
    all_goals (refine finB ?_; obtain ⟨fl, ta, ti, ⟨ph, le, ru, he⟩, fa⟩ := c; unfold Door.zero; simp_all)
def idleG : List AV → Option (Bool × AV) := fn1 dCar fun c => giv true (boo c.idle)
def XC1 : Cx := (XC0.add 28 .pure (pureCtr movesG)).add 30 .pure (pureCtr shutG)
theorem XC1_ok : CxOk Try.prog XC1 := (XC0_ok.pure moves_ok).pure shut_ok
theorem idle_ok : CtrOk Try.prog 29 (pureCtr idleG) :=
  pureCtr_ok XC1_ok Try.func29 (by decide) rfl fun args u hh => by
    obtain ⟨c, rfl, hv⟩ := fn1_some hh
    obtain ⟨_, rfl⟩ := giv_some hv
    clear hh hv
    refine ⟨rfl, rfl, ?_⟩
    unfold runF
    (conv => arg 1; whnf)
    repeat' (first | (refine brt (by assumption) ?_; (conv => arg 1; whnf)) | (refine brf (by assumption) ?_; (conv => arg 1; whnf)) | (refine br (fun h => ?_) (fun h => ?_) <;> ((conv => arg 1; whnf))))
    all_goals (refine finB ?_; unfold Car.idle; simp_all)
def hasG : List AV → Option (Bool × AV) := fn2 dSite dI fun s f => giv true (boo (s.has f))
theorem cthere_ok : CtrOk Try.prog 35 (pureCtr hasG) :=
  pureCtr_ok XC0_ok Try.func35 (by decide) rfl fun args u hh => by
    obtain ⟨s, f, rfl, hv⟩ := fn2_some hh
    obtain ⟨_, rfl⟩ := giv_some hv
    clear hh hv
    refine ⟨rfl, rfl, ?_⟩
    unfold runF
    (conv => arg 1; whnf)
    repeat' (first | (refine brt (by assumption) ?_; (conv => arg 1; whnf)) | (refine brf (by assumption) ?_; (conv => arg 1; whnf)) | (refine br (fun h => ?_) (fun h => ?_) <;> ((conv => arg 1; whnf))))
    all_goals (refine finB ?_; unfold Site.has; simp_all)
    all_goals (try (intros; omega))
def XC2 : Cx := ((XC1.add 29 .pure (pureCtr idleG)).add 35 .pure (pureCtr hasG)).add 36 .pure (pureCtr travelG)
theorem XC2_ok : CxOk Try.prog XC2 := ((XC1_ok.pure idle_ok).pure cthere_ok).pure travel_ok
def crightG : List AV → Option (Bool × AV) := fn2 dSite dCar fun s c => giv true (boo (c.right s))
def XC3 : Cx := XC2.add 34 .pure (pureCtr drightG)
theorem XC3_ok : CxOk Try.prog XC3 := XC2_ok.pure dright_ok
theorem cright_ok : CtrOk Try.prog 27 (pureCtr crightG) :=
  pureCtr_ok XC3_ok Try.func27 (by decide) rfl fun args u hh => by
    obtain ⟨s, c, rfl, hv⟩ := fn2_some hh
    obtain ⟨_, rfl⟩ := giv_some hv
    clear hh hv
    refine ⟨rfl, rfl, ?_⟩
    have hsr : c.d.right s = true → s.right = true := fun h => (Door.right_bd h).1
    obtain ⟨s1, s2, s3, s4, s5, s6, s7, s8, s9, s10, s11, s12, s13⟩ := s
    obtain ⟨fl, ta, ti, ⟨ph, le, ru, he⟩, fa⟩ := c
    unfold runF
    (conv => arg 1; whnf)
    by_cases hd : Door.right ⟨s1, s2, s3, s4, s5, s6, s7, s8, s9, s10, s11, s12, s13⟩ ⟨ph, le, ru, he⟩ = true
    · have hs := hsr hd
      repeat' (first | (refine brt (by assumption) ?_; (conv => arg 1; whnf)) | (refine brf (by assumption) ?_; (conv => arg 1; whnf)) | (refine br (fun h => ?_) (fun h => ?_) <;> ((conv => arg 1; whnf))))
      all_goals refine finB ?_
      all_goals (unfold Car.right; simp_all)
      all_goals (try (intros; omega))
    · have hd' := Bool.eq_false_iff.2 hd
      have e1 : (!Door.right ⟨s1, s2, s3, s4, s5, s6, s7, s8, s9, s10, s11, s12, s13⟩ ⟨ph, le, ru, he⟩) = true := by rw [hd']; rfl
      (conv => arg 1; whnf); (repeat' (first | (refine brt (by assumption) ?_; (conv => arg 1; whnf)) | (refine brf (by assumption) ?_; (conv => arg 1; whnf)) | fail))
      refine finB ?_
      unfold Car.right
      simp [hd']

theorem Site.travel_bd {s : Site} (h : s.right = true) (f t : Int) : 0 ≤ s.travel f t ∧ s.travel f t ≤ 65000 := by
  have hb := Site.right_bd h
  unfold Site.travel
  split
  · omega
  · have := Site.ride_bd h (f := if f < t then t - f else f - t) (by split <;> omega) (by split <;> omega)
    omega
theorem Site.travel_self (s : Site) (f : Int) : s.travel f f = 0 := by unfold Site.travel; rw [if_pos (.inl rfl)]
/-- What is so of a car that may be. -/
theorem Car.right_bd {s : Site} {c : Car} (h : c.right s = true) : c.d.right s = true ∧ s.right = true ∧ 0 ≤ c.fl ∧ c.fl < s.fl ∧ 0 ≤ c.ta ∧ c.ta < s.fl ∧ 0 ≤ c.ti ∧ c.ti ≤ 65000 ∧ (c.ti = 0 → c.fl = c.ta) ∧ (c.ti ≠ 0 → c.d.zero = true ∧ c.fl ≠ c.ta ∧ c.ti ≤ s.travel c.fl c.ta) := by
  unfold Car.right Site.has at h
  simp only [Bool.and_eq_true, decide_eq_true_eq] at h
  obtain ⟨h1, ⟨h2, h3⟩, ⟨h4, h5⟩, h6⟩ := h
  have hs := (Door.right_bd h1).1
  refine ⟨h1, hs, h2, h3, h4, h5, ?_⟩
  by_cases h0 : c.ti = 0
  · rw [if_pos h0] at h6
    have h6 := of_decide_eq_true h6
    exact ⟨by omega, by omega, fun _ => h6, fun h => absurd h0 h⟩
  · rw [if_neg h0] at h6
    simp only [Bool.and_eq_true, decide_eq_true_eq] at h6
    obtain ⟨h6, h7, h8⟩ := h6
    have hb := Site.travel_bd hs c.fl c.ta
    refine ⟨by omega, by omega, fun h => absurd h h0, fun _ => ⟨h6, fun e => ?_, h8⟩⟩
    rw [e, Site.travel_self] at h8
    omega
theorem Car.right_mk {s : Site} {c : Car} (h1 : c.d.right s = true) (h2 : 0 ≤ c.fl) (h3 : c.fl < s.fl) (h4 : 0 ≤ c.ta) (h5 : c.ta < s.fl) (h6 : c.ti = 0 → c.fl = c.ta) (h7 : c.ti ≠ 0 → c.d.zero = true ∧ 1 ≤ c.ti ∧ c.ti ≤ s.travel c.fl c.ta) : c.right s = true := by
  unfold Car.right Site.has
  simp only [Bool.and_eq_true, decide_eq_true_eq]
  refine ⟨h1, ⟨h2, h3⟩, ⟨h4, h5⟩, ?_⟩
  by_cases h0 : c.ti = 0
  · rw [if_pos h0]; exact decide_eq_true (h6 h0)
  · rw [if_neg h0]
    simp only [Bool.and_eq_true, decide_eq_true_eq]
    exact h7 h0
theorem Car.step_cond {s : Site} {c : Car} (h : c.right s = true) : (s.right && (smallN c.d.ph && smallN c.d.le && smallN c.d.ru) && smallN c.ti) = true := by
  obtain ⟨h1, h2, h3, h4, h5, h6, h7, h8, _⟩ := Car.right_bd h
  obtain ⟨d1, d2, d3, d4⟩ := Door.right_small h1
  rw [h2, d1, d2, d3]
  unfold smallN
  simp only [Bool.true_and, Bool.and_eq_true, decide_eq_true_eq]
  omega
theorem Door.zero_eq {d : Door} (h : d.zero = true) : d = ⟨0, 0, 0, false⟩ := by
  obtain ⟨ph, le, ru, he⟩ := d
  unfold Door.zero at h
  simp only [Bool.and_eq_true, decide_eq_true_eq, Bool.not_eq_true'] at h
  obtain ⟨rfl, rfl, rfl, rfl⟩ := h
  rfl
theorem Door.right_zero {s : Site} (h : s.right = true) : Door.right s ⟨0, 0, 0, false⟩ = true := Door.right_mk h (by decide) (by decide) (fun _ => ⟨rfl, rfl, rfl⟩) (fun h => absurd rfl h)
/-- A step of a car that may be is one. -/
theorem Car.step_right {s : Site} {c : Car} (h : c.right s = true) (o : Cmd) (b : Bool) : (c.step s o b).right s = true := by
  obtain ⟨h1, h2, h3, h4, h5, h6, h7, h8, h9, h10⟩ := Car.right_bd h
  unfold Car.step
  by_cases h0 : c.ti = 0
  · rw [if_neg (by simpa using h0)]
    split
    · exact Car.right_mk (E.step_right h1 o.op b) h3 h4 h5 h6 h9 (fun h => absurd h0 h)
    · rename_i hn
      split
      · rename_i hg
        obtain ⟨g1, g2, g3⟩ := hg
        have hz : c.d.ph = 0 := by
          by_cases hp : c.d.ph = 0
          · exact hp
          · exact absurd (.inl hp) hn
        obtain ⟨z1, z2, z3, z4, z5⟩ := Door.right_bd h1
        obtain ⟨y1, y2, y3⟩ := z4 hz
        unfold Site.has at g2
        simp only [Bool.and_eq_true, decide_eq_true_eq] at g2
        have hb := Site.right_bd h2
        refine Car.right_mk h1 h3 h4 g2.1 g2.2 (fun h => ?_) (fun h => ⟨?_, ?_, Int.le_refl _⟩)
        · have h : s.travel c.fl o.go = 0 := h
          unfold Site.travel at h
          rw [if_neg (by omega)] at h
          unfold Site.ride at h
          have : 1 ≤ s.sp * (if c.fl < o.go then o.go - c.fl else c.fl - o.go) := Int.mul_pos (by omega) (by split <;> omega)
          omega
        · unfold Door.zero
          simp [hz, y1, y2, y3]
        · have h : s.travel c.fl o.go ≠ 0 := h
          have := Site.travel_bd h2 c.fl o.go
          show 1 ≤ s.travel c.fl o.go
          omega
      · exact h
  · rw [if_pos (by simpa using h0)]
    obtain ⟨g1, g2, g3⟩ := h10 h0
    split
    · exact Car.right_mk h1 h5 h6 h5 h6 (fun _ => rfl) (fun h => absurd rfl h)
    · rename_i hne
      exact Car.right_mk h1 h3 h4 h5 h6 (fun h => absurd h hne) (fun _ => ⟨g1, by show 1 ≤ c.ti - 1; omega, by show c.ti - 1 ≤ s.travel c.fl c.ta; omega⟩)
def Car.safe (s : Site) (b n : Car) : Bool := b.right s && (n.right s && (if n.ti = 0 then (if b.ti = 0 then decide (b.fl = n.fl) else decide (b.ti = 1) && (decide (n.fl = b.ta) && n.d.zero))
  else if b.ti = 0 then b.idle && decide (b.fl = n.fl) else decide (n.fl = b.fl) && (decide (n.ta = b.ta) && decide (n.ti + 1 = b.ti))))
def csafeG : List AV → Option (Bool × AV) := fn3 dSite dCar dCar fun s b n => giv true (boo (b.safe s n))
def XC5 : Cx := (XC2.add 27 .pure (pureCtr crightG))
theorem XC5_ok : CxOk Try.prog XC5 := XC2_ok.pure cright_ok
theorem csafe_ok : CtrOk Try.prog 22 (pureCtr csafeG) :=
  pureCtr_ok XC5_ok Try.func22 (by decide) rfl fun args u hh => by
    obtain ⟨s, b, n, rfl, hv⟩ := fn3_some hh
    obtain ⟨_, rfl⟩ := giv_some hv
    clear hh hv
    refine ⟨rfl, rfl, ?_⟩
    have w : n.right s = true → IntKind.i64.wrap (n.ti + 1) = n.ti + 1 := fun h => by
      obtain ⟨_, _, _, _, _, _, h7, h8, _⟩ := Car.right_bd h
      exact wi _ (by omega) (by omega)
    obtain ⟨s1, s2, s3, s4, s5, s6, s7, s8, s9, s10, s11, s12, s13⟩ := s
    obtain ⟨fl, ta, ti, ⟨ph, le, ru, he⟩, fa⟩ := b
    obtain ⟨fl', ta', ti', ⟨ph', le', ru', he'⟩, fa'⟩ := n
    unfold runF
    (conv => arg 1; whnf)
    repeat' (first | (refine brt (by assumption) ?_; (conv => arg 1; whnf)) | (refine brf (by assumption) ?_; (conv => arg 1; whnf)) | (refine br (fun h => ?_) (fun h => ?_) <;> ((conv => arg 1; whnf))))
    all_goals refine finB ?_
    all_goals (unfold Car.safe; simp_all)
    all_goals (try omega)
    all_goals (try (rintro rfl; assumption))
def XCR : Cx := (XR0.add 11 .pure (pureCtr drightG)).add 12 .pure (pureCtr travelG)
theorem XCR_ok : CxOk Try.prog XCR := (XR0_ok.pure rdright_ok).pure rtravel_ok
theorem rcright_ok : CtrOk Try.prog 7 (pureCtr crightG) :=
  pureCtr_ok XCR_ok Try.func7 (by decide) rfl fun args u hh => by
    obtain ⟨s, c, rfl, hv⟩ := fn2_some hh
    obtain ⟨_, rfl⟩ := giv_some hv
    clear hh hv
    refine ⟨rfl, rfl, ?_⟩
    have hb : c.d.right s = true → s.right = true ∧ (c.d.ph = 0 → c.d.le = 0 ∧ c.d.ru = 0 ∧ c.d.he = false) := fun h => ⟨(Door.right_bd h).1, (Door.right_bd h).2.2.2.1⟩
    have ht := Site.travel_self s c.fl
    obtain ⟨s1, s2, s3, s4, s5, s6, s7, s8, s9, s10, s11, s12, s13⟩ := s
    obtain ⟨fl, ta, ti, ⟨ph, le, ru, he⟩, fa⟩ := c
    unfold runF
    (conv => arg 1; whnf)
    by_cases hd : Door.right ⟨s1, s2, s3, s4, s5, s6, s7, s8, s9, s10, s11, s12, s13⟩ ⟨ph, le, ru, he⟩ = true
    · obtain ⟨hs, h0⟩ := hb hd
      repeat' (first | (refine brt (by assumption) ?_; (conv => arg 1; whnf)) | (refine brf (by assumption) ?_; (conv => arg 1; whnf)) | (refine br (fun h => ?_) (fun h => ?_) <;> ((conv => arg 1; whnf))))
      all_goals refine finB ?_
      all_goals (unfold Car.right Site.has Door.zero; simp_all)
      all_goals (try (intros; omega))
    · have hd' := Bool.eq_false_iff.2 hd
      have e1 : (!Door.right ⟨s1, s2, s3, s4, s5, s6, s7, s8, s9, s10, s11, s12, s13⟩ ⟨ph, le, ru, he⟩) = true := by rw [hd']; rfl
      (conv => arg 1; whnf); (repeat' (first | (refine brt (by assumption) ?_; (conv => arg 1; whnf)) | (refine brf (by assumption) ?_; (conv => arg 1; whnf)) | fail))
      refine finB ?_
      unfold Car.right
      simp [hd']
def XCS : Cx := (XR0.add 13 .pure (pureCtr rstepG)).add 12 .pure (pureCtr travelG)
theorem XCS_ok : CxOk Try.prog XCS := (XR0_ok.pure rstep_ok).pure rtravel_ok
def rcstepG : List AV → Option (Bool × AV) := fn4 dSite dCar dCmd dB fun s c o b => giv (c.right s) (c.step s o b).av
theorem rcstep_ok : CtrOk Try.prog 8 (pureCtr rcstepG) :=
  pureCtr_ok XCS_ok Try.func8 (by decide) rfl fun args u hh => by
    obtain ⟨s, c, o, b, rfl, hv⟩ := fn4_some hh
    obtain ⟨hc, rfl⟩ := giv_some hv
    clear hh hv
    refine ⟨rfl, rfl, ?_⟩
    obtain ⟨h1, hs, h3, h4, h5, h6, h7, h8, h9, h10⟩ := Car.right_bd hc
    have hd := Door.right_small h1
    have hp := (Door.right_bd h1).2
    obtain ⟨s1, s2, s3, s4, s5, s6, s7, s8, s9, s10, s11, s12, s13⟩ := s
    obtain ⟨fl, ta, ti, ⟨ph, le, ru, he⟩, fa⟩ := c
    obtain ⟨op, go⟩ := o
    have wt : IntKind.i64.wrap (ti - 1) = ti - 1 := wi _ (by dsimp only at h7; omega) (by dsimp only at h8; omega)
    have e0 : (decide (0 ≤ ph) && decide (ph ≤ 3) && smallN le && smallN ru && (decide (ph = 0) || decide (1 ≤ le))) = true := by
      obtain ⟨d1, d2, d3, d4⟩ := hd
      dsimp only at d1 d2 d3 d4 hp
      rw [d2, d3, d4, decide_eq_true hp.1, decide_eq_true hp.2.1]; rfl
    clear hd hp h10 hc
    by_cases hz : ti = 0
    · have hz' : fl = ta := h9 hz
      clear wt h7 h8 h9
      subst hz hz'
      unfold runF
      (conv => arg 1; whnf)
      repeat' (first | (refine brt (by assumption) ?_; (conv => arg 1; whnf)) | (refine brf (by assumption) ?_; (conv => arg 1; whnf)) | (refine br (fun h => ?_) (fun h => ?_) <;> ((conv => arg 1; whnf))))
      all_goals refine finCar ?_
      all_goals (unfold Car.step Site.has; simp_all)
      all_goals (try omega)
    · have hz2 : decide (0 < ti) = true := decide_eq_true (by dsimp only at h7; omega)
      unfold runF
      (conv => arg 1; whnf); (repeat' (first | (refine brt (by assumption) ?_; (conv => arg 1; whnf)) | (refine brf (by assumption) ?_; (conv => arg 1; whnf)) | fail))
      repeat' (first | (refine brt (by assumption) ?_; (conv => arg 1; whnf)) | (refine brf (by assumption) ?_; (conv => arg 1; whnf)) | (refine br (fun h => ?_) (fun h => ?_) <;> ((conv => arg 1; whnf))))
      all_goals refine finCar ?_
      all_goals (unfold Car.step Site.has; simp_all)
      all_goals (try omega)
end Go.Proofs.Ythdeehkmlaejfaa.E
