/- A link is live from a number that is taken on for just as many ticks as are asked for, and what is old lets it be as silent as it was: for every number, every count of ticks and all old numbers. -/
import Derived.Test.YtohgniddfpjjfaaSizedName
import Derived.Test.YtohgniddfpjjfaaPLinkLivex2
import Derived.Laws.BitsLemmas
import Derived.Test.YtohgniddfpjjfaaNumMath
namespace Go.Proofs.Ytohgniddfpjjfaa.Pure
open Go.RowKit Go.Proofs.Ytohgniddfpjjfaa.PLinkLive Go.Proofs.YtohgniddfpjjfaaW.PrintWords Go.Proofs.YtohgniddfpjjfaaW.PrintLast Go.Proofs.YtohgniddfpjjfaaW.PrintMore Go.Proofs.Ytohgniddfpjjfaa.NumMath
namespace LinkLiveParts
theorem within_eq (a : Int) : num_within.f a = some (lim a) := by
  unfold num_within.f mx mn lim
  congr 1
  split <;> split <;> (try split) <;> (try split) <;> omega
theorem add_eq (a b : Int) : num_Add.f a b = some (lim (lim a + lim b)) := by
  unfold num_Add.f
  simp only [within_eq, Option.bind_some]
  have h1 := lim_ge a; have h2 := lim_le a; have h3 := lim_ge b; have h4 := lim_le b
  rw [show wrap64 (lim a + lim b) = lim a + lim b by unfold wrap64; omega]
theorem mask16 (n : Int) : Go.bits .and .i64 n 65535 = n % 65536 := by
  have hc : (BitVec.ofInt 64 65535).toNat = 2 ^ 16 - 1 := by decide
  have key : (BitVec.ofInt 64 n &&& BitVec.ofInt 64 65535).toNat = (n % ((2 ^ 64 : Nat) : Int)).toNat % 2 ^ 16 := by
    rw [BitVec.toNat_and, BitVec.toNat_ofInt, hc, Nat.and_two_pow_sub_one_eq_mod]
  show IntKind.i64.wrap ((BitVec.ofInt 64 n &&& BitVec.ofInt 64 65535).toNat : Nat) = n % 65536
  rw [key, IntKind.wrap_i64]
  omega
theorem mask8 (n : Int) : Go.bits .and .i64 n 255 = n % 256 := by
  have hc : (BitVec.ofInt 64 255).toNat = 2 ^ 8 - 1 := by decide
  have key : (BitVec.ofInt 64 n &&& BitVec.ofInt 64 255).toNat = (n % ((2 ^ 64 : Nat) : Int)).toNat % 2 ^ 8 := by
    rw [BitVec.toNat_and, BitVec.toNat_ofInt, hc, Nat.and_two_pow_sub_one_eq_mod]
  show IntKind.i64.wrap ((BitVec.ofInt 64 n &&& BitVec.ofInt 64 255).toNat : Nat) = n % 256
  rw [key, IntKind.wrap_i64]
  omega
theorem mask15 (n : Int) : Go.bits .and .i64 n 32767 = n % 32768 := by
  have hc : (BitVec.ofInt 64 32767).toNat = 2 ^ 15 - 1 := by decide
  have key : (BitVec.ofInt 64 n &&& BitVec.ofInt 64 32767).toNat = (n % ((2 ^ 64 : Nat) : Int)).toNat % 2 ^ 15 := by
    rw [BitVec.toNat_and, BitVec.toNat_ofInt, hc, Nat.and_two_pow_sub_one_eq_mod]
  show IntKind.i64.wrap ((BitVec.ofInt 64 n &&& BitVec.ofInt 64 32767).toNat : Nat) = n % 32768
  rw [key, IntKind.wrap_i64]
  omega
theorem take_first (k : Nat) (last seq : Int) (h0 : 0 ≤ seq) (h1 : seq ≤ 65535) : link_Link_Take.f (k + 1) last (-1) seq = some (0, seq, 0) := by
  unfold link_Link_Take.f
  simp only [link_Link_Take.j0]
  rw [if_neg (by omega), if_neg (by simp; omega)]; simp
theorem take_new (k : Nat) (last seq silent : Int) (h0 : 0 ≤ seq) (h1 : seq ≤ 65535) (l0 : 0 ≤ last) (l1 : last ≤ 65535) (hs : silent ≠ -1)
    (hn : 1 ≤ (seq - last) % 65536) (hn' : (seq - last) % 65536 ≤ 32767) : link_Link_Take.f (k + 1) last silent seq = some (0, seq, 0) := by
  unfold link_Link_Take.f
  simp only [link_Link_Take.j0]
  rw [if_neg (by omega), if_neg (by simp; omega), if_neg hs, show wrap64 (seq - last) = seq - last by unfold wrap64; omega, mask16, if_neg (by omega), if_neg (by omega)]
theorem take_old (k : Nat) (last seq silent : Int) (h0 : 0 ≤ seq) (h1 : seq ≤ 65535) (l0 : 0 ≤ last) (l1 : last ≤ 65535) (hs : silent ≠ -1)
    (hn : (seq - last) % 65536 = 0 ∨ 32767 < (seq - last) % 65536) : link_Link_Take.f (k + 1) last silent seq = some (7, last, silent) := by
  unfold link_Link_Take.f
  simp only [link_Link_Take.j0]
  rw [if_neg (by omega), if_neg (by simp; omega), if_neg hs, show wrap64 (seq - last) = seq - last by unfold wrap64; omega, mask16]
  rcases hn with h | h
  · rw [if_pos h]
  · rw [if_neg (by omega), if_pos (by omega)]
theorem speaks_eq (k : Nat) : paternosterlaw08_speaks.f (k + 1) = some true := by
  unfold paternosterlaw08_speaks.f link_New.f link_Link_Silent.f
  simp only [Option.bind_some]
  rw [take_first _ _ _ (by omega) (by omega)]
  simp only [Option.bind_some]
  rw [take_new _ _ _ _ (by omega) (by omega) (by omega) (by omega) (by omega) (by omega) (by omega)]
  simp only [Option.bind_some]
  rw [take_old _ _ _ _ (by omega) (by omega) (by omega) (by omega) (by omega) (by omega)]
  decide
theorem live_eq (last silent t : Int) (h : silent ≠ -1) : link_Link_Live.f last silent t = some (decide (silent < t), last, silent) := by
  unfold link_Link_Live.f
  rw [if_neg h]
theorem tick_eq (last silent : Int) (h0 : 0 ≤ silent) (h1 : silent ≤ 300) : link_Link_Tick.f last silent = some (last, silent + 1) := by
  unfold link_Link_Tick.f
  rw [if_neg (by omega), add_eq, Option.bind_some, lim_id (a := silent) (by omega) (by omega), lim_id (a := 1) (by omega) (by omega), lim_id (by omega) (by omega)]
theorem loop1 (x0 x1 : Int) (old : List Int) (i B : Nat) (s0 : 0 ≤ x0) (s1 : x0 ≤ 65535) (hi : i ≤ 200) (hold : old.length ≤ 60)
    (H : ∀ k, B ≤ k → paternosterlaw08_LinkLive.l0 k x0 x1 old ((i + 1 : Nat) : Int) x0 ((i + 1 : Nat) : Int) = some true) (m : Nat) :
    ∀ (k j : Nat), j + m = old.length → B + m + 1 < k →
    paternosterlaw08_LinkLive.l1 k x0 x1 old i old (old.length : Int) j x0 i = some true := by
  induction m with
  | zero =>
    intro k j hj hk
    obtain ⟨k, rfl⟩ : ∃ m, k = m + 1 := ⟨k - 1, by omega⟩
    simp only [paternosterlaw08_LinkLive.l1]
    rw [if_neg (by omega), tick_eq _ _ (by omega) (by omega), Option.bind_some, show wrap64 ((i : Int) + 1) = ((i + 1 : Nat) : Int) by unfold wrap64; omega]
    exact H k (by omega)
  | succ m ih =>
    intro k j hj hk
    obtain ⟨k, rfl⟩ : ∃ m, k = m + 1 := ⟨k - 1, by omega⟩
    simp only [paternosterlaw08_LinkLive.l1]
    obtain ⟨k, rfl⟩ : ∃ m, k = m + 1 := ⟨k - 1, by omega⟩
    rw [if_pos (by omega), if_pos (by omega), if_pos (by omega), mask15]
    have n0 : 0 ≤ rd old j % 32768 := Int.emod_nonneg _ (by omega)
    have n1 : rd old j % 32768 < 32768 := Int.emod_lt_of_pos _ (by omega)
    generalize rd old j % 32768 = o at *
    rw [show wrap64 (x0 - o) = x0 - o by unfold wrap64; omega, mask16]
    have ho := take_old k x0 ((x0 - o) % 65536) i (by omega) (by omega) s0 s1 (by omega) (by omega)
    rw [ho, Option.bind_some, if_pos rfl, show wrap64 ((j : Int) + 1) = ((j + 1 : Nat) : Int) by unfold wrap64; omega]
    exact ih (k + 1) (j + 1) (by omega) (by omega)
theorem loop0 (x0 : Int) (t : Nat) (old : List Int) (s0 : 0 ≤ x0) (s1 : x0 ≤ 65535) (ht : t ≤ 200) (hold : old.length ≤ 60) (m : Nat) :
    ∀ (k i : Nat), i + m = t → m * 70 + 10 < k → paternosterlaw08_LinkLive.l0 k x0 t old i x0 i = some true := by
  induction m with
  | zero =>
    intro k i hi hk
    obtain ⟨k, rfl⟩ : ∃ m, k = m + 1 := ⟨k - 1, by omega⟩
    simp only [paternosterlaw08_LinkLive.l0]
    obtain ⟨k, rfl⟩ : ∃ m, k = m + 1 := ⟨k - 1, by omega⟩
    rw [if_neg (by omega), live_eq x0 i t (by omega), Option.bind_some, if_neg (by simp; omega), show wrap64 ((t : Int) + 1) = (t : Int) + 1 by unfold wrap64; omega,
      live_eq x0 i (t + 1) (by omega), Option.bind_some, if_pos (by simp; omega), show wrap64 (x0 + 1) = x0 + 1 by unfold wrap64; omega, mask16]
    have ho := take_new k x0 ((x0 + 1) % 65536) i (by omega) (by omega) s0 s1 (by omega) (by omega) (by omega)
    rw [ho, Option.bind_some, if_pos rfl]
    have hl := live_eq ((x0 + 1) % 65536) 0 1 (by decide)
    show ((link_Link_Live.f ((x0 + 1) % 65536) 0 1).bind fun bt => some bt.1) = some true
    rw [hl]
    rfl
  | succ m ih =>
    intro k i hi hk
    obtain ⟨k, rfl⟩ : ∃ m, k = m + 1 := ⟨k - 1, by omega⟩
    simp only [paternosterlaw08_LinkLive.l0]
    obtain ⟨k, rfl⟩ : ∃ m, k = m + 1 := ⟨k - 1, by omega⟩
    rw [if_pos (by omega), live_eq x0 i t (by omega), Option.bind_some, if_pos (by simp; omega)]
    unfold link_Link_Silent.f
    rw [Option.bind_some]
    simp only [paternosterlaw08_LinkLive.j3]
    rw [if_neg (by simp)]
    exact loop1 x0 t old i (m * 70 + 11) s0 s1 (by omega) hold (fun k hk => ih k (i + 1) (by omega) (by omega)) old.length k 0 (by omega) (by omega)
end LinkLiveParts
open LinkLiveParts
theorem LinkLive : paternosterlaw08_LinkLive.Pure := by
  intro a t old _ ht _ _ _
  refine ⟨20000, ?_⟩
  unfold paternosterlaw08_LinkLive.f
  rw [speaks_eq, Option.bind_some, if_pos rfl]
  have key : ∀ (k : Nat) (b : Bool), 19000 ≤ k → (b = false → old.length ≤ 60 ∧ 1 ≤ t ∧ t ≤ 200) → paternosterlaw08_LinkLive.j0 (k + 1) a t old b = some true := by
    intro k b hk hb
    simp only [paternosterlaw08_LinkLive.j0]
    cases b with
    | true => rfl
    | false =>
      obtain ⟨h1, h2, h3⟩ := hb rfl
      obtain ⟨k, rfl⟩ : ∃ m, k = m + 1 := ⟨k - 1, by omega⟩
      unfold link_New.f
      rw [if_neg (by simp), Option.bind_some]
      have hl : link_Link_Live.f 0 (-1) t = some (false, 0, -1) := by unfold link_Link_Live.f; rw [if_pos rfl]
      have e0 : 0 ≤ a % 65536 := Int.emod_nonneg _ (by omega)
      have e1 : a % 65536 < 65536 := Int.emod_lt_of_pos _ (by omega)
      have ho := take_first k 0 (a % 65536) e0 (by omega)
      rw [hl, Option.bind_some, if_neg (by simp), mask16, ho, Option.bind_some]
      simp only [paternosterlaw08_LinkLive.j1]
      rw [if_neg (by simp)]
      obtain ⟨u, rfl⟩ := Int.eq_ofNat_of_zero_le (by omega : 0 ≤ t)
      exact loop0 (a % 65536) u old e0 (by omega) (by omega) h1 u k 0 (by omega) (by omega)
  split
  · exact key 19999 true (by omega) (by simp)
  · split
    · exact key 19999 true (by omega) (by simp)
    · exact key 19999 _ (by omega) (by simp; omega)
end Go.Proofs.Ytohgniddfpjjfaa.Pure
