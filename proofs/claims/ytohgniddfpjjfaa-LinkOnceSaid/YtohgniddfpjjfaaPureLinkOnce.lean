/- Of numbers that were taken one behind the other none is taken again, for every first number, all steps and whatever comes again. -/
import Derived.Test.YtohgniddfpjjfaaSizedName
import Derived.Test.YtohgniddfpjjfaaPLinkOncex1
import Derived.Laws.BitsLemmas
namespace Go.Proofs.Ytohgniddfpjjfaa.Pure
open Go.RowKit Go.Proofs.Ytohgniddfpjjfaa.PLinkOnce Go.Proofs.YtohgniddfpjjfaaW.PrintWords Go.Proofs.YtohgniddfpjjfaaW.PrintLast
namespace LinkOnceParts
theorem mask16 (n : Int) : Go.bits .and .i64 n 65535 = n % 65536 := by
  have hc : (BitVec.ofInt 64 65535).toNat = 2 ^ 16 - 1 := by decide
  have key : (BitVec.ofInt 64 n &&& BitVec.ofInt 64 65535).toNat = (n % ((2 ^ 64 : Nat) : Int)).toNat % 2 ^ 16 := by
    rw [BitVec.toNat_and, BitVec.toNat_ofInt, hc, Nat.and_two_pow_sub_one_eq_mod]
  show IntKind.i64.wrap ((BitVec.ofInt 64 n &&& BitVec.ofInt 64 65535).toNat : Nat) = n % 65536
  rw [key, IntKind.wrap_i64]
  omega
theorem mask8 (n : Int) : Go.bits .and .i64 n 255 = n % 256 := by
  have hc : (BitVec.ofInt 64 255).toNat = 2 ^ 8 - 1 := by decide
  have key : (BitVec.ofInt 64 n &&& BitVec.ofInt 64 255).toNat = (n % ((2 ^ 64 : Nat) : Int)).toNat % 2 ^ 8 := by
    rw [BitVec.toNat_and, BitVec.toNat_ofInt, hc, Nat.and_two_pow_sub_one_eq_mod]
  show IntKind.i64.wrap ((BitVec.ofInt 64 n &&& BitVec.ofInt 64 255).toNat : Nat) = n % 256
  rw [key, IntKind.wrap_i64]
  omega
theorem mask15 (n : Int) : Go.bits .and .i64 n 32767 = n % 32768 := by
  have hc : (BitVec.ofInt 64 32767).toNat = 2 ^ 15 - 1 := by decide
  have key : (BitVec.ofInt 64 n &&& BitVec.ofInt 64 32767).toNat = (n % ((2 ^ 64 : Nat) : Int)).toNat % 2 ^ 15 := by
    rw [BitVec.toNat_and, BitVec.toNat_ofInt, hc, Nat.and_two_pow_sub_one_eq_mod]
  show IntKind.i64.wrap ((BitVec.ofInt 64 n &&& BitVec.ofInt 64 32767).toNat : Nat) = n % 32768
  rw [key, IntKind.wrap_i64]
  omega
theorem take_first (k : Nat) (last seq : Int) (h0 : 0 ≤ seq) (h1 : seq ≤ 65535) : link_Link_Take.f (k + 1) last (-1) seq = some (0, seq, 0) := by
  unfold link_Link_Take.f
  simp only [link_Link_Take.j0]
  rw [if_neg (by omega), if_neg (by simp; omega)]; simp
theorem take_new (k : Nat) (last seq silent : Int) (h0 : 0 ≤ seq) (h1 : seq ≤ 65535) (l0 : 0 ≤ last) (l1 : last ≤ 65535) (hs : silent ≠ -1)
    (hn : 1 ≤ (seq - last) % 65536) (hn' : (seq - last) % 65536 ≤ 32767) : link_Link_Take.f (k + 1) last silent seq = some (0, seq, 0) := by
  unfold link_Link_Take.f
  simp only [link_Link_Take.j0]
  rw [if_neg (by omega), if_neg (by simp; omega), if_neg hs, show wrap64 (seq - last) = seq - last by unfold wrap64; omega, mask16, if_neg (by omega), if_neg (by omega)]
theorem take_old (k : Nat) (last seq silent : Int) (h0 : 0 ≤ seq) (h1 : seq ≤ 65535) (l0 : 0 ≤ last) (l1 : last ≤ 65535) (hs : silent ≠ -1)
    (hn : (seq - last) % 65536 = 0 ∨ 32767 < (seq - last) % 65536) : link_Link_Take.f (k + 1) last silent seq = some (7, last, silent) := by
  unfold link_Link_Take.f
  simp only [link_Link_Take.j0]
  rw [if_neg (by omega), if_neg (by simp; omega), if_neg hs, show wrap64 (seq - last) = seq - last by unfold wrap64; omega, mask16]
  rcases hn with h | h
  · rw [if_pos h]
  · rw [if_neg (by omega), if_pos (by omega)]
theorem speaks_eq (k : Nat) : paternosterlaw08_speaks.f (k + 1) = some true := by
  unfold paternosterlaw08_speaks.f link_New.f link_Link_Silent.f
  simp only [Option.bind_some]
  rw [take_first _ _ _ (by omega) (by omega)]
  simp only [Option.bind_some]
  rw [take_new _ _ _ _ (by omega) (by omega) (by omega) (by omega) (by omega) (by omega) (by omega)]
  simp only [Option.bind_some]
  rw [take_old _ _ _ _ (by omega) (by omega) (by omega) (by omega) (by omega) (by omega)]
  decide
/-- All numbers of the list stand at most so far behind the last one. -/
def Behind (all : List Int) (last d : Int) : Prop := ∀ y ∈ all, 0 ≤ y ∧ y ≤ 65535 ∧ ∃ e, 0 ≤ e ∧ e ≤ d ∧ (y + e) % 65536 = last
theorem rd_mem {l : List Int} {i : Int} (h0 : 0 ≤ i) (h : i < l.length) : rd l i ∈ l := by
  unfold rd
  have h1 : i.toNat < l.length := by omega
  simp [h1]
theorem loop1 (all : List Int) (last d : Int) (l0 : 0 ≤ last) (l1 : last ≤ 65535) (hd : d ≤ 32767) (hb : Behind all last d) (hne : 0 < all.length) (hlen : all.length ≤ 100)
    (again : List Int) (ha : again.length ≤ 60) (m : Nat) : ∀ (k i : Nat), i + m = again.length → m + 1 < k →
    paternosterlaw08_LinkOnce.l1 k all again (again.length : Int) i last 0 = some true := by
  induction m with
  | zero =>
    intro k i hi hk
    obtain ⟨k, rfl⟩ : ∃ m, k = m + 1 := ⟨k - 1, by omega⟩
    simp only [paternosterlaw08_LinkOnce.l1]
    rw [if_neg (by omega)]
    unfold link_Link_Silent.f
    simp only [Option.bind_some, BEq.rfl]
  | succ m ih =>
    intro k i hi hk
    obtain ⟨k, rfl⟩ : ∃ m, k = m + 1 := ⟨k - 1, by omega⟩
    simp only [paternosterlaw08_LinkOnce.l1]
    obtain ⟨k, rfl⟩ : ∃ m, k = m + 1 := ⟨k - 1, by omega⟩
    rw [if_pos (by omega), if_pos (by omega), if_pos (by omega), if_neg (by omega), mask16]
    have n0 : 0 ≤ rd again i % 65536 := Int.emod_nonneg _ (by omega)
    rw [Int.tmod_eq_emod_of_nonneg n0]
    have n1 : 0 ≤ rd again i % 65536 % (all.length : Int) := Int.emod_nonneg _ (by omega)
    have n2 : rd again i % 65536 % (all.length : Int) < (all.length : Int) := Int.emod_lt_of_pos _ (by omega)
    rw [if_pos n1, if_pos n2]
    obtain ⟨y0, y1, e, e0, e1, he⟩ := hb _ (rd_mem n1 n2)
    generalize rd all (rd again i % 65536 % (all.length : Int)) = y at *
    have hx : (y - last) % 65536 = 0 ∨ 32767 < (y - last) % 65536 := by clear ih n0 n1 n2 hi; omega
    have ho := take_old k last y 0 y0 y1 l0 l1 (by decide) hx
    rw [ho, Option.bind_some, if_pos rfl, show wrap64 ((i : Int) + 1) = ((i + 1 : Nat) : Int) by unfold wrap64; omega]
    exact ih (k + 1) (i + 1) (by omega) (by omega)
theorem loop0 (steps again : List Int) (hs : steps.length ≤ 60) (ha : again.length ≤ 60) (m : Nat) : ∀ (k i : Nat) (all : List Int) (last : Int), i + m = steps.length → m + 70 < k →
    0 ≤ last → last ≤ 65535 → Behind all last (256 * i) → 0 < all.length → all.length ≤ i + 1 →
    paternosterlaw08_LinkOnce.l0 k again last all steps (steps.length : Int) i last 0 = some true := by
  induction m with
  | zero =>
    intro k i all last hi hk l0 l1 hb hne hlen
    obtain ⟨k, rfl⟩ : ∃ m, k = m + 1 := ⟨k - 1, by omega⟩
    simp only [paternosterlaw08_LinkOnce.l0]
    rw [if_neg (by omega)]
    exact loop1 all last _ l0 l1 (by omega) hb hne (by omega) again ha again.length k 0 (by omega) (by omega)
  | succ m ih =>
    intro k i all last hi hk l0 l1 hb hne hlen
    obtain ⟨k, rfl⟩ : ∃ m, k = m + 1 := ⟨k - 1, by omega⟩
    simp only [paternosterlaw08_LinkOnce.l0]
    obtain ⟨k, rfl⟩ : ∃ m, k = m + 1 := ⟨k - 1, by omega⟩
    rw [if_pos (by omega), if_pos (by omega), if_pos (by omega), mask8]
    have n0 : 0 ≤ rd steps i % 256 := Int.emod_nonneg _ (by omega)
    have n1 : rd steps i % 256 < 256 := Int.emod_lt_of_pos _ (by omega)
    generalize rd steps i % 256 = s at *
    rw [show wrap64 (last + s) = last + s by unfold wrap64; omega, show wrap64 (last + s + 1) = last + s + 1 by unfold wrap64; omega, mask16]
    rw [take_new k last _ 0 (by omega) (by omega) l0 l1 (by omega) (by omega) (by omega), Option.bind_some, if_pos rfl, if_pos (by omega), show wrap64 ((i : Int) + 1) = ((i + 1 : Nat) : Int) by unfold wrap64; omega]
    refine ih (k + 1) (i + 1) _ _ (by omega) (by omega) (by omega) (by omega) ?_ (by simp) (by simp; omega)
    intro y hy
    rcases List.mem_append.1 hy with h | h
    · obtain ⟨y0, y1, e, e0, e1, he⟩ := hb y h
      exact ⟨y0, y1, e + s + 1, by omega, by omega, by omega⟩
    · simp only [List.mem_singleton] at h
      subst h
      exact ⟨by omega, by omega, 0, by omega, by omega, by omega⟩
end LinkOnceParts
open LinkOnceParts
theorem LinkOnce : paternosterlaw08_LinkOnce.Pure := by
  intro a steps again _ _ _ _ _ _ _
  refine ⟨200, ?_⟩
  unfold paternosterlaw08_LinkOnce.f
  rw [speaks_eq]
  simp only [Option.bind_some, if_true]
  have key : ∀ (k : Nat) (b : Bool), 198 ≤ k → (b = false → steps.length ≤ 60 ∧ again.length ≤ 60) → paternosterlaw08_LinkOnce.j0 (k + 1) a steps again b = some true := by
    intro k b hk hb
    simp only [paternosterlaw08_LinkOnce.j0]
    cases b with
    | true => rfl
    | false =>
      obtain ⟨h1, h2⟩ := hb rfl
      unfold link_New.f
      simp only [Bool.false_eq_true, if_false, Option.bind_some, mask16]
      obtain ⟨k, rfl⟩ : ∃ m, k = m + 1 := ⟨k - 1, by omega⟩
      rw [take_first k _ _ (by omega) (by omega), Option.bind_some, if_pos rfl]
      refine loop0 steps again h1 h2 steps.length (k + 1) 0 _ _ (by omega) (by omega) (by omega) (by omega) ?_ (by simp) (by simp)
      intro y hy
      simp only [List.mem_singleton] at hy
      subst hy
      exact ⟨by omega, by omega, 0, by omega, by omega, by omega⟩
  split
  · exact key 199 true (by omega) (by simp)
  · exact key 199 _ (by omega) (by simp; omega)
end Go.Proofs.Ytohgniddfpjjfaa.Pure
