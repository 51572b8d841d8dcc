/- Arguments of laws. -/
import Derived.Test.YtbilkjolopdeiaaSiteE
import Derived.Test.YtbilkjolopdeiaaERow
namespace Go.Proofs.Ytbilkjolopdeiaa.E
open Go
set_option linter.unusedSimpArgs false
set_option maxRecDepth 100000

theorem site_arg {u : AV} (h : isArg tt 23 u) : ∃ s : Site, u = s.av := by
  obtain ⟨_, ⟨_, _, rfl, ⟨a1, rfl, w1⟩, _, _, rfl, ⟨a2, rfl, w2⟩, _, _, rfl, ⟨a3, rfl, w3⟩, _, _, rfl, ⟨a4, rfl, w4⟩, _, _, rfl, ⟨a5, rfl, w5⟩, _, _, rfl, ⟨a6, rfl, w6⟩, _, _, rfl, ⟨a7, rfl, w7⟩, _, _, rfl, ⟨a8, rfl, w8⟩, _, _, rfl, ⟨a9, rfl, w9⟩, _, _, rfl, ⟨a10, rfl, w10⟩, _, _, rfl, ⟨a11, rfl, w11⟩, _, _, rfl, ⟨a12, rfl, w12⟩, _, _, rfl, ⟨a13, rfl, w13⟩, rfl⟩, rfl⟩ := h
  exact ⟨⟨a1, a2, a3, a4, a5, a6, a7, a8, a9, a10, a11, a12, a13⟩, rfl⟩
theorem int_arg {u : AV} (h : isArg tt 3 u) : ∃ n : Int, u = i64 n ∧ -9223372036854775808 ≤ n ∧ n ≤ 9223372036854775807 := by
  obtain ⟨n, e, w⟩ := h
  exact ⟨n, (List.cons.inj e).1, wf_i64 w⟩
theorem bool_arg {u : AV} (h : isArg tt 4 u) : ∃ b : Bool, u = boo b := by
  obtain ⟨n, e⟩ := h
  exact ⟨n, (List.cons.inj e).1⟩
theorem ints_row {u : AV} (h : isArg tt 99 u) : ∃ l : List Int, u = row eI l ∧ l.length < 281474976710656 ∧ ∀ x ∈ l, -9223372036854775808 ≤ x ∧ x ≤ 9223372036854775807 := by
  obtain ⟨m, g, e, hm, hg, hz⟩ := h
  obtain rfl := (List.cons.inj e).1
  exact row_eq eI (m := m) (g := g) (p := fun x => -9223372036854775808 ≤ x ∧ x ≤ 9223372036854775807) (fun k hk => by obtain ⟨z, hz, hw⟩ := hg k hk; exact ⟨z, hz, wf_i64 hw⟩) hz (by have : m * 1 < 281474976710656 := hm; omega)
end Go.Proofs.Ytbilkjolopdeiaa.E
