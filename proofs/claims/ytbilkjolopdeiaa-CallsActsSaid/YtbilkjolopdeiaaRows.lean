/-
  No cell of these rows narrows 'for every input' (looked for: loops, veiled, ifaces, maps, wideKeys, modest, calm, conditions, laid).
  DERIVED. THE GIVEN ROWS OF THIS SEAT. 8 by the template 'for every input the law returns true; each argument reads behind the call as it read before'; 0 by the template 'total and deterministic' (their statements: YtbilkjolopdeiaaTotals.lean).
  GIVEN WITH THE SEED: the statements are not yours to turn. If you find one false, say at which input.
  Laid BY PROGRAM, IN A SANDBOX (cutbox-rows.mjs): the forced cells as the released guide's own fill.sh prints them over the translation c2309a2f02dc8593… (all of the seat's roots in one cut). By AI agents, Wed Nov 11 2026. No macro, syntax, notation, axiom, sorry.
-/
import Derived.Test.YtbilkjolopdeiaaChecked
import GoSem.Claim
import GoSem.ClaimJoined
import GoSem.ClaimMapViews
import Derived.JoinedTies
import Derived.KernelRfl
namespace Go.Proofs.Ytbilkjolopdeiaa
/- THE CELL 'sum', in the pinned program and in every row, IS THE sha256 OF THE DUMP (.gsa) THAT YtbilkjolopdeiaaProg.lean LOADS. Nothing in Lean hashes anything: it is a label: what it is worth is what the hold of that sum in a sandbox is worth. -/
noncomputable def Try.pinned : Pinned := { name := "ytbilkjolopdeiaa", sum := "c2309a2f02dc859383ac4e60ddeba1c464627ff57bb852572e33121079605148", checked := Try.checked }
namespace Rows
def none {H : Type} : Left H := { results := [], args := [] }

/-- 'paternosterlaw05.CarServes': WHATEVER THE INPUT: true; the input reads as it did. -/
def carServesSpec : ChangeSpec := { name := "carServes", fn := fun _ => fun
  | [d1, d2, d3] => { results := [.lit (.bool true)], args := [d1, d2, d3] }
  | _ => none }
def carServesRow : OpenClaim := { program := "ytbilkjolopdeiaa", sum := "c2309a2f02dc859383ac4e60ddeba1c464627ff57bb852572e33121079605148", func := "paternoster/paternosterlaw05.CarServes", spec := "carServes", apart := false }
def CarServesSaid : Prop := carServesRow.holds Try.pinned (OpenSpec.ofChange carServesSpec)

/-- ITS FALSE NEIGHBOUR: 'it returns false'. Refute it at one input. -/
def carServesWrong : ChangeSpec := { name := "carServes", fn := fun _ => fun
  | [d1, d2, d3] => { results := [.lit (.bool false)], args := [d1, d2, d3] }
  | _ => none }
def CarServesWrongFalsely : Prop := carServesRow.holds Try.pinned (OpenSpec.ofChange carServesWrong)

/-- 'paternosterlaw05.CarBusy': WHATEVER THE INPUT: true; the input reads as it did. -/
def carBusySpec : ChangeSpec := { name := "carBusy", fn := fun _ => fun
  | [d1, d2, d3, d4, d5] => { results := [.lit (.bool true)], args := [d1, d2, d3, d4, d5] }
  | _ => none }
def carBusyRow : OpenClaim := { program := "ytbilkjolopdeiaa", sum := "c2309a2f02dc859383ac4e60ddeba1c464627ff57bb852572e33121079605148", func := "paternoster/paternosterlaw05.CarBusy", spec := "carBusy", apart := false }
def CarBusySaid : Prop := carBusyRow.holds Try.pinned (OpenSpec.ofChange carBusySpec)

/-- ITS FALSE NEIGHBOUR: 'it returns false'. Refute it at one input. -/
def carBusyWrong : ChangeSpec := { name := "carBusy", fn := fun _ => fun
  | [d1, d2, d3, d4, d5] => { results := [.lit (.bool false)], args := [d1, d2, d3, d4, d5] }
  | _ => none }
def CarBusyWrongFalsely : Prop := carBusyRow.holds Try.pinned (OpenSpec.ofChange carBusyWrong)

/-- 'paternosterlaw05.CarRides': WHATEVER THE INPUT: true; the input reads as it did. -/
def carRidesSpec : ChangeSpec := { name := "carRides", fn := fun _ => fun
  | [d1, d2, d3] => { results := [.lit (.bool true)], args := [d1, d2, d3] }
  | _ => none }
def carRidesRow : OpenClaim := { program := "ytbilkjolopdeiaa", sum := "c2309a2f02dc859383ac4e60ddeba1c464627ff57bb852572e33121079605148", func := "paternoster/paternosterlaw05.CarRides", spec := "carRides", apart := false }
def CarRidesSaid : Prop := carRidesRow.holds Try.pinned (OpenSpec.ofChange carRidesSpec)

/-- ITS FALSE NEIGHBOUR: 'it returns false'. Refute it at one input. -/
def carRidesWrong : ChangeSpec := { name := "carRides", fn := fun _ => fun
  | [d1, d2, d3] => { results := [.lit (.bool false)], args := [d1, d2, d3] }
  | _ => none }
def CarRidesWrongFalsely : Prop := carRidesRow.holds Try.pinned (OpenSpec.ofChange carRidesWrong)

/-- 'paternosterlaw05.CarSteps': WHATEVER THE INPUT: true; the input reads as it did. -/
def carStepsSpec : ChangeSpec := { name := "carSteps", fn := fun _ => fun
  | [d1, d2, d3] => { results := [.lit (.bool true)], args := [d1, d2, d3] }
  | _ => none }
def carStepsRow : OpenClaim := { program := "ytbilkjolopdeiaa", sum := "c2309a2f02dc859383ac4e60ddeba1c464627ff57bb852572e33121079605148", func := "paternoster/paternosterlaw05.CarSteps", spec := "carSteps", unfollowed := true, recurses := true, apart := false }
def CarStepsSaid : Prop := carStepsRow.holds Try.pinned (OpenSpec.ofChange carStepsSpec)

/-- ITS FALSE NEIGHBOUR: 'it returns false'. Refute it at one input. -/
def carStepsWrong : ChangeSpec := { name := "carSteps", fn := fun _ => fun
  | [d1, d2, d3] => { results := [.lit (.bool false)], args := [d1, d2, d3] }
  | _ => none }
def CarStepsWrongFalsely : Prop := carStepsRow.holds Try.pinned (OpenSpec.ofChange carStepsWrong)

/-- 'paternosterlaw05.CarSafe': WHATEVER THE INPUT: true; the input reads as it did. -/
def carSafeSpec : ChangeSpec := { name := "carSafe", fn := fun _ => fun
  | [d1, d2, d3] => { results := [.lit (.bool true)], args := [d1, d2, d3] }
  | _ => none }
def carSafeRow : OpenClaim := { program := "ytbilkjolopdeiaa", sum := "c2309a2f02dc859383ac4e60ddeba1c464627ff57bb852572e33121079605148", func := "paternoster/paternosterlaw05.CarSafe", spec := "carSafe", unfollowed := true, recurses := true, apart := false }
def CarSafeSaid : Prop := carSafeRow.holds Try.pinned (OpenSpec.ofChange carSafeSpec)

/-- ITS FALSE NEIGHBOUR: 'it returns false'. Refute it at one input. -/
def carSafeWrong : ChangeSpec := { name := "carSafe", fn := fun _ => fun
  | [d1, d2, d3] => { results := [.lit (.bool false)], args := [d1, d2, d3] }
  | _ => none }
def CarSafeWrongFalsely : Prop := carSafeRow.holds Try.pinned (OpenSpec.ofChange carSafeWrong)

/-- 'paternosterlaw06.CallsTwice': WHATEVER THE INPUT: true; the input reads as it did. -/
def callsTwiceSpec : ChangeSpec := { name := "callsTwice", fn := fun _ => fun
  | [d1, d2, d3, d4] => { results := [.lit (.bool true)], args := [d1, d2, d3, d4] }
  | _ => none }
def callsTwiceRow : OpenClaim := { program := "ytbilkjolopdeiaa", sum := "c2309a2f02dc859383ac4e60ddeba1c464627ff57bb852572e33121079605148", func := "paternoster/paternosterlaw06.CallsTwice", spec := "callsTwice", unfollowed := true, recurses := true, apart := false }
def CallsTwiceSaid : Prop := callsTwiceRow.holds Try.pinned (OpenSpec.ofChange callsTwiceSpec)

/-- ITS FALSE NEIGHBOUR: 'it returns false'. Refute it at one input. -/
def callsTwiceWrong : ChangeSpec := { name := "callsTwice", fn := fun _ => fun
  | [d1, d2, d3, d4] => { results := [.lit (.bool false)], args := [d1, d2, d3, d4] }
  | _ => none }
def CallsTwiceWrongFalsely : Prop := callsTwiceRow.holds Try.pinned (OpenSpec.ofChange callsTwiceWrong)

/-- 'paternosterlaw06.CallsKeep': WHATEVER THE INPUT: true; the input reads as it did. -/
def callsKeepSpec : ChangeSpec := { name := "callsKeep", fn := fun _ => fun
  | [d1, d2] => { results := [.lit (.bool true)], args := [d1, d2] }
  | _ => none }
def callsKeepRow : OpenClaim := { program := "ytbilkjolopdeiaa", sum := "c2309a2f02dc859383ac4e60ddeba1c464627ff57bb852572e33121079605148", func := "paternoster/paternosterlaw06.CallsKeep", spec := "callsKeep", unfollowed := true, recurses := true, apart := false }
def CallsKeepSaid : Prop := callsKeepRow.holds Try.pinned (OpenSpec.ofChange callsKeepSpec)

/-- ITS FALSE NEIGHBOUR: 'it returns false'. Refute it at one input. -/
def callsKeepWrong : ChangeSpec := { name := "callsKeep", fn := fun _ => fun
  | [d1, d2] => { results := [.lit (.bool false)], args := [d1, d2] }
  | _ => none }
def CallsKeepWrongFalsely : Prop := callsKeepRow.holds Try.pinned (OpenSpec.ofChange callsKeepWrong)

/-- 'paternosterlaw06.CallsActs': WHATEVER THE INPUT: true; the input reads as it did. -/
def callsActsSpec : ChangeSpec := { name := "callsActs", fn := fun _ => fun
  | [d1, d2] => { results := [.lit (.bool true)], args := [d1, d2] }
  | _ => none }
def callsActsRow : OpenClaim := { program := "ytbilkjolopdeiaa", sum := "c2309a2f02dc859383ac4e60ddeba1c464627ff57bb852572e33121079605148", func := "paternoster/paternosterlaw06.CallsActs", spec := "callsActs", unfollowed := true, recurses := true, apart := false }
def CallsActsSaid : Prop := callsActsRow.holds Try.pinned (OpenSpec.ofChange callsActsSpec)

/-- ITS FALSE NEIGHBOUR: 'it returns false'. Refute it at one input. -/
def callsActsWrong : ChangeSpec := { name := "callsActs", fn := fun _ => fun
  | [d1, d2] => { results := [.lit (.bool false)], args := [d1, d2] }
  | _ => none }
def CallsActsWrongFalsely : Prop := callsActsRow.holds Try.pinned (OpenSpec.ofChange callsActsWrong)

/- THE SECOND FORM. 'bulk': how many values and letters a reading holds, each counted each time it is reached (what is shared counts as often as it is met; a slice's spare places count too). A statement '..UptoSaid' is the law's where the arguments, and the package variables that the reading takes, are together of bulk at most 1048576: NARROWER than '..Said'. Prove '..Said' where nothing that the law and all that it calls make is longer than what came in: it says more and counts as full. Else prove '..UptoSaid'. A law counts once. -/
mutual
def uptoBulk {H : Type} : DataW H → Nat
  | .lit (.string bytes) => bytes.length + 1
  | .lit _ => 1
  | .nil => 1
  | .ptr d => uptoBulk d + 1
  | .slice elems spare => uptoBulkAll elems + uptoBulkAll spare + 1
  | .agg parts => uptoBulkAll parts + 1
  | .iface _ d => uptoBulk d + 1
  | .map entries => uptoBulkEntries entries + 1
  | .held _ => 1
def uptoBulkAll {H : Type} : List (DataW H) → Nat
  | [] => 0
  | d :: r => uptoBulk d + uptoBulkAll r
def uptoBulkEntries {H : Type} : List (Lit × DataW H) → Nat
  | [] => 0
  | x :: r => uptoBulkEntry x + uptoBulkEntries r
def uptoBulkEntry {H : Type} : Lit × DataW H → Nat
  | (.string bytes, d) => bytes.length + uptoBulk d + 1
  | (_, d) => uptoBulk d + 1
 end
def uptoSmall : (H : Type) → List (DataW H) → Bool := fun _ ds => decide (uptoBulkAll ds ≤ 1048576)
def OpenSpec.upto (s : _root_.Go.ChangeSpec) : _root_.Go.OpenSpec := { _root_.Go.OpenSpec.ofChange s with cond := some uptoSmall }

/-- 'paternosterlaw05.CarServes', WHERE WHAT IT READS IS OF BULK AT MOST 1048576: true; the input reads as it did. -/
def carServesUptoRow : OpenClaim := { program := "ytbilkjolopdeiaa", sum := "c2309a2f02dc859383ac4e60ddeba1c464627ff57bb852572e33121079605148", func := "paternoster/paternosterlaw05.CarServes", spec := "carServes", apart := false, narrowed := true }
def CarServesUptoSaid : Prop := carServesUptoRow.holds Try.pinned (OpenSpec.upto carServesSpec)

/-- 'paternosterlaw05.CarBusy', WHERE WHAT IT READS IS OF BULK AT MOST 1048576: true; the input reads as it did. -/
def carBusyUptoRow : OpenClaim := { program := "ytbilkjolopdeiaa", sum := "c2309a2f02dc859383ac4e60ddeba1c464627ff57bb852572e33121079605148", func := "paternoster/paternosterlaw05.CarBusy", spec := "carBusy", apart := false, narrowed := true }
def CarBusyUptoSaid : Prop := carBusyUptoRow.holds Try.pinned (OpenSpec.upto carBusySpec)

/-- 'paternosterlaw05.CarRides', WHERE WHAT IT READS IS OF BULK AT MOST 1048576: true; the input reads as it did. -/
def carRidesUptoRow : OpenClaim := { program := "ytbilkjolopdeiaa", sum := "c2309a2f02dc859383ac4e60ddeba1c464627ff57bb852572e33121079605148", func := "paternoster/paternosterlaw05.CarRides", spec := "carRides", apart := false, narrowed := true }
def CarRidesUptoSaid : Prop := carRidesUptoRow.holds Try.pinned (OpenSpec.upto carRidesSpec)

/-- 'paternosterlaw05.CarSteps', WHERE WHAT IT READS IS OF BULK AT MOST 1048576: true; the input reads as it did. -/
def carStepsUptoRow : OpenClaim := { program := "ytbilkjolopdeiaa", sum := "c2309a2f02dc859383ac4e60ddeba1c464627ff57bb852572e33121079605148", func := "paternoster/paternosterlaw05.CarSteps", spec := "carSteps", unfollowed := true, recurses := true, apart := false, narrowed := true }
def CarStepsUptoSaid : Prop := carStepsUptoRow.holds Try.pinned (OpenSpec.upto carStepsSpec)

/-- 'paternosterlaw05.CarSafe', WHERE WHAT IT READS IS OF BULK AT MOST 1048576: true; the input reads as it did. -/
def carSafeUptoRow : OpenClaim := { program := "ytbilkjolopdeiaa", sum := "c2309a2f02dc859383ac4e60ddeba1c464627ff57bb852572e33121079605148", func := "paternoster/paternosterlaw05.CarSafe", spec := "carSafe", unfollowed := true, recurses := true, apart := false, narrowed := true }
def CarSafeUptoSaid : Prop := carSafeUptoRow.holds Try.pinned (OpenSpec.upto carSafeSpec)

/-- 'paternosterlaw06.CallsTwice', WHERE WHAT IT READS IS OF BULK AT MOST 1048576: true; the input reads as it did. -/
def callsTwiceUptoRow : OpenClaim := { program := "ytbilkjolopdeiaa", sum := "c2309a2f02dc859383ac4e60ddeba1c464627ff57bb852572e33121079605148", func := "paternoster/paternosterlaw06.CallsTwice", spec := "callsTwice", unfollowed := true, recurses := true, apart := false, narrowed := true }
def CallsTwiceUptoSaid : Prop := callsTwiceUptoRow.holds Try.pinned (OpenSpec.upto callsTwiceSpec)

/-- 'paternosterlaw06.CallsKeep', WHERE WHAT IT READS IS OF BULK AT MOST 1048576: true; the input reads as it did. -/
def callsKeepUptoRow : OpenClaim := { program := "ytbilkjolopdeiaa", sum := "c2309a2f02dc859383ac4e60ddeba1c464627ff57bb852572e33121079605148", func := "paternoster/paternosterlaw06.CallsKeep", spec := "callsKeep", unfollowed := true, recurses := true, apart := false, narrowed := true }
def CallsKeepUptoSaid : Prop := callsKeepUptoRow.holds Try.pinned (OpenSpec.upto callsKeepSpec)

/-- 'paternosterlaw06.CallsActs', WHERE WHAT IT READS IS OF BULK AT MOST 1048576: true; the input reads as it did. -/
def callsActsUptoRow : OpenClaim := { program := "ytbilkjolopdeiaa", sum := "c2309a2f02dc859383ac4e60ddeba1c464627ff57bb852572e33121079605148", func := "paternoster/paternosterlaw06.CallsActs", spec := "callsActs", unfollowed := true, recurses := true, apart := false, narrowed := true }
def CallsActsUptoSaid : Prop := callsActsUptoRow.holds Try.pinned (OpenSpec.upto callsActsSpec)

end Rows
end Go.Proofs.Ytbilkjolopdeiaa
