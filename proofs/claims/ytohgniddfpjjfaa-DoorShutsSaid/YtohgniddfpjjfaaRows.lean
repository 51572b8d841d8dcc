/-
  No cell of these rows narrows 'for every input' (looked for: loops, veiled, ifaces, maps, wideKeys, modest, calm, conditions, laid).
  DERIVED. THE GIVEN ROWS OF THIS SEAT. 10 by the template 'for every input the law returns true; each argument reads behind the call as it read before'; 0 by the template 'total and deterministic' (their statements: YtohgniddfpjjfaaTotals.lean).
  GIVEN WITH THE SEED: the statements are not yours to turn. If you find one false, say at which input.
  Laid BY PROGRAM, IN A SANDBOX (cutbox-rows.mjs): the forced cells as the released guide's own fill.sh prints them over the translation a5f3388df530be65… (all of the seat's roots in one cut). By AI agents, Wed Nov 11 2026. No macro, syntax, notation, axiom, sorry.
-/
import Derived.Test.YtohgniddfpjjfaaChecked
import GoSem.Claim
import GoSem.ClaimJoined
import GoSem.ClaimMapViews
import Derived.JoinedTies
import Derived.KernelRfl
namespace Go.Proofs.Ytohgniddfpjjfaa
/- THE CELL 'sum', in the pinned program and in every row, IS THE sha256 OF THE DUMP (.gsa) THAT YtohgniddfpjjfaaProg.lean LOADS. Nothing in Lean hashes anything: it is a label: what it is worth is what the hold of that sum in a sandbox is worth. -/
noncomputable def Try.pinned : Pinned := { name := "ytohgniddfpjjfaa", sum := "a5f3388df530be65b858026ed909edfb50fd910c22f178012455892831a7dbb7", checked := Try.checked }
namespace Rows
def none {H : Type} : Left H := { results := [], args := [] }

/-- 'paternosterlaw01.NumOrder': WHATEVER THE INPUT: true; the input reads as it did. -/
def numOrderSpec : ChangeSpec := { name := "numOrder", fn := fun _ => fun
  | [d1, d2, d3] => { results := [.lit (.bool true)], args := [d1, d2, d3] }
  | _ => none }
def numOrderRow : OpenClaim := { program := "ytohgniddfpjjfaa", sum := "a5f3388df530be65b858026ed909edfb50fd910c22f178012455892831a7dbb7", func := "paternoster/paternosterlaw01.NumOrder", spec := "numOrder", apart := false }
def NumOrderSaid : Prop := numOrderRow.holds Try.pinned (OpenSpec.ofChange numOrderSpec)

/-- ITS FALSE NEIGHBOUR: 'it returns false'. Refute it at one input. -/
def numOrderWrong : ChangeSpec := { name := "numOrder", fn := fun _ => fun
  | [d1, d2, d3] => { results := [.lit (.bool false)], args := [d1, d2, d3] }
  | _ => none }
def NumOrderWrongFalsely : Prop := numOrderRow.holds Try.pinned (OpenSpec.ofChange numOrderWrong)

/-- 'paternosterlaw01.NumTold': WHATEVER THE INPUT: true; the input reads as it did. -/
def numToldSpec : ChangeSpec := { name := "numTold", fn := fun _ => fun
  | [d1, d2, d3] => { results := [.lit (.bool true)], args := [d1, d2, d3] }
  | _ => none }
def numToldRow : OpenClaim := { program := "ytohgniddfpjjfaa", sum := "a5f3388df530be65b858026ed909edfb50fd910c22f178012455892831a7dbb7", func := "paternoster/paternosterlaw01.NumTold", spec := "numTold", apart := false }
def NumToldSaid : Prop := numToldRow.holds Try.pinned (OpenSpec.ofChange numToldSpec)

/-- ITS FALSE NEIGHBOUR: 'it returns false'. Refute it at one input. -/
def numToldWrong : ChangeSpec := { name := "numTold", fn := fun _ => fun
  | [d1, d2, d3] => { results := [.lit (.bool false)], args := [d1, d2, d3] }
  | _ => none }
def NumToldWrongFalsely : Prop := numToldRow.holds Try.pinned (OpenSpec.ofChange numToldWrong)

/-- 'paternosterlaw01.NumWithin': WHATEVER THE INPUT: true; the input reads as it did. -/
def numWithinSpec : ChangeSpec := { name := "numWithin", fn := fun _ => fun
  | [d1, d2, d3] => { results := [.lit (.bool true)], args := [d1, d2, d3] }
  | _ => none }
def numWithinRow : OpenClaim := { program := "ytohgniddfpjjfaa", sum := "a5f3388df530be65b858026ed909edfb50fd910c22f178012455892831a7dbb7", func := "paternoster/paternosterlaw01.NumWithin", spec := "numWithin", unfollowed := true, recurses := true, apart := false }
def NumWithinSaid : Prop := numWithinRow.holds Try.pinned (OpenSpec.ofChange numWithinSpec)

/-- ITS FALSE NEIGHBOUR: 'it returns false'. Refute it at one input. -/
def numWithinWrong : ChangeSpec := { name := "numWithin", fn := fun _ => fun
  | [d1, d2, d3] => { results := [.lit (.bool false)], args := [d1, d2, d3] }
  | _ => none }
def NumWithinWrongFalsely : Prop := numWithinRow.holds Try.pinned (OpenSpec.ofChange numWithinWrong)

/-- 'paternosterlaw04.DoorShuts': WHATEVER THE INPUT: true; the input reads as it did. -/
def doorShutsSpec : ChangeSpec := { name := "doorShuts", fn := fun _ => fun
  | [d1, d2, d3] => { results := [.lit (.bool true)], args := [d1, d2, d3] }
  | _ => none }
def doorShutsRow : OpenClaim := { program := "ytohgniddfpjjfaa", sum := "a5f3388df530be65b858026ed909edfb50fd910c22f178012455892831a7dbb7", func := "paternoster/paternosterlaw04.DoorShuts", spec := "doorShuts", apart := false }
def DoorShutsSaid : Prop := doorShutsRow.holds Try.pinned (OpenSpec.ofChange doorShutsSpec)

/-- ITS FALSE NEIGHBOUR: 'it returns false'. Refute it at one input. -/
def doorShutsWrong : ChangeSpec := { name := "doorShuts", fn := fun _ => fun
  | [d1, d2, d3] => { results := [.lit (.bool false)], args := [d1, d2, d3] }
  | _ => none }
def DoorShutsWrongFalsely : Prop := doorShutsRow.holds Try.pinned (OpenSpec.ofChange doorShutsWrong)

/-- 'paternosterlaw04.DoorFree': WHATEVER THE INPUT: true; the input reads as it did. -/
def doorFreeSpec : ChangeSpec := { name := "doorFree", fn := fun _ => fun
  | [d1, d2] => { results := [.lit (.bool true)], args := [d1, d2] }
  | _ => none }
def doorFreeRow : OpenClaim := { program := "ytohgniddfpjjfaa", sum := "a5f3388df530be65b858026ed909edfb50fd910c22f178012455892831a7dbb7", func := "paternoster/paternosterlaw04.DoorFree", spec := "doorFree", apart := false }
def DoorFreeSaid : Prop := doorFreeRow.holds Try.pinned (OpenSpec.ofChange doorFreeSpec)

/-- ITS FALSE NEIGHBOUR: 'it returns false'. Refute it at one input. -/
def doorFreeWrong : ChangeSpec := { name := "doorFree", fn := fun _ => fun
  | [d1, d2] => { results := [.lit (.bool false)], args := [d1, d2] }
  | _ => none }
def DoorFreeWrongFalsely : Prop := doorFreeRow.holds Try.pinned (OpenSpec.ofChange doorFreeWrong)

/-- 'paternosterlaw04.DoorHeld': WHATEVER THE INPUT: true; the input reads as it did. -/
def doorHeldSpec : ChangeSpec := { name := "doorHeld", fn := fun _ => fun
  | [d1, d2] => { results := [.lit (.bool true)], args := [d1, d2] }
  | _ => none }
def doorHeldRow : OpenClaim := { program := "ytohgniddfpjjfaa", sum := "a5f3388df530be65b858026ed909edfb50fd910c22f178012455892831a7dbb7", func := "paternoster/paternosterlaw04.DoorHeld", spec := "doorHeld", apart := false }
def DoorHeldSaid : Prop := doorHeldRow.holds Try.pinned (OpenSpec.ofChange doorHeldSpec)

/-- ITS FALSE NEIGHBOUR: 'it returns false'. Refute it at one input. -/
def doorHeldWrong : ChangeSpec := { name := "doorHeld", fn := fun _ => fun
  | [d1, d2] => { results := [.lit (.bool false)], args := [d1, d2] }
  | _ => none }
def DoorHeldWrongFalsely : Prop := doorHeldRow.holds Try.pinned (OpenSpec.ofChange doorHeldWrong)

/-- 'paternosterlaw04.DoorSteps': WHATEVER THE INPUT: true; the input reads as it did. -/
def doorStepsSpec : ChangeSpec := { name := "doorSteps", fn := fun _ => fun
  | [d1, d2, d3] => { results := [.lit (.bool true)], args := [d1, d2, d3] }
  | _ => none }
def doorStepsRow : OpenClaim := { program := "ytohgniddfpjjfaa", sum := "a5f3388df530be65b858026ed909edfb50fd910c22f178012455892831a7dbb7", func := "paternoster/paternosterlaw04.DoorSteps", spec := "doorSteps", unfollowed := true, recurses := true, apart := false }
def DoorStepsSaid : Prop := doorStepsRow.holds Try.pinned (OpenSpec.ofChange doorStepsSpec)

/-- ITS FALSE NEIGHBOUR: 'it returns false'. Refute it at one input. -/
def doorStepsWrong : ChangeSpec := { name := "doorSteps", fn := fun _ => fun
  | [d1, d2, d3] => { results := [.lit (.bool false)], args := [d1, d2, d3] }
  | _ => none }
def DoorStepsWrongFalsely : Prop := doorStepsRow.holds Try.pinned (OpenSpec.ofChange doorStepsWrong)

/-- 'paternosterlaw08.LinkOnce': WHATEVER THE INPUT: true; the input reads as it did. -/
def linkOnceSpec : ChangeSpec := { name := "linkOnce", fn := fun _ => fun
  | [d1, d2, d3] => { results := [.lit (.bool true)], args := [d1, d2, d3] }
  | _ => none }
def linkOnceRow : OpenClaim := { program := "ytohgniddfpjjfaa", sum := "a5f3388df530be65b858026ed909edfb50fd910c22f178012455892831a7dbb7", func := "paternoster/paternosterlaw08.LinkOnce", spec := "linkOnce", apart := false }
def LinkOnceSaid : Prop := linkOnceRow.holds Try.pinned (OpenSpec.ofChange linkOnceSpec)

/-- ITS FALSE NEIGHBOUR: 'it returns false'. Refute it at one input. -/
def linkOnceWrong : ChangeSpec := { name := "linkOnce", fn := fun _ => fun
  | [d1, d2, d3] => { results := [.lit (.bool false)], args := [d1, d2, d3] }
  | _ => none }
def LinkOnceWrongFalsely : Prop := linkOnceRow.holds Try.pinned (OpenSpec.ofChange linkOnceWrong)

/-- 'paternosterlaw08.LinkActs': WHATEVER THE INPUT: true; the input reads as it did. -/
def linkActsSpec : ChangeSpec := { name := "linkActs", fn := fun _ => fun
  | [d1, d2] => { results := [.lit (.bool true)], args := [d1, d2] }
  | _ => none }
def linkActsRow : OpenClaim := { program := "ytohgniddfpjjfaa", sum := "a5f3388df530be65b858026ed909edfb50fd910c22f178012455892831a7dbb7", func := "paternoster/paternosterlaw08.LinkActs", spec := "linkActs", apart := false }
def LinkActsSaid : Prop := linkActsRow.holds Try.pinned (OpenSpec.ofChange linkActsSpec)

/-- ITS FALSE NEIGHBOUR: 'it returns false'. Refute it at one input. -/
def linkActsWrong : ChangeSpec := { name := "linkActs", fn := fun _ => fun
  | [d1, d2] => { results := [.lit (.bool false)], args := [d1, d2] }
  | _ => none }
def LinkActsWrongFalsely : Prop := linkActsRow.holds Try.pinned (OpenSpec.ofChange linkActsWrong)

/-- 'paternosterlaw08.LinkLive': WHATEVER THE INPUT: true; the input reads as it did. -/
def linkLiveSpec : ChangeSpec := { name := "linkLive", fn := fun _ => fun
  | [d1, d2, d3] => { results := [.lit (.bool true)], args := [d1, d2, d3] }
  | _ => none }
def linkLiveRow : OpenClaim := { program := "ytohgniddfpjjfaa", sum := "a5f3388df530be65b858026ed909edfb50fd910c22f178012455892831a7dbb7", func := "paternoster/paternosterlaw08.LinkLive", spec := "linkLive", apart := false }
def LinkLiveSaid : Prop := linkLiveRow.holds Try.pinned (OpenSpec.ofChange linkLiveSpec)

/-- ITS FALSE NEIGHBOUR: 'it returns false'. Refute it at one input. -/
def linkLiveWrong : ChangeSpec := { name := "linkLive", fn := fun _ => fun
  | [d1, d2, d3] => { results := [.lit (.bool false)], args := [d1, d2, d3] }
  | _ => none }
def LinkLiveWrongFalsely : Prop := linkLiveRow.holds Try.pinned (OpenSpec.ofChange linkLiveWrong)

/- THE SECOND FORM. 'bulk': how many values and letters a reading holds, each counted each time it is reached (what is shared counts as often as it is met; a slice's spare places count too). A statement '..UptoSaid' is the law's where the arguments, and the package variables that the reading takes, are together of bulk at most 1048576: NARROWER than '..Said'. Prove '..Said' where nothing that the law and all that it calls make is longer than what came in: it says more and counts as full. Else prove '..UptoSaid'. A law counts once. -/
mutual
def uptoBulk {H : Type} : DataW H → Nat
  | .lit (.string bytes) => bytes.length + 1
  | .lit _ => 1
  | .nil => 1
  | .ptr d => uptoBulk d + 1
  | .slice elems spare => uptoBulkAll elems + uptoBulkAll spare + 1
  | .agg parts => uptoBulkAll parts + 1
  | .iface _ d => uptoBulk d + 1
  | .map entries => uptoBulkEntries entries + 1
  | .held _ => 1
def uptoBulkAll {H : Type} : List (DataW H) → Nat
  | [] => 0
  | d :: r => uptoBulk d + uptoBulkAll r
def uptoBulkEntries {H : Type} : List (Lit × DataW H) → Nat
  | [] => 0
  | x :: r => uptoBulkEntry x + uptoBulkEntries r
def uptoBulkEntry {H : Type} : Lit × DataW H → Nat
  | (.string bytes, d) => bytes.length + uptoBulk d + 1
  | (_, d) => uptoBulk d + 1
 end
def uptoSmall : (H : Type) → List (DataW H) → Bool := fun _ ds => decide (uptoBulkAll ds ≤ 1048576)
def OpenSpec.upto (s : _root_.Go.ChangeSpec) : _root_.Go.OpenSpec := { _root_.Go.OpenSpec.ofChange s with cond := some uptoSmall }

/-- 'paternosterlaw01.NumOrder', WHERE WHAT IT READS IS OF BULK AT MOST 1048576: true; the input reads as it did. -/
def numOrderUptoRow : OpenClaim := { program := "ytohgniddfpjjfaa", sum := "a5f3388df530be65b858026ed909edfb50fd910c22f178012455892831a7dbb7", func := "paternoster/paternosterlaw01.NumOrder", spec := "numOrder", apart := false, narrowed := true }
def NumOrderUptoSaid : Prop := numOrderUptoRow.holds Try.pinned (OpenSpec.upto numOrderSpec)

/-- 'paternosterlaw01.NumTold', WHERE WHAT IT READS IS OF BULK AT MOST 1048576: true; the input reads as it did. -/
def numToldUptoRow : OpenClaim := { program := "ytohgniddfpjjfaa", sum := "a5f3388df530be65b858026ed909edfb50fd910c22f178012455892831a7dbb7", func := "paternoster/paternosterlaw01.NumTold", spec := "numTold", apart := false, narrowed := true }
def NumToldUptoSaid : Prop := numToldUptoRow.holds Try.pinned (OpenSpec.upto numToldSpec)

/-- 'paternosterlaw01.NumWithin', WHERE WHAT IT READS IS OF BULK AT MOST 1048576: true; the input reads as it did. -/
def numWithinUptoRow : OpenClaim := { program := "ytohgniddfpjjfaa", sum := "a5f3388df530be65b858026ed909edfb50fd910c22f178012455892831a7dbb7", func := "paternoster/paternosterlaw01.NumWithin", spec := "numWithin", unfollowed := true, recurses := true, apart := false, narrowed := true }
def NumWithinUptoSaid : Prop := numWithinUptoRow.holds Try.pinned (OpenSpec.upto numWithinSpec)

/-- 'paternosterlaw04.DoorShuts', WHERE WHAT IT READS IS OF BULK AT MOST 1048576: true; the input reads as it did. -/
def doorShutsUptoRow : OpenClaim := { program := "ytohgniddfpjjfaa", sum := "a5f3388df530be65b858026ed909edfb50fd910c22f178012455892831a7dbb7", func := "paternoster/paternosterlaw04.DoorShuts", spec := "doorShuts", apart := false, narrowed := true }
def DoorShutsUptoSaid : Prop := doorShutsUptoRow.holds Try.pinned (OpenSpec.upto doorShutsSpec)

/-- 'paternosterlaw04.DoorFree', WHERE WHAT IT READS IS OF BULK AT MOST 1048576: true; the input reads as it did. -/
def doorFreeUptoRow : OpenClaim := { program := "ytohgniddfpjjfaa", sum := "a5f3388df530be65b858026ed909edfb50fd910c22f178012455892831a7dbb7", func := "paternoster/paternosterlaw04.DoorFree", spec := "doorFree", apart := false, narrowed := true }
def DoorFreeUptoSaid : Prop := doorFreeUptoRow.holds Try.pinned (OpenSpec.upto doorFreeSpec)

/-- 'paternosterlaw04.DoorHeld', WHERE WHAT IT READS IS OF BULK AT MOST 1048576: true; the input reads as it did. -/
def doorHeldUptoRow : OpenClaim := { program := "ytohgniddfpjjfaa", sum := "a5f3388df530be65b858026ed909edfb50fd910c22f178012455892831a7dbb7", func := "paternoster/paternosterlaw04.DoorHeld", spec := "doorHeld", apart := false, narrowed := true }
def DoorHeldUptoSaid : Prop := doorHeldUptoRow.holds Try.pinned (OpenSpec.upto doorHeldSpec)

/-- 'paternosterlaw04.DoorSteps', WHERE WHAT IT READS IS OF BULK AT MOST 1048576: true; the input reads as it did. -/
def doorStepsUptoRow : OpenClaim := { program := "ytohgniddfpjjfaa", sum := "a5f3388df530be65b858026ed909edfb50fd910c22f178012455892831a7dbb7", func := "paternoster/paternosterlaw04.DoorSteps", spec := "doorSteps", unfollowed := true, recurses := true, apart := false, narrowed := true }
def DoorStepsUptoSaid : Prop := doorStepsUptoRow.holds Try.pinned (OpenSpec.upto doorStepsSpec)

/-- 'paternosterlaw08.LinkOnce', WHERE WHAT IT READS IS OF BULK AT MOST 1048576: true; the input reads as it did. -/
def linkOnceUptoRow : OpenClaim := { program := "ytohgniddfpjjfaa", sum := "a5f3388df530be65b858026ed909edfb50fd910c22f178012455892831a7dbb7", func := "paternoster/paternosterlaw08.LinkOnce", spec := "linkOnce", apart := false, narrowed := true }
def LinkOnceUptoSaid : Prop := linkOnceUptoRow.holds Try.pinned (OpenSpec.upto linkOnceSpec)

/-- 'paternosterlaw08.LinkActs', WHERE WHAT IT READS IS OF BULK AT MOST 1048576: true; the input reads as it did. -/
def linkActsUptoRow : OpenClaim := { program := "ytohgniddfpjjfaa", sum := "a5f3388df530be65b858026ed909edfb50fd910c22f178012455892831a7dbb7", func := "paternoster/paternosterlaw08.LinkActs", spec := "linkActs", apart := false, narrowed := true }
def LinkActsUptoSaid : Prop := linkActsUptoRow.holds Try.pinned (OpenSpec.upto linkActsSpec)

/-- 'paternosterlaw08.LinkLive', WHERE WHAT IT READS IS OF BULK AT MOST 1048576: true; the input reads as it did. -/
def linkLiveUptoRow : OpenClaim := { program := "ytohgniddfpjjfaa", sum := "a5f3388df530be65b858026ed909edfb50fd910c22f178012455892831a7dbb7", func := "paternoster/paternosterlaw08.LinkLive", spec := "linkLive", apart := false, narrowed := true }
def LinkLiveUptoSaid : Prop := linkLiveUptoRow.holds Try.pinned (OpenSpec.upto linkLiveSpec)

end Rows
end Go.Proofs.Ytohgniddfpjjfaa
