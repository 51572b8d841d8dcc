/-
  No cell of these rows narrows 'for every input' (looked for: loops, veiled, ifaces, maps, wideKeys, modest, calm, conditions, laid).
  DERIVED. THE GIVEN ROWS OF THIS SEAT. 9 by the template 'for every input the law returns true; each argument reads behind the call as it read before'; 0 by the template 'total and deterministic' (their statements: YtglpeibbkkikgaaTotals.lean).
  GIVEN WITH THE SEED: the statements are not yours to turn. If you find one false, say at which input.
  Laid BY PROGRAM, IN A SANDBOX (cutbox-rows.mjs): the forced cells as the released guide's own fill.sh prints them over the translation edd8e4c00dd14855… (all of the seat's roots in one cut). By AI agents, Wed Nov 11 2026. No macro, syntax, notation, axiom, sorry.
-/
import Derived.Test.YtglpeibbkkikgaaChecked
import GoSem.Claim
import GoSem.ClaimJoined
import GoSem.ClaimMapViews
import Derived.JoinedTies
import Derived.KernelRfl
namespace Go.Proofs.Ytglpeibbkkikgaa
/- THE CELL 'sum', in the pinned program and in every row, IS THE sha256 OF THE DUMP (.gsa) THAT YtglpeibbkkikgaaProg.lean LOADS. Nothing in Lean hashes anything: it is a label: what it is worth is what the hold of that sum in a sandbox is worth. -/
noncomputable def Try.pinned : Pinned := { name := "ytglpeibbkkikgaa", sum := "edd8e4c00dd14855f95ecdd92b6a1426ae1fbc4710f7c2547b630f15ee1255d0", checked := Try.checked }
namespace Rows
def none {H : Type} : Left H := { results := [], args := [] }

/-- 'paternosterlaw09.PlanTold': WHATEVER THE INPUT: true; the input reads as it did. -/
def planToldSpec : ChangeSpec := { name := "planTold", fn := fun _ => fun
  | [d1, d2] => { results := [.lit (.bool true)], args := [d1, d2] }
  | _ => none }
def planToldRow : OpenClaim := { program := "ytglpeibbkkikgaa", sum := "edd8e4c00dd14855f95ecdd92b6a1426ae1fbc4710f7c2547b630f15ee1255d0", func := "paternoster/paternosterlaw09.PlanTold", spec := "planTold", unfollowed := true, recurses := true, apart := false }
def PlanToldSaid : Prop := planToldRow.holds Try.pinned (OpenSpec.ofChange planToldSpec)

/-- ITS FALSE NEIGHBOUR: 'it returns false'. Refute it at one input. -/
def planToldWrong : ChangeSpec := { name := "planTold", fn := fun _ => fun
  | [d1, d2] => { results := [.lit (.bool false)], args := [d1, d2] }
  | _ => none }
def PlanToldWrongFalsely : Prop := planToldRow.holds Try.pinned (OpenSpec.ofChange planToldWrong)

/-- 'paternosterlaw09.PlanOnce': WHATEVER THE INPUT: true; the input reads as it did. -/
def planOnceSpec : ChangeSpec := { name := "planOnce", fn := fun _ => fun
  | [d1, d2, d3, d4] => { results := [.lit (.bool true)], args := [d1, d2, d3, d4] }
  | _ => none }
def planOnceRow : OpenClaim := { program := "ytglpeibbkkikgaa", sum := "edd8e4c00dd14855f95ecdd92b6a1426ae1fbc4710f7c2547b630f15ee1255d0", func := "paternoster/paternosterlaw09.PlanOnce", spec := "planOnce", unfollowed := true, recurses := true, apart := false }
def PlanOnceSaid : Prop := planOnceRow.holds Try.pinned (OpenSpec.ofChange planOnceSpec)

/-- ITS FALSE NEIGHBOUR: 'it returns false'. Refute it at one input. -/
def planOnceWrong : ChangeSpec := { name := "planOnce", fn := fun _ => fun
  | [d1, d2, d3, d4] => { results := [.lit (.bool false)], args := [d1, d2, d3, d4] }
  | _ => none }
def PlanOnceWrongFalsely : Prop := planOnceRow.holds Try.pinned (OpenSpec.ofChange planOnceWrong)

/-- 'paternosterlaw10.RouteCosts': WHATEVER THE INPUT: true; the input reads as it did. -/
def routeCostsSpec : ChangeSpec := { name := "routeCosts", fn := fun _ => fun
  | [d1, d2] => { results := [.lit (.bool true)], args := [d1, d2] }
  | _ => none }
def routeCostsRow : OpenClaim := { program := "ytglpeibbkkikgaa", sum := "edd8e4c00dd14855f95ecdd92b6a1426ae1fbc4710f7c2547b630f15ee1255d0", func := "paternoster/paternosterlaw10.RouteCosts", spec := "routeCosts", unfollowed := true, recurses := true, apart := false }
def RouteCostsSaid : Prop := routeCostsRow.holds Try.pinned (OpenSpec.ofChange routeCostsSpec)

/-- ITS FALSE NEIGHBOUR: 'it returns false'. Refute it at one input. -/
def routeCostsWrong : ChangeSpec := { name := "routeCosts", fn := fun _ => fun
  | [d1, d2] => { results := [.lit (.bool false)], args := [d1, d2] }
  | _ => none }
def RouteCostsWrongFalsely : Prop := routeCostsRow.holds Try.pinned (OpenSpec.ofChange routeCostsWrong)

/-- 'paternosterlaw10.RouteNext': WHATEVER THE INPUT: true; the input reads as it did. -/
def routeNextSpec : ChangeSpec := { name := "routeNext", fn := fun _ => fun
  | [d1, d2, d3] => { results := [.lit (.bool true)], args := [d1, d2, d3] }
  | _ => none }
def routeNextRow : OpenClaim := { program := "ytglpeibbkkikgaa", sum := "edd8e4c00dd14855f95ecdd92b6a1426ae1fbc4710f7c2547b630f15ee1255d0", func := "paternoster/paternosterlaw10.RouteNext", spec := "routeNext", unfollowed := true, recurses := true, apart := false }
def RouteNextSaid : Prop := routeNextRow.holds Try.pinned (OpenSpec.ofChange routeNextSpec)

/-- ITS FALSE NEIGHBOUR: 'it returns false'. Refute it at one input. -/
def routeNextWrong : ChangeSpec := { name := "routeNext", fn := fun _ => fun
  | [d1, d2, d3] => { results := [.lit (.bool false)], args := [d1, d2, d3] }
  | _ => none }
def RouteNextWrongFalsely : Prop := routeNextRow.holds Try.pinned (OpenSpec.ofChange routeNextWrong)

/-- 'paternosterlaw10.RouteLater': WHATEVER THE INPUT: true; the input reads as it did. -/
def routeLaterSpec : ChangeSpec := { name := "routeLater", fn := fun _ => fun
  | [d1, d2, d3, d4] => { results := [.lit (.bool true)], args := [d1, d2, d3, d4] }
  | _ => none }
def routeLaterRow : OpenClaim := { program := "ytglpeibbkkikgaa", sum := "edd8e4c00dd14855f95ecdd92b6a1426ae1fbc4710f7c2547b630f15ee1255d0", func := "paternoster/paternosterlaw10.RouteLater", spec := "routeLater", unfollowed := true, recurses := true, apart := false }
def RouteLaterSaid : Prop := routeLaterRow.holds Try.pinned (OpenSpec.ofChange routeLaterSpec)

/-- ITS FALSE NEIGHBOUR: 'it returns false'. Refute it at one input. -/
def routeLaterWrong : ChangeSpec := { name := "routeLater", fn := fun _ => fun
  | [d1, d2, d3, d4] => { results := [.lit (.bool false)], args := [d1, d2, d3, d4] }
  | _ => none }
def RouteLaterWrongFalsely : Prop := routeLaterRow.holds Try.pinned (OpenSpec.ofChange routeLaterWrong)

/-- 'paternosterlaw10.RouteMore': WHATEVER THE INPUT: true; the input reads as it did. -/
def routeMoreSpec : ChangeSpec := { name := "routeMore", fn := fun _ => fun
  | [d1, d2, d3, d4, d5] => { results := [.lit (.bool true)], args := [d1, d2, d3, d4, d5] }
  | _ => none }
def routeMoreRow : OpenClaim := { program := "ytglpeibbkkikgaa", sum := "edd8e4c00dd14855f95ecdd92b6a1426ae1fbc4710f7c2547b630f15ee1255d0", func := "paternoster/paternosterlaw10.RouteMore", spec := "routeMore", unfollowed := true, recurses := true, apart := false }
def RouteMoreSaid : Prop := routeMoreRow.holds Try.pinned (OpenSpec.ofChange routeMoreSpec)

/-- ITS FALSE NEIGHBOUR: 'it returns false'. Refute it at one input. -/
def routeMoreWrong : ChangeSpec := { name := "routeMore", fn := fun _ => fun
  | [d1, d2, d3, d4, d5] => { results := [.lit (.bool false)], args := [d1, d2, d3, d4, d5] }
  | _ => none }
def RouteMoreWrongFalsely : Prop := routeMoreRow.holds Try.pinned (OpenSpec.ofChange routeMoreWrong)

/-- 'paternosterlaw11.BoundTold': WHATEVER THE INPUT: true; the input reads as it did. -/
def boundToldSpec : ChangeSpec := { name := "boundTold", fn := fun _ => fun
  | [d1, d2, d3, d4] => { results := [.lit (.bool true)], args := [d1, d2, d3, d4] }
  | _ => none }
def boundToldRow : OpenClaim := { program := "ytglpeibbkkikgaa", sum := "edd8e4c00dd14855f95ecdd92b6a1426ae1fbc4710f7c2547b630f15ee1255d0", func := "paternoster/paternosterlaw11.BoundTold", spec := "boundTold", unfollowed := true, recurses := true, apart := false }
def BoundToldSaid : Prop := boundToldRow.holds Try.pinned (OpenSpec.ofChange boundToldSpec)

/-- ITS FALSE NEIGHBOUR: 'it returns false'. Refute it at one input. -/
def boundToldWrong : ChangeSpec := { name := "boundTold", fn := fun _ => fun
  | [d1, d2, d3, d4] => { results := [.lit (.bool false)], args := [d1, d2, d3, d4] }
  | _ => none }
def BoundToldWrongFalsely : Prop := boundToldRow.holds Try.pinned (OpenSpec.ofChange boundToldWrong)

/-- 'paternosterlaw11.BoundLeast': WHATEVER THE INPUT: true; the input reads as it did. -/
def boundLeastSpec : ChangeSpec := { name := "boundLeast", fn := fun _ => fun
  | [d1, d2, d3, d4] => { results := [.lit (.bool true)], args := [d1, d2, d3, d4] }
  | _ => none }
def boundLeastRow : OpenClaim := { program := "ytglpeibbkkikgaa", sum := "edd8e4c00dd14855f95ecdd92b6a1426ae1fbc4710f7c2547b630f15ee1255d0", func := "paternoster/paternosterlaw11.BoundLeast", spec := "boundLeast", unfollowed := true, recurses := true, apart := false }
def BoundLeastSaid : Prop := boundLeastRow.holds Try.pinned (OpenSpec.ofChange boundLeastSpec)

/-- ITS FALSE NEIGHBOUR: 'it returns false'. Refute it at one input. -/
def boundLeastWrong : ChangeSpec := { name := "boundLeast", fn := fun _ => fun
  | [d1, d2, d3, d4] => { results := [.lit (.bool false)], args := [d1, d2, d3, d4] }
  | _ => none }
def BoundLeastWrongFalsely : Prop := boundLeastRow.holds Try.pinned (OpenSpec.ofChange boundLeastWrong)

/-- 'paternosterlaw11.BoundRises': WHATEVER THE INPUT: true; the input reads as it did. -/
def boundRisesSpec : ChangeSpec := { name := "boundRises", fn := fun _ => fun
  | [d1, d2, d3, d4] => { results := [.lit (.bool true)], args := [d1, d2, d3, d4] }
  | _ => none }
def boundRisesRow : OpenClaim := { program := "ytglpeibbkkikgaa", sum := "edd8e4c00dd14855f95ecdd92b6a1426ae1fbc4710f7c2547b630f15ee1255d0", func := "paternoster/paternosterlaw11.BoundRises", spec := "boundRises", unfollowed := true, recurses := true, apart := false }
def BoundRisesSaid : Prop := boundRisesRow.holds Try.pinned (OpenSpec.ofChange boundRisesSpec)

/-- ITS FALSE NEIGHBOUR: 'it returns false'. Refute it at one input. -/
def boundRisesWrong : ChangeSpec := { name := "boundRises", fn := fun _ => fun
  | [d1, d2, d3, d4] => { results := [.lit (.bool false)], args := [d1, d2, d3, d4] }
  | _ => none }
def BoundRisesWrongFalsely : Prop := boundRisesRow.holds Try.pinned (OpenSpec.ofChange boundRisesWrong)

/- THE SECOND FORM. 'bulk': how many values and letters a reading holds, each counted each time it is reached (what is shared counts as often as it is met; a slice's spare places count too). A statement '..UptoSaid' is the law's where the arguments, and the package variables that the reading takes, are together of bulk at most 1048576: NARROWER than '..Said'. Prove '..Said' where nothing that the law and all that it calls make is longer than what came in: it says more and counts as full. Else prove '..UptoSaid'. A law counts once. -/
mutual
def uptoBulk {H : Type} : DataW H → Nat
  | .lit (.string bytes) => bytes.length + 1
  | .lit _ => 1
  | .nil => 1
  | .ptr d => uptoBulk d + 1
  | .slice elems spare => uptoBulkAll elems + uptoBulkAll spare + 1
  | .agg parts => uptoBulkAll parts + 1
  | .iface _ d => uptoBulk d + 1
  | .map entries => uptoBulkEntries entries + 1
  | .held _ => 1
def uptoBulkAll {H : Type} : List (DataW H) → Nat
  | [] => 0
  | d :: r => uptoBulk d + uptoBulkAll r
def uptoBulkEntries {H : Type} : List (Lit × DataW H) → Nat
  | [] => 0
  | x :: r => uptoBulkEntry x + uptoBulkEntries r
def uptoBulkEntry {H : Type} : Lit × DataW H → Nat
  | (.string bytes, d) => bytes.length + uptoBulk d + 1
  | (_, d) => uptoBulk d + 1
 end
def uptoSmall : (H : Type) → List (DataW H) → Bool := fun _ ds => decide (uptoBulkAll ds ≤ 1048576)
def OpenSpec.upto (s : _root_.Go.ChangeSpec) : _root_.Go.OpenSpec := { _root_.Go.OpenSpec.ofChange s with cond := some uptoSmall }

/-- 'paternosterlaw09.PlanTold', WHERE WHAT IT READS IS OF BULK AT MOST 1048576: true; the input reads as it did. -/
def planToldUptoRow : OpenClaim := { program := "ytglpeibbkkikgaa", sum := "edd8e4c00dd14855f95ecdd92b6a1426ae1fbc4710f7c2547b630f15ee1255d0", func := "paternoster/paternosterlaw09.PlanTold", spec := "planTold", unfollowed := true, recurses := true, apart := false, narrowed := true }
def PlanToldUptoSaid : Prop := planToldUptoRow.holds Try.pinned (OpenSpec.upto planToldSpec)

/-- 'paternosterlaw09.PlanOnce', WHERE WHAT IT READS IS OF BULK AT MOST 1048576: true; the input reads as it did. -/
def planOnceUptoRow : OpenClaim := { program := "ytglpeibbkkikgaa", sum := "edd8e4c00dd14855f95ecdd92b6a1426ae1fbc4710f7c2547b630f15ee1255d0", func := "paternoster/paternosterlaw09.PlanOnce", spec := "planOnce", unfollowed := true, recurses := true, apart := false, narrowed := true }
def PlanOnceUptoSaid : Prop := planOnceUptoRow.holds Try.pinned (OpenSpec.upto planOnceSpec)

/-- 'paternosterlaw10.RouteCosts', WHERE WHAT IT READS IS OF BULK AT MOST 1048576: true; the input reads as it did. -/
def routeCostsUptoRow : OpenClaim := { program := "ytglpeibbkkikgaa", sum := "edd8e4c00dd14855f95ecdd92b6a1426ae1fbc4710f7c2547b630f15ee1255d0", func := "paternoster/paternosterlaw10.RouteCosts", spec := "routeCosts", unfollowed := true, recurses := true, apart := false, narrowed := true }
def RouteCostsUptoSaid : Prop := routeCostsUptoRow.holds Try.pinned (OpenSpec.upto routeCostsSpec)

/-- 'paternosterlaw10.RouteNext', WHERE WHAT IT READS IS OF BULK AT MOST 1048576: true; the input reads as it did. -/
def routeNextUptoRow : OpenClaim := { program := "ytglpeibbkkikgaa", sum := "edd8e4c00dd14855f95ecdd92b6a1426ae1fbc4710f7c2547b630f15ee1255d0", func := "paternoster/paternosterlaw10.RouteNext", spec := "routeNext", unfollowed := true, recurses := true, apart := false, narrowed := true }
def RouteNextUptoSaid : Prop := routeNextUptoRow.holds Try.pinned (OpenSpec.upto routeNextSpec)

/-- 'paternosterlaw10.RouteLater', WHERE WHAT IT READS IS OF BULK AT MOST 1048576: true; the input reads as it did. -/
def routeLaterUptoRow : OpenClaim := { program := "ytglpeibbkkikgaa", sum := "edd8e4c00dd14855f95ecdd92b6a1426ae1fbc4710f7c2547b630f15ee1255d0", func := "paternoster/paternosterlaw10.RouteLater", spec := "routeLater", unfollowed := true, recurses := true, apart := false, narrowed := true }
def RouteLaterUptoSaid : Prop := routeLaterUptoRow.holds Try.pinned (OpenSpec.upto routeLaterSpec)

/-- 'paternosterlaw10.RouteMore', WHERE WHAT IT READS IS OF BULK AT MOST 1048576: true; the input reads as it did. -/
def routeMoreUptoRow : OpenClaim := { program := "ytglpeibbkkikgaa", sum := "edd8e4c00dd14855f95ecdd92b6a1426ae1fbc4710f7c2547b630f15ee1255d0", func := "paternoster/paternosterlaw10.RouteMore", spec := "routeMore", unfollowed := true, recurses := true, apart := false, narrowed := true }
def RouteMoreUptoSaid : Prop := routeMoreUptoRow.holds Try.pinned (OpenSpec.upto routeMoreSpec)

/-- 'paternosterlaw11.BoundTold', WHERE WHAT IT READS IS OF BULK AT MOST 1048576: true; the input reads as it did. -/
def boundToldUptoRow : OpenClaim := { program := "ytglpeibbkkikgaa", sum := "edd8e4c00dd14855f95ecdd92b6a1426ae1fbc4710f7c2547b630f15ee1255d0", func := "paternoster/paternosterlaw11.BoundTold", spec := "boundTold", unfollowed := true, recurses := true, apart := false, narrowed := true }
def BoundToldUptoSaid : Prop := boundToldUptoRow.holds Try.pinned (OpenSpec.upto boundToldSpec)

/-- 'paternosterlaw11.BoundLeast', WHERE WHAT IT READS IS OF BULK AT MOST 1048576: true; the input reads as it did. -/
def boundLeastUptoRow : OpenClaim := { program := "ytglpeibbkkikgaa", sum := "edd8e4c00dd14855f95ecdd92b6a1426ae1fbc4710f7c2547b630f15ee1255d0", func := "paternoster/paternosterlaw11.BoundLeast", spec := "boundLeast", unfollowed := true, recurses := true, apart := false, narrowed := true }
def BoundLeastUptoSaid : Prop := boundLeastUptoRow.holds Try.pinned (OpenSpec.upto boundLeastSpec)

/-- 'paternosterlaw11.BoundRises', WHERE WHAT IT READS IS OF BULK AT MOST 1048576: true; the input reads as it did. -/
def boundRisesUptoRow : OpenClaim := { program := "ytglpeibbkkikgaa", sum := "edd8e4c00dd14855f95ecdd92b6a1426ae1fbc4710f7c2547b630f15ee1255d0", func := "paternoster/paternosterlaw11.BoundRises", spec := "boundRises", unfollowed := true, recurses := true, apart := false, narrowed := true }
def BoundRisesUptoSaid : Prop := boundRisesUptoRow.holds Try.pinned (OpenSpec.upto boundRisesSpec)

end Rows
end Go.Proofs.Ytglpeibbkkikgaa
