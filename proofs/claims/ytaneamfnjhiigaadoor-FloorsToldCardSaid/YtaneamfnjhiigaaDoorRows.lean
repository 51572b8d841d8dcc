/-
  NARROWER THAN 'FOR EVERY INPUT', by the rows' own cells (each row's printed sentence says how): FloorsGo: laid · FloorsTold: laid · FloorsBoth: laid.
  DERIVED. THE GIVEN ROWS OF THIS SEAT. 3 by the template 'for every input the law returns true; each argument reads behind the call as it read before'; 0 by the template 'total and deterministic' (their statements: YtaneamfnjhiigaaDoorTotals.lean).
  GIVEN WITH THE SEED: the statements are not yours to turn. If you find one false, say at which input.
  Laid BY PROGRAM, IN A SANDBOX (cutbox-rows.mjs): the forced cells as the released guide's own fill.sh prints them over the translation d38d8be5890f34eb… (all of the seat's roots in one cut). By AI agents, Wed Nov 11 2026. No macro, syntax, notation, axiom, sorry.
-/
import Derived.Test.YtaneamfnjhiigaaDoorChecked
import GoSem.Claim
import GoSem.ClaimJoined
import GoSem.ClaimMapViews
import Derived.JoinedTies
import Derived.KernelRfl
namespace Go.Proofs.YtaneamfnjhiigaaDoor
/- THE CELL 'sum', in the pinned program and in every row, IS THE sha256 OF THE DUMP (.gsa) THAT YtaneamfnjhiigaaDoorProg.lean LOADS. Nothing in Lean hashes anything: it is a label: what it is worth is what the hold of that sum in a sandbox is worth. -/
noncomputable def Tryd.pinned : Pinned := { name := "ytaneamfnjhiigaadoor", sum := "d38d8be5890f34eb84eaf9847671e7ff25b8a2bae9b2d3770868239457d67c99", checked := Tryd.checked }
namespace Rows
def none {H : Type} : Left H := { results := [], args := [] }

/- WHAT THE LISTED PACKAGE-LEVEL VARIABLES READ AS WHEN THE CALL BEGINS. Each datum BY PROGRAM (the guide's laid-datum.mjs) off the statement by which the dump's own 'gosem.cut.vars' lays the variable. In a bare row this is a premise. The card (YtaneamfnjhiigaaDoorCards.lean) ties it to the program's text. -/
def laid_math_bits_deBruijn64tab {H : Type} : DataW H := .agg [.lit (.int .u8 0), .lit (.int .u8 1), .lit (.int .u8 56), .lit (.int .u8 2), .lit (.int .u8 57), .lit (.int .u8 49), .lit (.int .u8 28), .lit (.int .u8 3), .lit (.int .u8 61), .lit (.int .u8 58), .lit (.int .u8 42), .lit (.int .u8 50), .lit (.int .u8 38), .lit (.int .u8 29), .lit (.int .u8 17), .lit (.int .u8 4), .lit (.int .u8 62), .lit (.int .u8 47), .lit (.int .u8 59), .lit (.int .u8 36), .lit (.int .u8 45), .lit (.int .u8 43), .lit (.int .u8 51), .lit (.int .u8 22), .lit (.int .u8 53), .lit (.int .u8 39), .lit (.int .u8 33), .lit (.int .u8 30), .lit (.int .u8 24), .lit (.int .u8 18), .lit (.int .u8 12), .lit (.int .u8 5), .lit (.int .u8 63), .lit (.int .u8 55), .lit (.int .u8 48), .lit (.int .u8 27), .lit (.int .u8 60), .lit (.int .u8 41), .lit (.int .u8 37), .lit (.int .u8 16), .lit (.int .u8 46), .lit (.int .u8 35), .lit (.int .u8 44), .lit (.int .u8 21), .lit (.int .u8 52), .lit (.int .u8 32), .lit (.int .u8 23), .lit (.int .u8 11), .lit (.int .u8 54), .lit (.int .u8 26), .lit (.int .u8 40), .lit (.int .u8 15), .lit (.int .u8 34), .lit (.int .u8 20), .lit (.int .u8 31), .lit (.int .u8 10), .lit (.int .u8 25), .lit (.int .u8 14), .lit (.int .u8 19), .lit (.int .u8 9), .lit (.int .u8 13), .lit (.int .u8 8), .lit (.int .u8 7), .lit (.int .u8 6)]

/-- 'paternosterlaw02.FloorsGo': WHATEVER THE INPUT: true; the input reads as it did. -/
def floorsGoSpec : ChangeSpec := { name := "floorsGo", fn := fun _ => fun
  | [d1, d2, d3] => { results := [.lit (.bool true)], args := [d1, d2, d3] }
  | _ => none }
def floorsGoRow : OpenClaim := { program := "ytaneamfnjhiigaadoor", sum := "d38d8be5890f34eb84eaf9847671e7ff25b8a2bae9b2d3770868239457d67c99", func := "paternoster/paternosterlaw02.FloorsGo", spec := "floorsGo", unfollowed := true, recurses := true, named := ["math/bits.deBruijn64tab"], apart := false, laid := [("math/bits.deBruijn64tab", laid_math_bits_deBruijn64tab)] }
def FloorsGoSaid : Prop := floorsGoRow.holds Tryd.pinned (OpenSpec.ofChange floorsGoSpec)

/-- ITS FALSE NEIGHBOUR: 'it returns false'. Refute it at one input. -/
def floorsGoWrong : ChangeSpec := { name := "floorsGo", fn := fun _ => fun
  | [d1, d2, d3] => { results := [.lit (.bool false)], args := [d1, d2, d3] }
  | _ => none }
def FloorsGoWrongFalsely : Prop := floorsGoRow.holds Tryd.pinned (OpenSpec.ofChange floorsGoWrong)

/-- 'paternosterlaw02.FloorsTold': WHATEVER THE INPUT: true; the input reads as it did. -/
def floorsToldSpec : ChangeSpec := { name := "floorsTold", fn := fun _ => fun
  | [d1, d2, d3] => { results := [.lit (.bool true)], args := [d1, d2, d3] }
  | _ => none }
def floorsToldRow : OpenClaim := { program := "ytaneamfnjhiigaadoor", sum := "d38d8be5890f34eb84eaf9847671e7ff25b8a2bae9b2d3770868239457d67c99", func := "paternoster/paternosterlaw02.FloorsTold", spec := "floorsTold", unfollowed := true, recurses := true, named := ["math/bits.deBruijn64tab"], apart := false, laid := [("math/bits.deBruijn64tab", laid_math_bits_deBruijn64tab)] }
def FloorsToldSaid : Prop := floorsToldRow.holds Tryd.pinned (OpenSpec.ofChange floorsToldSpec)

/-- ITS FALSE NEIGHBOUR: 'it returns false'. Refute it at one input. -/
def floorsToldWrong : ChangeSpec := { name := "floorsTold", fn := fun _ => fun
  | [d1, d2, d3] => { results := [.lit (.bool false)], args := [d1, d2, d3] }
  | _ => none }
def FloorsToldWrongFalsely : Prop := floorsToldRow.holds Tryd.pinned (OpenSpec.ofChange floorsToldWrong)

/-- 'paternosterlaw02.FloorsBoth': WHATEVER THE INPUT: true; the input reads as it did. -/
def floorsBothSpec : ChangeSpec := { name := "floorsBoth", fn := fun _ => fun
  | [d1, d2] => { results := [.lit (.bool true)], args := [d1, d2] }
  | _ => none }
def floorsBothRow : OpenClaim := { program := "ytaneamfnjhiigaadoor", sum := "d38d8be5890f34eb84eaf9847671e7ff25b8a2bae9b2d3770868239457d67c99", func := "paternoster/paternosterlaw02.FloorsBoth", spec := "floorsBoth", unfollowed := true, recurses := true, named := ["math/bits.deBruijn64tab"], apart := false, laid := [("math/bits.deBruijn64tab", laid_math_bits_deBruijn64tab)] }
def FloorsBothSaid : Prop := floorsBothRow.holds Tryd.pinned (OpenSpec.ofChange floorsBothSpec)

/-- ITS FALSE NEIGHBOUR: 'it returns false'. Refute it at one input. -/
def floorsBothWrong : ChangeSpec := { name := "floorsBoth", fn := fun _ => fun
  | [d1, d2] => { results := [.lit (.bool false)], args := [d1, d2] }
  | _ => none }
def FloorsBothWrongFalsely : Prop := floorsBothRow.holds Tryd.pinned (OpenSpec.ofChange floorsBothWrong)

/- THE SECOND FORM. 'bulk': how many values and letters a reading holds, each counted each time it is reached (what is shared counts as often as it is met; a slice's spare places count too). A statement '..UptoSaid' is the law's where the arguments, and the package variables that the reading takes, are together of bulk at most 1048576: NARROWER than '..Said'. Prove '..Said' where nothing that the law and all that it calls make is longer than what came in: it says more and counts as full. Else prove '..UptoSaid'. A law counts once. -/
mutual
def uptoBulk {H : Type} : DataW H → Nat
  | .lit (.string bytes) => bytes.length + 1
  | .lit _ => 1
  | .nil => 1
  | .ptr d => uptoBulk d + 1
  | .slice elems spare => uptoBulkAll elems + uptoBulkAll spare + 1
  | .agg parts => uptoBulkAll parts + 1
  | .iface _ d => uptoBulk d + 1
  | .map entries => uptoBulkEntries entries + 1
  | .held _ => 1
def uptoBulkAll {H : Type} : List (DataW H) → Nat
  | [] => 0
  | d :: r => uptoBulk d + uptoBulkAll r
def uptoBulkEntries {H : Type} : List (Lit × DataW H) → Nat
  | [] => 0
  | x :: r => uptoBulkEntry x + uptoBulkEntries r
def uptoBulkEntry {H : Type} : Lit × DataW H → Nat
  | (.string bytes, d) => bytes.length + uptoBulk d + 1
  | (_, d) => uptoBulk d + 1
 end
def uptoSmall : (H : Type) → List (DataW H) → Bool := fun _ ds => decide (uptoBulkAll ds ≤ 1048576)
def OpenSpec.upto (s : _root_.Go.ChangeSpec) : _root_.Go.OpenSpec := { _root_.Go.OpenSpec.ofChange s with cond := some uptoSmall }

/-- 'paternosterlaw02.FloorsGo', WHERE WHAT IT READS IS OF BULK AT MOST 1048576: true; the input reads as it did. -/
def floorsGoUptoRow : OpenClaim := { program := "ytaneamfnjhiigaadoor", sum := "d38d8be5890f34eb84eaf9847671e7ff25b8a2bae9b2d3770868239457d67c99", func := "paternoster/paternosterlaw02.FloorsGo", spec := "floorsGo", unfollowed := true, recurses := true, named := ["math/bits.deBruijn64tab"], apart := false, laid := [("math/bits.deBruijn64tab", laid_math_bits_deBruijn64tab)], narrowed := true }
def FloorsGoUptoSaid : Prop := floorsGoUptoRow.holds Tryd.pinned (OpenSpec.upto floorsGoSpec)

/-- 'paternosterlaw02.FloorsTold', WHERE WHAT IT READS IS OF BULK AT MOST 1048576: true; the input reads as it did. -/
def floorsToldUptoRow : OpenClaim := { program := "ytaneamfnjhiigaadoor", sum := "d38d8be5890f34eb84eaf9847671e7ff25b8a2bae9b2d3770868239457d67c99", func := "paternoster/paternosterlaw02.FloorsTold", spec := "floorsTold", unfollowed := true, recurses := true, named := ["math/bits.deBruijn64tab"], apart := false, laid := [("math/bits.deBruijn64tab", laid_math_bits_deBruijn64tab)], narrowed := true }
def FloorsToldUptoSaid : Prop := floorsToldUptoRow.holds Tryd.pinned (OpenSpec.upto floorsToldSpec)

/-- 'paternosterlaw02.FloorsBoth', WHERE WHAT IT READS IS OF BULK AT MOST 1048576: true; the input reads as it did. -/
def floorsBothUptoRow : OpenClaim := { program := "ytaneamfnjhiigaadoor", sum := "d38d8be5890f34eb84eaf9847671e7ff25b8a2bae9b2d3770868239457d67c99", func := "paternoster/paternosterlaw02.FloorsBoth", spec := "floorsBoth", unfollowed := true, recurses := true, named := ["math/bits.deBruijn64tab"], apart := false, laid := [("math/bits.deBruijn64tab", laid_math_bits_deBruijn64tab)], narrowed := true }
def FloorsBothUptoSaid : Prop := floorsBothUptoRow.holds Tryd.pinned (OpenSpec.upto floorsBothSpec)

end Rows
end Go.Proofs.YtaneamfnjhiigaaDoor
