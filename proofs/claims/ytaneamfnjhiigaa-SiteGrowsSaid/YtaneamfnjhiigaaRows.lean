/-
  No cell of these rows narrows 'for every input' (looked for: loops, veiled, ifaces, maps, wideKeys, modest, calm, conditions, laid).
  DERIVED. THE GIVEN ROWS OF THIS SEAT. 8 by the template 'for every input the law returns true; each argument reads behind the call as it read before'; 0 by the template 'total and deterministic' (their statements: YtaneamfnjhiigaaTotals.lean).
  GIVEN WITH THE SEED: the statements are not yours to turn. If you find one false, say at which input.
  Laid BY PROGRAM, IN A SANDBOX (cutbox-rows.mjs): the forced cells as the released guide's own fill.sh prints them over the translation cd6b2e55f8c0f7d2… (all of the seat's roots in one cut). By AI agents, Wed Nov 11 2026. No macro, syntax, notation, axiom, sorry.
-/
import Derived.Test.YtaneamfnjhiigaaChecked
import GoSem.Claim
import GoSem.ClaimJoined
import GoSem.ClaimMapViews
import Derived.JoinedTies
import Derived.KernelRfl
namespace Go.Proofs.Ytaneamfnjhiigaa
/- THE CELL 'sum', in the pinned program and in every row, IS THE sha256 OF THE DUMP (.gsa) THAT YtaneamfnjhiigaaProg.lean LOADS. Nothing in Lean hashes anything: it is a label: what it is worth is what the hold of that sum in a sandbox is worth. -/
noncomputable def Try.pinned : Pinned := { name := "ytaneamfnjhiigaa", sum := "cd6b2e55f8c0f7d238b2187e4cfca9d663be587d41538622aeec2a41c5bec2b9", checked := Try.checked }
namespace Rows
def none {H : Type} : Left H := { results := [], args := [] }

/-- 'paternosterlaw03.SiteWays': WHATEVER THE INPUT: true; the input reads as it did. -/
def siteWaysSpec : ChangeSpec := { name := "siteWays", fn := fun _ => fun
  | [d1, d2, d3, d4, d5] => { results := [.lit (.bool true)], args := [d1, d2, d3, d4, d5] }
  | _ => none }
def siteWaysRow : OpenClaim := { program := "ytaneamfnjhiigaa", sum := "cd6b2e55f8c0f7d238b2187e4cfca9d663be587d41538622aeec2a41c5bec2b9", func := "paternoster/paternosterlaw03.SiteWays", spec := "siteWays", unfollowed := true, recurses := true, apart := false }
def SiteWaysSaid : Prop := siteWaysRow.holds Try.pinned (OpenSpec.ofChange siteWaysSpec)

/-- ITS FALSE NEIGHBOUR: 'it returns false'. Refute it at one input. -/
def siteWaysWrong : ChangeSpec := { name := "siteWays", fn := fun _ => fun
  | [d1, d2, d3, d4, d5] => { results := [.lit (.bool false)], args := [d1, d2, d3, d4, d5] }
  | _ => none }
def SiteWaysWrongFalsely : Prop := siteWaysRow.holds Try.pinned (OpenSpec.ofChange siteWaysWrong)

/-- 'paternosterlaw03.SiteTold': WHATEVER THE INPUT: true; the input reads as it did. -/
def siteToldSpec : ChangeSpec := { name := "siteTold", fn := fun _ => fun
  | [d1, d2, d3, d4] => { results := [.lit (.bool true)], args := [d1, d2, d3, d4] }
  | _ => none }
def siteToldRow : OpenClaim := { program := "ytaneamfnjhiigaa", sum := "cd6b2e55f8c0f7d238b2187e4cfca9d663be587d41538622aeec2a41c5bec2b9", func := "paternoster/paternosterlaw03.SiteTold", spec := "siteTold", unfollowed := true, recurses := true, apart := false }
def SiteToldSaid : Prop := siteToldRow.holds Try.pinned (OpenSpec.ofChange siteToldSpec)

/-- ITS FALSE NEIGHBOUR: 'it returns false'. Refute it at one input. -/
def siteToldWrong : ChangeSpec := { name := "siteTold", fn := fun _ => fun
  | [d1, d2, d3, d4] => { results := [.lit (.bool false)], args := [d1, d2, d3, d4] }
  | _ => none }
def SiteToldWrongFalsely : Prop := siteToldRow.holds Try.pinned (OpenSpec.ofChange siteToldWrong)

/-- 'paternosterlaw03.SiteGrows': WHATEVER THE INPUT: true; the input reads as it did. -/
def siteGrowsSpec : ChangeSpec := { name := "siteGrows", fn := fun _ => fun
  | [d1, d2, d3] => { results := [.lit (.bool true)], args := [d1, d2, d3] }
  | _ => none }
def siteGrowsRow : OpenClaim := { program := "ytaneamfnjhiigaa", sum := "cd6b2e55f8c0f7d238b2187e4cfca9d663be587d41538622aeec2a41c5bec2b9", func := "paternoster/paternosterlaw03.SiteGrows", spec := "siteGrows", unfollowed := true, recurses := true, apart := false }
def SiteGrowsSaid : Prop := siteGrowsRow.holds Try.pinned (OpenSpec.ofChange siteGrowsSpec)

/-- ITS FALSE NEIGHBOUR: 'it returns false'. Refute it at one input. -/
def siteGrowsWrong : ChangeSpec := { name := "siteGrows", fn := fun _ => fun
  | [d1, d2, d3] => { results := [.lit (.bool false)], args := [d1, d2, d3] }
  | _ => none }
def SiteGrowsWrongFalsely : Prop := siteGrowsRow.holds Try.pinned (OpenSpec.ofChange siteGrowsWrong)

/-- 'paternosterlaw07.FrameSums': WHATEVER THE INPUT: true; the input reads as it did. -/
def frameSumsSpec : ChangeSpec := { name := "frameSums", fn := fun _ => fun
  | [d1, d2, d3] => { results := [.lit (.bool true)], args := [d1, d2, d3] }
  | _ => none }
def frameSumsRow : OpenClaim := { program := "ytaneamfnjhiigaa", sum := "cd6b2e55f8c0f7d238b2187e4cfca9d663be587d41538622aeec2a41c5bec2b9", func := "paternoster/paternosterlaw07.FrameSums", spec := "frameSums", unfollowed := true, recurses := true, apart := false }
def FrameSumsSaid : Prop := frameSumsRow.holds Try.pinned (OpenSpec.ofChange frameSumsSpec)

/-- ITS FALSE NEIGHBOUR: 'it returns false'. Refute it at one input. -/
def frameSumsWrong : ChangeSpec := { name := "frameSums", fn := fun _ => fun
  | [d1, d2, d3] => { results := [.lit (.bool false)], args := [d1, d2, d3] }
  | _ => none }
def FrameSumsWrongFalsely : Prop := frameSumsRow.holds Try.pinned (OpenSpec.ofChange frameSumsWrong)

/-- 'paternosterlaw07.FrameCodes': WHATEVER THE INPUT: true; the input reads as it did. -/
def frameCodesSpec : ChangeSpec := { name := "frameCodes", fn := fun _ => fun
  | [d1, d2] => { results := [.lit (.bool true)], args := [d1, d2] }
  | _ => none }
def frameCodesRow : OpenClaim := { program := "ytaneamfnjhiigaa", sum := "cd6b2e55f8c0f7d238b2187e4cfca9d663be587d41538622aeec2a41c5bec2b9", func := "paternoster/paternosterlaw07.FrameCodes", spec := "frameCodes", unfollowed := true, recurses := true, apart := false }
def FrameCodesSaid : Prop := frameCodesRow.holds Try.pinned (OpenSpec.ofChange frameCodesSpec)

/-- ITS FALSE NEIGHBOUR: 'it returns false'. Refute it at one input. -/
def frameCodesWrong : ChangeSpec := { name := "frameCodes", fn := fun _ => fun
  | [d1, d2] => { results := [.lit (.bool false)], args := [d1, d2] }
  | _ => none }
def FrameCodesWrongFalsely : Prop := frameCodesRow.holds Try.pinned (OpenSpec.ofChange frameCodesWrong)

/-- 'paternosterlaw07.FrameTurned': WHATEVER THE INPUT: true; the input reads as it did. -/
def frameTurnedSpec : ChangeSpec := { name := "frameTurned", fn := fun _ => fun
  | [d1, d2, d3] => { results := [.lit (.bool true)], args := [d1, d2, d3] }
  | _ => none }
def frameTurnedRow : OpenClaim := { program := "ytaneamfnjhiigaa", sum := "cd6b2e55f8c0f7d238b2187e4cfca9d663be587d41538622aeec2a41c5bec2b9", func := "paternoster/paternosterlaw07.FrameTurned", spec := "frameTurned", unfollowed := true, recurses := true, apart := false }
def FrameTurnedSaid : Prop := frameTurnedRow.holds Try.pinned (OpenSpec.ofChange frameTurnedSpec)

/-- ITS FALSE NEIGHBOUR: 'it returns false'. Refute it at one input. -/
def frameTurnedWrong : ChangeSpec := { name := "frameTurned", fn := fun _ => fun
  | [d1, d2, d3] => { results := [.lit (.bool false)], args := [d1, d2, d3] }
  | _ => none }
def FrameTurnedWrongFalsely : Prop := frameTurnedRow.holds Try.pinned (OpenSpec.ofChange frameTurnedWrong)

/-- 'paternosterlaw07.FrameFeeds': WHATEVER THE INPUT: true; the input reads as it did. -/
def frameFeedsSpec : ChangeSpec := { name := "frameFeeds", fn := fun _ => fun
  | [d] => { results := [.lit (.bool true)], args := [d] }
  | _ => none }
def frameFeedsRow : OpenClaim := { program := "ytaneamfnjhiigaa", sum := "cd6b2e55f8c0f7d238b2187e4cfca9d663be587d41538622aeec2a41c5bec2b9", func := "paternoster/paternosterlaw07.FrameFeeds", spec := "frameFeeds", unfollowed := true, recurses := true, apart := false }
def FrameFeedsSaid : Prop := frameFeedsRow.holds Try.pinned (OpenSpec.ofChange frameFeedsSpec)

/-- ITS FALSE NEIGHBOUR: 'it returns false'. Refute it at one input. -/
def frameFeedsWrong : ChangeSpec := { name := "frameFeeds", fn := fun _ => fun
  | [d] => { results := [.lit (.bool false)], args := [d] }
  | _ => none }
def FrameFeedsWrongFalsely : Prop := frameFeedsRow.holds Try.pinned (OpenSpec.ofChange frameFeedsWrong)

/-- 'paternosterlaw07.FrameFound': WHATEVER THE INPUT: true; the input reads as it did. -/
def frameFoundSpec : ChangeSpec := { name := "frameFound", fn := fun _ => fun
  | [d1, d2, d3] => { results := [.lit (.bool true)], args := [d1, d2, d3] }
  | _ => none }
def frameFoundRow : OpenClaim := { program := "ytaneamfnjhiigaa", sum := "cd6b2e55f8c0f7d238b2187e4cfca9d663be587d41538622aeec2a41c5bec2b9", func := "paternoster/paternosterlaw07.FrameFound", spec := "frameFound", unfollowed := true, recurses := true, apart := false }
def FrameFoundSaid : Prop := frameFoundRow.holds Try.pinned (OpenSpec.ofChange frameFoundSpec)

/-- ITS FALSE NEIGHBOUR: 'it returns false'. Refute it at one input. -/
def frameFoundWrong : ChangeSpec := { name := "frameFound", fn := fun _ => fun
  | [d1, d2, d3] => { results := [.lit (.bool false)], args := [d1, d2, d3] }
  | _ => none }
def FrameFoundWrongFalsely : Prop := frameFoundRow.holds Try.pinned (OpenSpec.ofChange frameFoundWrong)

/- THE SECOND FORM. 'bulk': how many values and letters a reading holds, each counted each time it is reached (what is shared counts as often as it is met; a slice's spare places count too). A statement '..UptoSaid' is the law's where the arguments, and the package variables that the reading takes, are together of bulk at most 1048576: NARROWER than '..Said'. Prove '..Said' where nothing that the law and all that it calls make is longer than what came in: it says more and counts as full. Else prove '..UptoSaid'. A law counts once. -/
mutual
def uptoBulk {H : Type} : DataW H → Nat
  | .lit (.string bytes) => bytes.length + 1
  | .lit _ => 1
  | .nil => 1
  | .ptr d => uptoBulk d + 1
  | .slice elems spare => uptoBulkAll elems + uptoBulkAll spare + 1
  | .agg parts => uptoBulkAll parts + 1
  | .iface _ d => uptoBulk d + 1
  | .map entries => uptoBulkEntries entries + 1
  | .held _ => 1
def uptoBulkAll {H : Type} : List (DataW H) → Nat
  | [] => 0
  | d :: r => uptoBulk d + uptoBulkAll r
def uptoBulkEntries {H : Type} : List (Lit × DataW H) → Nat
  | [] => 0
  | x :: r => uptoBulkEntry x + uptoBulkEntries r
def uptoBulkEntry {H : Type} : Lit × DataW H → Nat
  | (.string bytes, d) => bytes.length + uptoBulk d + 1
  | (_, d) => uptoBulk d + 1
 end
def uptoSmall : (H : Type) → List (DataW H) → Bool := fun _ ds => decide (uptoBulkAll ds ≤ 1048576)
def OpenSpec.upto (s : _root_.Go.ChangeSpec) : _root_.Go.OpenSpec := { _root_.Go.OpenSpec.ofChange s with cond := some uptoSmall }

/-- 'paternosterlaw03.SiteWays', WHERE WHAT IT READS IS OF BULK AT MOST 1048576: true; the input reads as it did. -/
def siteWaysUptoRow : OpenClaim := { program := "ytaneamfnjhiigaa", sum := "cd6b2e55f8c0f7d238b2187e4cfca9d663be587d41538622aeec2a41c5bec2b9", func := "paternoster/paternosterlaw03.SiteWays", spec := "siteWays", unfollowed := true, recurses := true, apart := false, narrowed := true }
def SiteWaysUptoSaid : Prop := siteWaysUptoRow.holds Try.pinned (OpenSpec.upto siteWaysSpec)

/-- 'paternosterlaw03.SiteTold', WHERE WHAT IT READS IS OF BULK AT MOST 1048576: true; the input reads as it did. -/
def siteToldUptoRow : OpenClaim := { program := "ytaneamfnjhiigaa", sum := "cd6b2e55f8c0f7d238b2187e4cfca9d663be587d41538622aeec2a41c5bec2b9", func := "paternoster/paternosterlaw03.SiteTold", spec := "siteTold", unfollowed := true, recurses := true, apart := false, narrowed := true }
def SiteToldUptoSaid : Prop := siteToldUptoRow.holds Try.pinned (OpenSpec.upto siteToldSpec)

/-- 'paternosterlaw03.SiteGrows', WHERE WHAT IT READS IS OF BULK AT MOST 1048576: true; the input reads as it did. -/
def siteGrowsUptoRow : OpenClaim := { program := "ytaneamfnjhiigaa", sum := "cd6b2e55f8c0f7d238b2187e4cfca9d663be587d41538622aeec2a41c5bec2b9", func := "paternoster/paternosterlaw03.SiteGrows", spec := "siteGrows", unfollowed := true, recurses := true, apart := false, narrowed := true }
def SiteGrowsUptoSaid : Prop := siteGrowsUptoRow.holds Try.pinned (OpenSpec.upto siteGrowsSpec)

/-- 'paternosterlaw07.FrameSums', WHERE WHAT IT READS IS OF BULK AT MOST 1048576: true; the input reads as it did. -/
def frameSumsUptoRow : OpenClaim := { program := "ytaneamfnjhiigaa", sum := "cd6b2e55f8c0f7d238b2187e4cfca9d663be587d41538622aeec2a41c5bec2b9", func := "paternoster/paternosterlaw07.FrameSums", spec := "frameSums", unfollowed := true, recurses := true, apart := false, narrowed := true }
def FrameSumsUptoSaid : Prop := frameSumsUptoRow.holds Try.pinned (OpenSpec.upto frameSumsSpec)

/-- 'paternosterlaw07.FrameCodes', WHERE WHAT IT READS IS OF BULK AT MOST 1048576: true; the input reads as it did. -/
def frameCodesUptoRow : OpenClaim := { program := "ytaneamfnjhiigaa", sum := "cd6b2e55f8c0f7d238b2187e4cfca9d663be587d41538622aeec2a41c5bec2b9", func := "paternoster/paternosterlaw07.FrameCodes", spec := "frameCodes", unfollowed := true, recurses := true, apart := false, narrowed := true }
def FrameCodesUptoSaid : Prop := frameCodesUptoRow.holds Try.pinned (OpenSpec.upto frameCodesSpec)

/-- 'paternosterlaw07.FrameTurned', WHERE WHAT IT READS IS OF BULK AT MOST 1048576: true; the input reads as it did. -/
def frameTurnedUptoRow : OpenClaim := { program := "ytaneamfnjhiigaa", sum := "cd6b2e55f8c0f7d238b2187e4cfca9d663be587d41538622aeec2a41c5bec2b9", func := "paternoster/paternosterlaw07.FrameTurned", spec := "frameTurned", unfollowed := true, recurses := true, apart := false, narrowed := true }
def FrameTurnedUptoSaid : Prop := frameTurnedUptoRow.holds Try.pinned (OpenSpec.upto frameTurnedSpec)

/-- 'paternosterlaw07.FrameFeeds', WHERE WHAT IT READS IS OF BULK AT MOST 1048576: true; the input reads as it did. -/
def frameFeedsUptoRow : OpenClaim := { program := "ytaneamfnjhiigaa", sum := "cd6b2e55f8c0f7d238b2187e4cfca9d663be587d41538622aeec2a41c5bec2b9", func := "paternoster/paternosterlaw07.FrameFeeds", spec := "frameFeeds", unfollowed := true, recurses := true, apart := false, narrowed := true }
def FrameFeedsUptoSaid : Prop := frameFeedsUptoRow.holds Try.pinned (OpenSpec.upto frameFeedsSpec)

/-- 'paternosterlaw07.FrameFound', WHERE WHAT IT READS IS OF BULK AT MOST 1048576: true; the input reads as it did. -/
def frameFoundUptoRow : OpenClaim := { program := "ytaneamfnjhiigaa", sum := "cd6b2e55f8c0f7d238b2187e4cfca9d663be587d41538622aeec2a41c5bec2b9", func := "paternoster/paternosterlaw07.FrameFound", spec := "frameFound", unfollowed := true, recurses := true, apart := false, narrowed := true }
def FrameFoundUptoSaid : Prop := frameFoundUptoRow.holds Try.pinned (OpenSpec.upto frameFoundSpec)

end Rows
end Go.Proofs.Ytaneamfnjhiigaa
