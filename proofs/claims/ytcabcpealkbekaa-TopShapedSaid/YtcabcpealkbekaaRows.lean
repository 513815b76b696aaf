/-
  No cell of these rows narrows 'for every input' (looked for: loops, veiled, ifaces, maps, wideKeys, modest, calm, conditions, laid).
  DERIVED. THE GIVEN ROWS OF THIS SEAT. 12 by the template 'for every input the law returns true; each argument reads behind the call as it read before'; 0 by the template 'total and deterministic' (their statements: YtcabcpealkbekaaTotals.lean).
  GIVEN WITH THE SEED: the statements are not yours to turn. If you find one false, say at which input.
  Laid BY PROGRAM, IN A SANDBOX (cutbox-rows.mjs): the forced cells as the released guide's own fill.sh prints them over the translation 36c679ac8dd3feef… (all of the seat's roots in one cut). By AI agents, Wed Nov 11 2026. No macro, syntax, notation, axiom, sorry.
-/
import Derived.Test.YtcabcpealkbekaaChecked
import GoSem.Claim
import GoSem.ClaimJoined
import GoSem.ClaimMapViews
import Derived.JoinedTies
import Derived.KernelRfl
namespace Go.Proofs.Ytcabcpealkbekaa
/- THE CELL 'sum', in the pinned program and in every row, IS THE sha256 OF THE DUMP (.gsa) THAT YtcabcpealkbekaaProg.lean LOADS. Nothing in Lean hashes anything: it is a label: what it is worth is what the hold of that sum in a sandbox is worth. -/
noncomputable def Try.pinned : Pinned := { name := "ytcabcpealkbekaa", sum := "36c679ac8dd3feefd12bff41e44723e0cb7311c25f6b7e0dd9a22cdc2fff13a0", checked := Try.checked }
namespace Rows
def none {H : Type} : Left H := { results := [], args := [] }

/-- 'packthreadkeep.SacksFirst': WHATEVER THE INPUT: true; the input reads as it did. -/
def sacksFirstSpec : ChangeSpec := { name := "sacksFirst", fn := fun _ => fun
  | [d1, d2, d3] => { results := [.lit (.bool true)], args := [d1, d2, d3] }
  | _ => none }
def sacksFirstRow : OpenClaim := { program := "ytcabcpealkbekaa", sum := "36c679ac8dd3feefd12bff41e44723e0cb7311c25f6b7e0dd9a22cdc2fff13a0", func := "packthread/packthreadkeep.SacksFirst", spec := "sacksFirst", unfollowed := true, recurses := true, apart := false }
def SacksFirstSaid : Prop := sacksFirstRow.holds Try.pinned (OpenSpec.ofChange sacksFirstSpec)

/-- ITS FALSE NEIGHBOUR: 'it returns false'. Refute it at one input. -/
def sacksFirstWrong : ChangeSpec := { name := "sacksFirst", fn := fun _ => fun
  | [d1, d2, d3] => { results := [.lit (.bool false)], args := [d1, d2, d3] }
  | _ => none }
def SacksFirstWrongFalsely : Prop := sacksFirstRow.holds Try.pinned (OpenSpec.ofChange sacksFirstWrong)

/-- 'packthreadkeep.FrameBack': WHATEVER THE INPUT: true; the input reads as it did. -/
def frameBackSpec : ChangeSpec := { name := "frameBack", fn := fun _ => fun
  | [d1, d2] => { results := [.lit (.bool true)], args := [d1, d2] }
  | _ => none }
def frameBackRow : OpenClaim := { program := "ytcabcpealkbekaa", sum := "36c679ac8dd3feefd12bff41e44723e0cb7311c25f6b7e0dd9a22cdc2fff13a0", func := "packthread/packthreadkeep.FrameBack", spec := "frameBack", apart := false }
def FrameBackSaid : Prop := frameBackRow.holds Try.pinned (OpenSpec.ofChange frameBackSpec)

/-- ITS FALSE NEIGHBOUR: 'it returns false'. Refute it at one input. -/
def frameBackWrong : ChangeSpec := { name := "frameBack", fn := fun _ => fun
  | [d1, d2] => { results := [.lit (.bool false)], args := [d1, d2] }
  | _ => none }
def FrameBackWrongFalsely : Prop := frameBackRow.holds Try.pinned (OpenSpec.ofChange frameBackWrong)

/-- 'packthreadkeep.FrameCuts': WHATEVER THE INPUT: true; the input reads as it did. -/
def frameCutsSpec : ChangeSpec := { name := "frameCuts", fn := fun _ => fun
  | [d1, d2] => { results := [.lit (.bool true)], args := [d1, d2] }
  | _ => none }
def frameCutsRow : OpenClaim := { program := "ytcabcpealkbekaa", sum := "36c679ac8dd3feefd12bff41e44723e0cb7311c25f6b7e0dd9a22cdc2fff13a0", func := "packthread/packthreadkeep.FrameCuts", spec := "frameCuts", apart := false }
def FrameCutsSaid : Prop := frameCutsRow.holds Try.pinned (OpenSpec.ofChange frameCutsSpec)

/-- ITS FALSE NEIGHBOUR: 'it returns false'. Refute it at one input. -/
def frameCutsWrong : ChangeSpec := { name := "frameCuts", fn := fun _ => fun
  | [d1, d2] => { results := [.lit (.bool false)], args := [d1, d2] }
  | _ => none }
def FrameCutsWrongFalsely : Prop := frameCutsRow.holds Try.pinned (OpenSpec.ofChange frameCutsWrong)

/-- 'packthreadkeep.FrameLong': WHATEVER THE INPUT: true; the input reads as it did. -/
def frameLongSpec : ChangeSpec := { name := "frameLong", fn := fun _ => fun
  | [d1, d2] => { results := [.lit (.bool true)], args := [d1, d2] }
  | _ => none }
def frameLongRow : OpenClaim := { program := "ytcabcpealkbekaa", sum := "36c679ac8dd3feefd12bff41e44723e0cb7311c25f6b7e0dd9a22cdc2fff13a0", func := "packthread/packthreadkeep.FrameLong", spec := "frameLong", apart := false }
def FrameLongSaid : Prop := frameLongRow.holds Try.pinned (OpenSpec.ofChange frameLongSpec)

/-- ITS FALSE NEIGHBOUR: 'it returns false'. Refute it at one input. -/
def frameLongWrong : ChangeSpec := { name := "frameLong", fn := fun _ => fun
  | [d1, d2] => { results := [.lit (.bool false)], args := [d1, d2] }
  | _ => none }
def FrameLongWrongFalsely : Prop := frameLongRow.holds Try.pinned (OpenSpec.ofChange frameLongWrong)

/-- 'packthreadkeep.FairOrder': WHATEVER THE INPUT: true; the input reads as it did. -/
def fairOrderSpec : ChangeSpec := { name := "fairOrder", fn := fun _ => fun
  | [d1, d2] => { results := [.lit (.bool true)], args := [d1, d2] }
  | _ => none }
def fairOrderRow : OpenClaim := { program := "ytcabcpealkbekaa", sum := "36c679ac8dd3feefd12bff41e44723e0cb7311c25f6b7e0dd9a22cdc2fff13a0", func := "packthread/packthreadkeep.FairOrder", spec := "fairOrder", unfollowed := true, recurses := true, apart := false }
def FairOrderSaid : Prop := fairOrderRow.holds Try.pinned (OpenSpec.ofChange fairOrderSpec)

/-- ITS FALSE NEIGHBOUR: 'it returns false'. Refute it at one input. -/
def fairOrderWrong : ChangeSpec := { name := "fairOrder", fn := fun _ => fun
  | [d1, d2] => { results := [.lit (.bool false)], args := [d1, d2] }
  | _ => none }
def FairOrderWrongFalsely : Prop := fairOrderRow.holds Try.pinned (OpenSpec.ofChange fairOrderWrong)

/-- 'packthreadkeep.FairShare': WHATEVER THE INPUT: true; the input reads as it did. -/
def fairShareSpec : ChangeSpec := { name := "fairShare", fn := fun _ => fun
  | [d1, d2, d3] => { results := [.lit (.bool true)], args := [d1, d2, d3] }
  | _ => none }
def fairShareRow : OpenClaim := { program := "ytcabcpealkbekaa", sum := "36c679ac8dd3feefd12bff41e44723e0cb7311c25f6b7e0dd9a22cdc2fff13a0", func := "packthread/packthreadkeep.FairShare", spec := "fairShare", unfollowed := true, recurses := true, apart := false }
def FairShareSaid : Prop := fairShareRow.holds Try.pinned (OpenSpec.ofChange fairShareSpec)

/-- ITS FALSE NEIGHBOUR: 'it returns false'. Refute it at one input. -/
def fairShareWrong : ChangeSpec := { name := "fairShare", fn := fun _ => fun
  | [d1, d2, d3] => { results := [.lit (.bool false)], args := [d1, d2, d3] }
  | _ => none }
def FairShareWrongFalsely : Prop := fairShareRow.holds Try.pinned (OpenSpec.ofChange fairShareWrong)

/-- 'packthreadkeep.FairAlone': WHATEVER THE INPUT: true; the input reads as it did. -/
def fairAloneSpec : ChangeSpec := { name := "fairAlone", fn := fun _ => fun
  | [d1, d2, d3] => { results := [.lit (.bool true)], args := [d1, d2, d3] }
  | _ => none }
def fairAloneRow : OpenClaim := { program := "ytcabcpealkbekaa", sum := "36c679ac8dd3feefd12bff41e44723e0cb7311c25f6b7e0dd9a22cdc2fff13a0", func := "packthread/packthreadkeep.FairAlone", spec := "fairAlone", unfollowed := true, recurses := true, apart := false }
def FairAloneSaid : Prop := fairAloneRow.holds Try.pinned (OpenSpec.ofChange fairAloneSpec)

/-- ITS FALSE NEIGHBOUR: 'it returns false'. Refute it at one input. -/
def fairAloneWrong : ChangeSpec := { name := "fairAlone", fn := fun _ => fun
  | [d1, d2, d3] => { results := [.lit (.bool false)], args := [d1, d2, d3] }
  | _ => none }
def FairAloneWrongFalsely : Prop := fairAloneRow.holds Try.pinned (OpenSpec.ofChange fairAloneWrong)

/-- 'packthreadkeep.FairScale': WHATEVER THE INPUT: true; the input reads as it did. -/
def fairScaleSpec : ChangeSpec := { name := "fairScale", fn := fun _ => fun
  | [d1, d2] => { results := [.lit (.bool true)], args := [d1, d2] }
  | _ => none }
def fairScaleRow : OpenClaim := { program := "ytcabcpealkbekaa", sum := "36c679ac8dd3feefd12bff41e44723e0cb7311c25f6b7e0dd9a22cdc2fff13a0", func := "packthread/packthreadkeep.FairScale", spec := "fairScale", unfollowed := true, recurses := true, apart := false }
def FairScaleSaid : Prop := fairScaleRow.holds Try.pinned (OpenSpec.ofChange fairScaleSpec)

/-- ITS FALSE NEIGHBOUR: 'it returns false'. Refute it at one input. -/
def fairScaleWrong : ChangeSpec := { name := "fairScale", fn := fun _ => fun
  | [d1, d2] => { results := [.lit (.bool false)], args := [d1, d2] }
  | _ => none }
def FairScaleWrongFalsely : Prop := fairScaleRow.holds Try.pinned (OpenSpec.ofChange fairScaleWrong)

/-- 'packthreadkeep.FairAll': WHATEVER THE INPUT: true; the input reads as it did. -/
def fairAllSpec : ChangeSpec := { name := "fairAll", fn := fun _ => fun
  | [d1, d2] => { results := [.lit (.bool true)], args := [d1, d2] }
  | _ => none }
def fairAllRow : OpenClaim := { program := "ytcabcpealkbekaa", sum := "36c679ac8dd3feefd12bff41e44723e0cb7311c25f6b7e0dd9a22cdc2fff13a0", func := "packthread/packthreadkeep.FairAll", spec := "fairAll", unfollowed := true, recurses := true, apart := false }
def FairAllSaid : Prop := fairAllRow.holds Try.pinned (OpenSpec.ofChange fairAllSpec)

/-- ITS FALSE NEIGHBOUR: 'it returns false'. Refute it at one input. -/
def fairAllWrong : ChangeSpec := { name := "fairAll", fn := fun _ => fun
  | [d1, d2] => { results := [.lit (.bool false)], args := [d1, d2] }
  | _ => none }
def FairAllWrongFalsely : Prop := fairAllRow.holds Try.pinned (OpenSpec.ofChange fairAllWrong)

/-- 'packthreadtop.TopShaped': WHATEVER THE INPUT: true; the input reads as it did. -/
def topShapedSpec : ChangeSpec := { name := "topShaped", fn := fun _ => fun
  | [d1, d2, d3, d4] => { results := [.lit (.bool true)], args := [d1, d2, d3, d4] }
  | _ => none }
def topShapedRow : OpenClaim := { program := "ytcabcpealkbekaa", sum := "36c679ac8dd3feefd12bff41e44723e0cb7311c25f6b7e0dd9a22cdc2fff13a0", func := "packthread/packthreadtop.TopShaped", spec := "topShaped", unfollowed := true, recurses := true, apart := false }
def TopShapedSaid : Prop := topShapedRow.holds Try.pinned (OpenSpec.ofChange topShapedSpec)

/-- ITS FALSE NEIGHBOUR: 'it returns false'. Refute it at one input. -/
def topShapedWrong : ChangeSpec := { name := "topShaped", fn := fun _ => fun
  | [d1, d2, d3, d4] => { results := [.lit (.bool false)], args := [d1, d2, d3, d4] }
  | _ => none }
def TopShapedWrongFalsely : Prop := topShapedRow.holds Try.pinned (OpenSpec.ofChange topShapedWrong)

/-- 'packthreadkeep.FetchAll': WHATEVER THE INPUT: true; the input reads as it did. -/
def fetchAllSpec : ChangeSpec := { name := "fetchAll", fn := fun _ => fun
  | [d1, d2, d3] => { results := [.lit (.bool true)], args := [d1, d2, d3] }
  | _ => none }
def fetchAllRow : OpenClaim := { program := "ytcabcpealkbekaa", sum := "36c679ac8dd3feefd12bff41e44723e0cb7311c25f6b7e0dd9a22cdc2fff13a0", func := "packthread/packthreadkeep.FetchAll", spec := "fetchAll", unfollowed := true, recurses := true, apart := false }
def FetchAllSaid : Prop := fetchAllRow.holds Try.pinned (OpenSpec.ofChange fetchAllSpec)

/-- ITS FALSE NEIGHBOUR: 'it returns false'. Refute it at one input. -/
def fetchAllWrong : ChangeSpec := { name := "fetchAll", fn := fun _ => fun
  | [d1, d2, d3] => { results := [.lit (.bool false)], args := [d1, d2, d3] }
  | _ => none }
def FetchAllWrongFalsely : Prop := fetchAllRow.holds Try.pinned (OpenSpec.ofChange fetchAllWrong)

/-- 'packthreadkeep.FetchStill': WHATEVER THE INPUT: true; the input reads as it did. -/
def fetchStillSpec : ChangeSpec := { name := "fetchStill", fn := fun _ => fun
  | [d1, d2, d3, d4] => { results := [.lit (.bool true)], args := [d1, d2, d3, d4] }
  | _ => none }
def fetchStillRow : OpenClaim := { program := "ytcabcpealkbekaa", sum := "36c679ac8dd3feefd12bff41e44723e0cb7311c25f6b7e0dd9a22cdc2fff13a0", func := "packthread/packthreadkeep.FetchStill", spec := "fetchStill", unfollowed := true, recurses := true, apart := false }
def FetchStillSaid : Prop := fetchStillRow.holds Try.pinned (OpenSpec.ofChange fetchStillSpec)

/-- ITS FALSE NEIGHBOUR: 'it returns false'. Refute it at one input. -/
def fetchStillWrong : ChangeSpec := { name := "fetchStill", fn := fun _ => fun
  | [d1, d2, d3, d4] => { results := [.lit (.bool false)], args := [d1, d2, d3, d4] }
  | _ => none }
def FetchStillWrongFalsely : Prop := fetchStillRow.holds Try.pinned (OpenSpec.ofChange fetchStillWrong)

/- THE SECOND FORM. 'bulk': how many values and letters a reading holds, each counted each time it is reached (what is shared counts as often as it is met; a slice's spare places count too). A statement '..UptoSaid' is the law's where the arguments, and the package variables that the reading takes, are together of bulk at most 1048576: NARROWER than '..Said'. Prove '..Said' where nothing that the law and all that it calls make is longer than what came in: it says more and counts as full. Else prove '..UptoSaid'. A law counts once. -/
mutual
def uptoBulk {H : Type} : DataW H → Nat
  | .lit (.string bytes) => bytes.length + 1
  | .lit _ => 1
  | .nil => 1
  | .ptr d => uptoBulk d + 1
  | .slice elems spare => uptoBulkAll elems + uptoBulkAll spare + 1
  | .agg parts => uptoBulkAll parts + 1
  | .iface _ d => uptoBulk d + 1
  | .map entries => uptoBulkEntries entries + 1
  | .held _ => 1
def uptoBulkAll {H : Type} : List (DataW H) → Nat
  | [] => 0
  | d :: r => uptoBulk d + uptoBulkAll r
def uptoBulkEntries {H : Type} : List (Lit × DataW H) → Nat
  | [] => 0
  | x :: r => uptoBulkEntry x + uptoBulkEntries r
def uptoBulkEntry {H : Type} : Lit × DataW H → Nat
  | (.string bytes, d) => bytes.length + uptoBulk d + 1
  | (_, d) => uptoBulk d + 1
 end
def uptoSmall : (H : Type) → List (DataW H) → Bool := fun _ ds => decide (uptoBulkAll ds ≤ 1048576)
def OpenSpec.upto (s : _root_.Go.ChangeSpec) : _root_.Go.OpenSpec := { _root_.Go.OpenSpec.ofChange s with cond := some uptoSmall }

/-- 'packthreadkeep.SacksFirst', WHERE WHAT IT READS IS OF BULK AT MOST 1048576: true; the input reads as it did. -/
def sacksFirstUptoRow : OpenClaim := { program := "ytcabcpealkbekaa", sum := "36c679ac8dd3feefd12bff41e44723e0cb7311c25f6b7e0dd9a22cdc2fff13a0", func := "packthread/packthreadkeep.SacksFirst", spec := "sacksFirst", unfollowed := true, recurses := true, apart := false, narrowed := true }
def SacksFirstUptoSaid : Prop := sacksFirstUptoRow.holds Try.pinned (OpenSpec.upto sacksFirstSpec)

/-- 'packthreadkeep.FrameBack', WHERE WHAT IT READS IS OF BULK AT MOST 1048576: true; the input reads as it did. -/
def frameBackUptoRow : OpenClaim := { program := "ytcabcpealkbekaa", sum := "36c679ac8dd3feefd12bff41e44723e0cb7311c25f6b7e0dd9a22cdc2fff13a0", func := "packthread/packthreadkeep.FrameBack", spec := "frameBack", apart := false, narrowed := true }
def FrameBackUptoSaid : Prop := frameBackUptoRow.holds Try.pinned (OpenSpec.upto frameBackSpec)

/-- 'packthreadkeep.FrameCuts', WHERE WHAT IT READS IS OF BULK AT MOST 1048576: true; the input reads as it did. -/
def frameCutsUptoRow : OpenClaim := { program := "ytcabcpealkbekaa", sum := "36c679ac8dd3feefd12bff41e44723e0cb7311c25f6b7e0dd9a22cdc2fff13a0", func := "packthread/packthreadkeep.FrameCuts", spec := "frameCuts", apart := false, narrowed := true }
def FrameCutsUptoSaid : Prop := frameCutsUptoRow.holds Try.pinned (OpenSpec.upto frameCutsSpec)

/-- 'packthreadkeep.FrameLong', WHERE WHAT IT READS IS OF BULK AT MOST 1048576: true; the input reads as it did. -/
def frameLongUptoRow : OpenClaim := { program := "ytcabcpealkbekaa", sum := "36c679ac8dd3feefd12bff41e44723e0cb7311c25f6b7e0dd9a22cdc2fff13a0", func := "packthread/packthreadkeep.FrameLong", spec := "frameLong", apart := false, narrowed := true }
def FrameLongUptoSaid : Prop := frameLongUptoRow.holds Try.pinned (OpenSpec.upto frameLongSpec)

/-- 'packthreadkeep.FairOrder', WHERE WHAT IT READS IS OF BULK AT MOST 1048576: true; the input reads as it did. -/
def fairOrderUptoRow : OpenClaim := { program := "ytcabcpealkbekaa", sum := "36c679ac8dd3feefd12bff41e44723e0cb7311c25f6b7e0dd9a22cdc2fff13a0", func := "packthread/packthreadkeep.FairOrder", spec := "fairOrder", unfollowed := true, recurses := true, apart := false, narrowed := true }
def FairOrderUptoSaid : Prop := fairOrderUptoRow.holds Try.pinned (OpenSpec.upto fairOrderSpec)

/-- 'packthreadkeep.FairShare', WHERE WHAT IT READS IS OF BULK AT MOST 1048576: true; the input reads as it did. -/
def fairShareUptoRow : OpenClaim := { program := "ytcabcpealkbekaa", sum := "36c679ac8dd3feefd12bff41e44723e0cb7311c25f6b7e0dd9a22cdc2fff13a0", func := "packthread/packthreadkeep.FairShare", spec := "fairShare", unfollowed := true, recurses := true, apart := false, narrowed := true }
def FairShareUptoSaid : Prop := fairShareUptoRow.holds Try.pinned (OpenSpec.upto fairShareSpec)

/-- 'packthreadkeep.FairAlone', WHERE WHAT IT READS IS OF BULK AT MOST 1048576: true; the input reads as it did. -/
def fairAloneUptoRow : OpenClaim := { program := "ytcabcpealkbekaa", sum := "36c679ac8dd3feefd12bff41e44723e0cb7311c25f6b7e0dd9a22cdc2fff13a0", func := "packthread/packthreadkeep.FairAlone", spec := "fairAlone", unfollowed := true, recurses := true, apart := false, narrowed := true }
def FairAloneUptoSaid : Prop := fairAloneUptoRow.holds Try.pinned (OpenSpec.upto fairAloneSpec)

/-- 'packthreadkeep.FairScale', WHERE WHAT IT READS IS OF BULK AT MOST 1048576: true; the input reads as it did. -/
def fairScaleUptoRow : OpenClaim := { program := "ytcabcpealkbekaa", sum := "36c679ac8dd3feefd12bff41e44723e0cb7311c25f6b7e0dd9a22cdc2fff13a0", func := "packthread/packthreadkeep.FairScale", spec := "fairScale", unfollowed := true, recurses := true, apart := false, narrowed := true }
def FairScaleUptoSaid : Prop := fairScaleUptoRow.holds Try.pinned (OpenSpec.upto fairScaleSpec)

/-- 'packthreadkeep.FairAll', WHERE WHAT IT READS IS OF BULK AT MOST 1048576: true; the input reads as it did. -/
def fairAllUptoRow : OpenClaim := { program := "ytcabcpealkbekaa", sum := "36c679ac8dd3feefd12bff41e44723e0cb7311c25f6b7e0dd9a22cdc2fff13a0", func := "packthread/packthreadkeep.FairAll", spec := "fairAll", unfollowed := true, recurses := true, apart := false, narrowed := true }
def FairAllUptoSaid : Prop := fairAllUptoRow.holds Try.pinned (OpenSpec.upto fairAllSpec)

/-- 'packthreadtop.TopShaped', WHERE WHAT IT READS IS OF BULK AT MOST 1048576: true; the input reads as it did. -/
def topShapedUptoRow : OpenClaim := { program := "ytcabcpealkbekaa", sum := "36c679ac8dd3feefd12bff41e44723e0cb7311c25f6b7e0dd9a22cdc2fff13a0", func := "packthread/packthreadtop.TopShaped", spec := "topShaped", unfollowed := true, recurses := true, apart := false, narrowed := true }
def TopShapedUptoSaid : Prop := topShapedUptoRow.holds Try.pinned (OpenSpec.upto topShapedSpec)

/-- 'packthreadkeep.FetchAll', WHERE WHAT IT READS IS OF BULK AT MOST 1048576: true; the input reads as it did. -/
def fetchAllUptoRow : OpenClaim := { program := "ytcabcpealkbekaa", sum := "36c679ac8dd3feefd12bff41e44723e0cb7311c25f6b7e0dd9a22cdc2fff13a0", func := "packthread/packthreadkeep.FetchAll", spec := "fetchAll", unfollowed := true, recurses := true, apart := false, narrowed := true }
def FetchAllUptoSaid : Prop := fetchAllUptoRow.holds Try.pinned (OpenSpec.upto fetchAllSpec)

/-- 'packthreadkeep.FetchStill', WHERE WHAT IT READS IS OF BULK AT MOST 1048576: true; the input reads as it did. -/
def fetchStillUptoRow : OpenClaim := { program := "ytcabcpealkbekaa", sum := "36c679ac8dd3feefd12bff41e44723e0cb7311c25f6b7e0dd9a22cdc2fff13a0", func := "packthread/packthreadkeep.FetchStill", spec := "fetchStill", unfollowed := true, recurses := true, apart := false, narrowed := true }
def FetchStillUptoSaid : Prop := fetchStillUptoRow.holds Try.pinned (OpenSpec.upto fetchStillSpec)

end Rows
end Go.Proofs.Ytcabcpealkbekaa
