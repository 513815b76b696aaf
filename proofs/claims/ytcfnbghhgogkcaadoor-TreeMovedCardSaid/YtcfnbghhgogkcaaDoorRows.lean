/-
  NARROWER THAN 'FOR EVERY INPUT', by the rows' own cells (each row's printed sentence says how): TreeHas: laid · TreeRefused: laid · TreeListed: laid · TreeMoved: laid · TreeLinked: laid · TreeRoom: laid.
  DERIVED. THE GIVEN ROWS OF THIS SEAT. 6 by the template 'for every input the law returns true; each argument reads behind the call as it read before'; 0 by the template 'total and deterministic' (their statements: YtcfnbghhgogkcaaDoorTotals.lean).
  GIVEN WITH THE SEED: the statements are not yours to turn. If you find one false, say at which input.
  Laid BY PROGRAM, IN A SANDBOX (cutbox-rows.mjs): the forced cells as the released guide's own fill.sh prints them over the translation e2e1674b66108945… (all of the seat's roots in one cut). By AI agents, Wed Nov 11 2026. No macro, syntax, notation, axiom, sorry.
-/
import Derived.Test.YtcfnbghhgogkcaaDoorChecked
import GoSem.PinnedTables
import GoSem.Claim
import GoSem.ClaimJoined
import GoSem.ClaimMapViews
import Derived.JoinedTies
import Derived.KernelRfl
namespace Go.Proofs.YtcfnbghhgogkcaaDoor
/- THE CELL 'sum', in the pinned program and in every row, IS THE sha256 OF THE DUMP (.gsa) THAT YtcfnbghhgogkcaaDoorProg.lean LOADS. Nothing in Lean hashes anything: it is a label: what it is worth is what the hold of that sum in a sandbox is worth. -/
noncomputable def Tryd.pinned : Pinned := { name := "ytcfnbghhgogkcaadoor", sum := "e2e1674b6610894519a20d8464f1576aafe80e5b592da193f538dd4480bf141a", checked := Tryd.checked }
namespace Rows
def none {H : Type} : Left H := { results := [], args := [] }

/- WHAT THE LISTED PACKAGE-LEVEL VARIABLES READ AS WHEN THE CALL BEGINS. Each datum BY PROGRAM (the guide's laid-datum.mjs) off the statement by which the dump's own 'gosem.cut.vars' lays the variable. In a bare row this is a premise. The card (YtcfnbghhgogkcaaDoorCards.lean) ties it to the program's text. -/
def laid_unicode_utf8_acceptRanges {H : Type} : DataW H := .agg [.agg [.lit (.int .u8 128), .lit (.int .u8 191)], .agg [.lit (.int .u8 160), .lit (.int .u8 191)], .agg [.lit (.int .u8 128), .lit (.int .u8 159)], .agg [.lit (.int .u8 144), .lit (.int .u8 191)], .agg [.lit (.int .u8 128), .lit (.int .u8 143)], .agg [.lit (.int .u8 0), .lit (.int .u8 0)], .agg [.lit (.int .u8 0), .lit (.int .u8 0)], .agg [.lit (.int .u8 0), .lit (.int .u8 0)], .agg [.lit (.int .u8 0), .lit (.int .u8 0)], .agg [.lit (.int .u8 0), .lit (.int .u8 0)], .agg [.lit (.int .u8 0), .lit (.int .u8 0)], .agg [.lit (.int .u8 0), .lit (.int .u8 0)], .agg [.lit (.int .u8 0), .lit (.int .u8 0)], .agg [.lit (.int .u8 0), .lit (.int .u8 0)], .agg [.lit (.int .u8 0), .lit (.int .u8 0)], .agg [.lit (.int .u8 0), .lit (.int .u8 0)]]
/-- One of Go's own tables, pinned by name: the form's constant. -/
def laid_unicode_utf8_first : DataW Unit := Go.Pinned.utf8First

/-- 'packthreadkeep.TreeHas': WHATEVER THE INPUT: true; the input reads as it did. -/
def treeHasSpec : ChangeSpec := { name := "treeHas", fn := fun _ => fun
  | [d1, d2, d3, d4] => { results := [.lit (.bool true)], args := [d1, d2, d3, d4] }
  | _ => none }
def treeHasRow : OpenClaim := { program := "ytcfnbghhgogkcaadoor", sum := "e2e1674b6610894519a20d8464f1576aafe80e5b592da193f538dd4480bf141a", func := "packthread/packthreadkeep.TreeHas", spec := "treeHas", inPlace := ["internal/bytealg.IndexByteString", "internal/bytealg.IndexString"], unfollowed := true, recurses := true, named := ["unicode/utf8.first", "unicode/utf8.acceptRanges", "internal/bytealg.MaxLen"], apart := false, laid := [("unicode/utf8.acceptRanges", laid_unicode_utf8_acceptRanges), ("unicode/utf8.first", laid_unicode_utf8_first)] }
def TreeHasSaid : Prop := treeHasRow.holds Tryd.pinned (OpenSpec.ofChange treeHasSpec)

/-- ITS FALSE NEIGHBOUR: 'it returns false'. Refute it at one input. -/
def treeHasWrong : ChangeSpec := { name := "treeHas", fn := fun _ => fun
  | [d1, d2, d3, d4] => { results := [.lit (.bool false)], args := [d1, d2, d3, d4] }
  | _ => none }
def TreeHasWrongFalsely : Prop := treeHasRow.holds Tryd.pinned (OpenSpec.ofChange treeHasWrong)

/-- 'packthreadkeep.TreeRefused': WHATEVER THE INPUT: true; the input reads as it did. -/
def treeRefusedSpec : ChangeSpec := { name := "treeRefused", fn := fun _ => fun
  | [d] => { results := [.lit (.bool true)], args := [d] }
  | _ => none }
def treeRefusedRow : OpenClaim := { program := "ytcfnbghhgogkcaadoor", sum := "e2e1674b6610894519a20d8464f1576aafe80e5b592da193f538dd4480bf141a", func := "packthread/packthreadkeep.TreeRefused", spec := "treeRefused", inPlace := ["internal/bytealg.IndexByteString", "internal/bytealg.IndexString"], unfollowed := true, recurses := true, named := ["unicode/utf8.first", "unicode/utf8.acceptRanges", "internal/bytealg.MaxLen"], apart := false, laid := [("unicode/utf8.acceptRanges", laid_unicode_utf8_acceptRanges), ("unicode/utf8.first", laid_unicode_utf8_first)] }
def TreeRefusedSaid : Prop := treeRefusedRow.holds Tryd.pinned (OpenSpec.ofChange treeRefusedSpec)

/-- ITS FALSE NEIGHBOUR: 'it returns false'. Refute it at one input. -/
def treeRefusedWrong : ChangeSpec := { name := "treeRefused", fn := fun _ => fun
  | [d] => { results := [.lit (.bool false)], args := [d] }
  | _ => none }
def TreeRefusedWrongFalsely : Prop := treeRefusedRow.holds Tryd.pinned (OpenSpec.ofChange treeRefusedWrong)

/-- 'packthreadkeep.TreeListed': WHATEVER THE INPUT: true; the input reads as it did. -/
def treeListedSpec : ChangeSpec := { name := "treeListed", fn := fun _ => fun
  | [d1, d2] => { results := [.lit (.bool true)], args := [d1, d2] }
  | _ => none }
def treeListedRow : OpenClaim := { program := "ytcfnbghhgogkcaadoor", sum := "e2e1674b6610894519a20d8464f1576aafe80e5b592da193f538dd4480bf141a", func := "packthread/packthreadkeep.TreeListed", spec := "treeListed", inPlace := ["internal/bytealg.IndexByteString", "internal/bytealg.IndexString"], unfollowed := true, recurses := true, named := ["unicode/utf8.first", "unicode/utf8.acceptRanges", "internal/bytealg.MaxLen"], apart := false, laid := [("unicode/utf8.acceptRanges", laid_unicode_utf8_acceptRanges), ("unicode/utf8.first", laid_unicode_utf8_first)] }
def TreeListedSaid : Prop := treeListedRow.holds Tryd.pinned (OpenSpec.ofChange treeListedSpec)

/-- ITS FALSE NEIGHBOUR: 'it returns false'. Refute it at one input. -/
def treeListedWrong : ChangeSpec := { name := "treeListed", fn := fun _ => fun
  | [d1, d2] => { results := [.lit (.bool false)], args := [d1, d2] }
  | _ => none }
def TreeListedWrongFalsely : Prop := treeListedRow.holds Tryd.pinned (OpenSpec.ofChange treeListedWrong)

/-- 'packthreadkeep.TreeMoved': WHATEVER THE INPUT: true; the input reads as it did. -/
def treeMovedSpec : ChangeSpec := { name := "treeMoved", fn := fun _ => fun
  | [d1, d2, d3] => { results := [.lit (.bool true)], args := [d1, d2, d3] }
  | _ => none }
def treeMovedRow : OpenClaim := { program := "ytcfnbghhgogkcaadoor", sum := "e2e1674b6610894519a20d8464f1576aafe80e5b592da193f538dd4480bf141a", func := "packthread/packthreadkeep.TreeMoved", spec := "treeMoved", inPlace := ["internal/bytealg.IndexByteString", "internal/bytealg.IndexString"], unfollowed := true, recurses := true, named := ["unicode/utf8.first", "unicode/utf8.acceptRanges", "internal/bytealg.MaxLen"], apart := false, laid := [("unicode/utf8.acceptRanges", laid_unicode_utf8_acceptRanges), ("unicode/utf8.first", laid_unicode_utf8_first)] }
def TreeMovedSaid : Prop := treeMovedRow.holds Tryd.pinned (OpenSpec.ofChange treeMovedSpec)

/-- ITS FALSE NEIGHBOUR: 'it returns false'. Refute it at one input. -/
def treeMovedWrong : ChangeSpec := { name := "treeMoved", fn := fun _ => fun
  | [d1, d2, d3] => { results := [.lit (.bool false)], args := [d1, d2, d3] }
  | _ => none }
def TreeMovedWrongFalsely : Prop := treeMovedRow.holds Tryd.pinned (OpenSpec.ofChange treeMovedWrong)

/-- 'packthreadkeep.TreeLinked': WHATEVER THE INPUT: true; the input reads as it did. -/
def treeLinkedSpec : ChangeSpec := { name := "treeLinked", fn := fun _ => fun
  | [d1, d2, d3] => { results := [.lit (.bool true)], args := [d1, d2, d3] }
  | _ => none }
def treeLinkedRow : OpenClaim := { program := "ytcfnbghhgogkcaadoor", sum := "e2e1674b6610894519a20d8464f1576aafe80e5b592da193f538dd4480bf141a", func := "packthread/packthreadkeep.TreeLinked", spec := "treeLinked", inPlace := ["internal/bytealg.IndexByteString", "internal/bytealg.IndexString"], unfollowed := true, recurses := true, named := ["unicode/utf8.first", "unicode/utf8.acceptRanges", "internal/bytealg.MaxLen"], apart := false, laid := [("unicode/utf8.acceptRanges", laid_unicode_utf8_acceptRanges), ("unicode/utf8.first", laid_unicode_utf8_first)] }
def TreeLinkedSaid : Prop := treeLinkedRow.holds Tryd.pinned (OpenSpec.ofChange treeLinkedSpec)

/-- ITS FALSE NEIGHBOUR: 'it returns false'. Refute it at one input. -/
def treeLinkedWrong : ChangeSpec := { name := "treeLinked", fn := fun _ => fun
  | [d1, d2, d3] => { results := [.lit (.bool false)], args := [d1, d2, d3] }
  | _ => none }
def TreeLinkedWrongFalsely : Prop := treeLinkedRow.holds Tryd.pinned (OpenSpec.ofChange treeLinkedWrong)

/-- 'packthreadkeep.TreeRoom': WHATEVER THE INPUT: true; the input reads as it did. -/
def treeRoomSpec : ChangeSpec := { name := "treeRoom", fn := fun _ => fun
  | [d1, d2] => { results := [.lit (.bool true)], args := [d1, d2] }
  | _ => none }
def treeRoomRow : OpenClaim := { program := "ytcfnbghhgogkcaadoor", sum := "e2e1674b6610894519a20d8464f1576aafe80e5b592da193f538dd4480bf141a", func := "packthread/packthreadkeep.TreeRoom", spec := "treeRoom", inPlace := ["internal/bytealg.IndexByteString", "internal/bytealg.IndexString"], unfollowed := true, recurses := true, named := ["unicode/utf8.first", "unicode/utf8.acceptRanges", "internal/bytealg.MaxLen"], apart := false, laid := [("unicode/utf8.acceptRanges", laid_unicode_utf8_acceptRanges), ("unicode/utf8.first", laid_unicode_utf8_first)] }
def TreeRoomSaid : Prop := treeRoomRow.holds Tryd.pinned (OpenSpec.ofChange treeRoomSpec)

/-- ITS FALSE NEIGHBOUR: 'it returns false'. Refute it at one input. -/
def treeRoomWrong : ChangeSpec := { name := "treeRoom", fn := fun _ => fun
  | [d1, d2] => { results := [.lit (.bool false)], args := [d1, d2] }
  | _ => none }
def TreeRoomWrongFalsely : Prop := treeRoomRow.holds Tryd.pinned (OpenSpec.ofChange treeRoomWrong)

/- THE SECOND FORM. 'bulk': how many values and letters a reading holds, each counted each time it is reached (what is shared counts as often as it is met; a slice's spare places count too). A statement '..UptoSaid' is the law's where the arguments, and the package variables that the reading takes, are together of bulk at most 1048576: NARROWER than '..Said'. Prove '..Said' where nothing that the law and all that it calls make is longer than what came in: it says more and counts as full. Else prove '..UptoSaid'. A law counts once. -/
mutual
def uptoBulk {H : Type} : DataW H → Nat
  | .lit (.string bytes) => bytes.length + 1
  | .lit _ => 1
  | .nil => 1
  | .ptr d => uptoBulk d + 1
  | .slice elems spare => uptoBulkAll elems + uptoBulkAll spare + 1
  | .agg parts => uptoBulkAll parts + 1
  | .iface _ d => uptoBulk d + 1
  | .map entries => uptoBulkEntries entries + 1
  | .held _ => 1
def uptoBulkAll {H : Type} : List (DataW H) → Nat
  | [] => 0
  | d :: r => uptoBulk d + uptoBulkAll r
def uptoBulkEntries {H : Type} : List (Lit × DataW H) → Nat
  | [] => 0
  | x :: r => uptoBulkEntry x + uptoBulkEntries r
def uptoBulkEntry {H : Type} : Lit × DataW H → Nat
  | (.string bytes, d) => bytes.length + uptoBulk d + 1
  | (_, d) => uptoBulk d + 1
 end
def uptoSmall : (H : Type) → List (DataW H) → Bool := fun _ ds => decide (uptoBulkAll ds ≤ 1048576)
def OpenSpec.upto (s : _root_.Go.ChangeSpec) : _root_.Go.OpenSpec := { _root_.Go.OpenSpec.ofChange s with cond := some uptoSmall }

/-- 'packthreadkeep.TreeHas', WHERE WHAT IT READS IS OF BULK AT MOST 1048576: true; the input reads as it did. -/
def treeHasUptoRow : OpenClaim := { program := "ytcfnbghhgogkcaadoor", sum := "e2e1674b6610894519a20d8464f1576aafe80e5b592da193f538dd4480bf141a", func := "packthread/packthreadkeep.TreeHas", spec := "treeHas", inPlace := ["internal/bytealg.IndexByteString", "internal/bytealg.IndexString"], unfollowed := true, recurses := true, named := ["unicode/utf8.first", "unicode/utf8.acceptRanges", "internal/bytealg.MaxLen"], apart := false, laid := [("unicode/utf8.acceptRanges", laid_unicode_utf8_acceptRanges), ("unicode/utf8.first", laid_unicode_utf8_first)], narrowed := true }
def TreeHasUptoSaid : Prop := treeHasUptoRow.holds Tryd.pinned (OpenSpec.upto treeHasSpec)

/-- 'packthreadkeep.TreeRefused', WHERE WHAT IT READS IS OF BULK AT MOST 1048576: true; the input reads as it did. -/
def treeRefusedUptoRow : OpenClaim := { program := "ytcfnbghhgogkcaadoor", sum := "e2e1674b6610894519a20d8464f1576aafe80e5b592da193f538dd4480bf141a", func := "packthread/packthreadkeep.TreeRefused", spec := "treeRefused", inPlace := ["internal/bytealg.IndexByteString", "internal/bytealg.IndexString"], unfollowed := true, recurses := true, named := ["unicode/utf8.first", "unicode/utf8.acceptRanges", "internal/bytealg.MaxLen"], apart := false, laid := [("unicode/utf8.acceptRanges", laid_unicode_utf8_acceptRanges), ("unicode/utf8.first", laid_unicode_utf8_first)], narrowed := true }
def TreeRefusedUptoSaid : Prop := treeRefusedUptoRow.holds Tryd.pinned (OpenSpec.upto treeRefusedSpec)

/-- 'packthreadkeep.TreeListed', WHERE WHAT IT READS IS OF BULK AT MOST 1048576: true; the input reads as it did. -/
def treeListedUptoRow : OpenClaim := { program := "ytcfnbghhgogkcaadoor", sum := "e2e1674b6610894519a20d8464f1576aafe80e5b592da193f538dd4480bf141a", func := "packthread/packthreadkeep.TreeListed", spec := "treeListed", inPlace := ["internal/bytealg.IndexByteString", "internal/bytealg.IndexString"], unfollowed := true, recurses := true, named := ["unicode/utf8.first", "unicode/utf8.acceptRanges", "internal/bytealg.MaxLen"], apart := false, laid := [("unicode/utf8.acceptRanges", laid_unicode_utf8_acceptRanges), ("unicode/utf8.first", laid_unicode_utf8_first)], narrowed := true }
def TreeListedUptoSaid : Prop := treeListedUptoRow.holds Tryd.pinned (OpenSpec.upto treeListedSpec)

/-- 'packthreadkeep.TreeMoved', WHERE WHAT IT READS IS OF BULK AT MOST 1048576: true; the input reads as it did. -/
def treeMovedUptoRow : OpenClaim := { program := "ytcfnbghhgogkcaadoor", sum := "e2e1674b6610894519a20d8464f1576aafe80e5b592da193f538dd4480bf141a", func := "packthread/packthreadkeep.TreeMoved", spec := "treeMoved", inPlace := ["internal/bytealg.IndexByteString", "internal/bytealg.IndexString"], unfollowed := true, recurses := true, named := ["unicode/utf8.first", "unicode/utf8.acceptRanges", "internal/bytealg.MaxLen"], apart := false, laid := [("unicode/utf8.acceptRanges", laid_unicode_utf8_acceptRanges), ("unicode/utf8.first", laid_unicode_utf8_first)], narrowed := true }
def TreeMovedUptoSaid : Prop := treeMovedUptoRow.holds Tryd.pinned (OpenSpec.upto treeMovedSpec)

/-- 'packthreadkeep.TreeLinked', WHERE WHAT IT READS IS OF BULK AT MOST 1048576: true; the input reads as it did. -/
def treeLinkedUptoRow : OpenClaim := { program := "ytcfnbghhgogkcaadoor", sum := "e2e1674b6610894519a20d8464f1576aafe80e5b592da193f538dd4480bf141a", func := "packthread/packthreadkeep.TreeLinked", spec := "treeLinked", inPlace := ["internal/bytealg.IndexByteString", "internal/bytealg.IndexString"], unfollowed := true, recurses := true, named := ["unicode/utf8.first", "unicode/utf8.acceptRanges", "internal/bytealg.MaxLen"], apart := false, laid := [("unicode/utf8.acceptRanges", laid_unicode_utf8_acceptRanges), ("unicode/utf8.first", laid_unicode_utf8_first)], narrowed := true }
def TreeLinkedUptoSaid : Prop := treeLinkedUptoRow.holds Tryd.pinned (OpenSpec.upto treeLinkedSpec)

/-- 'packthreadkeep.TreeRoom', WHERE WHAT IT READS IS OF BULK AT MOST 1048576: true; the input reads as it did. -/
def treeRoomUptoRow : OpenClaim := { program := "ytcfnbghhgogkcaadoor", sum := "e2e1674b6610894519a20d8464f1576aafe80e5b592da193f538dd4480bf141a", func := "packthread/packthreadkeep.TreeRoom", spec := "treeRoom", inPlace := ["internal/bytealg.IndexByteString", "internal/bytealg.IndexString"], unfollowed := true, recurses := true, named := ["unicode/utf8.first", "unicode/utf8.acceptRanges", "internal/bytealg.MaxLen"], apart := false, laid := [("unicode/utf8.acceptRanges", laid_unicode_utf8_acceptRanges), ("unicode/utf8.first", laid_unicode_utf8_first)], narrowed := true }
def TreeRoomUptoSaid : Prop := treeRoomUptoRow.holds Tryd.pinned (OpenSpec.upto treeRoomSpec)

end Rows
end Go.Proofs.YtcfnbghhgogkcaaDoor
