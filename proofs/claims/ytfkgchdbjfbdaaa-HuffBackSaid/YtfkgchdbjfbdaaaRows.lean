/-
  No cell of these rows narrows 'for every input' (looked for: loops, veiled, ifaces, maps, wideKeys, modest, calm, conditions, laid).
  DERIVED. THE GIVEN ROWS OF THIS SEAT. 6 by the template 'for every input the law returns true; each argument reads behind the call as it read before'; 0 by the template 'total and deterministic' (their statements: YtfkgchdbjfbdaaaTotals.lean).
  GIVEN WITH THE SEED: the statements are not yours to turn. If you find one false, say at which input.
  Laid BY PROGRAM, IN A SANDBOX (cutbox-rows.mjs): the forced cells as the released guide's own fill.sh prints them over the translation 4f51f6afaea27d78… (all of the seat's roots in one cut). By AI agents, Wed Nov 11 2026. No macro, syntax, notation, axiom, sorry.
-/
import Derived.Test.YtfkgchdbjfbdaaaChecked
import GoSem.Claim
import GoSem.ClaimJoined
import GoSem.ClaimMapViews
import Derived.JoinedTies
import Derived.KernelRfl
namespace Go.Proofs.Ytfkgchdbjfbdaaa
/- THE CELL 'sum', in the pinned program and in every row, IS THE sha256 OF THE DUMP (.gsa) THAT YtfkgchdbjfbdaaaProg.lean LOADS. Nothing in Lean hashes anything: it is a label: what it is worth is what the hold of that sum in a sandbox is worth. -/
noncomputable def Try.pinned : Pinned := { name := "ytfkgchdbjfbdaaa", sum := "4f51f6afaea27d789389a8a1dc4df5677e56dc452b6c7b83c7da6f3b979cd473", checked := Try.checked }
namespace Rows
def none {H : Type} : Left H := { results := [], args := [] }

/-- 'packthreadkeep.HuffBest': WHATEVER THE INPUT: true; the input reads as it did. -/
def huffBestSpec : ChangeSpec := { name := "huffBest", fn := fun _ => fun
  | [d1, d2] => { results := [.lit (.bool true)], args := [d1, d2] }
  | _ => none }
def huffBestRow : OpenClaim := { program := "ytfkgchdbjfbdaaa", sum := "4f51f6afaea27d789389a8a1dc4df5677e56dc452b6c7b83c7da6f3b979cd473", func := "packthread/packthreadkeep.HuffBest", spec := "huffBest", unfollowed := true, recurses := true, plainKeys := false, apart := false }
def HuffBestSaid : Prop := huffBestRow.holds Try.pinned (OpenSpec.ofChange huffBestSpec)

/-- ITS FALSE NEIGHBOUR: 'it returns false'. Refute it at one input. -/
def huffBestWrong : ChangeSpec := { name := "huffBest", fn := fun _ => fun
  | [d1, d2] => { results := [.lit (.bool false)], args := [d1, d2] }
  | _ => none }
def HuffBestWrongFalsely : Prop := huffBestRow.holds Try.pinned (OpenSpec.ofChange huffBestWrong)

/-- 'packthreadkeep.HuffFull': WHATEVER THE INPUT: true; the input reads as it did. -/
def huffFullSpec : ChangeSpec := { name := "huffFull", fn := fun _ => fun
  | [d] => { results := [.lit (.bool true)], args := [d] }
  | _ => none }
def huffFullRow : OpenClaim := { program := "ytfkgchdbjfbdaaa", sum := "4f51f6afaea27d789389a8a1dc4df5677e56dc452b6c7b83c7da6f3b979cd473", func := "packthread/packthreadkeep.HuffFull", spec := "huffFull", unfollowed := true, recurses := true, plainKeys := false, apart := false }
def HuffFullSaid : Prop := huffFullRow.holds Try.pinned (OpenSpec.ofChange huffFullSpec)

/-- ITS FALSE NEIGHBOUR: 'it returns false'. Refute it at one input. -/
def huffFullWrong : ChangeSpec := { name := "huffFull", fn := fun _ => fun
  | [d] => { results := [.lit (.bool false)], args := [d] }
  | _ => none }
def HuffFullWrongFalsely : Prop := huffFullRow.holds Try.pinned (OpenSpec.ofChange huffFullWrong)

/-- 'packthreadkeep.HuffTwice': WHATEVER THE INPUT: true; the input reads as it did. -/
def huffTwiceSpec : ChangeSpec := { name := "huffTwice", fn := fun _ => fun
  | [d1, d2] => { results := [.lit (.bool true)], args := [d1, d2] }
  | _ => none }
def huffTwiceRow : OpenClaim := { program := "ytfkgchdbjfbdaaa", sum := "4f51f6afaea27d789389a8a1dc4df5677e56dc452b6c7b83c7da6f3b979cd473", func := "packthread/packthreadkeep.HuffTwice", spec := "huffTwice", unfollowed := true, recurses := true, plainKeys := false, apart := false }
def HuffTwiceSaid : Prop := huffTwiceRow.holds Try.pinned (OpenSpec.ofChange huffTwiceSpec)

/-- ITS FALSE NEIGHBOUR: 'it returns false'. Refute it at one input. -/
def huffTwiceWrong : ChangeSpec := { name := "huffTwice", fn := fun _ => fun
  | [d1, d2] => { results := [.lit (.bool false)], args := [d1, d2] }
  | _ => none }
def HuffTwiceWrongFalsely : Prop := huffTwiceRow.holds Try.pinned (OpenSpec.ofChange huffTwiceWrong)

/-- 'packthreadkeep.HuffEven': WHATEVER THE INPUT: true; the input reads as it did. -/
def huffEvenSpec : ChangeSpec := { name := "huffEven", fn := fun _ => fun
  | [d1, d2, d3] => { results := [.lit (.bool true)], args := [d1, d2, d3] }
  | _ => none }
def huffEvenRow : OpenClaim := { program := "ytfkgchdbjfbdaaa", sum := "4f51f6afaea27d789389a8a1dc4df5677e56dc452b6c7b83c7da6f3b979cd473", func := "packthread/packthreadkeep.HuffEven", spec := "huffEven", unfollowed := true, recurses := true, plainKeys := false, apart := false }
def HuffEvenSaid : Prop := huffEvenRow.holds Try.pinned (OpenSpec.ofChange huffEvenSpec)

/-- ITS FALSE NEIGHBOUR: 'it returns false'. Refute it at one input. -/
def huffEvenWrong : ChangeSpec := { name := "huffEven", fn := fun _ => fun
  | [d1, d2, d3] => { results := [.lit (.bool false)], args := [d1, d2, d3] }
  | _ => none }
def HuffEvenWrongFalsely : Prop := huffEvenRow.holds Try.pinned (OpenSpec.ofChange huffEvenWrong)

/-- 'packthreadkeep.CodesApart': WHATEVER THE INPUT: true; the input reads as it did. -/
def codesApartSpec : ChangeSpec := { name := "codesApart", fn := fun _ => fun
  | [d] => { results := [.lit (.bool true)], args := [d] }
  | _ => none }
def codesApartRow : OpenClaim := { program := "ytfkgchdbjfbdaaa", sum := "4f51f6afaea27d789389a8a1dc4df5677e56dc452b6c7b83c7da6f3b979cd473", func := "packthread/packthreadkeep.CodesApart", spec := "codesApart", unfollowed := true, recurses := true, plainKeys := false, apart := false }
def CodesApartSaid : Prop := codesApartRow.holds Try.pinned (OpenSpec.ofChange codesApartSpec)

/-- ITS FALSE NEIGHBOUR: 'it returns false'. Refute it at one input. -/
def codesApartWrong : ChangeSpec := { name := "codesApart", fn := fun _ => fun
  | [d] => { results := [.lit (.bool false)], args := [d] }
  | _ => none }
def CodesApartWrongFalsely : Prop := codesApartRow.holds Try.pinned (OpenSpec.ofChange codesApartWrong)

/-- 'packthreadkeep.HuffBack': WHATEVER THE INPUT: true; the input reads as it did. -/
def huffBackSpec : ChangeSpec := { name := "huffBack", fn := fun _ => fun
  | [d1, d2, d3] => { results := [.lit (.bool true)], args := [d1, d2, d3] }
  | _ => none }
def huffBackRow : OpenClaim := { program := "ytfkgchdbjfbdaaa", sum := "4f51f6afaea27d789389a8a1dc4df5677e56dc452b6c7b83c7da6f3b979cd473", func := "packthread/packthreadkeep.HuffBack", spec := "huffBack", unfollowed := true, recurses := true, plainKeys := false, apart := false }
def HuffBackSaid : Prop := huffBackRow.holds Try.pinned (OpenSpec.ofChange huffBackSpec)

/-- ITS FALSE NEIGHBOUR: 'it returns false'. Refute it at one input. -/
def huffBackWrong : ChangeSpec := { name := "huffBack", fn := fun _ => fun
  | [d1, d2, d3] => { results := [.lit (.bool false)], args := [d1, d2, d3] }
  | _ => none }
def HuffBackWrongFalsely : Prop := huffBackRow.holds Try.pinned (OpenSpec.ofChange huffBackWrong)

/- THE SECOND FORM. 'bulk': how many values and letters a reading holds, each counted each time it is reached (what is shared counts as often as it is met; a slice's spare places count too). A statement '..UptoSaid' is the law's where the arguments, and the package variables that the reading takes, are together of bulk at most 1048576: NARROWER than '..Said'. Prove '..Said' where nothing that the law and all that it calls make is longer than what came in: it says more and counts as full. Else prove '..UptoSaid'. A law counts once. -/
mutual
def uptoBulk {H : Type} : DataW H → Nat
  | .lit (.string bytes) => bytes.length + 1
  | .lit _ => 1
  | .nil => 1
  | .ptr d => uptoBulk d + 1
  | .slice elems spare => uptoBulkAll elems + uptoBulkAll spare + 1
  | .agg parts => uptoBulkAll parts + 1
  | .iface _ d => uptoBulk d + 1
  | .map entries => uptoBulkEntries entries + 1
  | .held _ => 1
def uptoBulkAll {H : Type} : List (DataW H) → Nat
  | [] => 0
  | d :: r => uptoBulk d + uptoBulkAll r
def uptoBulkEntries {H : Type} : List (Lit × DataW H) → Nat
  | [] => 0
  | x :: r => uptoBulkEntry x + uptoBulkEntries r
def uptoBulkEntry {H : Type} : Lit × DataW H → Nat
  | (.string bytes, d) => bytes.length + uptoBulk d + 1
  | (_, d) => uptoBulk d + 1
 end
def uptoSmall : (H : Type) → List (DataW H) → Bool := fun _ ds => decide (uptoBulkAll ds ≤ 1048576)
def OpenSpec.upto (s : _root_.Go.ChangeSpec) : _root_.Go.OpenSpec := { _root_.Go.OpenSpec.ofChange s with cond := some uptoSmall }

/-- 'packthreadkeep.HuffBest', WHERE WHAT IT READS IS OF BULK AT MOST 1048576: true; the input reads as it did. -/
def huffBestUptoRow : OpenClaim := { program := "ytfkgchdbjfbdaaa", sum := "4f51f6afaea27d789389a8a1dc4df5677e56dc452b6c7b83c7da6f3b979cd473", func := "packthread/packthreadkeep.HuffBest", spec := "huffBest", unfollowed := true, recurses := true, plainKeys := false, apart := false, narrowed := true }
def HuffBestUptoSaid : Prop := huffBestUptoRow.holds Try.pinned (OpenSpec.upto huffBestSpec)

/-- 'packthreadkeep.HuffFull', WHERE WHAT IT READS IS OF BULK AT MOST 1048576: true; the input reads as it did. -/
def huffFullUptoRow : OpenClaim := { program := "ytfkgchdbjfbdaaa", sum := "4f51f6afaea27d789389a8a1dc4df5677e56dc452b6c7b83c7da6f3b979cd473", func := "packthread/packthreadkeep.HuffFull", spec := "huffFull", unfollowed := true, recurses := true, plainKeys := false, apart := false, narrowed := true }
def HuffFullUptoSaid : Prop := huffFullUptoRow.holds Try.pinned (OpenSpec.upto huffFullSpec)

/-- 'packthreadkeep.HuffTwice', WHERE WHAT IT READS IS OF BULK AT MOST 1048576: true; the input reads as it did. -/
def huffTwiceUptoRow : OpenClaim := { program := "ytfkgchdbjfbdaaa", sum := "4f51f6afaea27d789389a8a1dc4df5677e56dc452b6c7b83c7da6f3b979cd473", func := "packthread/packthreadkeep.HuffTwice", spec := "huffTwice", unfollowed := true, recurses := true, plainKeys := false, apart := false, narrowed := true }
def HuffTwiceUptoSaid : Prop := huffTwiceUptoRow.holds Try.pinned (OpenSpec.upto huffTwiceSpec)

/-- 'packthreadkeep.HuffEven', WHERE WHAT IT READS IS OF BULK AT MOST 1048576: true; the input reads as it did. -/
def huffEvenUptoRow : OpenClaim := { program := "ytfkgchdbjfbdaaa", sum := "4f51f6afaea27d789389a8a1dc4df5677e56dc452b6c7b83c7da6f3b979cd473", func := "packthread/packthreadkeep.HuffEven", spec := "huffEven", unfollowed := true, recurses := true, plainKeys := false, apart := false, narrowed := true }
def HuffEvenUptoSaid : Prop := huffEvenUptoRow.holds Try.pinned (OpenSpec.upto huffEvenSpec)

/-- 'packthreadkeep.CodesApart', WHERE WHAT IT READS IS OF BULK AT MOST 1048576: true; the input reads as it did. -/
def codesApartUptoRow : OpenClaim := { program := "ytfkgchdbjfbdaaa", sum := "4f51f6afaea27d789389a8a1dc4df5677e56dc452b6c7b83c7da6f3b979cd473", func := "packthread/packthreadkeep.CodesApart", spec := "codesApart", unfollowed := true, recurses := true, plainKeys := false, apart := false, narrowed := true }
def CodesApartUptoSaid : Prop := codesApartUptoRow.holds Try.pinned (OpenSpec.upto codesApartSpec)

/-- 'packthreadkeep.HuffBack', WHERE WHAT IT READS IS OF BULK AT MOST 1048576: true; the input reads as it did. -/
def huffBackUptoRow : OpenClaim := { program := "ytfkgchdbjfbdaaa", sum := "4f51f6afaea27d789389a8a1dc4df5677e56dc452b6c7b83c7da6f3b979cd473", func := "packthread/packthreadkeep.HuffBack", spec := "huffBack", unfollowed := true, recurses := true, plainKeys := false, apart := false, narrowed := true }
def HuffBackUptoSaid : Prop := huffBackUptoRow.holds Try.pinned (OpenSpec.upto huffBackSpec)

end Rows
end Go.Proofs.Ytfkgchdbjfbdaaa
