/-
  No cell of these rows narrows 'for every input' (looked for: loops, veiled, ifaces, maps, wideKeys, modest, calm, conditions, laid).
  DERIVED. THE GIVEN ROWS OF THIS SEAT. 12 by the template 'for every input the law returns true; each argument reads behind the call as it read before'; 0 by the template 'total and deterministic' (their statements: YtomibkfpeiceoaaTotals.lean).
  GIVEN WITH THE SEED: the statements are not yours to turn. If you find one false, say at which input.
  Laid BY PROGRAM, IN A SANDBOX (cutbox-rows.mjs): the forced cells as the released guide's own fill.sh prints them over the translation 80328a625c7ad267… (all of the seat's roots in one cut). By AI agents, Wed Nov 11 2026. No macro, syntax, notation, axiom, sorry.
-/
import Derived.Test.YtomibkfpeiceoaaChecked
import GoSem.Claim
import GoSem.ClaimJoined
import GoSem.ClaimMapViews
import Derived.JoinedTies
import Derived.KernelRfl
namespace Go.Proofs.Ytomibkfpeiceoaa
/- THE CELL 'sum', in the pinned program and in every row, IS THE sha256 OF THE DUMP (.gsa) THAT YtomibkfpeiceoaaProg.lean LOADS. Nothing in Lean hashes anything: it is a label: what it is worth is what the hold of that sum in a sandbox is worth. -/
noncomputable def Try.pinned : Pinned := { name := "ytomibkfpeiceoaa", sum := "80328a625c7ad26726827fe5b400615f71685b8b8a780e969617bbe204baca04", checked := Try.checked }
namespace Rows
def none {H : Type} : Left H := { results := [], args := [] }

/-- 'packthreadkeep.InetTurned': WHATEVER THE INPUT: true; the input reads as it did. -/
def inetTurnedSpec : ChangeSpec := { name := "inetTurned", fn := fun _ => fun
  | [d1, d2, d3, d4] => { results := [.lit (.bool true)], args := [d1, d2, d3, d4] }
  | _ => none }
def inetTurnedRow : OpenClaim := { program := "ytomibkfpeiceoaa", sum := "80328a625c7ad26726827fe5b400615f71685b8b8a780e969617bbe204baca04", func := "packthread/packthreadkeep.InetTurned", spec := "inetTurned", plainKeys := false, apart := false }
def InetTurnedSaid : Prop := inetTurnedRow.holds Try.pinned (OpenSpec.ofChange inetTurnedSpec)

/-- ITS FALSE NEIGHBOUR: 'it returns false'. Refute it at one input. -/
def inetTurnedWrong : ChangeSpec := { name := "inetTurned", fn := fun _ => fun
  | [d1, d2, d3, d4] => { results := [.lit (.bool false)], args := [d1, d2, d3, d4] }
  | _ => none }
def InetTurnedWrongFalsely : Prop := inetTurnedRow.holds Try.pinned (OpenSpec.ofChange inetTurnedWrong)

/-- 'packthreadkeep.PatchParts': WHATEVER THE INPUT: true; the input reads as it did. -/
def patchPartsSpec : ChangeSpec := { name := "patchParts", fn := fun _ => fun
  | [d1, d2, d3] => { results := [.lit (.bool true)], args := [d1, d2, d3] }
  | _ => none }
def patchPartsRow : OpenClaim := { program := "ytomibkfpeiceoaa", sum := "80328a625c7ad26726827fe5b400615f71685b8b8a780e969617bbe204baca04", func := "packthread/packthreadkeep.PatchParts", spec := "patchParts", unfollowed := true, recurses := true, plainKeys := false, apart := false }
def PatchPartsSaid : Prop := patchPartsRow.holds Try.pinned (OpenSpec.ofChange patchPartsSpec)

/-- ITS FALSE NEIGHBOUR: 'it returns false'. Refute it at one input. -/
def patchPartsWrong : ChangeSpec := { name := "patchParts", fn := fun _ => fun
  | [d1, d2, d3] => { results := [.lit (.bool false)], args := [d1, d2, d3] }
  | _ => none }
def PatchPartsWrongFalsely : Prop := patchPartsRow.holds Try.pinned (OpenSpec.ofChange patchPartsWrong)

/-- 'packthreadkeep.DeltaSmall': WHATEVER THE INPUT: true; the input reads as it did. -/
def deltaSmallSpec : ChangeSpec := { name := "deltaSmall", fn := fun _ => fun
  | [d1, d2, d3, d4] => { results := [.lit (.bool true)], args := [d1, d2, d3, d4] }
  | _ => none }
def deltaSmallRow : OpenClaim := { program := "ytomibkfpeiceoaa", sum := "80328a625c7ad26726827fe5b400615f71685b8b8a780e969617bbe204baca04", func := "packthread/packthreadkeep.DeltaSmall", spec := "deltaSmall", plainKeys := false, apart := false }
def DeltaSmallSaid : Prop := deltaSmallRow.holds Try.pinned (OpenSpec.ofChange deltaSmallSpec)

/-- ITS FALSE NEIGHBOUR: 'it returns false'. Refute it at one input. -/
def deltaSmallWrong : ChangeSpec := { name := "deltaSmall", fn := fun _ => fun
  | [d1, d2, d3, d4] => { results := [.lit (.bool false)], args := [d1, d2, d3, d4] }
  | _ => none }
def DeltaSmallWrongFalsely : Prop := deltaSmallRow.holds Try.pinned (OpenSpec.ofChange deltaSmallWrong)

/-- 'packthreadkeep.DeltaBack': WHATEVER THE INPUT: true; the input reads as it did. -/
def deltaBackSpec : ChangeSpec := { name := "deltaBack", fn := fun _ => fun
  | [d1, d2, d3] => { results := [.lit (.bool true)], args := [d1, d2, d3] }
  | _ => none }
def deltaBackRow : OpenClaim := { program := "ytomibkfpeiceoaa", sum := "80328a625c7ad26726827fe5b400615f71685b8b8a780e969617bbe204baca04", func := "packthread/packthreadkeep.DeltaBack", spec := "deltaBack", plainKeys := false, apart := false }
def DeltaBackSaid : Prop := deltaBackRow.holds Try.pinned (OpenSpec.ofChange deltaBackSpec)

/-- ITS FALSE NEIGHBOUR: 'it returns false'. Refute it at one input. -/
def deltaBackWrong : ChangeSpec := { name := "deltaBack", fn := fun _ => fun
  | [d1, d2, d3] => { results := [.lit (.bool false)], args := [d1, d2, d3] }
  | _ => none }
def DeltaBackWrongFalsely : Prop := deltaBackRow.holds Try.pinned (OpenSpec.ofChange deltaBackWrong)

/-- 'packthreadkeep.LzBack': WHATEVER THE INPUT: true; the input reads as it did. -/
def lzBackSpec : ChangeSpec := { name := "lzBack", fn := fun _ => fun
  | [d1, d2] => { results := [.lit (.bool true)], args := [d1, d2] }
  | _ => none }
def lzBackRow : OpenClaim := { program := "ytomibkfpeiceoaa", sum := "80328a625c7ad26726827fe5b400615f71685b8b8a780e969617bbe204baca04", func := "packthread/packthreadkeep.LzBack", spec := "lzBack", plainKeys := false, apart := false }
def LzBackSaid : Prop := lzBackRow.holds Try.pinned (OpenSpec.ofChange lzBackSpec)

/-- ITS FALSE NEIGHBOUR: 'it returns false'. Refute it at one input. -/
def lzBackWrong : ChangeSpec := { name := "lzBack", fn := fun _ => fun
  | [d1, d2] => { results := [.lit (.bool false)], args := [d1, d2] }
  | _ => none }
def LzBackWrongFalsely : Prop := lzBackRow.holds Try.pinned (OpenSpec.ofChange lzBackWrong)

/-- 'packthreadkeep.LzRuns': WHATEVER THE INPUT: true; the input reads as it did. -/
def lzRunsSpec : ChangeSpec := { name := "lzRuns", fn := fun _ => fun
  | [d1, d2] => { results := [.lit (.bool true)], args := [d1, d2] }
  | _ => none }
def lzRunsRow : OpenClaim := { program := "ytomibkfpeiceoaa", sum := "80328a625c7ad26726827fe5b400615f71685b8b8a780e969617bbe204baca04", func := "packthread/packthreadkeep.LzRuns", spec := "lzRuns", plainKeys := false, apart := false }
def LzRunsSaid : Prop := lzRunsRow.holds Try.pinned (OpenSpec.ofChange lzRunsSpec)

/-- ITS FALSE NEIGHBOUR: 'it returns false'. Refute it at one input. -/
def lzRunsWrong : ChangeSpec := { name := "lzRuns", fn := fun _ => fun
  | [d1, d2] => { results := [.lit (.bool false)], args := [d1, d2] }
  | _ => none }
def LzRunsWrongFalsely : Prop := lzRunsRow.holds Try.pinned (OpenSpec.ofChange lzRunsWrong)

/-- 'packthreadkeep.LzBegins': WHATEVER THE INPUT: true; the input reads as it did. -/
def lzBeginsSpec : ChangeSpec := { name := "lzBegins", fn := fun _ => fun
  | [d1, d2, d3] => { results := [.lit (.bool true)], args := [d1, d2, d3] }
  | _ => none }
def lzBeginsRow : OpenClaim := { program := "ytomibkfpeiceoaa", sum := "80328a625c7ad26726827fe5b400615f71685b8b8a780e969617bbe204baca04", func := "packthread/packthreadkeep.LzBegins", spec := "lzBegins", plainKeys := false, apart := false }
def LzBeginsSaid : Prop := lzBeginsRow.holds Try.pinned (OpenSpec.ofChange lzBeginsSpec)

/-- ITS FALSE NEIGHBOUR: 'it returns false'. Refute it at one input. -/
def lzBeginsWrong : ChangeSpec := { name := "lzBegins", fn := fun _ => fun
  | [d1, d2, d3] => { results := [.lit (.bool false)], args := [d1, d2, d3] }
  | _ => none }
def LzBeginsWrongFalsely : Prop := lzBeginsRow.holds Try.pinned (OpenSpec.ofChange lzBeginsWrong)

/-- 'packthreadkeep.ExpandParts': WHATEVER THE INPUT: true; the input reads as it did. -/
def expandPartsSpec : ChangeSpec := { name := "expandParts", fn := fun _ => fun
  | [d1, d2, d3] => { results := [.lit (.bool true)], args := [d1, d2, d3] }
  | _ => none }
def expandPartsRow : OpenClaim := { program := "ytomibkfpeiceoaa", sum := "80328a625c7ad26726827fe5b400615f71685b8b8a780e969617bbe204baca04", func := "packthread/packthreadkeep.ExpandParts", spec := "expandParts", plainKeys := false, apart := false }
def ExpandPartsSaid : Prop := expandPartsRow.holds Try.pinned (OpenSpec.ofChange expandPartsSpec)

/-- ITS FALSE NEIGHBOUR: 'it returns false'. Refute it at one input. -/
def expandPartsWrong : ChangeSpec := { name := "expandParts", fn := fun _ => fun
  | [d1, d2, d3] => { results := [.lit (.bool false)], args := [d1, d2, d3] }
  | _ => none }
def ExpandPartsWrongFalsely : Prop := expandPartsRow.holds Try.pinned (OpenSpec.ofChange expandPartsWrong)

/-- 'packthreadkeep.LzFresh': WHATEVER THE INPUT: true; the input reads as it did. -/
def lzFreshSpec : ChangeSpec := { name := "lzFresh", fn := fun _ => fun
  | [d1, d2] => { results := [.lit (.bool true)], args := [d1, d2] }
  | _ => none }
def lzFreshRow : OpenClaim := { program := "ytomibkfpeiceoaa", sum := "80328a625c7ad26726827fe5b400615f71685b8b8a780e969617bbe204baca04", func := "packthread/packthreadkeep.LzFresh", spec := "lzFresh", plainKeys := false, apart := false }
def LzFreshSaid : Prop := lzFreshRow.holds Try.pinned (OpenSpec.ofChange lzFreshSpec)

/-- ITS FALSE NEIGHBOUR: 'it returns false'. Refute it at one input. -/
def lzFreshWrong : ChangeSpec := { name := "lzFresh", fn := fun _ => fun
  | [d1, d2] => { results := [.lit (.bool false)], args := [d1, d2] }
  | _ => none }
def LzFreshWrongFalsely : Prop := lzFreshRow.holds Try.pinned (OpenSpec.ofChange lzFreshWrong)

/-- 'packthreadkeep.HoleKnows': WHATEVER THE INPUT: true; the input reads as it did. -/
def holeKnowsSpec : ChangeSpec := { name := "holeKnows", fn := fun _ => fun
  | [d1, d2, d3] => { results := [.lit (.bool true)], args := [d1, d2, d3] }
  | _ => none }
def holeKnowsRow : OpenClaim := { program := "ytomibkfpeiceoaa", sum := "80328a625c7ad26726827fe5b400615f71685b8b8a780e969617bbe204baca04", func := "packthread/packthreadkeep.HoleKnows", spec := "holeKnows", plainKeys := false, apart := false }
def HoleKnowsSaid : Prop := holeKnowsRow.holds Try.pinned (OpenSpec.ofChange holeKnowsSpec)

/-- ITS FALSE NEIGHBOUR: 'it returns false'. Refute it at one input. -/
def holeKnowsWrong : ChangeSpec := { name := "holeKnows", fn := fun _ => fun
  | [d1, d2, d3] => { results := [.lit (.bool false)], args := [d1, d2, d3] }
  | _ => none }
def HoleKnowsWrongFalsely : Prop := holeKnowsRow.holds Try.pinned (OpenSpec.ofChange holeKnowsWrong)

/-- 'packthreadkeep.HoleGrows': WHATEVER THE INPUT: true; the input reads as it did. -/
def holeGrowsSpec : ChangeSpec := { name := "holeGrows", fn := fun _ => fun
  | [d1, d2, d3, d4] => { results := [.lit (.bool true)], args := [d1, d2, d3, d4] }
  | _ => none }
def holeGrowsRow : OpenClaim := { program := "ytomibkfpeiceoaa", sum := "80328a625c7ad26726827fe5b400615f71685b8b8a780e969617bbe204baca04", func := "packthread/packthreadkeep.HoleGrows", spec := "holeGrows", plainKeys := false, apart := false }
def HoleGrowsSaid : Prop := holeGrowsRow.holds Try.pinned (OpenSpec.ofChange holeGrowsSpec)

/-- ITS FALSE NEIGHBOUR: 'it returns false'. Refute it at one input. -/
def holeGrowsWrong : ChangeSpec := { name := "holeGrows", fn := fun _ => fun
  | [d1, d2, d3, d4] => { results := [.lit (.bool false)], args := [d1, d2, d3, d4] }
  | _ => none }
def HoleGrowsWrongFalsely : Prop := holeGrowsRow.holds Try.pinned (OpenSpec.ofChange holeGrowsWrong)

/-- 'packthreadkeep.HoleGapsAll': WHATEVER THE INPUT: true; the input reads as it did. -/
def holeGapsAllSpec : ChangeSpec := { name := "holeGapsAll", fn := fun _ => fun
  | [d1, d2] => { results := [.lit (.bool true)], args := [d1, d2] }
  | _ => none }
def holeGapsAllRow : OpenClaim := { program := "ytomibkfpeiceoaa", sum := "80328a625c7ad26726827fe5b400615f71685b8b8a780e969617bbe204baca04", func := "packthread/packthreadkeep.HoleGapsAll", spec := "holeGapsAll", plainKeys := false, apart := false }
def HoleGapsAllSaid : Prop := holeGapsAllRow.holds Try.pinned (OpenSpec.ofChange holeGapsAllSpec)

/-- ITS FALSE NEIGHBOUR: 'it returns false'. Refute it at one input. -/
def holeGapsAllWrong : ChangeSpec := { name := "holeGapsAll", fn := fun _ => fun
  | [d1, d2] => { results := [.lit (.bool false)], args := [d1, d2] }
  | _ => none }
def HoleGapsAllWrongFalsely : Prop := holeGapsAllRow.holds Try.pinned (OpenSpec.ofChange holeGapsAllWrong)

/- THE SECOND FORM. 'bulk': how many values and letters a reading holds, each counted each time it is reached (what is shared counts as often as it is met; a slice's spare places count too). A statement '..UptoSaid' is the law's where the arguments, and the package variables that the reading takes, are together of bulk at most 1048576: NARROWER than '..Said'. Prove '..Said' where nothing that the law and all that it calls make is longer than what came in: it says more and counts as full. Else prove '..UptoSaid'. A law counts once. -/
mutual
def uptoBulk {H : Type} : DataW H → Nat
  | .lit (.string bytes) => bytes.length + 1
  | .lit _ => 1
  | .nil => 1
  | .ptr d => uptoBulk d + 1
  | .slice elems spare => uptoBulkAll elems + uptoBulkAll spare + 1
  | .agg parts => uptoBulkAll parts + 1
  | .iface _ d => uptoBulk d + 1
  | .map entries => uptoBulkEntries entries + 1
  | .held _ => 1
def uptoBulkAll {H : Type} : List (DataW H) → Nat
  | [] => 0
  | d :: r => uptoBulk d + uptoBulkAll r
def uptoBulkEntries {H : Type} : List (Lit × DataW H) → Nat
  | [] => 0
  | x :: r => uptoBulkEntry x + uptoBulkEntries r
def uptoBulkEntry {H : Type} : Lit × DataW H → Nat
  | (.string bytes, d) => bytes.length + uptoBulk d + 1
  | (_, d) => uptoBulk d + 1
 end
def uptoSmall : (H : Type) → List (DataW H) → Bool := fun _ ds => decide (uptoBulkAll ds ≤ 1048576)
def OpenSpec.upto (s : _root_.Go.ChangeSpec) : _root_.Go.OpenSpec := { _root_.Go.OpenSpec.ofChange s with cond := some uptoSmall }

/-- 'packthreadkeep.InetTurned', WHERE WHAT IT READS IS OF BULK AT MOST 1048576: true; the input reads as it did. -/
def inetTurnedUptoRow : OpenClaim := { program := "ytomibkfpeiceoaa", sum := "80328a625c7ad26726827fe5b400615f71685b8b8a780e969617bbe204baca04", func := "packthread/packthreadkeep.InetTurned", spec := "inetTurned", plainKeys := false, apart := false, narrowed := true }
def InetTurnedUptoSaid : Prop := inetTurnedUptoRow.holds Try.pinned (OpenSpec.upto inetTurnedSpec)

/-- 'packthreadkeep.PatchParts', WHERE WHAT IT READS IS OF BULK AT MOST 1048576: true; the input reads as it did. -/
def patchPartsUptoRow : OpenClaim := { program := "ytomibkfpeiceoaa", sum := "80328a625c7ad26726827fe5b400615f71685b8b8a780e969617bbe204baca04", func := "packthread/packthreadkeep.PatchParts", spec := "patchParts", unfollowed := true, recurses := true, plainKeys := false, apart := false, narrowed := true }
def PatchPartsUptoSaid : Prop := patchPartsUptoRow.holds Try.pinned (OpenSpec.upto patchPartsSpec)

/-- 'packthreadkeep.DeltaSmall', WHERE WHAT IT READS IS OF BULK AT MOST 1048576: true; the input reads as it did. -/
def deltaSmallUptoRow : OpenClaim := { program := "ytomibkfpeiceoaa", sum := "80328a625c7ad26726827fe5b400615f71685b8b8a780e969617bbe204baca04", func := "packthread/packthreadkeep.DeltaSmall", spec := "deltaSmall", plainKeys := false, apart := false, narrowed := true }
def DeltaSmallUptoSaid : Prop := deltaSmallUptoRow.holds Try.pinned (OpenSpec.upto deltaSmallSpec)

/-- 'packthreadkeep.DeltaBack', WHERE WHAT IT READS IS OF BULK AT MOST 1048576: true; the input reads as it did. -/
def deltaBackUptoRow : OpenClaim := { program := "ytomibkfpeiceoaa", sum := "80328a625c7ad26726827fe5b400615f71685b8b8a780e969617bbe204baca04", func := "packthread/packthreadkeep.DeltaBack", spec := "deltaBack", plainKeys := false, apart := false, narrowed := true }
def DeltaBackUptoSaid : Prop := deltaBackUptoRow.holds Try.pinned (OpenSpec.upto deltaBackSpec)

/-- 'packthreadkeep.LzBack', WHERE WHAT IT READS IS OF BULK AT MOST 1048576: true; the input reads as it did. -/
def lzBackUptoRow : OpenClaim := { program := "ytomibkfpeiceoaa", sum := "80328a625c7ad26726827fe5b400615f71685b8b8a780e969617bbe204baca04", func := "packthread/packthreadkeep.LzBack", spec := "lzBack", plainKeys := false, apart := false, narrowed := true }
def LzBackUptoSaid : Prop := lzBackUptoRow.holds Try.pinned (OpenSpec.upto lzBackSpec)

/-- 'packthreadkeep.LzRuns', WHERE WHAT IT READS IS OF BULK AT MOST 1048576: true; the input reads as it did. -/
def lzRunsUptoRow : OpenClaim := { program := "ytomibkfpeiceoaa", sum := "80328a625c7ad26726827fe5b400615f71685b8b8a780e969617bbe204baca04", func := "packthread/packthreadkeep.LzRuns", spec := "lzRuns", plainKeys := false, apart := false, narrowed := true }
def LzRunsUptoSaid : Prop := lzRunsUptoRow.holds Try.pinned (OpenSpec.upto lzRunsSpec)

/-- 'packthreadkeep.LzBegins', WHERE WHAT IT READS IS OF BULK AT MOST 1048576: true; the input reads as it did. -/
def lzBeginsUptoRow : OpenClaim := { program := "ytomibkfpeiceoaa", sum := "80328a625c7ad26726827fe5b400615f71685b8b8a780e969617bbe204baca04", func := "packthread/packthreadkeep.LzBegins", spec := "lzBegins", plainKeys := false, apart := false, narrowed := true }
def LzBeginsUptoSaid : Prop := lzBeginsUptoRow.holds Try.pinned (OpenSpec.upto lzBeginsSpec)

/-- 'packthreadkeep.ExpandParts', WHERE WHAT IT READS IS OF BULK AT MOST 1048576: true; the input reads as it did. -/
def expandPartsUptoRow : OpenClaim := { program := "ytomibkfpeiceoaa", sum := "80328a625c7ad26726827fe5b400615f71685b8b8a780e969617bbe204baca04", func := "packthread/packthreadkeep.ExpandParts", spec := "expandParts", plainKeys := false, apart := false, narrowed := true }
def ExpandPartsUptoSaid : Prop := expandPartsUptoRow.holds Try.pinned (OpenSpec.upto expandPartsSpec)

/-- 'packthreadkeep.LzFresh', WHERE WHAT IT READS IS OF BULK AT MOST 1048576: true; the input reads as it did. -/
def lzFreshUptoRow : OpenClaim := { program := "ytomibkfpeiceoaa", sum := "80328a625c7ad26726827fe5b400615f71685b8b8a780e969617bbe204baca04", func := "packthread/packthreadkeep.LzFresh", spec := "lzFresh", plainKeys := false, apart := false, narrowed := true }
def LzFreshUptoSaid : Prop := lzFreshUptoRow.holds Try.pinned (OpenSpec.upto lzFreshSpec)

/-- 'packthreadkeep.HoleKnows', WHERE WHAT IT READS IS OF BULK AT MOST 1048576: true; the input reads as it did. -/
def holeKnowsUptoRow : OpenClaim := { program := "ytomibkfpeiceoaa", sum := "80328a625c7ad26726827fe5b400615f71685b8b8a780e969617bbe204baca04", func := "packthread/packthreadkeep.HoleKnows", spec := "holeKnows", plainKeys := false, apart := false, narrowed := true }
def HoleKnowsUptoSaid : Prop := holeKnowsUptoRow.holds Try.pinned (OpenSpec.upto holeKnowsSpec)

/-- 'packthreadkeep.HoleGrows', WHERE WHAT IT READS IS OF BULK AT MOST 1048576: true; the input reads as it did. -/
def holeGrowsUptoRow : OpenClaim := { program := "ytomibkfpeiceoaa", sum := "80328a625c7ad26726827fe5b400615f71685b8b8a780e969617bbe204baca04", func := "packthread/packthreadkeep.HoleGrows", spec := "holeGrows", plainKeys := false, apart := false, narrowed := true }
def HoleGrowsUptoSaid : Prop := holeGrowsUptoRow.holds Try.pinned (OpenSpec.upto holeGrowsSpec)

/-- 'packthreadkeep.HoleGapsAll', WHERE WHAT IT READS IS OF BULK AT MOST 1048576: true; the input reads as it did. -/
def holeGapsAllUptoRow : OpenClaim := { program := "ytomibkfpeiceoaa", sum := "80328a625c7ad26726827fe5b400615f71685b8b8a780e969617bbe204baca04", func := "packthread/packthreadkeep.HoleGapsAll", spec := "holeGapsAll", plainKeys := false, apart := false, narrowed := true }
def HoleGapsAllUptoSaid : Prop := holeGapsAllUptoRow.holds Try.pinned (OpenSpec.upto holeGapsAllSpec)

end Rows
end Go.Proofs.Ytomibkfpeiceoaa
