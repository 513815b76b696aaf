/-
  No cell of these rows narrows 'for every input' (looked for: loops, veiled, ifaces, maps, wideKeys, modest, calm, conditions, laid).
  DERIVED. THE GIVEN ROWS OF THIS SEAT. 12 by the template 'for every input the law returns true; each argument reads behind the call as it read before'; 0 by the template 'total and deterministic' (their statements: YtkfpbiljekfibaaTotals.lean).
  GIVEN WITH THE SEED: the statements are not yours to turn. If you find one false, say at which input.
  Laid BY PROGRAM, IN A SANDBOX (cutbox-rows.mjs): the forced cells as the released guide's own fill.sh prints them over the translation 7169c758f42e95fc… (all of the seat's roots in one cut). By AI agents, Wed Nov 11 2026. No macro, syntax, notation, axiom, sorry.
-/
import Derived.Test.YtkfpbiljekfibaaChecked
import GoSem.Claim
import GoSem.ClaimJoined
import GoSem.ClaimMapViews
import Derived.JoinedTies
import Derived.KernelRfl
namespace Go.Proofs.Ytkfpbiljekfibaa
/- THE CELL 'sum', in the pinned program and in every row, IS THE sha256 OF THE DUMP (.gsa) THAT YtkfpbiljekfibaaProg.lean LOADS. Nothing in Lean hashes anything: it is a label: what it is worth is what the hold of that sum in a sandbox is worth. -/
noncomputable def Try.pinned : Pinned := { name := "ytkfpbiljekfibaa", sum := "7169c758f42e95fca01c77c87cf48ffdd101df182b32a6bc20c37a6e6eb4a538", checked := Try.checked }
namespace Rows
def none {H : Type} : Left H := { results := [], args := [] }

/-- 'packthreadkeep.RtoGood': WHATEVER THE INPUT: true; the input reads as it did. -/
def rtoGoodSpec : ChangeSpec := { name := "rtoGood", fn := fun _ => fun
  | [d1, d2] => { results := [.lit (.bool true)], args := [d1, d2] }
  | _ => none }
def rtoGoodRow : OpenClaim := { program := "ytkfpbiljekfibaa", sum := "7169c758f42e95fca01c77c87cf48ffdd101df182b32a6bc20c37a6e6eb4a538", func := "packthread/packthreadkeep.RtoGood", spec := "rtoGood", apart := false }
def RtoGoodSaid : Prop := rtoGoodRow.holds Try.pinned (OpenSpec.ofChange rtoGoodSpec)

/-- ITS FALSE NEIGHBOUR: 'it returns false'. Refute it at one input. -/
def rtoGoodWrong : ChangeSpec := { name := "rtoGood", fn := fun _ => fun
  | [d1, d2] => { results := [.lit (.bool false)], args := [d1, d2] }
  | _ => none }
def RtoGoodWrongFalsely : Prop := rtoGoodRow.holds Try.pinned (OpenSpec.ofChange rtoGoodWrong)

/-- 'packthreadkeep.RtoBetween': WHATEVER THE INPUT: true; the input reads as it did. -/
def rtoBetweenSpec : ChangeSpec := { name := "rtoBetween", fn := fun _ => fun
  | [d1, d2] => { results := [.lit (.bool true)], args := [d1, d2] }
  | _ => none }
def rtoBetweenRow : OpenClaim := { program := "ytkfpbiljekfibaa", sum := "7169c758f42e95fca01c77c87cf48ffdd101df182b32a6bc20c37a6e6eb4a538", func := "packthread/packthreadkeep.RtoBetween", spec := "rtoBetween", apart := false }
def RtoBetweenSaid : Prop := rtoBetweenRow.holds Try.pinned (OpenSpec.ofChange rtoBetweenSpec)

/-- ITS FALSE NEIGHBOUR: 'it returns false'. Refute it at one input. -/
def rtoBetweenWrong : ChangeSpec := { name := "rtoBetween", fn := fun _ => fun
  | [d1, d2] => { results := [.lit (.bool false)], args := [d1, d2] }
  | _ => none }
def RtoBetweenWrongFalsely : Prop := rtoBetweenRow.holds Try.pinned (OpenSpec.ofChange rtoBetweenWrong)

/-- 'packthreadkeep.RtoMeets': WHATEVER THE INPUT: true; the input reads as it did. -/
def rtoMeetsSpec : ChangeSpec := { name := "rtoMeets", fn := fun _ => fun
  | [d1, d2] => { results := [.lit (.bool true)], args := [d1, d2] }
  | _ => none }
def rtoMeetsRow : OpenClaim := { program := "ytkfpbiljekfibaa", sum := "7169c758f42e95fca01c77c87cf48ffdd101df182b32a6bc20c37a6e6eb4a538", func := "packthread/packthreadkeep.RtoMeets", spec := "rtoMeets", apart := false }
def RtoMeetsSaid : Prop := rtoMeetsRow.holds Try.pinned (OpenSpec.ofChange rtoMeetsSpec)

/-- ITS FALSE NEIGHBOUR: 'it returns false'. Refute it at one input. -/
def rtoMeetsWrong : ChangeSpec := { name := "rtoMeets", fn := fun _ => fun
  | [d1, d2] => { results := [.lit (.bool false)], args := [d1, d2] }
  | _ => none }
def RtoMeetsWrongFalsely : Prop := rtoMeetsRow.holds Try.pinned (OpenSpec.ofChange rtoMeetsWrong)

/-- 'packthreadkeep.RtoDoubles': WHATEVER THE INPUT: true; the input reads as it did. -/
def rtoDoublesSpec : ChangeSpec := { name := "rtoDoubles", fn := fun _ => fun
  | [d1, d2] => { results := [.lit (.bool true)], args := [d1, d2] }
  | _ => none }
def rtoDoublesRow : OpenClaim := { program := "ytkfpbiljekfibaa", sum := "7169c758f42e95fca01c77c87cf48ffdd101df182b32a6bc20c37a6e6eb4a538", func := "packthread/packthreadkeep.RtoDoubles", spec := "rtoDoubles", apart := false }
def RtoDoublesSaid : Prop := rtoDoublesRow.holds Try.pinned (OpenSpec.ofChange rtoDoublesSpec)

/-- ITS FALSE NEIGHBOUR: 'it returns false'. Refute it at one input. -/
def rtoDoublesWrong : ChangeSpec := { name := "rtoDoubles", fn := fun _ => fun
  | [d1, d2] => { results := [.lit (.bool false)], args := [d1, d2] }
  | _ => none }
def RtoDoublesWrongFalsely : Prop := rtoDoublesRow.holds Try.pinned (OpenSpec.ofChange rtoDoublesWrong)

/-- 'packthreadkeep.BucketHolds': WHATEVER THE INPUT: true; the input reads as it did. -/
def bucketHoldsSpec : ChangeSpec := { name := "bucketHolds", fn := fun _ => fun
  | [d1, d2, d3, d4, d5] => { results := [.lit (.bool true)], args := [d1, d2, d3, d4, d5] }
  | _ => none }
def bucketHoldsRow : OpenClaim := { program := "ytkfpbiljekfibaa", sum := "7169c758f42e95fca01c77c87cf48ffdd101df182b32a6bc20c37a6e6eb4a538", func := "packthread/packthreadkeep.BucketHolds", spec := "bucketHolds", apart := false }
def BucketHoldsSaid : Prop := bucketHoldsRow.holds Try.pinned (OpenSpec.ofChange bucketHoldsSpec)

/-- ITS FALSE NEIGHBOUR: 'it returns false'. Refute it at one input. -/
def bucketHoldsWrong : ChangeSpec := { name := "bucketHolds", fn := fun _ => fun
  | [d1, d2, d3, d4, d5] => { results := [.lit (.bool false)], args := [d1, d2, d3, d4, d5] }
  | _ => none }
def BucketHoldsWrongFalsely : Prop := bucketHoldsRow.holds Try.pinned (OpenSpec.ofChange bucketHoldsWrong)

/-- 'packthreadkeep.BucketKind': WHATEVER THE INPUT: true; the input reads as it did. -/
def bucketKindSpec : ChangeSpec := { name := "bucketKind", fn := fun _ => fun
  | [d1, d2, d3, d4] => { results := [.lit (.bool true)], args := [d1, d2, d3, d4] }
  | _ => none }
def bucketKindRow : OpenClaim := { program := "ytkfpbiljekfibaa", sum := "7169c758f42e95fca01c77c87cf48ffdd101df182b32a6bc20c37a6e6eb4a538", func := "packthread/packthreadkeep.BucketKind", spec := "bucketKind", apart := false }
def BucketKindSaid : Prop := bucketKindRow.holds Try.pinned (OpenSpec.ofChange bucketKindSpec)

/-- ITS FALSE NEIGHBOUR: 'it returns false'. Refute it at one input. -/
def bucketKindWrong : ChangeSpec := { name := "bucketKind", fn := fun _ => fun
  | [d1, d2, d3, d4] => { results := [.lit (.bool false)], args := [d1, d2, d3, d4] }
  | _ => none }
def BucketKindWrongFalsely : Prop := bucketKindRow.holds Try.pinned (OpenSpec.ofChange bucketKindWrong)

/-- 'packthreadkeep.BucketRests': WHATEVER THE INPUT: true; the input reads as it did. -/
def bucketRestsSpec : ChangeSpec := { name := "bucketRests", fn := fun _ => fun
  | [d1, d2, d3, d4] => { results := [.lit (.bool true)], args := [d1, d2, d3, d4] }
  | _ => none }
def bucketRestsRow : OpenClaim := { program := "ytkfpbiljekfibaa", sum := "7169c758f42e95fca01c77c87cf48ffdd101df182b32a6bc20c37a6e6eb4a538", func := "packthread/packthreadkeep.BucketRests", spec := "bucketRests", apart := false }
def BucketRestsSaid : Prop := bucketRestsRow.holds Try.pinned (OpenSpec.ofChange bucketRestsSpec)

/-- ITS FALSE NEIGHBOUR: 'it returns false'. Refute it at one input. -/
def bucketRestsWrong : ChangeSpec := { name := "bucketRests", fn := fun _ => fun
  | [d1, d2, d3, d4] => { results := [.lit (.bool false)], args := [d1, d2, d3, d4] }
  | _ => none }
def BucketRestsWrongFalsely : Prop := bucketRestsRow.holds Try.pinned (OpenSpec.ofChange bucketRestsWrong)

/-- 'packthreadkeep.BucketLater': WHATEVER THE INPUT: true; the input reads as it did. -/
def bucketLaterSpec : ChangeSpec := { name := "bucketLater", fn := fun _ => fun
  | [d1, d2, d3, d4] => { results := [.lit (.bool true)], args := [d1, d2, d3, d4] }
  | _ => none }
def bucketLaterRow : OpenClaim := { program := "ytkfpbiljekfibaa", sum := "7169c758f42e95fca01c77c87cf48ffdd101df182b32a6bc20c37a6e6eb4a538", func := "packthread/packthreadkeep.BucketLater", spec := "bucketLater", apart := false }
def BucketLaterSaid : Prop := bucketLaterRow.holds Try.pinned (OpenSpec.ofChange bucketLaterSpec)

/-- ITS FALSE NEIGHBOUR: 'it returns false'. Refute it at one input. -/
def bucketLaterWrong : ChangeSpec := { name := "bucketLater", fn := fun _ => fun
  | [d1, d2, d3, d4] => { results := [.lit (.bool false)], args := [d1, d2, d3, d4] }
  | _ => none }
def BucketLaterWrongFalsely : Prop := bucketLaterRow.holds Try.pinned (OpenSpec.ofChange bucketLaterWrong)

/-- 'packthreadkeep.CongGood': WHATEVER THE INPUT: true; the input reads as it did. -/
def congGoodSpec : ChangeSpec := { name := "congGood", fn := fun _ => fun
  | [d] => { results := [.lit (.bool true)], args := [d] }
  | _ => none }
def congGoodRow : OpenClaim := { program := "ytkfpbiljekfibaa", sum := "7169c758f42e95fca01c77c87cf48ffdd101df182b32a6bc20c37a6e6eb4a538", func := "packthread/packthreadkeep.CongGood", spec := "congGood", apart := false }
def CongGoodSaid : Prop := congGoodRow.holds Try.pinned (OpenSpec.ofChange congGoodSpec)

/-- ITS FALSE NEIGHBOUR: 'it returns false'. Refute it at one input. -/
def congGoodWrong : ChangeSpec := { name := "congGood", fn := fun _ => fun
  | [d] => { results := [.lit (.bool false)], args := [d] }
  | _ => none }
def CongGoodWrongFalsely : Prop := congGoodRow.holds Try.pinned (OpenSpec.ofChange congGoodWrong)

/-- 'packthreadkeep.CongParts': WHATEVER THE INPUT: true; the input reads as it did. -/
def congPartsSpec : ChangeSpec := { name := "congParts", fn := fun _ => fun
  | [d1, d2] => { results := [.lit (.bool true)], args := [d1, d2] }
  | _ => none }
def congPartsRow : OpenClaim := { program := "ytkfpbiljekfibaa", sum := "7169c758f42e95fca01c77c87cf48ffdd101df182b32a6bc20c37a6e6eb4a538", func := "packthread/packthreadkeep.CongParts", spec := "congParts", apart := false }
def CongPartsSaid : Prop := congPartsRow.holds Try.pinned (OpenSpec.ofChange congPartsSpec)

/-- ITS FALSE NEIGHBOUR: 'it returns false'. Refute it at one input. -/
def congPartsWrong : ChangeSpec := { name := "congParts", fn := fun _ => fun
  | [d1, d2] => { results := [.lit (.bool false)], args := [d1, d2] }
  | _ => none }
def CongPartsWrongFalsely : Prop := congPartsRow.holds Try.pinned (OpenSpec.ofChange congPartsWrong)

/-- 'packthreadkeep.CongSteps': WHATEVER THE INPUT: true; the input reads as it did. -/
def congStepsSpec : ChangeSpec := { name := "congSteps", fn := fun _ => fun
  | [d] => { results := [.lit (.bool true)], args := [d] }
  | _ => none }
def congStepsRow : OpenClaim := { program := "ytkfpbiljekfibaa", sum := "7169c758f42e95fca01c77c87cf48ffdd101df182b32a6bc20c37a6e6eb4a538", func := "packthread/packthreadkeep.CongSteps", spec := "congSteps", apart := false }
def CongStepsSaid : Prop := congStepsRow.holds Try.pinned (OpenSpec.ofChange congStepsSpec)

/-- ITS FALSE NEIGHBOUR: 'it returns false'. Refute it at one input. -/
def congStepsWrong : ChangeSpec := { name := "congSteps", fn := fun _ => fun
  | [d] => { results := [.lit (.bool false)], args := [d] }
  | _ => none }
def CongStepsWrongFalsely : Prop := congStepsRow.holds Try.pinned (OpenSpec.ofChange congStepsWrong)

/-- 'packthreadkeep.CongFair': WHATEVER THE INPUT: true; the input reads as it did. -/
def congFairSpec : ChangeSpec := { name := "congFair", fn := fun _ => fun
  | [d1, d2] => { results := [.lit (.bool true)], args := [d1, d2] }
  | _ => none }
def congFairRow : OpenClaim := { program := "ytkfpbiljekfibaa", sum := "7169c758f42e95fca01c77c87cf48ffdd101df182b32a6bc20c37a6e6eb4a538", func := "packthread/packthreadkeep.CongFair", spec := "congFair", unfollowed := true, recurses := true, apart := false }
def CongFairSaid : Prop := congFairRow.holds Try.pinned (OpenSpec.ofChange congFairSpec)

/-- ITS FALSE NEIGHBOUR: 'it returns false'. Refute it at one input. -/
def congFairWrong : ChangeSpec := { name := "congFair", fn := fun _ => fun
  | [d1, d2] => { results := [.lit (.bool false)], args := [d1, d2] }
  | _ => none }
def CongFairWrongFalsely : Prop := congFairRow.holds Try.pinned (OpenSpec.ofChange congFairWrong)

/- THE SECOND FORM. 'bulk': how many values and letters a reading holds, each counted each time it is reached (what is shared counts as often as it is met; a slice's spare places count too). A statement '..UptoSaid' is the law's where the arguments, and the package variables that the reading takes, are together of bulk at most 1048576: NARROWER than '..Said'. Prove '..Said' where nothing that the law and all that it calls make is longer than what came in: it says more and counts as full. Else prove '..UptoSaid'. A law counts once. -/
mutual
def uptoBulk {H : Type} : DataW H → Nat
  | .lit (.string bytes) => bytes.length + 1
  | .lit _ => 1
  | .nil => 1
  | .ptr d => uptoBulk d + 1
  | .slice elems spare => uptoBulkAll elems + uptoBulkAll spare + 1
  | .agg parts => uptoBulkAll parts + 1
  | .iface _ d => uptoBulk d + 1
  | .map entries => uptoBulkEntries entries + 1
  | .held _ => 1
def uptoBulkAll {H : Type} : List (DataW H) → Nat
  | [] => 0
  | d :: r => uptoBulk d + uptoBulkAll r
def uptoBulkEntries {H : Type} : List (Lit × DataW H) → Nat
  | [] => 0
  | x :: r => uptoBulkEntry x + uptoBulkEntries r
def uptoBulkEntry {H : Type} : Lit × DataW H → Nat
  | (.string bytes, d) => bytes.length + uptoBulk d + 1
  | (_, d) => uptoBulk d + 1
 end
def uptoSmall : (H : Type) → List (DataW H) → Bool := fun _ ds => decide (uptoBulkAll ds ≤ 1048576)
def OpenSpec.upto (s : _root_.Go.ChangeSpec) : _root_.Go.OpenSpec := { _root_.Go.OpenSpec.ofChange s with cond := some uptoSmall }

/-- 'packthreadkeep.RtoGood', WHERE WHAT IT READS IS OF BULK AT MOST 1048576: true; the input reads as it did. -/
def rtoGoodUptoRow : OpenClaim := { program := "ytkfpbiljekfibaa", sum := "7169c758f42e95fca01c77c87cf48ffdd101df182b32a6bc20c37a6e6eb4a538", func := "packthread/packthreadkeep.RtoGood", spec := "rtoGood", apart := false, narrowed := true }
def RtoGoodUptoSaid : Prop := rtoGoodUptoRow.holds Try.pinned (OpenSpec.upto rtoGoodSpec)

/-- 'packthreadkeep.RtoBetween', WHERE WHAT IT READS IS OF BULK AT MOST 1048576: true; the input reads as it did. -/
def rtoBetweenUptoRow : OpenClaim := { program := "ytkfpbiljekfibaa", sum := "7169c758f42e95fca01c77c87cf48ffdd101df182b32a6bc20c37a6e6eb4a538", func := "packthread/packthreadkeep.RtoBetween", spec := "rtoBetween", apart := false, narrowed := true }
def RtoBetweenUptoSaid : Prop := rtoBetweenUptoRow.holds Try.pinned (OpenSpec.upto rtoBetweenSpec)

/-- 'packthreadkeep.RtoMeets', WHERE WHAT IT READS IS OF BULK AT MOST 1048576: true; the input reads as it did. -/
def rtoMeetsUptoRow : OpenClaim := { program := "ytkfpbiljekfibaa", sum := "7169c758f42e95fca01c77c87cf48ffdd101df182b32a6bc20c37a6e6eb4a538", func := "packthread/packthreadkeep.RtoMeets", spec := "rtoMeets", apart := false, narrowed := true }
def RtoMeetsUptoSaid : Prop := rtoMeetsUptoRow.holds Try.pinned (OpenSpec.upto rtoMeetsSpec)

/-- 'packthreadkeep.RtoDoubles', WHERE WHAT IT READS IS OF BULK AT MOST 1048576: true; the input reads as it did. -/
def rtoDoublesUptoRow : OpenClaim := { program := "ytkfpbiljekfibaa", sum := "7169c758f42e95fca01c77c87cf48ffdd101df182b32a6bc20c37a6e6eb4a538", func := "packthread/packthreadkeep.RtoDoubles", spec := "rtoDoubles", apart := false, narrowed := true }
def RtoDoublesUptoSaid : Prop := rtoDoublesUptoRow.holds Try.pinned (OpenSpec.upto rtoDoublesSpec)

/-- 'packthreadkeep.BucketHolds', WHERE WHAT IT READS IS OF BULK AT MOST 1048576: true; the input reads as it did. -/
def bucketHoldsUptoRow : OpenClaim := { program := "ytkfpbiljekfibaa", sum := "7169c758f42e95fca01c77c87cf48ffdd101df182b32a6bc20c37a6e6eb4a538", func := "packthread/packthreadkeep.BucketHolds", spec := "bucketHolds", apart := false, narrowed := true }
def BucketHoldsUptoSaid : Prop := bucketHoldsUptoRow.holds Try.pinned (OpenSpec.upto bucketHoldsSpec)

/-- 'packthreadkeep.BucketKind', WHERE WHAT IT READS IS OF BULK AT MOST 1048576: true; the input reads as it did. -/
def bucketKindUptoRow : OpenClaim := { program := "ytkfpbiljekfibaa", sum := "7169c758f42e95fca01c77c87cf48ffdd101df182b32a6bc20c37a6e6eb4a538", func := "packthread/packthreadkeep.BucketKind", spec := "bucketKind", apart := false, narrowed := true }
def BucketKindUptoSaid : Prop := bucketKindUptoRow.holds Try.pinned (OpenSpec.upto bucketKindSpec)

/-- 'packthreadkeep.BucketRests', WHERE WHAT IT READS IS OF BULK AT MOST 1048576: true; the input reads as it did. -/
def bucketRestsUptoRow : OpenClaim := { program := "ytkfpbiljekfibaa", sum := "7169c758f42e95fca01c77c87cf48ffdd101df182b32a6bc20c37a6e6eb4a538", func := "packthread/packthreadkeep.BucketRests", spec := "bucketRests", apart := false, narrowed := true }
def BucketRestsUptoSaid : Prop := bucketRestsUptoRow.holds Try.pinned (OpenSpec.upto bucketRestsSpec)

/-- 'packthreadkeep.BucketLater', WHERE WHAT IT READS IS OF BULK AT MOST 1048576: true; the input reads as it did. -/
def bucketLaterUptoRow : OpenClaim := { program := "ytkfpbiljekfibaa", sum := "7169c758f42e95fca01c77c87cf48ffdd101df182b32a6bc20c37a6e6eb4a538", func := "packthread/packthreadkeep.BucketLater", spec := "bucketLater", apart := false, narrowed := true }
def BucketLaterUptoSaid : Prop := bucketLaterUptoRow.holds Try.pinned (OpenSpec.upto bucketLaterSpec)

/-- 'packthreadkeep.CongGood', WHERE WHAT IT READS IS OF BULK AT MOST 1048576: true; the input reads as it did. -/
def congGoodUptoRow : OpenClaim := { program := "ytkfpbiljekfibaa", sum := "7169c758f42e95fca01c77c87cf48ffdd101df182b32a6bc20c37a6e6eb4a538", func := "packthread/packthreadkeep.CongGood", spec := "congGood", apart := false, narrowed := true }
def CongGoodUptoSaid : Prop := congGoodUptoRow.holds Try.pinned (OpenSpec.upto congGoodSpec)

/-- 'packthreadkeep.CongParts', WHERE WHAT IT READS IS OF BULK AT MOST 1048576: true; the input reads as it did. -/
def congPartsUptoRow : OpenClaim := { program := "ytkfpbiljekfibaa", sum := "7169c758f42e95fca01c77c87cf48ffdd101df182b32a6bc20c37a6e6eb4a538", func := "packthread/packthreadkeep.CongParts", spec := "congParts", apart := false, narrowed := true }
def CongPartsUptoSaid : Prop := congPartsUptoRow.holds Try.pinned (OpenSpec.upto congPartsSpec)

/-- 'packthreadkeep.CongSteps', WHERE WHAT IT READS IS OF BULK AT MOST 1048576: true; the input reads as it did. -/
def congStepsUptoRow : OpenClaim := { program := "ytkfpbiljekfibaa", sum := "7169c758f42e95fca01c77c87cf48ffdd101df182b32a6bc20c37a6e6eb4a538", func := "packthread/packthreadkeep.CongSteps", spec := "congSteps", apart := false, narrowed := true }
def CongStepsUptoSaid : Prop := congStepsUptoRow.holds Try.pinned (OpenSpec.upto congStepsSpec)

/-- 'packthreadkeep.CongFair', WHERE WHAT IT READS IS OF BULK AT MOST 1048576: true; the input reads as it did. -/
def congFairUptoRow : OpenClaim := { program := "ytkfpbiljekfibaa", sum := "7169c758f42e95fca01c77c87cf48ffdd101df182b32a6bc20c37a6e6eb4a538", func := "packthread/packthreadkeep.CongFair", spec := "congFair", unfollowed := true, recurses := true, apart := false, narrowed := true }
def CongFairUptoSaid : Prop := congFairUptoRow.holds Try.pinned (OpenSpec.upto congFairSpec)

end Rows
end Go.Proofs.Ytkfpbiljekfibaa
