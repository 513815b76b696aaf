/-
  No cell of these rows narrows 'for every input' (looked for: loops, veiled, ifaces, maps, wideKeys, modest, calm, conditions, laid).
  DERIVED. THE GIVEN ROWS OF THIS SEAT. 5 by the template 'for every input the law returns true; each argument reads behind the call as it read before'; 0 by the template 'total and deterministic' (their statements: YtmkojbeongiimaaTotals.lean).
  GIVEN WITH THE SEED: the statements are not yours to turn. If you find one false, say at which input.
  Laid BY PROGRAM, IN A SANDBOX (cutbox-rows.mjs): the forced cells as the released guide's own fill.sh prints them over the translation fe6a765bb20872eb… (all of the seat's roots in one cut). By AI agents, Wed Nov 11 2026. No macro, syntax, notation, axiom, sorry.
-/
import Derived.Test.YtmkojbeongiimaaChecked
import GoSem.Claim
import GoSem.ClaimJoined
import GoSem.ClaimMapViews
import Derived.JoinedTies
import Derived.KernelRfl
namespace Go.Proofs.Ytmkojbeongiimaa
/- THE CELL 'sum', in the pinned program and in every row, IS THE sha256 OF THE DUMP (.gsa) THAT YtmkojbeongiimaaProg.lean LOADS. Nothing in Lean hashes anything: it is a label: what it is worth is what the hold of that sum in a sandbox is worth. -/
noncomputable def Try.pinned : Pinned := { name := "ytmkojbeongiimaa", sum := "fe6a765bb20872eb9bbb221046dfb7e20bd12373909998578a6ee88f108893ba", checked := Try.checked }
namespace Rows
def none {H : Type} : Left H := { results := [], args := [] }

/-- 'packthreadkeep.GlobParts': WHATEVER THE INPUT: true; the input reads as it did. -/
def globPartsSpec : ChangeSpec := { name := "globParts", fn := fun _ => fun
  | [d1, d2, d3] => { results := [.lit (.bool true)], args := [d1, d2, d3] }
  | _ => none }
def globPartsRow : OpenClaim := { program := "ytmkojbeongiimaa", sum := "fe6a765bb20872eb9bbb221046dfb7e20bd12373909998578a6ee88f108893ba", func := "packthread/packthreadkeep.GlobParts", spec := "globParts", apart := false }
def GlobPartsSaid : Prop := globPartsRow.holds Try.pinned (OpenSpec.ofChange globPartsSpec)

/-- ITS FALSE NEIGHBOUR: 'it returns false'. Refute it at one input. -/
def globPartsWrong : ChangeSpec := { name := "globParts", fn := fun _ => fun
  | [d1, d2, d3] => { results := [.lit (.bool false)], args := [d1, d2, d3] }
  | _ => none }
def GlobPartsWrongFalsely : Prop := globPartsRow.holds Try.pinned (OpenSpec.ofChange globPartsWrong)

/-- 'packthreadkeep.GlobSets': WHATEVER THE INPUT: true; the input reads as it did. -/
def globSetsSpec : ChangeSpec := { name := "globSets", fn := fun _ => fun
  | [d1, d2, d3] => { results := [.lit (.bool true)], args := [d1, d2, d3] }
  | _ => none }
def globSetsRow : OpenClaim := { program := "ytmkojbeongiimaa", sum := "fe6a765bb20872eb9bbb221046dfb7e20bd12373909998578a6ee88f108893ba", func := "packthread/packthreadkeep.GlobSets", spec := "globSets", apart := false }
def GlobSetsSaid : Prop := globSetsRow.holds Try.pinned (OpenSpec.ofChange globSetsSpec)

/-- ITS FALSE NEIGHBOUR: 'it returns false'. Refute it at one input. -/
def globSetsWrong : ChangeSpec := { name := "globSets", fn := fun _ => fun
  | [d1, d2, d3] => { results := [.lit (.bool false)], args := [d1, d2, d3] }
  | _ => none }
def GlobSetsWrongFalsely : Prop := globSetsRow.holds Try.pinned (OpenSpec.ofChange globSetsWrong)

/-- 'packthreadkeep.GlobMirror': WHATEVER THE INPUT: true; the input reads as it did. -/
def globMirrorSpec : ChangeSpec := { name := "globMirror", fn := fun _ => fun
  | [d1, d2] => { results := [.lit (.bool true)], args := [d1, d2] }
  | _ => none }
def globMirrorRow : OpenClaim := { program := "ytmkojbeongiimaa", sum := "fe6a765bb20872eb9bbb221046dfb7e20bd12373909998578a6ee88f108893ba", func := "packthread/packthreadkeep.GlobMirror", spec := "globMirror", apart := false }
def GlobMirrorSaid : Prop := globMirrorRow.holds Try.pinned (OpenSpec.ofChange globMirrorSpec)

/-- ITS FALSE NEIGHBOUR: 'it returns false'. Refute it at one input. -/
def globMirrorWrong : ChangeSpec := { name := "globMirror", fn := fun _ => fun
  | [d1, d2] => { results := [.lit (.bool false)], args := [d1, d2] }
  | _ => none }
def GlobMirrorWrongFalsely : Prop := globMirrorRow.holds Try.pinned (OpenSpec.ofChange globMirrorWrong)

/-- 'packthreadkeep.GlobHoles': WHATEVER THE INPUT: true; the input reads as it did. -/
def globHolesSpec : ChangeSpec := { name := "globHoles", fn := fun _ => fun
  | [d1, d2] => { results := [.lit (.bool true)], args := [d1, d2] }
  | _ => none }
def globHolesRow : OpenClaim := { program := "ytmkojbeongiimaa", sum := "fe6a765bb20872eb9bbb221046dfb7e20bd12373909998578a6ee88f108893ba", func := "packthread/packthreadkeep.GlobHoles", spec := "globHoles", apart := false }
def GlobHolesSaid : Prop := globHolesRow.holds Try.pinned (OpenSpec.ofChange globHolesSpec)

/-- ITS FALSE NEIGHBOUR: 'it returns false'. Refute it at one input. -/
def globHolesWrong : ChangeSpec := { name := "globHoles", fn := fun _ => fun
  | [d1, d2] => { results := [.lit (.bool false)], args := [d1, d2] }
  | _ => none }
def GlobHolesWrongFalsely : Prop := globHolesRow.holds Try.pinned (OpenSpec.ofChange globHolesWrong)

/-- 'packthreadkeep.PickOrder': WHATEVER THE INPUT: true; the input reads as it did. -/
def pickOrderSpec : ChangeSpec := { name := "pickOrder", fn := fun _ => fun
  | [d1, d2] => { results := [.lit (.bool true)], args := [d1, d2] }
  | _ => none }
def pickOrderRow : OpenClaim := { program := "ytmkojbeongiimaa", sum := "fe6a765bb20872eb9bbb221046dfb7e20bd12373909998578a6ee88f108893ba", func := "packthread/packthreadkeep.PickOrder", spec := "pickOrder", apart := false }
def PickOrderSaid : Prop := pickOrderRow.holds Try.pinned (OpenSpec.ofChange pickOrderSpec)

/-- ITS FALSE NEIGHBOUR: 'it returns false'. Refute it at one input. -/
def pickOrderWrong : ChangeSpec := { name := "pickOrder", fn := fun _ => fun
  | [d1, d2] => { results := [.lit (.bool false)], args := [d1, d2] }
  | _ => none }
def PickOrderWrongFalsely : Prop := pickOrderRow.holds Try.pinned (OpenSpec.ofChange pickOrderWrong)

/- THE SECOND FORM. 'bulk': how many values and letters a reading holds, each counted each time it is reached (what is shared counts as often as it is met; a slice's spare places count too). A statement '..UptoSaid' is the law's where the arguments, and the package variables that the reading takes, are together of bulk at most 1048576: NARROWER than '..Said'. Prove '..Said' where nothing that the law and all that it calls make is longer than what came in: it says more and counts as full. Else prove '..UptoSaid'. A law counts once. -/
mutual
def uptoBulk {H : Type} : DataW H → Nat
  | .lit (.string bytes) => bytes.length + 1
  | .lit _ => 1
  | .nil => 1
  | .ptr d => uptoBulk d + 1
  | .slice elems spare => uptoBulkAll elems + uptoBulkAll spare + 1
  | .agg parts => uptoBulkAll parts + 1
  | .iface _ d => uptoBulk d + 1
  | .map entries => uptoBulkEntries entries + 1
  | .held _ => 1
def uptoBulkAll {H : Type} : List (DataW H) → Nat
  | [] => 0
  | d :: r => uptoBulk d + uptoBulkAll r
def uptoBulkEntries {H : Type} : List (Lit × DataW H) → Nat
  | [] => 0
  | x :: r => uptoBulkEntry x + uptoBulkEntries r
def uptoBulkEntry {H : Type} : Lit × DataW H → Nat
  | (.string bytes, d) => bytes.length + uptoBulk d + 1
  | (_, d) => uptoBulk d + 1
 end
def uptoSmall : (H : Type) → List (DataW H) → Bool := fun _ ds => decide (uptoBulkAll ds ≤ 1048576)
def OpenSpec.upto (s : _root_.Go.ChangeSpec) : _root_.Go.OpenSpec := { _root_.Go.OpenSpec.ofChange s with cond := some uptoSmall }

/-- 'packthreadkeep.GlobParts', WHERE WHAT IT READS IS OF BULK AT MOST 1048576: true; the input reads as it did. -/
def globPartsUptoRow : OpenClaim := { program := "ytmkojbeongiimaa", sum := "fe6a765bb20872eb9bbb221046dfb7e20bd12373909998578a6ee88f108893ba", func := "packthread/packthreadkeep.GlobParts", spec := "globParts", apart := false, narrowed := true }
def GlobPartsUptoSaid : Prop := globPartsUptoRow.holds Try.pinned (OpenSpec.upto globPartsSpec)

/-- 'packthreadkeep.GlobSets', WHERE WHAT IT READS IS OF BULK AT MOST 1048576: true; the input reads as it did. -/
def globSetsUptoRow : OpenClaim := { program := "ytmkojbeongiimaa", sum := "fe6a765bb20872eb9bbb221046dfb7e20bd12373909998578a6ee88f108893ba", func := "packthread/packthreadkeep.GlobSets", spec := "globSets", apart := false, narrowed := true }
def GlobSetsUptoSaid : Prop := globSetsUptoRow.holds Try.pinned (OpenSpec.upto globSetsSpec)

/-- 'packthreadkeep.GlobMirror', WHERE WHAT IT READS IS OF BULK AT MOST 1048576: true; the input reads as it did. -/
def globMirrorUptoRow : OpenClaim := { program := "ytmkojbeongiimaa", sum := "fe6a765bb20872eb9bbb221046dfb7e20bd12373909998578a6ee88f108893ba", func := "packthread/packthreadkeep.GlobMirror", spec := "globMirror", apart := false, narrowed := true }
def GlobMirrorUptoSaid : Prop := globMirrorUptoRow.holds Try.pinned (OpenSpec.upto globMirrorSpec)

/-- 'packthreadkeep.GlobHoles', WHERE WHAT IT READS IS OF BULK AT MOST 1048576: true; the input reads as it did. -/
def globHolesUptoRow : OpenClaim := { program := "ytmkojbeongiimaa", sum := "fe6a765bb20872eb9bbb221046dfb7e20bd12373909998578a6ee88f108893ba", func := "packthread/packthreadkeep.GlobHoles", spec := "globHoles", apart := false, narrowed := true }
def GlobHolesUptoSaid : Prop := globHolesUptoRow.holds Try.pinned (OpenSpec.upto globHolesSpec)

/-- 'packthreadkeep.PickOrder', WHERE WHAT IT READS IS OF BULK AT MOST 1048576: true; the input reads as it did. -/
def pickOrderUptoRow : OpenClaim := { program := "ytmkojbeongiimaa", sum := "fe6a765bb20872eb9bbb221046dfb7e20bd12373909998578a6ee88f108893ba", func := "packthread/packthreadkeep.PickOrder", spec := "pickOrder", apart := false, narrowed := true }
def PickOrderUptoSaid : Prop := pickOrderUptoRow.holds Try.pinned (OpenSpec.upto pickOrderSpec)

end Rows
end Go.Proofs.Ytmkojbeongiimaa
