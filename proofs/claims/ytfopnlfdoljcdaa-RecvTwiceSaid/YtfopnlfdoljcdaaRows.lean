/-
  No cell of these rows narrows 'for every input' (looked for: loops, veiled, ifaces, maps, wideKeys, modest, calm, conditions, laid).
  DERIVED. THE GIVEN ROWS OF THIS SEAT. 4 by the template 'for every input the law returns true; each argument reads behind the call as it read before'; 0 by the template 'total and deterministic' (their statements: YtfopnlfdoljcdaaTotals.lean).
  GIVEN WITH THE SEED: the statements are not yours to turn. If you find one false, say at which input.
  Laid BY PROGRAM, IN A SANDBOX (cutbox-rows.mjs): the forced cells as the released guide's own fill.sh prints them over the translation a87dc9f8ffa0edeb… (all of the seat's roots in one cut). By AI agents, Wed Nov 11 2026. No macro, syntax, notation, axiom, sorry.
-/
import Derived.Test.YtfopnlfdoljcdaaChecked
import GoSem.Claim
import GoSem.ClaimJoined
import GoSem.ClaimMapViews
import Derived.JoinedTies
import Derived.KernelRfl
namespace Go.Proofs.Ytfopnlfdoljcdaa
/- THE CELL 'sum', in the pinned program and in every row, IS THE sha256 OF THE DUMP (.gsa) THAT YtfopnlfdoljcdaaProg.lean LOADS. Nothing in Lean hashes anything: it is a label: what it is worth is what the hold of that sum in a sandbox is worth. -/
noncomputable def Try.pinned : Pinned := { name := "ytfopnlfdoljcdaa", sum := "a87dc9f8ffa0edeb1751cf54a8a6dd1556a5b2375635e8ad49fca5ebea3dd020", checked := Try.checked }
namespace Rows
def none {H : Type} : Left H := { results := [], args := [] }

/-- 'packthreadkeep.SacksFirst': WHATEVER THE INPUT: true; the input reads as it did. -/
def sacksFirstSpec : ChangeSpec := { name := "sacksFirst", fn := fun _ => fun
  | [d1, d2, d3] => { results := [.lit (.bool true)], args := [d1, d2, d3] }
  | _ => none }
def sacksFirstRow : OpenClaim := { program := "ytfopnlfdoljcdaa", sum := "a87dc9f8ffa0edeb1751cf54a8a6dd1556a5b2375635e8ad49fca5ebea3dd020", func := "packthread/packthreadkeep.SacksFirst", spec := "sacksFirst", unfollowed := true, recurses := true, apart := false }
def SacksFirstSaid : Prop := sacksFirstRow.holds Try.pinned (OpenSpec.ofChange sacksFirstSpec)

/-- ITS FALSE NEIGHBOUR: 'it returns false'. Refute it at one input. -/
def sacksFirstWrong : ChangeSpec := { name := "sacksFirst", fn := fun _ => fun
  | [d1, d2, d3] => { results := [.lit (.bool false)], args := [d1, d2, d3] }
  | _ => none }
def SacksFirstWrongFalsely : Prop := sacksFirstRow.holds Try.pinned (OpenSpec.ofChange sacksFirstWrong)

/-- 'packthreadkeep.RecvTrue': WHATEVER THE INPUT: true; the input reads as it did. -/
def recvTrueSpec : ChangeSpec := { name := "recvTrue", fn := fun _ => fun
  | [d1, d2, d3, d4, d5] => { results := [.lit (.bool true)], args := [d1, d2, d3, d4, d5] }
  | _ => none }
def recvTrueRow : OpenClaim := { program := "ytfopnlfdoljcdaa", sum := "a87dc9f8ffa0edeb1751cf54a8a6dd1556a5b2375635e8ad49fca5ebea3dd020", func := "packthread/packthreadkeep.RecvTrue", spec := "recvTrue", unfollowed := true, recurses := true, apart := false }
def RecvTrueSaid : Prop := recvTrueRow.holds Try.pinned (OpenSpec.ofChange recvTrueSpec)

/-- ITS FALSE NEIGHBOUR: 'it returns false'. Refute it at one input. -/
def recvTrueWrong : ChangeSpec := { name := "recvTrue", fn := fun _ => fun
  | [d1, d2, d3, d4, d5] => { results := [.lit (.bool false)], args := [d1, d2, d3, d4, d5] }
  | _ => none }
def RecvTrueWrongFalsely : Prop := recvTrueRow.holds Try.pinned (OpenSpec.ofChange recvTrueWrong)

/-- 'packthreadkeep.RecvAll': WHATEVER THE INPUT: true; the input reads as it did. -/
def recvAllSpec : ChangeSpec := { name := "recvAll", fn := fun _ => fun
  | [d1, d2, d3, d4, d5] => { results := [.lit (.bool true)], args := [d1, d2, d3, d4, d5] }
  | _ => none }
def recvAllRow : OpenClaim := { program := "ytfopnlfdoljcdaa", sum := "a87dc9f8ffa0edeb1751cf54a8a6dd1556a5b2375635e8ad49fca5ebea3dd020", func := "packthread/packthreadkeep.RecvAll", spec := "recvAll", unfollowed := true, recurses := true, apart := false }
def RecvAllSaid : Prop := recvAllRow.holds Try.pinned (OpenSpec.ofChange recvAllSpec)

/-- ITS FALSE NEIGHBOUR: 'it returns false'. Refute it at one input. -/
def recvAllWrong : ChangeSpec := { name := "recvAll", fn := fun _ => fun
  | [d1, d2, d3, d4, d5] => { results := [.lit (.bool false)], args := [d1, d2, d3, d4, d5] }
  | _ => none }
def RecvAllWrongFalsely : Prop := recvAllRow.holds Try.pinned (OpenSpec.ofChange recvAllWrong)

/-- 'packthreadkeep.RecvTwice': WHATEVER THE INPUT: true; the input reads as it did. -/
def recvTwiceSpec : ChangeSpec := { name := "recvTwice", fn := fun _ => fun
  | [d1, d2, d3, d4, d5, d6] => { results := [.lit (.bool true)], args := [d1, d2, d3, d4, d5, d6] }
  | _ => none }
def recvTwiceRow : OpenClaim := { program := "ytfopnlfdoljcdaa", sum := "a87dc9f8ffa0edeb1751cf54a8a6dd1556a5b2375635e8ad49fca5ebea3dd020", func := "packthread/packthreadkeep.RecvTwice", spec := "recvTwice", unfollowed := true, recurses := true, apart := false }
def RecvTwiceSaid : Prop := recvTwiceRow.holds Try.pinned (OpenSpec.ofChange recvTwiceSpec)

/-- ITS FALSE NEIGHBOUR: 'it returns false'. Refute it at one input. -/
def recvTwiceWrong : ChangeSpec := { name := "recvTwice", fn := fun _ => fun
  | [d1, d2, d3, d4, d5, d6] => { results := [.lit (.bool false)], args := [d1, d2, d3, d4, d5, d6] }
  | _ => none }
def RecvTwiceWrongFalsely : Prop := recvTwiceRow.holds Try.pinned (OpenSpec.ofChange recvTwiceWrong)

/- THE SECOND FORM. 'bulk': how many values and letters a reading holds, each counted each time it is reached (what is shared counts as often as it is met; a slice's spare places count too). A statement '..UptoSaid' is the law's where the arguments, and the package variables that the reading takes, are together of bulk at most 1048576: NARROWER than '..Said'. Prove '..Said' where nothing that the law and all that it calls make is longer than what came in: it says more and counts as full. Else prove '..UptoSaid'. A law counts once. -/
mutual
def uptoBulk {H : Type} : DataW H → Nat
  | .lit (.string bytes) => bytes.length + 1
  | .lit _ => 1
  | .nil => 1
  | .ptr d => uptoBulk d + 1
  | .slice elems spare => uptoBulkAll elems + uptoBulkAll spare + 1
  | .agg parts => uptoBulkAll parts + 1
  | .iface _ d => uptoBulk d + 1
  | .map entries => uptoBulkEntries entries + 1
  | .held _ => 1
def uptoBulkAll {H : Type} : List (DataW H) → Nat
  | [] => 0
  | d :: r => uptoBulk d + uptoBulkAll r
def uptoBulkEntries {H : Type} : List (Lit × DataW H) → Nat
  | [] => 0
  | x :: r => uptoBulkEntry x + uptoBulkEntries r
def uptoBulkEntry {H : Type} : Lit × DataW H → Nat
  | (.string bytes, d) => bytes.length + uptoBulk d + 1
  | (_, d) => uptoBulk d + 1
 end
def uptoSmall : (H : Type) → List (DataW H) → Bool := fun _ ds => decide (uptoBulkAll ds ≤ 1048576)
def OpenSpec.upto (s : _root_.Go.ChangeSpec) : _root_.Go.OpenSpec := { _root_.Go.OpenSpec.ofChange s with cond := some uptoSmall }

/-- 'packthreadkeep.SacksFirst', WHERE WHAT IT READS IS OF BULK AT MOST 1048576: true; the input reads as it did. -/
def sacksFirstUptoRow : OpenClaim := { program := "ytfopnlfdoljcdaa", sum := "a87dc9f8ffa0edeb1751cf54a8a6dd1556a5b2375635e8ad49fca5ebea3dd020", func := "packthread/packthreadkeep.SacksFirst", spec := "sacksFirst", unfollowed := true, recurses := true, apart := false, narrowed := true }
def SacksFirstUptoSaid : Prop := sacksFirstUptoRow.holds Try.pinned (OpenSpec.upto sacksFirstSpec)

/-- 'packthreadkeep.RecvTrue', WHERE WHAT IT READS IS OF BULK AT MOST 1048576: true; the input reads as it did. -/
def recvTrueUptoRow : OpenClaim := { program := "ytfopnlfdoljcdaa", sum := "a87dc9f8ffa0edeb1751cf54a8a6dd1556a5b2375635e8ad49fca5ebea3dd020", func := "packthread/packthreadkeep.RecvTrue", spec := "recvTrue", unfollowed := true, recurses := true, apart := false, narrowed := true }
def RecvTrueUptoSaid : Prop := recvTrueUptoRow.holds Try.pinned (OpenSpec.upto recvTrueSpec)

/-- 'packthreadkeep.RecvAll', WHERE WHAT IT READS IS OF BULK AT MOST 1048576: true; the input reads as it did. -/
def recvAllUptoRow : OpenClaim := { program := "ytfopnlfdoljcdaa", sum := "a87dc9f8ffa0edeb1751cf54a8a6dd1556a5b2375635e8ad49fca5ebea3dd020", func := "packthread/packthreadkeep.RecvAll", spec := "recvAll", unfollowed := true, recurses := true, apart := false, narrowed := true }
def RecvAllUptoSaid : Prop := recvAllUptoRow.holds Try.pinned (OpenSpec.upto recvAllSpec)

/-- 'packthreadkeep.RecvTwice', WHERE WHAT IT READS IS OF BULK AT MOST 1048576: true; the input reads as it did. -/
def recvTwiceUptoRow : OpenClaim := { program := "ytfopnlfdoljcdaa", sum := "a87dc9f8ffa0edeb1751cf54a8a6dd1556a5b2375635e8ad49fca5ebea3dd020", func := "packthread/packthreadkeep.RecvTwice", spec := "recvTwice", unfollowed := true, recurses := true, apart := false, narrowed := true }
def RecvTwiceUptoSaid : Prop := recvTwiceUptoRow.holds Try.pinned (OpenSpec.upto recvTwiceSpec)

end Rows
end Go.Proofs.Ytfopnlfdoljcdaa
