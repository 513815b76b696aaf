/-
  No cell of these rows narrows 'for every input' (looked for: loops, veiled, ifaces, maps, wideKeys, modest, calm, conditions, laid).
  DERIVED. THE GIVEN ROWS OF THIS SEAT. 5 by the template 'for every input the law returns true; each argument reads behind the call as it read before'; 0 by the template 'total and deterministic' (their statements: YtcllddkhnbnigaaTotals.lean).
  GIVEN WITH THE SEED: the statements are not yours to turn. If you find one false, say at which input.
  Laid BY PROGRAM, IN A SANDBOX (cutbox-rows.mjs): the forced cells as the released guide's own fill.sh prints them over the translation e22444485f835fe9… (all of the seat's roots in one cut). By AI agents, Wed Nov 11 2026. No macro, syntax, notation, axiom, sorry.
-/
import Derived.Test.YtcllddkhnbnigaaChecked
import GoSem.Claim
import GoSem.ClaimJoined
import GoSem.ClaimMapViews
import Derived.JoinedTies
import Derived.KernelRfl
namespace Go.Proofs.Ytcllddkhnbnigaa
/- THE CELL 'sum', in the pinned program and in every row, IS THE sha256 OF THE DUMP (.gsa) THAT YtcllddkhnbnigaaProg.lean LOADS. Nothing in Lean hashes anything: it is a label: what it is worth is what the hold of that sum in a sandbox is worth. -/
noncomputable def Try.pinned : Pinned := { name := "ytcllddkhnbnigaa", sum := "e22444485f835fe9603f17032840d966a75a8e6e3be09fa4c0e8af5ba8ab53de", checked := Try.checked }
namespace Rows
def none {H : Type} : Left H := { results := [], args := [] }

/-- 'packthreadkeep.PipeTrue': WHATEVER THE INPUT: true; the input reads as it did. -/
def pipeTrueSpec : ChangeSpec := { name := "pipeTrue", fn := fun _ => fun
  | [d1, d2, d3] => { results := [.lit (.bool true)], args := [d1, d2, d3] }
  | _ => none }
def pipeTrueRow : OpenClaim := { program := "ytcllddkhnbnigaa", sum := "e22444485f835fe9603f17032840d966a75a8e6e3be09fa4c0e8af5ba8ab53de", func := "packthread/packthreadkeep.PipeTrue", spec := "pipeTrue", unfollowed := true, recurses := true, apart := false }
def PipeTrueSaid : Prop := pipeTrueRow.holds Try.pinned (OpenSpec.ofChange pipeTrueSpec)

/-- ITS FALSE NEIGHBOUR: 'it returns false'. Refute it at one input. -/
def pipeTrueWrong : ChangeSpec := { name := "pipeTrue", fn := fun _ => fun
  | [d1, d2, d3] => { results := [.lit (.bool false)], args := [d1, d2, d3] }
  | _ => none }
def PipeTrueWrongFalsely : Prop := pipeTrueRow.holds Try.pinned (OpenSpec.ofChange pipeTrueWrong)

/-- 'packthreadkeep.PipeComes': WHATEVER THE INPUT: true; the input reads as it did. -/
def pipeComesSpec : ChangeSpec := { name := "pipeComes", fn := fun _ => fun
  | [d1, d2, d3] => { results := [.lit (.bool true)], args := [d1, d2, d3] }
  | _ => none }
def pipeComesRow : OpenClaim := { program := "ytcllddkhnbnigaa", sum := "e22444485f835fe9603f17032840d966a75a8e6e3be09fa4c0e8af5ba8ab53de", func := "packthread/packthreadkeep.PipeComes", spec := "pipeComes", unfollowed := true, recurses := true, apart := false }
def PipeComesSaid : Prop := pipeComesRow.holds Try.pinned (OpenSpec.ofChange pipeComesSpec)

/-- ITS FALSE NEIGHBOUR: 'it returns false'. Refute it at one input. -/
def pipeComesWrong : ChangeSpec := { name := "pipeComes", fn := fun _ => fun
  | [d1, d2, d3] => { results := [.lit (.bool false)], args := [d1, d2, d3] }
  | _ => none }
def PipeComesWrongFalsely : Prop := pipeComesRow.holds Try.pinned (OpenSpec.ofChange pipeComesWrong)

/-- 'packthreadkeep.PipeSerial': WHATEVER THE INPUT: true; the input reads as it did. -/
def pipeSerialSpec : ChangeSpec := { name := "pipeSerial", fn := fun _ => fun
  | [d1, d2, d3, d4] => { results := [.lit (.bool true)], args := [d1, d2, d3, d4] }
  | _ => none }
def pipeSerialRow : OpenClaim := { program := "ytcllddkhnbnigaa", sum := "e22444485f835fe9603f17032840d966a75a8e6e3be09fa4c0e8af5ba8ab53de", func := "packthread/packthreadkeep.PipeSerial", spec := "pipeSerial", unfollowed := true, recurses := true, apart := false }
def PipeSerialSaid : Prop := pipeSerialRow.holds Try.pinned (OpenSpec.ofChange pipeSerialSpec)

/-- ITS FALSE NEIGHBOUR: 'it returns false'. Refute it at one input. -/
def pipeSerialWrong : ChangeSpec := { name := "pipeSerial", fn := fun _ => fun
  | [d1, d2, d3, d4] => { results := [.lit (.bool false)], args := [d1, d2, d3, d4] }
  | _ => none }
def PipeSerialWrongFalsely : Prop := pipeSerialRow.holds Try.pinned (OpenSpec.ofChange pipeSerialWrong)

/-- 'packthreadkeep.PipeHurt': WHATEVER THE INPUT: true; the input reads as it did. -/
def pipeHurtSpec : ChangeSpec := { name := "pipeHurt", fn := fun _ => fun
  | [d1, d2, d3, d4, d5, d6] => { results := [.lit (.bool true)], args := [d1, d2, d3, d4, d5, d6] }
  | _ => none }
def pipeHurtRow : OpenClaim := { program := "ytcllddkhnbnigaa", sum := "e22444485f835fe9603f17032840d966a75a8e6e3be09fa4c0e8af5ba8ab53de", func := "packthread/packthreadkeep.PipeHurt", spec := "pipeHurt", unfollowed := true, recurses := true, apart := false }
def PipeHurtSaid : Prop := pipeHurtRow.holds Try.pinned (OpenSpec.ofChange pipeHurtSpec)

/-- ITS FALSE NEIGHBOUR: 'it returns false'. Refute it at one input. -/
def pipeHurtWrong : ChangeSpec := { name := "pipeHurt", fn := fun _ => fun
  | [d1, d2, d3, d4, d5, d6] => { results := [.lit (.bool false)], args := [d1, d2, d3, d4, d5, d6] }
  | _ => none }
def PipeHurtWrongFalsely : Prop := pipeHurtRow.holds Try.pinned (OpenSpec.ofChange pipeHurtWrong)

/-- 'packthreadkeep.PipeQuiet': WHATEVER THE INPUT: true; the input reads as it did. -/
def pipeQuietSpec : ChangeSpec := { name := "pipeQuiet", fn := fun _ => fun
  | [d1, d2, d3] => { results := [.lit (.bool true)], args := [d1, d2, d3] }
  | _ => none }
def pipeQuietRow : OpenClaim := { program := "ytcllddkhnbnigaa", sum := "e22444485f835fe9603f17032840d966a75a8e6e3be09fa4c0e8af5ba8ab53de", func := "packthread/packthreadkeep.PipeQuiet", spec := "pipeQuiet", unfollowed := true, recurses := true, apart := false }
def PipeQuietSaid : Prop := pipeQuietRow.holds Try.pinned (OpenSpec.ofChange pipeQuietSpec)

/-- ITS FALSE NEIGHBOUR: 'it returns false'. Refute it at one input. -/
def pipeQuietWrong : ChangeSpec := { name := "pipeQuiet", fn := fun _ => fun
  | [d1, d2, d3] => { results := [.lit (.bool false)], args := [d1, d2, d3] }
  | _ => none }
def PipeQuietWrongFalsely : Prop := pipeQuietRow.holds Try.pinned (OpenSpec.ofChange pipeQuietWrong)

/- THE SECOND FORM. 'bulk': how many values and letters a reading holds, each counted each time it is reached (what is shared counts as often as it is met; a slice's spare places count too). A statement '..UptoSaid' is the law's where the arguments, and the package variables that the reading takes, are together of bulk at most 1048576: NARROWER than '..Said'. Prove '..Said' where nothing that the law and all that it calls make is longer than what came in: it says more and counts as full. Else prove '..UptoSaid'. A law counts once. -/
mutual
def uptoBulk {H : Type} : DataW H → Nat
  | .lit (.string bytes) => bytes.length + 1
  | .lit _ => 1
  | .nil => 1
  | .ptr d => uptoBulk d + 1
  | .slice elems spare => uptoBulkAll elems + uptoBulkAll spare + 1
  | .agg parts => uptoBulkAll parts + 1
  | .iface _ d => uptoBulk d + 1
  | .map entries => uptoBulkEntries entries + 1
  | .held _ => 1
def uptoBulkAll {H : Type} : List (DataW H) → Nat
  | [] => 0
  | d :: r => uptoBulk d + uptoBulkAll r
def uptoBulkEntries {H : Type} : List (Lit × DataW H) → Nat
  | [] => 0
  | x :: r => uptoBulkEntry x + uptoBulkEntries r
def uptoBulkEntry {H : Type} : Lit × DataW H → Nat
  | (.string bytes, d) => bytes.length + uptoBulk d + 1
  | (_, d) => uptoBulk d + 1
 end
def uptoSmall : (H : Type) → List (DataW H) → Bool := fun _ ds => decide (uptoBulkAll ds ≤ 1048576)
def OpenSpec.upto (s : _root_.Go.ChangeSpec) : _root_.Go.OpenSpec := { _root_.Go.OpenSpec.ofChange s with cond := some uptoSmall }

/-- 'packthreadkeep.PipeTrue', WHERE WHAT IT READS IS OF BULK AT MOST 1048576: true; the input reads as it did. -/
def pipeTrueUptoRow : OpenClaim := { program := "ytcllddkhnbnigaa", sum := "e22444485f835fe9603f17032840d966a75a8e6e3be09fa4c0e8af5ba8ab53de", func := "packthread/packthreadkeep.PipeTrue", spec := "pipeTrue", unfollowed := true, recurses := true, apart := false, narrowed := true }
def PipeTrueUptoSaid : Prop := pipeTrueUptoRow.holds Try.pinned (OpenSpec.upto pipeTrueSpec)

/-- 'packthreadkeep.PipeComes', WHERE WHAT IT READS IS OF BULK AT MOST 1048576: true; the input reads as it did. -/
def pipeComesUptoRow : OpenClaim := { program := "ytcllddkhnbnigaa", sum := "e22444485f835fe9603f17032840d966a75a8e6e3be09fa4c0e8af5ba8ab53de", func := "packthread/packthreadkeep.PipeComes", spec := "pipeComes", unfollowed := true, recurses := true, apart := false, narrowed := true }
def PipeComesUptoSaid : Prop := pipeComesUptoRow.holds Try.pinned (OpenSpec.upto pipeComesSpec)

/-- 'packthreadkeep.PipeSerial', WHERE WHAT IT READS IS OF BULK AT MOST 1048576: true; the input reads as it did. -/
def pipeSerialUptoRow : OpenClaim := { program := "ytcllddkhnbnigaa", sum := "e22444485f835fe9603f17032840d966a75a8e6e3be09fa4c0e8af5ba8ab53de", func := "packthread/packthreadkeep.PipeSerial", spec := "pipeSerial", unfollowed := true, recurses := true, apart := false, narrowed := true }
def PipeSerialUptoSaid : Prop := pipeSerialUptoRow.holds Try.pinned (OpenSpec.upto pipeSerialSpec)

/-- 'packthreadkeep.PipeHurt', WHERE WHAT IT READS IS OF BULK AT MOST 1048576: true; the input reads as it did. -/
def pipeHurtUptoRow : OpenClaim := { program := "ytcllddkhnbnigaa", sum := "e22444485f835fe9603f17032840d966a75a8e6e3be09fa4c0e8af5ba8ab53de", func := "packthread/packthreadkeep.PipeHurt", spec := "pipeHurt", unfollowed := true, recurses := true, apart := false, narrowed := true }
def PipeHurtUptoSaid : Prop := pipeHurtUptoRow.holds Try.pinned (OpenSpec.upto pipeHurtSpec)

/-- 'packthreadkeep.PipeQuiet', WHERE WHAT IT READS IS OF BULK AT MOST 1048576: true; the input reads as it did. -/
def pipeQuietUptoRow : OpenClaim := { program := "ytcllddkhnbnigaa", sum := "e22444485f835fe9603f17032840d966a75a8e6e3be09fa4c0e8af5ba8ab53de", func := "packthread/packthreadkeep.PipeQuiet", spec := "pipeQuiet", unfollowed := true, recurses := true, apart := false, narrowed := true }
def PipeQuietUptoSaid : Prop := pipeQuietUptoRow.holds Try.pinned (OpenSpec.upto pipeQuietSpec)

end Rows
end Go.Proofs.Ytcllddkhnbnigaa
