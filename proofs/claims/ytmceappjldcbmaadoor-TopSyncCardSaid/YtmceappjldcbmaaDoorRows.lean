/-
  NARROWER THAN 'FOR EVERY INPUT', by the rows' own cells (each row's printed sentence says how): ServeMarks: laid · ServeOld: laid · ServeBytes: laid · TopSync: laid.
  DERIVED. THE GIVEN ROWS OF THIS SEAT. 4 by the template 'for every input the law returns true; each argument reads behind the call as it read before'; 0 by the template 'total and deterministic' (their statements: YtmceappjldcbmaaDoorTotals.lean).
  GIVEN WITH THE SEED: the statements are not yours to turn. If you find one false, say at which input.
  Laid BY PROGRAM, IN A SANDBOX (cutbox-rows.mjs): the forced cells as the released guide's own fill.sh prints them over the translation d8e71a04d5c8b66b… (all of the seat's roots in one cut). By AI agents, Wed Nov 11 2026. No macro, syntax, notation, axiom, sorry.
-/
import Derived.Test.YtmceappjldcbmaaDoorChecked
import GoSem.PinnedTables
import GoSem.Claim
import GoSem.ClaimJoined
import GoSem.ClaimMapViews
import Derived.JoinedTies
import Derived.KernelRfl
namespace Go.Proofs.YtmceappjldcbmaaDoor
/- THE CELL 'sum', in the pinned program and in every row, IS THE sha256 OF THE DUMP (.gsa) THAT YtmceappjldcbmaaDoorProg.lean LOADS. Nothing in Lean hashes anything: it is a label: what it is worth is what the hold of that sum in a sandbox is worth. -/
noncomputable def Tryd.pinned : Pinned := { name := "ytmceappjldcbmaadoor", sum := "d8e71a04d5c8b66b4c4d845bc6959ec1766fa4c4a0f98e3abc865b9e18562528", checked := Tryd.checked }
namespace Rows
def none {H : Type} : Left H := { results := [], args := [] }

/- WHAT THE LISTED PACKAGE-LEVEL VARIABLES READ AS WHEN THE CALL BEGINS. Each datum BY PROGRAM (the guide's laid-datum.mjs) off the statement by which the dump's own 'gosem.cut.vars' lays the variable. In a bare row this is a premise. The card (YtmceappjldcbmaaDoorCards.lean) ties it to the program's text. -/
def laid_unicode_utf8_acceptRanges {H : Type} : DataW H := .agg [.agg [.lit (.int .u8 128), .lit (.int .u8 191)], .agg [.lit (.int .u8 160), .lit (.int .u8 191)], .agg [.lit (.int .u8 128), .lit (.int .u8 159)], .agg [.lit (.int .u8 144), .lit (.int .u8 191)], .agg [.lit (.int .u8 128), .lit (.int .u8 143)], .agg [.lit (.int .u8 0), .lit (.int .u8 0)], .agg [.lit (.int .u8 0), .lit (.int .u8 0)], .agg [.lit (.int .u8 0), .lit (.int .u8 0)], .agg [.lit (.int .u8 0), .lit (.int .u8 0)], .agg [.lit (.int .u8 0), .lit (.int .u8 0)], .agg [.lit (.int .u8 0), .lit (.int .u8 0)], .agg [.lit (.int .u8 0), .lit (.int .u8 0)], .agg [.lit (.int .u8 0), .lit (.int .u8 0)], .agg [.lit (.int .u8 0), .lit (.int .u8 0)], .agg [.lit (.int .u8 0), .lit (.int .u8 0)], .agg [.lit (.int .u8 0), .lit (.int .u8 0)]]
def laid_packthread_serve_plain {H : Type} : DataW H := .agg [.lit (.int .i64 0), .lit (.int .i64 0), .lit (.int .i64 0), .lit (.int .i64 0), .lit (.int .i64 0), .lit (.int .i64 6), .lit (.int .i64 7), .lit (.int .i64 1), .lit (.int .i64 8), .lit (.int .i64 9), .lit (.int .i64 10)]
/-- One of Go's own tables, pinned by name: the form's constant. -/
def laid_unicode_utf8_first : DataW Unit := Go.Pinned.utf8First

/-- 'packthreadkeep.ServeMarks': WHATEVER THE INPUT: true; the input reads as it did. -/
def serveMarksSpec : ChangeSpec := { name := "serveMarks", fn := fun _ => fun
  | [d1, d2] => { results := [.lit (.bool true)], args := [d1, d2] }
  | _ => none }
def serveMarksRow : OpenClaim := { program := "ytmceappjldcbmaadoor", sum := "d8e71a04d5c8b66b4c4d845bc6959ec1766fa4c4a0f98e3abc865b9e18562528", func := "packthread/packthreadkeep.ServeMarks", spec := "serveMarks", inPlace := ["internal/bytealg.IndexByteString", "internal/bytealg.IndexString"], unfollowed := true, recurses := true, named := ["packthread/serve.plain", "unicode/utf8.first", "unicode/utf8.acceptRanges", "internal/bytealg.MaxLen"], apart := false, laid := [("unicode/utf8.acceptRanges", laid_unicode_utf8_acceptRanges), ("packthread/serve.plain", laid_packthread_serve_plain), ("unicode/utf8.first", laid_unicode_utf8_first)] }
def ServeMarksSaid : Prop := serveMarksRow.holds Tryd.pinned (OpenSpec.ofChange serveMarksSpec)

/-- ITS FALSE NEIGHBOUR: 'it returns false'. Refute it at one input. -/
def serveMarksWrong : ChangeSpec := { name := "serveMarks", fn := fun _ => fun
  | [d1, d2] => { results := [.lit (.bool false)], args := [d1, d2] }
  | _ => none }
def ServeMarksWrongFalsely : Prop := serveMarksRow.holds Tryd.pinned (OpenSpec.ofChange serveMarksWrong)

/-- 'packthreadkeep.ServeOld': WHATEVER THE INPUT: true; the input reads as it did. -/
def serveOldSpec : ChangeSpec := { name := "serveOld", fn := fun _ => fun
  | [d1, d2] => { results := [.lit (.bool true)], args := [d1, d2] }
  | _ => none }
def serveOldRow : OpenClaim := { program := "ytmceappjldcbmaadoor", sum := "d8e71a04d5c8b66b4c4d845bc6959ec1766fa4c4a0f98e3abc865b9e18562528", func := "packthread/packthreadkeep.ServeOld", spec := "serveOld", inPlace := ["internal/bytealg.IndexByteString", "internal/bytealg.IndexString"], unfollowed := true, recurses := true, named := ["packthread/serve.plain", "unicode/utf8.first", "unicode/utf8.acceptRanges", "internal/bytealg.MaxLen"], apart := false, laid := [("unicode/utf8.acceptRanges", laid_unicode_utf8_acceptRanges), ("packthread/serve.plain", laid_packthread_serve_plain), ("unicode/utf8.first", laid_unicode_utf8_first)] }
def ServeOldSaid : Prop := serveOldRow.holds Tryd.pinned (OpenSpec.ofChange serveOldSpec)

/-- ITS FALSE NEIGHBOUR: 'it returns false'. Refute it at one input. -/
def serveOldWrong : ChangeSpec := { name := "serveOld", fn := fun _ => fun
  | [d1, d2] => { results := [.lit (.bool false)], args := [d1, d2] }
  | _ => none }
def ServeOldWrongFalsely : Prop := serveOldRow.holds Tryd.pinned (OpenSpec.ofChange serveOldWrong)

/-- 'packthreadkeep.ServeBytes': WHATEVER THE INPUT: true; the input reads as it did. -/
def serveBytesSpec : ChangeSpec := { name := "serveBytes", fn := fun _ => fun
  | [d1, d2, d3] => { results := [.lit (.bool true)], args := [d1, d2, d3] }
  | _ => none }
def serveBytesRow : OpenClaim := { program := "ytmceappjldcbmaadoor", sum := "d8e71a04d5c8b66b4c4d845bc6959ec1766fa4c4a0f98e3abc865b9e18562528", func := "packthread/packthreadkeep.ServeBytes", spec := "serveBytes", inPlace := ["internal/bytealg.IndexByteString", "internal/bytealg.IndexString"], unfollowed := true, recurses := true, named := ["packthread/serve.plain", "unicode/utf8.first", "unicode/utf8.acceptRanges", "internal/bytealg.MaxLen"], apart := false, laid := [("unicode/utf8.acceptRanges", laid_unicode_utf8_acceptRanges), ("packthread/serve.plain", laid_packthread_serve_plain), ("unicode/utf8.first", laid_unicode_utf8_first)] }
def ServeBytesSaid : Prop := serveBytesRow.holds Tryd.pinned (OpenSpec.ofChange serveBytesSpec)

/-- ITS FALSE NEIGHBOUR: 'it returns false'. Refute it at one input. -/
def serveBytesWrong : ChangeSpec := { name := "serveBytes", fn := fun _ => fun
  | [d1, d2, d3] => { results := [.lit (.bool false)], args := [d1, d2, d3] }
  | _ => none }
def ServeBytesWrongFalsely : Prop := serveBytesRow.holds Tryd.pinned (OpenSpec.ofChange serveBytesWrong)

/-- 'packthreadtop.TopSync': WHATEVER THE INPUT: true; the input reads as it did. -/
def topSyncSpec : ChangeSpec := { name := "topSync", fn := fun _ => fun
  | [d1, d2, d3] => { results := [.lit (.bool true)], args := [d1, d2, d3] }
  | _ => none }
def topSyncRow : OpenClaim := { program := "ytmceappjldcbmaadoor", sum := "d8e71a04d5c8b66b4c4d845bc6959ec1766fa4c4a0f98e3abc865b9e18562528", func := "packthread/packthreadtop.TopSync", spec := "topSync", inPlace := ["internal/bytealg.IndexByteString", "internal/bytealg.IndexString"], unfollowed := true, recurses := true, named := ["packthread/serve.plain", "unicode/utf8.first", "unicode/utf8.acceptRanges", "internal/bytealg.MaxLen"], apart := false, laid := [("unicode/utf8.acceptRanges", laid_unicode_utf8_acceptRanges), ("packthread/serve.plain", laid_packthread_serve_plain), ("unicode/utf8.first", laid_unicode_utf8_first)] }
def TopSyncSaid : Prop := topSyncRow.holds Tryd.pinned (OpenSpec.ofChange topSyncSpec)

/-- ITS FALSE NEIGHBOUR: 'it returns false'. Refute it at one input. -/
def topSyncWrong : ChangeSpec := { name := "topSync", fn := fun _ => fun
  | [d1, d2, d3] => { results := [.lit (.bool false)], args := [d1, d2, d3] }
  | _ => none }
def TopSyncWrongFalsely : Prop := topSyncRow.holds Tryd.pinned (OpenSpec.ofChange topSyncWrong)

/- THE SECOND FORM. 'bulk': how many values and letters a reading holds, each counted each time it is reached (what is shared counts as often as it is met; a slice's spare places count too). A statement '..UptoSaid' is the law's where the arguments, and the package variables that the reading takes, are together of bulk at most 1048576: NARROWER than '..Said'. Prove '..Said' where nothing that the law and all that it calls make is longer than what came in: it says more and counts as full. Else prove '..UptoSaid'. A law counts once. -/
mutual
def uptoBulk {H : Type} : DataW H → Nat
  | .lit (.string bytes) => bytes.length + 1
  | .lit _ => 1
  | .nil => 1
  | .ptr d => uptoBulk d + 1
  | .slice elems spare => uptoBulkAll elems + uptoBulkAll spare + 1
  | .agg parts => uptoBulkAll parts + 1
  | .iface _ d => uptoBulk d + 1
  | .map entries => uptoBulkEntries entries + 1
  | .held _ => 1
def uptoBulkAll {H : Type} : List (DataW H) → Nat
  | [] => 0
  | d :: r => uptoBulk d + uptoBulkAll r
def uptoBulkEntries {H : Type} : List (Lit × DataW H) → Nat
  | [] => 0
  | x :: r => uptoBulkEntry x + uptoBulkEntries r
def uptoBulkEntry {H : Type} : Lit × DataW H → Nat
  | (.string bytes, d) => bytes.length + uptoBulk d + 1
  | (_, d) => uptoBulk d + 1
 end
def uptoSmall : (H : Type) → List (DataW H) → Bool := fun _ ds => decide (uptoBulkAll ds ≤ 1048576)
def OpenSpec.upto (s : _root_.Go.ChangeSpec) : _root_.Go.OpenSpec := { _root_.Go.OpenSpec.ofChange s with cond := some uptoSmall }

/-- 'packthreadkeep.ServeMarks', WHERE WHAT IT READS IS OF BULK AT MOST 1048576: true; the input reads as it did. -/
def serveMarksUptoRow : OpenClaim := { program := "ytmceappjldcbmaadoor", sum := "d8e71a04d5c8b66b4c4d845bc6959ec1766fa4c4a0f98e3abc865b9e18562528", func := "packthread/packthreadkeep.ServeMarks", spec := "serveMarks", inPlace := ["internal/bytealg.IndexByteString", "internal/bytealg.IndexString"], unfollowed := true, recurses := true, named := ["packthread/serve.plain", "unicode/utf8.first", "unicode/utf8.acceptRanges", "internal/bytealg.MaxLen"], apart := false, laid := [("unicode/utf8.acceptRanges", laid_unicode_utf8_acceptRanges), ("packthread/serve.plain", laid_packthread_serve_plain), ("unicode/utf8.first", laid_unicode_utf8_first)], narrowed := true }
def ServeMarksUptoSaid : Prop := serveMarksUptoRow.holds Tryd.pinned (OpenSpec.upto serveMarksSpec)

/-- 'packthreadkeep.ServeOld', WHERE WHAT IT READS IS OF BULK AT MOST 1048576: true; the input reads as it did. -/
def serveOldUptoRow : OpenClaim := { program := "ytmceappjldcbmaadoor", sum := "d8e71a04d5c8b66b4c4d845bc6959ec1766fa4c4a0f98e3abc865b9e18562528", func := "packthread/packthreadkeep.ServeOld", spec := "serveOld", inPlace := ["internal/bytealg.IndexByteString", "internal/bytealg.IndexString"], unfollowed := true, recurses := true, named := ["packthread/serve.plain", "unicode/utf8.first", "unicode/utf8.acceptRanges", "internal/bytealg.MaxLen"], apart := false, laid := [("unicode/utf8.acceptRanges", laid_unicode_utf8_acceptRanges), ("packthread/serve.plain", laid_packthread_serve_plain), ("unicode/utf8.first", laid_unicode_utf8_first)], narrowed := true }
def ServeOldUptoSaid : Prop := serveOldUptoRow.holds Tryd.pinned (OpenSpec.upto serveOldSpec)

/-- 'packthreadkeep.ServeBytes', WHERE WHAT IT READS IS OF BULK AT MOST 1048576: true; the input reads as it did. -/
def serveBytesUptoRow : OpenClaim := { program := "ytmceappjldcbmaadoor", sum := "d8e71a04d5c8b66b4c4d845bc6959ec1766fa4c4a0f98e3abc865b9e18562528", func := "packthread/packthreadkeep.ServeBytes", spec := "serveBytes", inPlace := ["internal/bytealg.IndexByteString", "internal/bytealg.IndexString"], unfollowed := true, recurses := true, named := ["packthread/serve.plain", "unicode/utf8.first", "unicode/utf8.acceptRanges", "internal/bytealg.MaxLen"], apart := false, laid := [("unicode/utf8.acceptRanges", laid_unicode_utf8_acceptRanges), ("packthread/serve.plain", laid_packthread_serve_plain), ("unicode/utf8.first", laid_unicode_utf8_first)], narrowed := true }
def ServeBytesUptoSaid : Prop := serveBytesUptoRow.holds Tryd.pinned (OpenSpec.upto serveBytesSpec)

/-- 'packthreadtop.TopSync', WHERE WHAT IT READS IS OF BULK AT MOST 1048576: true; the input reads as it did. -/
def topSyncUptoRow : OpenClaim := { program := "ytmceappjldcbmaadoor", sum := "d8e71a04d5c8b66b4c4d845bc6959ec1766fa4c4a0f98e3abc865b9e18562528", func := "packthread/packthreadtop.TopSync", spec := "topSync", inPlace := ["internal/bytealg.IndexByteString", "internal/bytealg.IndexString"], unfollowed := true, recurses := true, named := ["packthread/serve.plain", "unicode/utf8.first", "unicode/utf8.acceptRanges", "internal/bytealg.MaxLen"], apart := false, laid := [("unicode/utf8.acceptRanges", laid_unicode_utf8_acceptRanges), ("packthread/serve.plain", laid_packthread_serve_plain), ("unicode/utf8.first", laid_unicode_utf8_first)], narrowed := true }
def TopSyncUptoSaid : Prop := topSyncUptoRow.holds Tryd.pinned (OpenSpec.upto topSyncSpec)

end Rows
end Go.Proofs.YtmceappjldcbmaaDoor
