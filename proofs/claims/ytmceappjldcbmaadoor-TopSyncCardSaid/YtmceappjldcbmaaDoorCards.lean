/-
  DERIVED. GIVEN WITH THE SEED: THE CARDS: each row of YtmceappjldcbmaaDoorRows.lean that lists a variable, with what it lists TIED to the program's text (the seventh form; the later family's looks); each row that meets fmt, with fmt's text TOLD by the authors' own Lean function (tested against real Go, not proved from fmt's source: count such statements apart). THE CARD IS WHAT COUNTS. Prove the row's statement (the work); the ties are given (YtmceappjldcbmaaDoorTie.lean); close each card by the builder's one call (the guide's Derived/Test/ToyasCard.lean, 'card_holds'). Laid BY PROGRAM, IN A SANDBOX (cutbox-door.mjs). By AI agents, Wed Nov 11 2026. No macro, syntax, notation, axiom, sorry.
-/
import Derived.Test.YtmceappjldcbmaaDoorRows
import GoSem.ClaimSeven
namespace Go.Proofs.YtmceappjldcbmaaDoor
namespace Rows

/-- THE TIED CARD OF 'packthreadkeep.ServeMarks'. -/
def serveMarksCard : Claim7 := { stood := { row := serveMarksRow, standIns := [], harness := (true, "283a12b9c9a9e8b1604a56a230506d489eadfb3213421516a8140a141e4bd244"), looks := true }, kinds := [], alts := [], laidByText := true, laidKinds := [.data, .data, .pinned], laidTests := true, laidLooks := .later }
def ServeMarksCardSaid : Prop := Claim7.holds Tryd.pinned (.plain (OpenSpec.ofChange serveMarksSpec)) serveMarksCard

/-- THE TIED CARD OF 'packthreadkeep.ServeOld'. -/
def serveOldCard : Claim7 := { stood := { row := serveOldRow, standIns := [], harness := (true, "283a12b9c9a9e8b1604a56a230506d489eadfb3213421516a8140a141e4bd244"), looks := true }, kinds := [], alts := [], laidByText := true, laidKinds := [.data, .data, .pinned], laidTests := true, laidLooks := .later }
def ServeOldCardSaid : Prop := Claim7.holds Tryd.pinned (.plain (OpenSpec.ofChange serveOldSpec)) serveOldCard

/-- THE TIED CARD OF 'packthreadkeep.ServeBytes'. -/
def serveBytesCard : Claim7 := { stood := { row := serveBytesRow, standIns := [], harness := (true, "283a12b9c9a9e8b1604a56a230506d489eadfb3213421516a8140a141e4bd244"), looks := true }, kinds := [], alts := [], laidByText := true, laidKinds := [.data, .data, .pinned], laidTests := true, laidLooks := .later }
def ServeBytesCardSaid : Prop := Claim7.holds Tryd.pinned (.plain (OpenSpec.ofChange serveBytesSpec)) serveBytesCard

/-- THE TIED CARD OF 'packthreadtop.TopSync'. -/
def topSyncCard : Claim7 := { stood := { row := topSyncRow, standIns := [], harness := (true, "283a12b9c9a9e8b1604a56a230506d489eadfb3213421516a8140a141e4bd244"), looks := true }, kinds := [], alts := [], laidByText := true, laidKinds := [.data, .data, .pinned], laidTests := true, laidLooks := .later }
def TopSyncCardSaid : Prop := Claim7.holds Tryd.pinned (.plain (OpenSpec.ofChange topSyncSpec)) topSyncCard

/-- THE SECOND FORM's CARD OF 'packthreadkeep.ServeMarks'. -/
def serveMarksUptoCard : Claim7 := { stood := { row := serveMarksUptoRow, standIns := [], harness := (true, "283a12b9c9a9e8b1604a56a230506d489eadfb3213421516a8140a141e4bd244"), looks := true }, kinds := [], alts := [], laidByText := true, laidKinds := [.data, .data, .pinned], laidTests := true, laidLooks := .later }
def ServeMarksUptoCardSaid : Prop := Claim7.holds Tryd.pinned (.plain (OpenSpec.upto serveMarksSpec)) serveMarksUptoCard

/-- THE SECOND FORM's CARD OF 'packthreadkeep.ServeOld'. -/
def serveOldUptoCard : Claim7 := { stood := { row := serveOldUptoRow, standIns := [], harness := (true, "283a12b9c9a9e8b1604a56a230506d489eadfb3213421516a8140a141e4bd244"), looks := true }, kinds := [], alts := [], laidByText := true, laidKinds := [.data, .data, .pinned], laidTests := true, laidLooks := .later }
def ServeOldUptoCardSaid : Prop := Claim7.holds Tryd.pinned (.plain (OpenSpec.upto serveOldSpec)) serveOldUptoCard

/-- THE SECOND FORM's CARD OF 'packthreadkeep.ServeBytes'. -/
def serveBytesUptoCard : Claim7 := { stood := { row := serveBytesUptoRow, standIns := [], harness := (true, "283a12b9c9a9e8b1604a56a230506d489eadfb3213421516a8140a141e4bd244"), looks := true }, kinds := [], alts := [], laidByText := true, laidKinds := [.data, .data, .pinned], laidTests := true, laidLooks := .later }
def ServeBytesUptoCardSaid : Prop := Claim7.holds Tryd.pinned (.plain (OpenSpec.upto serveBytesSpec)) serveBytesUptoCard

/-- THE SECOND FORM's CARD OF 'packthreadtop.TopSync'. -/
def topSyncUptoCard : Claim7 := { stood := { row := topSyncUptoRow, standIns := [], harness := (true, "283a12b9c9a9e8b1604a56a230506d489eadfb3213421516a8140a141e4bd244"), looks := true }, kinds := [], alts := [], laidByText := true, laidKinds := [.data, .data, .pinned], laidTests := true, laidLooks := .later }
def TopSyncUptoCardSaid : Prop := Claim7.holds Tryd.pinned (.plain (OpenSpec.upto topSyncSpec)) topSyncUptoCard
end Rows
end Go.Proofs.YtmceappjldcbmaaDoor
