/-
  DERIVED. GIVEN WITH THE SEED: THE CARDS: each row of YtmceappjldcbmaaGreatDoorRows.lean that lists a variable, with what it lists TIED to the program's text (the seventh form; the later family's looks); each row that meets fmt, with fmt's text TOLD by the authors' own Lean function (tested against real Go, not proved from fmt's source: count such statements apart). THE CARD IS WHAT COUNTS. Prove the row's statement (the work); the ties are given (YtmceappjldcbmaaGreatDoorTie.lean); close each card by the builder's one call (the guide's Derived/Test/ToyasCard.lean, 'card_holds'). Laid BY PROGRAM, IN A SANDBOX (cutbox-door.mjs). By AI agents, Wed Nov 11 2026. No macro, syntax, notation, axiom, sorry.
-/
import Derived.Test.YtmceappjldcbmaaGreatDoorRows
import GoSem.ClaimSeven
namespace Go.Proofs.YtmceappjldcbmaaGreatDoor
namespace Rows

/-- THE TIED CARD OF 'packthreadtop.TopFetch'. -/
def topFetchCard : Claim7 := { stood := { row := topFetchRow, standIns := [], harness := (true, "3e1e65d00f1267a60a67f58af8164889be28076f0c54f0d489caabaf4f03b96f"), looks := true }, kinds := [], alts := [], laidByText := true, laidKinds := [.data, .data, .pinned], laidTests := true, laidLooks := .later }
def TopFetchCardSaid : Prop := Claim7.holds Tryz.pinned (.plain (OpenSpec.ofChange topFetchSpec)) topFetchCard

/-- THE SECOND FORM's CARD OF 'packthreadtop.TopFetch'. -/
def topFetchUptoCard : Claim7 := { stood := { row := topFetchUptoRow, standIns := [], harness := (true, "3e1e65d00f1267a60a67f58af8164889be28076f0c54f0d489caabaf4f03b96f"), looks := true }, kinds := [], alts := [], laidByText := true, laidKinds := [.data, .data, .pinned], laidTests := true, laidLooks := .later }
def TopFetchUptoCardSaid : Prop := Claim7.holds Tryz.pinned (.plain (OpenSpec.upto topFetchSpec)) topFetchUptoCard
end Rows
end Go.Proofs.YtmceappjldcbmaaGreatDoor
