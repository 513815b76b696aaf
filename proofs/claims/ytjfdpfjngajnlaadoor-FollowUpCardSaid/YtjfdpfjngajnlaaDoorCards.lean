/-
  DERIVED. GIVEN WITH THE SEED: THE CARDS: each row of YtjfdpfjngajnlaaDoorRows.lean that lists a variable, with what it lists TIED to the program's text (the seventh form; the later family's looks); each row that meets fmt, with fmt's text TOLD by the authors' own Lean function (tested against real Go, not proved from fmt's source: count such statements apart). THE CARD IS WHAT COUNTS. Prove the row's statement (the work); the ties are given (YtjfdpfjngajnlaaDoorTie.lean); close each card by the builder's one call (the guide's Derived/Test/ToyasCard.lean, 'card_holds'). Laid BY PROGRAM, IN A SANDBOX (cutbox-door.mjs). By AI agents, Wed Nov 11 2026. No macro, syntax, notation, axiom, sorry.
-/
import Derived.Test.YtjfdpfjngajnlaaDoorRows
import GoSem.ClaimSeven
namespace Go.Proofs.YtjfdpfjngajnlaaDoor
namespace Rows

/-- THE TIED CARD OF 'packthreadkeep.CleanFixed'. -/
def cleanFixedCard : Claim7 := { stood := { row := cleanFixedRow, standIns := [], harness := (true, "69492945296962b9b5d4989c4f9cb47ef5e54d704e49bb952479adf0de12fec8"), looks := false }, kinds := [], alts := [], laidByText := true, laidKinds := [.data, .pinned], laidTests := true, laidLooks := .later }
def CleanFixedCardSaid : Prop := Claim7.holds Tryd.pinned (.plain (OpenSpec.ofChange cleanFixedSpec)) cleanFixedCard

/-- THE TIED CARD OF 'packthreadkeep.FollowTwo'. -/
def followTwoCard : Claim7 := { stood := { row := followTwoRow, standIns := [], harness := (true, "69492945296962b9b5d4989c4f9cb47ef5e54d704e49bb952479adf0de12fec8"), looks := false }, kinds := [], alts := [], laidByText := true, laidKinds := [.data, .pinned], laidTests := true, laidLooks := .later }
def FollowTwoCardSaid : Prop := Claim7.holds Tryd.pinned (.plain (OpenSpec.ofChange followTwoSpec)) followTwoCard

/-- THE TIED CARD OF 'packthreadkeep.FollowUp'. -/
def followUpCard : Claim7 := { stood := { row := followUpRow, standIns := [], harness := (true, "69492945296962b9b5d4989c4f9cb47ef5e54d704e49bb952479adf0de12fec8"), looks := false }, kinds := [], alts := [], laidByText := true, laidKinds := [.data, .pinned], laidTests := true, laidLooks := .later }
def FollowUpCardSaid : Prop := Claim7.holds Tryd.pinned (.plain (OpenSpec.ofChange followUpSpec)) followUpCard

/-- THE SECOND FORM's CARD OF 'packthreadkeep.CleanFixed'. -/
def cleanFixedUptoCard : Claim7 := { stood := { row := cleanFixedUptoRow, standIns := [], harness := (true, "69492945296962b9b5d4989c4f9cb47ef5e54d704e49bb952479adf0de12fec8"), looks := false }, kinds := [], alts := [], laidByText := true, laidKinds := [.data, .pinned], laidTests := true, laidLooks := .later }
def CleanFixedUptoCardSaid : Prop := Claim7.holds Tryd.pinned (.plain (OpenSpec.upto cleanFixedSpec)) cleanFixedUptoCard

/-- THE SECOND FORM's CARD OF 'packthreadkeep.FollowTwo'. -/
def followTwoUptoCard : Claim7 := { stood := { row := followTwoUptoRow, standIns := [], harness := (true, "69492945296962b9b5d4989c4f9cb47ef5e54d704e49bb952479adf0de12fec8"), looks := false }, kinds := [], alts := [], laidByText := true, laidKinds := [.data, .pinned], laidTests := true, laidLooks := .later }
def FollowTwoUptoCardSaid : Prop := Claim7.holds Tryd.pinned (.plain (OpenSpec.upto followTwoSpec)) followTwoUptoCard

/-- THE SECOND FORM's CARD OF 'packthreadkeep.FollowUp'. -/
def followUpUptoCard : Claim7 := { stood := { row := followUpUptoRow, standIns := [], harness := (true, "69492945296962b9b5d4989c4f9cb47ef5e54d704e49bb952479adf0de12fec8"), looks := false }, kinds := [], alts := [], laidByText := true, laidKinds := [.data, .pinned], laidTests := true, laidLooks := .later }
def FollowUpUptoCardSaid : Prop := Claim7.holds Tryd.pinned (.plain (OpenSpec.upto followUpSpec)) followUpUptoCard
end Rows
end Go.Proofs.YtjfdpfjngajnlaaDoor
