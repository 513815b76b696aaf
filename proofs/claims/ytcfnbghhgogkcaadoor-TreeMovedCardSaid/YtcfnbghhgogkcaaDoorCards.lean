/-
  DERIVED. GIVEN WITH THE SEED: THE CARDS: each row of YtcfnbghhgogkcaaDoorRows.lean that lists a variable, with what it lists TIED to the program's text (the seventh form; the later family's looks); each row that meets fmt, with fmt's text TOLD by the authors' own Lean function (tested against real Go, not proved from fmt's source: count such statements apart). THE CARD IS WHAT COUNTS. Prove the row's statement (the work); the ties are given (YtcfnbghhgogkcaaDoorTie.lean); close each card by the builder's one call (the guide's Derived/Test/ToyasCard.lean, 'card_holds'). Laid BY PROGRAM, IN A SANDBOX (cutbox-door.mjs). By AI agents, Wed Nov 11 2026. No macro, syntax, notation, axiom, sorry.
-/
import Derived.Test.YtcfnbghhgogkcaaDoorRows
import GoSem.ClaimSeven
namespace Go.Proofs.YtcfnbghhgogkcaaDoor
namespace Rows

/-- THE TIED CARD OF 'packthreadkeep.TreeHas'. -/
def treeHasCard : Claim7 := { stood := { row := treeHasRow, standIns := [], harness := (true, "ac16220b9122db11d9dc46601979bffbc16ba32505e539e458b0e11c68b14712"), looks := true }, kinds := [], alts := [], laidByText := true, laidKinds := [.data, .pinned], laidTests := true, laidLooks := .later }
def TreeHasCardSaid : Prop := Claim7.holds Tryd.pinned (.plain (OpenSpec.ofChange treeHasSpec)) treeHasCard

/-- THE TIED CARD OF 'packthreadkeep.TreeRefused'. -/
def treeRefusedCard : Claim7 := { stood := { row := treeRefusedRow, standIns := [], harness := (true, "ac16220b9122db11d9dc46601979bffbc16ba32505e539e458b0e11c68b14712"), looks := true }, kinds := [], alts := [], laidByText := true, laidKinds := [.data, .pinned], laidTests := true, laidLooks := .later }
def TreeRefusedCardSaid : Prop := Claim7.holds Tryd.pinned (.plain (OpenSpec.ofChange treeRefusedSpec)) treeRefusedCard

/-- THE TIED CARD OF 'packthreadkeep.TreeListed'. -/
def treeListedCard : Claim7 := { stood := { row := treeListedRow, standIns := [], harness := (true, "ac16220b9122db11d9dc46601979bffbc16ba32505e539e458b0e11c68b14712"), looks := true }, kinds := [], alts := [], laidByText := true, laidKinds := [.data, .pinned], laidTests := true, laidLooks := .later }
def TreeListedCardSaid : Prop := Claim7.holds Tryd.pinned (.plain (OpenSpec.ofChange treeListedSpec)) treeListedCard

/-- THE TIED CARD OF 'packthreadkeep.TreeMoved'. -/
def treeMovedCard : Claim7 := { stood := { row := treeMovedRow, standIns := [], harness := (true, "ac16220b9122db11d9dc46601979bffbc16ba32505e539e458b0e11c68b14712"), looks := true }, kinds := [], alts := [], laidByText := true, laidKinds := [.data, .pinned], laidTests := true, laidLooks := .later }
def TreeMovedCardSaid : Prop := Claim7.holds Tryd.pinned (.plain (OpenSpec.ofChange treeMovedSpec)) treeMovedCard

/-- THE TIED CARD OF 'packthreadkeep.TreeLinked'. -/
def treeLinkedCard : Claim7 := { stood := { row := treeLinkedRow, standIns := [], harness := (true, "ac16220b9122db11d9dc46601979bffbc16ba32505e539e458b0e11c68b14712"), looks := true }, kinds := [], alts := [], laidByText := true, laidKinds := [.data, .pinned], laidTests := true, laidLooks := .later }
def TreeLinkedCardSaid : Prop := Claim7.holds Tryd.pinned (.plain (OpenSpec.ofChange treeLinkedSpec)) treeLinkedCard

/-- THE TIED CARD OF 'packthreadkeep.TreeRoom'. -/
def treeRoomCard : Claim7 := { stood := { row := treeRoomRow, standIns := [], harness := (true, "ac16220b9122db11d9dc46601979bffbc16ba32505e539e458b0e11c68b14712"), looks := true }, kinds := [], alts := [], laidByText := true, laidKinds := [.data, .pinned], laidTests := true, laidLooks := .later }
def TreeRoomCardSaid : Prop := Claim7.holds Tryd.pinned (.plain (OpenSpec.ofChange treeRoomSpec)) treeRoomCard

/-- THE SECOND FORM's CARD OF 'packthreadkeep.TreeHas'. -/
def treeHasUptoCard : Claim7 := { stood := { row := treeHasUptoRow, standIns := [], harness := (true, "ac16220b9122db11d9dc46601979bffbc16ba32505e539e458b0e11c68b14712"), looks := true }, kinds := [], alts := [], laidByText := true, laidKinds := [.data, .pinned], laidTests := true, laidLooks := .later }
def TreeHasUptoCardSaid : Prop := Claim7.holds Tryd.pinned (.plain (OpenSpec.upto treeHasSpec)) treeHasUptoCard

/-- THE SECOND FORM's CARD OF 'packthreadkeep.TreeRefused'. -/
def treeRefusedUptoCard : Claim7 := { stood := { row := treeRefusedUptoRow, standIns := [], harness := (true, "ac16220b9122db11d9dc46601979bffbc16ba32505e539e458b0e11c68b14712"), looks := true }, kinds := [], alts := [], laidByText := true, laidKinds := [.data, .pinned], laidTests := true, laidLooks := .later }
def TreeRefusedUptoCardSaid : Prop := Claim7.holds Tryd.pinned (.plain (OpenSpec.upto treeRefusedSpec)) treeRefusedUptoCard

/-- THE SECOND FORM's CARD OF 'packthreadkeep.TreeListed'. -/
def treeListedUptoCard : Claim7 := { stood := { row := treeListedUptoRow, standIns := [], harness := (true, "ac16220b9122db11d9dc46601979bffbc16ba32505e539e458b0e11c68b14712"), looks := true }, kinds := [], alts := [], laidByText := true, laidKinds := [.data, .pinned], laidTests := true, laidLooks := .later }
def TreeListedUptoCardSaid : Prop := Claim7.holds Tryd.pinned (.plain (OpenSpec.upto treeListedSpec)) treeListedUptoCard

/-- THE SECOND FORM's CARD OF 'packthreadkeep.TreeMoved'. -/
def treeMovedUptoCard : Claim7 := { stood := { row := treeMovedUptoRow, standIns := [], harness := (true, "ac16220b9122db11d9dc46601979bffbc16ba32505e539e458b0e11c68b14712"), looks := true }, kinds := [], alts := [], laidByText := true, laidKinds := [.data, .pinned], laidTests := true, laidLooks := .later }
def TreeMovedUptoCardSaid : Prop := Claim7.holds Tryd.pinned (.plain (OpenSpec.upto treeMovedSpec)) treeMovedUptoCard

/-- THE SECOND FORM's CARD OF 'packthreadkeep.TreeLinked'. -/
def treeLinkedUptoCard : Claim7 := { stood := { row := treeLinkedUptoRow, standIns := [], harness := (true, "ac16220b9122db11d9dc46601979bffbc16ba32505e539e458b0e11c68b14712"), looks := true }, kinds := [], alts := [], laidByText := true, laidKinds := [.data, .pinned], laidTests := true, laidLooks := .later }
def TreeLinkedUptoCardSaid : Prop := Claim7.holds Tryd.pinned (.plain (OpenSpec.upto treeLinkedSpec)) treeLinkedUptoCard

/-- THE SECOND FORM's CARD OF 'packthreadkeep.TreeRoom'. -/
def treeRoomUptoCard : Claim7 := { stood := { row := treeRoomUptoRow, standIns := [], harness := (true, "ac16220b9122db11d9dc46601979bffbc16ba32505e539e458b0e11c68b14712"), looks := true }, kinds := [], alts := [], laidByText := true, laidKinds := [.data, .pinned], laidTests := true, laidLooks := .later }
def TreeRoomUptoCardSaid : Prop := Claim7.holds Tryd.pinned (.plain (OpenSpec.upto treeRoomSpec)) treeRoomUptoCard
end Rows
end Go.Proofs.YtcfnbghhgogkcaaDoor
