/-
  DERIVED. GIVEN WITH THE SEED: THE CARDS: each row of YtfadbmfkidiaoaaGreatDoorRows.lean that lists a variable, with what it lists TIED to the program's text (the seventh form; the later family's looks); each row that meets fmt, with fmt's text TOLD by the authors' own Lean function (tested against real Go, not proved from fmt's source: count such statements apart). THE CARD IS WHAT COUNTS. Prove the row's statement (the work); the ties are given (YtfadbmfkidiaoaaGreatDoorTie.lean); close each card by the builder's one call (the guide's Derived/Test/ToyasCard.lean, 'card_holds'). Laid BY PROGRAM, IN A SANDBOX (cutbox-door.mjs). By AI agents, Wed Nov 11 2026. No macro, syntax, notation, axiom, sorry.
-/
import Derived.Test.YtfadbmfkidiaoaaGreatDoorRows
import GoSem.ClaimSeven
namespace Go.Proofs.YtfadbmfkidiaoaaGreatDoor
namespace Rows

/-- THE TIED CARD OF 'ticketlinetop.TopNumbers'. -/
def topNumbersCard : Claim7 := { stood := { row := topNumbersRow, standIns := [], harness := (true, "c651bb012f7e4989e00ce2b3c9627c88664443bc5548ee51753bce8eee57e7b4"), looks := true }, kinds := [], alts := [], laidByText := true, laidKinds := [.data, .data, .data, .sentinel, .sentinel], laidTests := true, laidLooks := .later }
def TopNumbersCardSaid : Prop := Claim7.holds Tryz.pinned (.plain (OpenSpec.ofChange topNumbersSpec)) topNumbersCard

/-- THE TIED CARD OF 'ticketlinetop.TopQueues'. -/
def topQueuesCard : Claim7 := { stood := { row := topQueuesRow, standIns := [], harness := (true, "c651bb012f7e4989e00ce2b3c9627c88664443bc5548ee51753bce8eee57e7b4"), looks := true }, kinds := [], alts := [], laidByText := true, laidKinds := [.data, .data, .data, .data, .sentinel, .sentinel, .pinned], laidTests := true, laidLooks := .later }
def TopQueuesCardSaid : Prop := Claim7.holds Tryz.pinned (.plain (OpenSpec.ofChange topQueuesSpec)) topQueuesCard

/-- THE SECOND FORM's CARD OF 'ticketlinetop.TopNumbers'. -/
def topNumbersUptoCard : Claim7 := { stood := { row := topNumbersUptoRow, standIns := [], harness := (true, "c651bb012f7e4989e00ce2b3c9627c88664443bc5548ee51753bce8eee57e7b4"), looks := true }, kinds := [], alts := [], laidByText := true, laidKinds := [.data, .data, .data, .sentinel, .sentinel], laidTests := true, laidLooks := .later }
def TopNumbersUptoCardSaid : Prop := Claim7.holds Tryz.pinned (.plain (OpenSpec.upto topNumbersSpec)) topNumbersUptoCard

/-- THE SECOND FORM's CARD OF 'ticketlinetop.TopQueues'. -/
def topQueuesUptoCard : Claim7 := { stood := { row := topQueuesUptoRow, standIns := [], harness := (true, "c651bb012f7e4989e00ce2b3c9627c88664443bc5548ee51753bce8eee57e7b4"), looks := true }, kinds := [], alts := [], laidByText := true, laidKinds := [.data, .data, .data, .data, .sentinel, .sentinel, .pinned], laidTests := true, laidLooks := .later }
def TopQueuesUptoCardSaid : Prop := Claim7.holds Tryz.pinned (.plain (OpenSpec.upto topQueuesSpec)) topQueuesUptoCard
end Rows
end Go.Proofs.YtfadbmfkidiaoaaGreatDoor
