/-
  DERIVED. GIVEN WITH THE SEED: THE CARDS: each row of YtocpnlifmeffkaaGreatDoorRows.lean that lists a variable, with what it lists TIED to the program's text (the seventh form; the later family's looks); each row that meets fmt, with fmt's text TOLD by the authors' own Lean function (tested against real Go, not proved from fmt's source: count such statements apart). THE CARD IS WHAT COUNTS. Prove the row's statement (the work); the ties are given (YtocpnlifmeffkaaGreatDoorTie.lean); close each card by the builder's one call (the guide's Derived/Test/ToyasCard.lean, 'card_holds'). Laid BY PROGRAM, IN A SANDBOX (cutbox-door.mjs). By AI agents, Wed Nov 11 2026. No macro, syntax, notation, axiom, sorry.
-/
import Derived.Test.YtocpnlifmeffkaaGreatDoorRows
import GoSem.ClaimSeven
namespace Go.Proofs.YtocpnlifmeffkaaGreatDoor
namespace Rows

/-- THE TIED CARD OF 'evergreentop.TopPerformed'. -/
def topPerformedCard : Claim7 := { stood := { row := topPerformedRow, standIns := [], harness := (true, "5605feb4e7b7711d8c79590b04ad8bba1c89771d6092bf6554aa87b7874f00e5"), looks := true }, kinds := [], alts := [], laidByText := true, laidKinds := [.data, .data, .data, .data, .sentinel, .sentinel, .listed, .data, .pinned, .pinned], laidTests := true, laidLooks := .later }
def TopPerformedCardSaid : Prop := Claim7.holds Tryz.pinned (.plain (OpenSpec.ofChange topPerformedSpec)) topPerformedCard

/-- THE SECOND FORM's CARD OF 'evergreentop.TopPerformed'. -/
def topPerformedUptoCard : Claim7 := { stood := { row := topPerformedUptoRow, standIns := [], harness := (true, "5605feb4e7b7711d8c79590b04ad8bba1c89771d6092bf6554aa87b7874f00e5"), looks := true }, kinds := [], alts := [], laidByText := true, laidKinds := [.data, .data, .data, .data, .sentinel, .sentinel, .listed, .data, .pinned, .pinned], laidTests := true, laidLooks := .later }
def TopPerformedUptoCardSaid : Prop := Claim7.holds Tryz.pinned (.plain (OpenSpec.upto topPerformedSpec)) topPerformedUptoCard
end Rows
end Go.Proofs.YtocpnlifmeffkaaGreatDoor
