/-
  DERIVED. GIVEN WITH THE SEED: THE CARDS: each row of YtkgbknjpnhoadaaGreatDoorRows.lean that lists a variable, with what it lists TIED to the program's text (the seventh form; the later family's looks); each row that meets fmt, with fmt's text TOLD by the authors' own Lean function (tested against real Go, not proved from fmt's source: count such statements apart). THE CARD IS WHAT COUNTS. Prove the row's statement (the work); the ties are given (YtkgbknjpnhoadaaGreatDoorTie.lean); close each card by the builder's one call (the guide's Derived/Test/ToyasCard.lean, 'card_holds'). Laid BY PROGRAM, IN A SANDBOX (cutbox-door.mjs). By AI agents, Wed Nov 11 2026. No macro, syntax, notation, axiom, sorry.
-/
import Derived.Test.YtkgbknjpnhoadaaGreatDoorRows
import GoSem.ClaimSeven
namespace Go.Proofs.YtkgbknjpnhoadaaGreatDoor
namespace Rows

/-- THE TIED CARD OF 'evergreenlaw12.ComputerTextMatchesReference'. -/
def computerTextMatchesReferenceCard : Claim7 := { stood := { row := computerTextMatchesReferenceRow, standIns := [], harness := (true, "bcdd9fd0e3b4cf0a1da187bae2f6c1925ac90c36b9efb21d0eb9e8f77cdd03d6"), looks := true }, kinds := [], alts := [], laidByText := true, laidKinds := [.data, .data, .data, .data, .sentinel, .sentinel, .listed, .data, .pinned], laidTests := true, laidLooks := .later }
def ComputerTextMatchesReferenceCardSaid : Prop := Claim7.holds Tryz.pinned (.plain (OpenSpec.ofChange computerTextMatchesReferenceSpec)) computerTextMatchesReferenceCard

/-- THE TIED CARD OF 'evergreenlaw12.ComputerPrefix'. -/
def computerPrefixCard : Claim7 := { stood := { row := computerPrefixRow, standIns := [], harness := (true, "bcdd9fd0e3b4cf0a1da187bae2f6c1925ac90c36b9efb21d0eb9e8f77cdd03d6"), looks := true }, kinds := [], alts := [], laidByText := true, laidKinds := [.data, .data, .data, .data, .sentinel, .sentinel, .listed, .data, .pinned], laidTests := true, laidLooks := .later }
def ComputerPrefixCardSaid : Prop := Claim7.holds Tryz.pinned (.plain (OpenSpec.ofChange computerPrefixSpec)) computerPrefixCard

/-- THE TIED CARD OF 'evergreenlaw12.ComputerKeys'. -/
def computerKeysCard : Claim7 := { stood := { row := computerKeysRow, standIns := [], harness := (true, "bcdd9fd0e3b4cf0a1da187bae2f6c1925ac90c36b9efb21d0eb9e8f77cdd03d6"), looks := true }, kinds := [], alts := [], laidByText := true, laidKinds := [.data, .data, .data, .data, .sentinel, .sentinel, .listed, .data, .pinned], laidTests := true, laidLooks := .later }
def ComputerKeysCardSaid : Prop := Claim7.holds Tryz.pinned (.plain (OpenSpec.ofChange computerKeysSpec)) computerKeysCard

/-- THE TIED CARD OF 'evergreenlaw12.ComputerEcho'. -/
def computerEchoCard : Claim7 := { stood := { row := computerEchoRow, standIns := [], harness := (true, "bcdd9fd0e3b4cf0a1da187bae2f6c1925ac90c36b9efb21d0eb9e8f77cdd03d6"), looks := true }, kinds := [], alts := [], laidByText := true, laidKinds := [.data, .data, .data, .data, .sentinel, .sentinel, .listed, .data, .pinned], laidTests := true, laidLooks := .later }
def ComputerEchoCardSaid : Prop := Claim7.holds Tryz.pinned (.plain (OpenSpec.ofChange computerEchoSpec)) computerEchoCard

/-- THE TIED CARD OF 'evergreenlaw12.ComputerRoundTrip'. -/
def computerRoundTripCard : Claim7 := { stood := { row := computerRoundTripRow, standIns := [], harness := (true, "bcdd9fd0e3b4cf0a1da187bae2f6c1925ac90c36b9efb21d0eb9e8f77cdd03d6"), looks := true }, kinds := [], alts := [], laidByText := true, laidKinds := [.data, .data, .data, .data, .sentinel, .sentinel, .listed, .data, .pinned], laidTests := true, laidLooks := .later }
def ComputerRoundTripCardSaid : Prop := Claim7.holds Tryz.pinned (.plain (OpenSpec.ofChange computerRoundTripSpec)) computerRoundTripCard

/-- THE TIED CARD OF 'evergreenlaw12.ComputerMatchesReference'. -/
def computerMatchesReferenceCard : Claim7 := { stood := { row := computerMatchesReferenceRow, standIns := [], harness := (true, "bcdd9fd0e3b4cf0a1da187bae2f6c1925ac90c36b9efb21d0eb9e8f77cdd03d6"), looks := true }, kinds := [], alts := [], laidByText := true, laidKinds := [.data, .data, .data, .data, .sentinel, .sentinel, .listed, .data, .pinned], laidTests := true, laidLooks := .later }
def ComputerMatchesReferenceCardSaid : Prop := Claim7.holds Tryz.pinned (.plain (OpenSpec.ofChange computerMatchesReferenceSpec)) computerMatchesReferenceCard

/-- THE TIED CARD OF 'evergreenlaw12.ComputerShows'. -/
def computerShowsCard : Claim7 := { stood := { row := computerShowsRow, standIns := [], harness := (true, "bcdd9fd0e3b4cf0a1da187bae2f6c1925ac90c36b9efb21d0eb9e8f77cdd03d6"), looks := true }, kinds := [], alts := [], laidByText := true, laidKinds := [.data, .data, .data, .data, .sentinel, .sentinel, .listed, .data, .pinned], laidTests := true, laidLooks := .later }
def ComputerShowsCardSaid : Prop := Claim7.holds Tryz.pinned (.plain (OpenSpec.ofChange computerShowsSpec)) computerShowsCard

/-- THE SECOND FORM's CARD OF 'evergreenlaw12.ComputerTextMatchesReference'. -/
def computerTextMatchesReferenceUptoCard : Claim7 := { stood := { row := computerTextMatchesReferenceUptoRow, standIns := [], harness := (true, "bcdd9fd0e3b4cf0a1da187bae2f6c1925ac90c36b9efb21d0eb9e8f77cdd03d6"), looks := true }, kinds := [], alts := [], laidByText := true, laidKinds := [.data, .data, .data, .data, .sentinel, .sentinel, .listed, .data, .pinned], laidTests := true, laidLooks := .later }
def ComputerTextMatchesReferenceUptoCardSaid : Prop := Claim7.holds Tryz.pinned (.plain (OpenSpec.upto computerTextMatchesReferenceSpec)) computerTextMatchesReferenceUptoCard

/-- THE SECOND FORM's CARD OF 'evergreenlaw12.ComputerPrefix'. -/
def computerPrefixUptoCard : Claim7 := { stood := { row := computerPrefixUptoRow, standIns := [], harness := (true, "bcdd9fd0e3b4cf0a1da187bae2f6c1925ac90c36b9efb21d0eb9e8f77cdd03d6"), looks := true }, kinds := [], alts := [], laidByText := true, laidKinds := [.data, .data, .data, .data, .sentinel, .sentinel, .listed, .data, .pinned], laidTests := true, laidLooks := .later }
def ComputerPrefixUptoCardSaid : Prop := Claim7.holds Tryz.pinned (.plain (OpenSpec.upto computerPrefixSpec)) computerPrefixUptoCard

/-- THE SECOND FORM's CARD OF 'evergreenlaw12.ComputerKeys'. -/
def computerKeysUptoCard : Claim7 := { stood := { row := computerKeysUptoRow, standIns := [], harness := (true, "bcdd9fd0e3b4cf0a1da187bae2f6c1925ac90c36b9efb21d0eb9e8f77cdd03d6"), looks := true }, kinds := [], alts := [], laidByText := true, laidKinds := [.data, .data, .data, .data, .sentinel, .sentinel, .listed, .data, .pinned], laidTests := true, laidLooks := .later }
def ComputerKeysUptoCardSaid : Prop := Claim7.holds Tryz.pinned (.plain (OpenSpec.upto computerKeysSpec)) computerKeysUptoCard

/-- THE SECOND FORM's CARD OF 'evergreenlaw12.ComputerEcho'. -/
def computerEchoUptoCard : Claim7 := { stood := { row := computerEchoUptoRow, standIns := [], harness := (true, "bcdd9fd0e3b4cf0a1da187bae2f6c1925ac90c36b9efb21d0eb9e8f77cdd03d6"), looks := true }, kinds := [], alts := [], laidByText := true, laidKinds := [.data, .data, .data, .data, .sentinel, .sentinel, .listed, .data, .pinned], laidTests := true, laidLooks := .later }
def ComputerEchoUptoCardSaid : Prop := Claim7.holds Tryz.pinned (.plain (OpenSpec.upto computerEchoSpec)) computerEchoUptoCard

/-- THE SECOND FORM's CARD OF 'evergreenlaw12.ComputerRoundTrip'. -/
def computerRoundTripUptoCard : Claim7 := { stood := { row := computerRoundTripUptoRow, standIns := [], harness := (true, "bcdd9fd0e3b4cf0a1da187bae2f6c1925ac90c36b9efb21d0eb9e8f77cdd03d6"), looks := true }, kinds := [], alts := [], laidByText := true, laidKinds := [.data, .data, .data, .data, .sentinel, .sentinel, .listed, .data, .pinned], laidTests := true, laidLooks := .later }
def ComputerRoundTripUptoCardSaid : Prop := Claim7.holds Tryz.pinned (.plain (OpenSpec.upto computerRoundTripSpec)) computerRoundTripUptoCard

/-- THE SECOND FORM's CARD OF 'evergreenlaw12.ComputerMatchesReference'. -/
def computerMatchesReferenceUptoCard : Claim7 := { stood := { row := computerMatchesReferenceUptoRow, standIns := [], harness := (true, "bcdd9fd0e3b4cf0a1da187bae2f6c1925ac90c36b9efb21d0eb9e8f77cdd03d6"), looks := true }, kinds := [], alts := [], laidByText := true, laidKinds := [.data, .data, .data, .data, .sentinel, .sentinel, .listed, .data, .pinned], laidTests := true, laidLooks := .later }
def ComputerMatchesReferenceUptoCardSaid : Prop := Claim7.holds Tryz.pinned (.plain (OpenSpec.upto computerMatchesReferenceSpec)) computerMatchesReferenceUptoCard

/-- THE SECOND FORM's CARD OF 'evergreenlaw12.ComputerShows'. -/
def computerShowsUptoCard : Claim7 := { stood := { row := computerShowsUptoRow, standIns := [], harness := (true, "bcdd9fd0e3b4cf0a1da187bae2f6c1925ac90c36b9efb21d0eb9e8f77cdd03d6"), looks := true }, kinds := [], alts := [], laidByText := true, laidKinds := [.data, .data, .data, .data, .sentinel, .sentinel, .listed, .data, .pinned], laidTests := true, laidLooks := .later }
def ComputerShowsUptoCardSaid : Prop := Claim7.holds Tryz.pinned (.plain (OpenSpec.upto computerShowsSpec)) computerShowsUptoCard
end Rows
end Go.Proofs.YtkgbknjpnhoadaaGreatDoor
