/-
  DERIVED. GIVEN WITH THE SEED: THE CARDS: each row of YtcpfmlaipejfpaaGreatDoorRows.lean that lists a variable, with what it lists TIED to the program's text (the seventh form; the later family's looks); each row that meets fmt, with fmt's text TOLD by the authors' own Lean function (tested against real Go, not proved from fmt's source: count such statements apart). THE CARD IS WHAT COUNTS. Prove the row's statement (the work); the ties are given (YtcpfmlaipejfpaaGreatDoorTie.lean); close each card by the builder's one call (the guide's Derived/Test/ToyasCard.lean, 'card_holds'). Laid BY PROGRAM, IN A SANDBOX (cutbox-door.mjs). By AI agents, Wed Nov 11 2026. No macro, syntax, notation, axiom, sorry.
-/
import Derived.Test.YtcpfmlaipejfpaaGreatDoorRows
import GoSem.ClaimSeven
namespace Go.Proofs.YtcpfmlaipejfpaaGreatDoor
namespace Rows

/-- THE TIED CARD OF 'evergreenlaw04.FormatMatchesReference'. -/
def formatMatchesReferenceCard : Claim7 := { stood := { row := formatMatchesReferenceRow, standIns := [], harness := (true, "848ebd5b1df7ba5573357c2d3846c0a9f678536491154fdefeb76d3b02710cc9"), looks := true }, kinds := [], alts := [], laidByText := true, laidKinds := [.data, .data, .data, .data, .sentinel, .sentinel, .pinned], laidTests := true, laidLooks := .later }
def FormatMatchesReferenceCardSaid : Prop := Claim7.holds Tryz.pinned (.plain (OpenSpec.ofChange formatMatchesReferenceSpec)) formatMatchesReferenceCard

/-- THE TIED CARD OF 'evergreenlaw04.FormatTextMatchesReference'. -/
def formatTextMatchesReferenceCard : Claim7 := { stood := { row := formatTextMatchesReferenceRow, standIns := [], harness := (true, "848ebd5b1df7ba5573357c2d3846c0a9f678536491154fdefeb76d3b02710cc9"), looks := true }, kinds := [], alts := [], laidByText := true, laidKinds := [.data, .data, .data, .data, .sentinel, .sentinel, .pinned], laidTests := true, laidLooks := .later }
def FormatTextMatchesReferenceCardSaid : Prop := Claim7.holds Tryz.pinned (.plain (OpenSpec.ofChange formatTextMatchesReferenceSpec)) formatTextMatchesReferenceCard

/-- THE TIED CARD OF 'evergreenlaw04.FormatRoundTrip'. -/
def formatRoundTripCard : Claim7 := { stood := { row := formatRoundTripRow, standIns := [], harness := (true, "848ebd5b1df7ba5573357c2d3846c0a9f678536491154fdefeb76d3b02710cc9"), looks := true }, kinds := [], alts := [], laidByText := true, laidKinds := [.data, .data, .data, .data, .sentinel, .sentinel, .pinned], laidTests := true, laidLooks := .later }
def FormatRoundTripCardSaid : Prop := Claim7.holds Tryz.pinned (.plain (OpenSpec.ofChange formatRoundTripSpec)) formatRoundTripCard

/-- THE TIED CARD OF 'evergreenlaw04.FormatLines'. -/
def formatLinesCard : Claim7 := { stood := { row := formatLinesRow, standIns := [], harness := (true, "848ebd5b1df7ba5573357c2d3846c0a9f678536491154fdefeb76d3b02710cc9"), looks := true }, kinds := [], alts := [], laidByText := true, laidKinds := [.data, .data, .data, .data, .sentinel, .sentinel, .pinned], laidTests := true, laidLooks := .later }
def FormatLinesCardSaid : Prop := Claim7.holds Tryz.pinned (.plain (OpenSpec.ofChange formatLinesSpec)) formatLinesCard

/-- THE TIED CARD OF 'evergreenlaw04.FormatFirst'. -/
def formatFirstCard : Claim7 := { stood := { row := formatFirstRow, standIns := [], harness := (true, "848ebd5b1df7ba5573357c2d3846c0a9f678536491154fdefeb76d3b02710cc9"), looks := true }, kinds := [], alts := [], laidByText := true, laidKinds := [.data, .data, .data, .data, .sentinel, .sentinel, .pinned], laidTests := true, laidLooks := .later }
def FormatFirstCardSaid : Prop := Claim7.holds Tryz.pinned (.plain (OpenSpec.ofChange formatFirstSpec)) formatFirstCard

/-- THE TIED CARD OF 'evergreenlaw04.FormatNamed'. -/
def formatNamedCard : Claim7 := { stood := { row := formatNamedRow, standIns := [], harness := (true, "848ebd5b1df7ba5573357c2d3846c0a9f678536491154fdefeb76d3b02710cc9"), looks := true }, kinds := [], alts := [], laidByText := true, laidKinds := [.data, .data, .data, .data, .sentinel, .sentinel, .pinned], laidTests := true, laidLooks := .later }
def FormatNamedCardSaid : Prop := Claim7.holds Tryz.pinned (.plain (OpenSpec.ofChange formatNamedSpec)) formatNamedCard

/-- THE TIED CARD OF 'evergreenlaw04.FormatLeast'. -/
def formatLeastCard : Claim7 := { stood := { row := formatLeastRow, standIns := [], harness := (true, "848ebd5b1df7ba5573357c2d3846c0a9f678536491154fdefeb76d3b02710cc9"), looks := true }, kinds := [], alts := [], laidByText := true, laidKinds := [.data, .data, .data, .data, .sentinel, .sentinel, .pinned], laidTests := true, laidLooks := .later }
def FormatLeastCardSaid : Prop := Claim7.holds Tryz.pinned (.plain (OpenSpec.ofChange formatLeastSpec)) formatLeastCard

/-- THE SECOND FORM's CARD OF 'evergreenlaw04.FormatMatchesReference'. -/
def formatMatchesReferenceUptoCard : Claim7 := { stood := { row := formatMatchesReferenceUptoRow, standIns := [], harness := (true, "848ebd5b1df7ba5573357c2d3846c0a9f678536491154fdefeb76d3b02710cc9"), looks := true }, kinds := [], alts := [], laidByText := true, laidKinds := [.data, .data, .data, .data, .sentinel, .sentinel, .pinned], laidTests := true, laidLooks := .later }
def FormatMatchesReferenceUptoCardSaid : Prop := Claim7.holds Tryz.pinned (.plain (OpenSpec.upto formatMatchesReferenceSpec)) formatMatchesReferenceUptoCard

/-- THE SECOND FORM's CARD OF 'evergreenlaw04.FormatTextMatchesReference'. -/
def formatTextMatchesReferenceUptoCard : Claim7 := { stood := { row := formatTextMatchesReferenceUptoRow, standIns := [], harness := (true, "848ebd5b1df7ba5573357c2d3846c0a9f678536491154fdefeb76d3b02710cc9"), looks := true }, kinds := [], alts := [], laidByText := true, laidKinds := [.data, .data, .data, .data, .sentinel, .sentinel, .pinned], laidTests := true, laidLooks := .later }
def FormatTextMatchesReferenceUptoCardSaid : Prop := Claim7.holds Tryz.pinned (.plain (OpenSpec.upto formatTextMatchesReferenceSpec)) formatTextMatchesReferenceUptoCard

/-- THE SECOND FORM's CARD OF 'evergreenlaw04.FormatRoundTrip'. -/
def formatRoundTripUptoCard : Claim7 := { stood := { row := formatRoundTripUptoRow, standIns := [], harness := (true, "848ebd5b1df7ba5573357c2d3846c0a9f678536491154fdefeb76d3b02710cc9"), looks := true }, kinds := [], alts := [], laidByText := true, laidKinds := [.data, .data, .data, .data, .sentinel, .sentinel, .pinned], laidTests := true, laidLooks := .later }
def FormatRoundTripUptoCardSaid : Prop := Claim7.holds Tryz.pinned (.plain (OpenSpec.upto formatRoundTripSpec)) formatRoundTripUptoCard

/-- THE SECOND FORM's CARD OF 'evergreenlaw04.FormatLines'. -/
def formatLinesUptoCard : Claim7 := { stood := { row := formatLinesUptoRow, standIns := [], harness := (true, "848ebd5b1df7ba5573357c2d3846c0a9f678536491154fdefeb76d3b02710cc9"), looks := true }, kinds := [], alts := [], laidByText := true, laidKinds := [.data, .data, .data, .data, .sentinel, .sentinel, .pinned], laidTests := true, laidLooks := .later }
def FormatLinesUptoCardSaid : Prop := Claim7.holds Tryz.pinned (.plain (OpenSpec.upto formatLinesSpec)) formatLinesUptoCard

/-- THE SECOND FORM's CARD OF 'evergreenlaw04.FormatFirst'. -/
def formatFirstUptoCard : Claim7 := { stood := { row := formatFirstUptoRow, standIns := [], harness := (true, "848ebd5b1df7ba5573357c2d3846c0a9f678536491154fdefeb76d3b02710cc9"), looks := true }, kinds := [], alts := [], laidByText := true, laidKinds := [.data, .data, .data, .data, .sentinel, .sentinel, .pinned], laidTests := true, laidLooks := .later }
def FormatFirstUptoCardSaid : Prop := Claim7.holds Tryz.pinned (.plain (OpenSpec.upto formatFirstSpec)) formatFirstUptoCard

/-- THE SECOND FORM's CARD OF 'evergreenlaw04.FormatNamed'. -/
def formatNamedUptoCard : Claim7 := { stood := { row := formatNamedUptoRow, standIns := [], harness := (true, "848ebd5b1df7ba5573357c2d3846c0a9f678536491154fdefeb76d3b02710cc9"), looks := true }, kinds := [], alts := [], laidByText := true, laidKinds := [.data, .data, .data, .data, .sentinel, .sentinel, .pinned], laidTests := true, laidLooks := .later }
def FormatNamedUptoCardSaid : Prop := Claim7.holds Tryz.pinned (.plain (OpenSpec.upto formatNamedSpec)) formatNamedUptoCard

/-- THE SECOND FORM's CARD OF 'evergreenlaw04.FormatLeast'. -/
def formatLeastUptoCard : Claim7 := { stood := { row := formatLeastUptoRow, standIns := [], harness := (true, "848ebd5b1df7ba5573357c2d3846c0a9f678536491154fdefeb76d3b02710cc9"), looks := true }, kinds := [], alts := [], laidByText := true, laidKinds := [.data, .data, .data, .data, .sentinel, .sentinel, .pinned], laidTests := true, laidLooks := .later }
def FormatLeastUptoCardSaid : Prop := Claim7.holds Tryz.pinned (.plain (OpenSpec.upto formatLeastSpec)) formatLeastUptoCard
end Rows
end Go.Proofs.YtcpfmlaipejfpaaGreatDoor
