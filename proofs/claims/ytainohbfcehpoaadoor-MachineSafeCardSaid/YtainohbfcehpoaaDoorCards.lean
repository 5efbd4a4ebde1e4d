/-
  DERIVED. GIVEN WITH THE SEED: THE CARDS: each row of YtainohbfcehpoaaDoorRows.lean that lists a variable, with what it lists TIED to the program's text (the seventh form; the later family's looks); each row that meets fmt, with fmt's text TOLD by the authors' own Lean function (tested against real Go, not proved from fmt's source: count such statements apart). THE CARD IS WHAT COUNTS. Prove the row's statement (the work); the ties are given (YtainohbfcehpoaaDoorTie.lean); close each card by the builder's one call (the guide's Derived/Test/ToyasCard.lean, 'card_holds'). Laid BY PROGRAM, IN A SANDBOX (cutbox-door.mjs). By AI agents, Wed Nov 11 2026. No macro, syntax, notation, axiom, sorry.
-/
import Derived.Test.YtainohbfcehpoaaDoorRows
import GoSem.ClaimSeven
namespace Go.Proofs.YtainohbfcehpoaaDoor
namespace Rows

/-- THE TIED CARD OF 'evergreenlaw08.MachineMatchesReference'. -/
def machineMatchesReferenceCard : Claim7 := { stood := { row := machineMatchesReferenceRow, standIns := [], harness := (true, "f146209ccde3de96c9f7603f729d48b139b8ef019990a23eb97eb290806ee07f"), looks := true }, kinds := [], alts := [], laidByText := true, laidKinds := [.data, .data, .data, .data, .data, .sentinel, .sentinel, .widerDeep], laidTests := true, laidLooks := .later }
def MachineMatchesReferenceCardSaid : Prop := Claim7.holds Tryd.pinned (.plain (OpenSpec.ofChange machineMatchesReferenceSpec)) machineMatchesReferenceCard

/-- THE TIED CARD OF 'evergreenlaw08.MachineTextMatchesReference'. -/
def machineTextMatchesReferenceCard : Claim7 := { stood := { row := machineTextMatchesReferenceRow, standIns := [], harness := (true, "f146209ccde3de96c9f7603f729d48b139b8ef019990a23eb97eb290806ee07f"), looks := true }, kinds := [], alts := [], laidByText := true, laidKinds := [.data, .data, .data, .data, .data, .data, .sentinel, .sentinel, .widerDeep], laidTests := true, laidLooks := .later }
def MachineTextMatchesReferenceCardSaid : Prop := Claim7.holds Tryd.pinned (.plain (OpenSpec.ofChange machineTextMatchesReferenceSpec)) machineTextMatchesReferenceCard

/-- THE TIED CARD OF 'evergreenlaw08.MachineSafe'. -/
def machineSafeCard : Claim7 := { stood := { row := machineSafeRow, standIns := [], harness := (true, "f146209ccde3de96c9f7603f729d48b139b8ef019990a23eb97eb290806ee07f"), looks := true }, kinds := [], alts := [], laidByText := true, laidKinds := [.data, .data, .data, .data, .data, .sentinel, .sentinel, .widerDeep], laidTests := true, laidLooks := .later }
def MachineSafeCardSaid : Prop := Claim7.holds Tryd.pinned (.plain (OpenSpec.ofChange machineSafeSpec)) machineSafeCard

/-- THE TIED CARD OF 'evergreenlaw08.MachineSteps'. -/
def machineStepsCard : Claim7 := { stood := { row := machineStepsRow, standIns := [], harness := (true, "f146209ccde3de96c9f7603f729d48b139b8ef019990a23eb97eb290806ee07f"), looks := true }, kinds := [], alts := [], laidByText := true, laidKinds := [.data, .data, .data, .data, .data, .sentinel, .sentinel, .widerDeep], laidTests := true, laidLooks := .later }
def MachineStepsCardSaid : Prop := Claim7.holds Tryd.pinned (.plain (OpenSpec.ofChange machineStepsSpec)) machineStepsCard

/-- THE TIED CARD OF 'evergreenlaw08.MachineInput'. -/
def machineInputCard : Claim7 := { stood := { row := machineInputRow, standIns := [], harness := (true, "f146209ccde3de96c9f7603f729d48b139b8ef019990a23eb97eb290806ee07f"), looks := true }, kinds := [], alts := [], laidByText := true, laidKinds := [.data, .data, .data, .data, .data, .sentinel, .sentinel, .widerDeep], laidTests := true, laidLooks := .later }
def MachineInputCardSaid : Prop := Claim7.holds Tryd.pinned (.plain (OpenSpec.ofChange machineInputSpec)) machineInputCard

/-- THE TIED CARD OF 'evergreenlaw08.MachineRoundTrip'. -/
def machineRoundTripCard : Claim7 := { stood := { row := machineRoundTripRow, standIns := [], harness := (true, "f146209ccde3de96c9f7603f729d48b139b8ef019990a23eb97eb290806ee07f"), looks := true }, kinds := [], alts := [], laidByText := true, laidKinds := [.data, .data, .data, .data, .data, .sentinel, .sentinel, .widerDeep], laidTests := true, laidLooks := .later }
def MachineRoundTripCardSaid : Prop := Claim7.holds Tryd.pinned (.plain (OpenSpec.ofChange machineRoundTripSpec)) machineRoundTripCard

/-- THE TIED CARD OF 'evergreenlaw08.MachineParsedAgain'. -/
def machineParsedAgainCard : Claim7 := { stood := { row := machineParsedAgainRow, standIns := [], harness := (true, "f146209ccde3de96c9f7603f729d48b139b8ef019990a23eb97eb290806ee07f"), looks := true }, kinds := [], alts := [], laidByText := true, laidKinds := [.data, .data, .data, .data, .data, .data, .sentinel, .sentinel, .widerDeep], laidTests := true, laidLooks := .later }
def MachineParsedAgainCardSaid : Prop := Claim7.holds Tryd.pinned (.plain (OpenSpec.ofChange machineParsedAgainSpec)) machineParsedAgainCard

/-- THE TIED CARD OF 'evergreenlaw08.MachineCalculates'. -/
def machineCalculatesCard : Claim7 := { stood := { row := machineCalculatesRow, standIns := [], harness := (true, "f146209ccde3de96c9f7603f729d48b139b8ef019990a23eb97eb290806ee07f"), looks := true }, kinds := [], alts := [], laidByText := true, laidKinds := [.data, .data, .data, .sentinel, .sentinel, .widerDeep], laidTests := true, laidLooks := .later }
def MachineCalculatesCardSaid : Prop := Claim7.holds Tryd.pinned (.plain (OpenSpec.ofChange machineCalculatesSpec)) machineCalculatesCard

/-- THE SECOND FORM's CARD OF 'evergreenlaw08.MachineMatchesReference'. -/
def machineMatchesReferenceUptoCard : Claim7 := { stood := { row := machineMatchesReferenceUptoRow, standIns := [], harness := (true, "f146209ccde3de96c9f7603f729d48b139b8ef019990a23eb97eb290806ee07f"), looks := true }, kinds := [], alts := [], laidByText := true, laidKinds := [.data, .data, .data, .data, .data, .sentinel, .sentinel, .widerDeep], laidTests := true, laidLooks := .later }
def MachineMatchesReferenceUptoCardSaid : Prop := Claim7.holds Tryd.pinned (.plain (OpenSpec.upto machineMatchesReferenceSpec)) machineMatchesReferenceUptoCard

/-- THE SECOND FORM's CARD OF 'evergreenlaw08.MachineTextMatchesReference'. -/
def machineTextMatchesReferenceUptoCard : Claim7 := { stood := { row := machineTextMatchesReferenceUptoRow, standIns := [], harness := (true, "f146209ccde3de96c9f7603f729d48b139b8ef019990a23eb97eb290806ee07f"), looks := true }, kinds := [], alts := [], laidByText := true, laidKinds := [.data, .data, .data, .data, .data, .data, .sentinel, .sentinel, .widerDeep], laidTests := true, laidLooks := .later }
def MachineTextMatchesReferenceUptoCardSaid : Prop := Claim7.holds Tryd.pinned (.plain (OpenSpec.upto machineTextMatchesReferenceSpec)) machineTextMatchesReferenceUptoCard

/-- THE SECOND FORM's CARD OF 'evergreenlaw08.MachineSafe'. -/
def machineSafeUptoCard : Claim7 := { stood := { row := machineSafeUptoRow, standIns := [], harness := (true, "f146209ccde3de96c9f7603f729d48b139b8ef019990a23eb97eb290806ee07f"), looks := true }, kinds := [], alts := [], laidByText := true, laidKinds := [.data, .data, .data, .data, .data, .sentinel, .sentinel, .widerDeep], laidTests := true, laidLooks := .later }
def MachineSafeUptoCardSaid : Prop := Claim7.holds Tryd.pinned (.plain (OpenSpec.upto machineSafeSpec)) machineSafeUptoCard

/-- THE SECOND FORM's CARD OF 'evergreenlaw08.MachineSteps'. -/
def machineStepsUptoCard : Claim7 := { stood := { row := machineStepsUptoRow, standIns := [], harness := (true, "f146209ccde3de96c9f7603f729d48b139b8ef019990a23eb97eb290806ee07f"), looks := true }, kinds := [], alts := [], laidByText := true, laidKinds := [.data, .data, .data, .data, .data, .sentinel, .sentinel, .widerDeep], laidTests := true, laidLooks := .later }
def MachineStepsUptoCardSaid : Prop := Claim7.holds Tryd.pinned (.plain (OpenSpec.upto machineStepsSpec)) machineStepsUptoCard

/-- THE SECOND FORM's CARD OF 'evergreenlaw08.MachineInput'. -/
def machineInputUptoCard : Claim7 := { stood := { row := machineInputUptoRow, standIns := [], harness := (true, "f146209ccde3de96c9f7603f729d48b139b8ef019990a23eb97eb290806ee07f"), looks := true }, kinds := [], alts := [], laidByText := true, laidKinds := [.data, .data, .data, .data, .data, .sentinel, .sentinel, .widerDeep], laidTests := true, laidLooks := .later }
def MachineInputUptoCardSaid : Prop := Claim7.holds Tryd.pinned (.plain (OpenSpec.upto machineInputSpec)) machineInputUptoCard

/-- THE SECOND FORM's CARD OF 'evergreenlaw08.MachineRoundTrip'. -/
def machineRoundTripUptoCard : Claim7 := { stood := { row := machineRoundTripUptoRow, standIns := [], harness := (true, "f146209ccde3de96c9f7603f729d48b139b8ef019990a23eb97eb290806ee07f"), looks := true }, kinds := [], alts := [], laidByText := true, laidKinds := [.data, .data, .data, .data, .data, .sentinel, .sentinel, .widerDeep], laidTests := true, laidLooks := .later }
def MachineRoundTripUptoCardSaid : Prop := Claim7.holds Tryd.pinned (.plain (OpenSpec.upto machineRoundTripSpec)) machineRoundTripUptoCard

/-- THE SECOND FORM's CARD OF 'evergreenlaw08.MachineParsedAgain'. -/
def machineParsedAgainUptoCard : Claim7 := { stood := { row := machineParsedAgainUptoRow, standIns := [], harness := (true, "f146209ccde3de96c9f7603f729d48b139b8ef019990a23eb97eb290806ee07f"), looks := true }, kinds := [], alts := [], laidByText := true, laidKinds := [.data, .data, .data, .data, .data, .data, .sentinel, .sentinel, .widerDeep], laidTests := true, laidLooks := .later }
def MachineParsedAgainUptoCardSaid : Prop := Claim7.holds Tryd.pinned (.plain (OpenSpec.upto machineParsedAgainSpec)) machineParsedAgainUptoCard

/-- THE SECOND FORM's CARD OF 'evergreenlaw08.MachineCalculates'. -/
def machineCalculatesUptoCard : Claim7 := { stood := { row := machineCalculatesUptoRow, standIns := [], harness := (true, "f146209ccde3de96c9f7603f729d48b139b8ef019990a23eb97eb290806ee07f"), looks := true }, kinds := [], alts := [], laidByText := true, laidKinds := [.data, .data, .data, .sentinel, .sentinel, .widerDeep], laidTests := true, laidLooks := .later }
def MachineCalculatesUptoCardSaid : Prop := Claim7.holds Tryd.pinned (.plain (OpenSpec.upto machineCalculatesSpec)) machineCalculatesUptoCard
end Rows
end Go.Proofs.YtainohbfcehpoaaDoor
