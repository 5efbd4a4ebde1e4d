/-
  DERIVED. GIVEN WITH THE SEED: THE CARDS: each row of YtjlldolmlfgejaaDoorRows.lean that lists a variable, with what it lists TIED to the program's text (the seventh form; the later family's looks); each row that meets fmt, with fmt's text TOLD by the authors' own Lean function (tested against real Go, not proved from fmt's source: count such statements apart). THE CARD IS WHAT COUNTS. Prove the row's statement (the work); the ties are given (YtjlldolmlfgejaaDoorTie.lean); close each card by the builder's one call (the guide's Derived/Test/ToyasCard.lean, 'card_holds'). Laid BY PROGRAM, IN A SANDBOX (cutbox-door.mjs). By AI agents, Wed Nov 11 2026. No macro, syntax, notation, axiom, sorry.
-/
import Derived.Test.YtjlldolmlfgejaaDoorRows
import GoSem.ClaimSeven
namespace Go.Proofs.YtjlldolmlfgejaaDoor
namespace Rows

/-- THE TIED CARD OF 'evergreenlaw16.SampleMatchesReference'. -/
def sampleMatchesReferenceCard : Claim7 := { stood := { row := sampleMatchesReferenceRow, standIns := [], harness := (true, "f280d3b25affa2d217ca5ddb96eea4144919626d05da2afa35fb1d10b5bfdfe5"), looks := true }, kinds := [], alts := [], laidByText := true, laidKinds := [.data], laidTests := true, laidLooks := .later }
def SampleMatchesReferenceCardSaid : Prop := Claim7.holds Tryd.pinned (.plain (OpenSpec.ofChange sampleMatchesReferenceSpec)) sampleMatchesReferenceCard

/-- THE TIED CARD OF 'evergreenlaw16.SampleDrawMatchesReference'. -/
def sampleDrawMatchesReferenceCard : Claim7 := { stood := { row := sampleDrawMatchesReferenceRow, standIns := [], harness := (true, "f280d3b25affa2d217ca5ddb96eea4144919626d05da2afa35fb1d10b5bfdfe5"), looks := true }, kinds := [], alts := [], laidByText := true, laidKinds := [.data], laidTests := true, laidLooks := .later }
def SampleDrawMatchesReferenceCardSaid : Prop := Claim7.holds Tryd.pinned (.plain (OpenSpec.ofChange sampleDrawMatchesReferenceSpec)) sampleDrawMatchesReferenceCard

/-- THE TIED CARD OF 'evergreenlaw16.SampleCounts'. -/
def sampleCountsCard : Claim7 := { stood := { row := sampleCountsRow, standIns := [], harness := (true, "f280d3b25affa2d217ca5ddb96eea4144919626d05da2afa35fb1d10b5bfdfe5"), looks := true }, kinds := [], alts := [], laidByText := true, laidKinds := [.data], laidTests := true, laidLooks := .later }
def SampleCountsCardSaid : Prop := Claim7.holds Tryd.pinned (.plain (OpenSpec.ofChange sampleCountsSpec)) sampleCountsCard

/-- THE TIED CARD OF 'evergreenlaw16.SampleSymmetric'. -/
def sampleSymmetricCard : Claim7 := { stood := { row := sampleSymmetricRow, standIns := [], harness := (true, "f280d3b25affa2d217ca5ddb96eea4144919626d05da2afa35fb1d10b5bfdfe5"), looks := true }, kinds := [], alts := [], laidByText := true, laidKinds := [.data], laidTests := true, laidLooks := .later }
def SampleSymmetricCardSaid : Prop := Claim7.holds Tryd.pinned (.plain (OpenSpec.ofChange sampleSymmetricSpec)) sampleSymmetricCard

/-- THE TIED CARD OF 'evergreenlaw16.SampleNeeded'. -/
def sampleNeededCard : Claim7 := { stood := { row := sampleNeededRow, standIns := [], harness := (true, "f280d3b25affa2d217ca5ddb96eea4144919626d05da2afa35fb1d10b5bfdfe5"), looks := true }, kinds := [], alts := [], laidByText := true, laidKinds := [.data], laidTests := true, laidLooks := .later }
def SampleNeededCardSaid : Prop := Claim7.holds Tryd.pinned (.plain (OpenSpec.ofChange sampleNeededSpec)) sampleNeededCard

/-- THE TIED CARD OF 'evergreenlaw16.SampleBound'. -/
def sampleBoundCard : Claim7 := { stood := { row := sampleBoundRow, standIns := [], harness := (true, "f280d3b25affa2d217ca5ddb96eea4144919626d05da2afa35fb1d10b5bfdfe5"), looks := true }, kinds := [], alts := [], laidByText := true, laidKinds := [.data], laidTests := true, laidLooks := .later }
def SampleBoundCardSaid : Prop := Claim7.holds Tryd.pinned (.plain (OpenSpec.ofChange sampleBoundSpec)) sampleBoundCard

/-- THE TIED CARD OF 'evergreenlaw16.SampleDrawn'. -/
def sampleDrawnCard : Claim7 := { stood := { row := sampleDrawnRow, standIns := [], harness := (true, "f280d3b25affa2d217ca5ddb96eea4144919626d05da2afa35fb1d10b5bfdfe5"), looks := true }, kinds := [], alts := [], laidByText := true, laidKinds := [.data], laidTests := true, laidLooks := .later }
def SampleDrawnCardSaid : Prop := Claim7.holds Tryd.pinned (.plain (OpenSpec.ofChange sampleDrawnSpec)) sampleDrawnCard

/-- THE TIED CARD OF 'evergreenlaw16.SampleProduct'. -/
def sampleProductCard : Claim7 := { stood := { row := sampleProductRow, standIns := [], harness := (true, "f280d3b25affa2d217ca5ddb96eea4144919626d05da2afa35fb1d10b5bfdfe5"), looks := true }, kinds := [], alts := [], laidByText := true, laidKinds := [.data, .sentinel], laidTests := true, laidLooks := .later }
def SampleProductCardSaid : Prop := Claim7.holds Tryd.pinned (.plain (OpenSpec.ofChange sampleProductSpec)) sampleProductCard

/-- THE SECOND FORM's CARD OF 'evergreenlaw16.SampleMatchesReference'. -/
def sampleMatchesReferenceUptoCard : Claim7 := { stood := { row := sampleMatchesReferenceUptoRow, standIns := [], harness := (true, "f280d3b25affa2d217ca5ddb96eea4144919626d05da2afa35fb1d10b5bfdfe5"), looks := true }, kinds := [], alts := [], laidByText := true, laidKinds := [.data], laidTests := true, laidLooks := .later }
def SampleMatchesReferenceUptoCardSaid : Prop := Claim7.holds Tryd.pinned (.plain (OpenSpec.upto sampleMatchesReferenceSpec)) sampleMatchesReferenceUptoCard

/-- THE SECOND FORM's CARD OF 'evergreenlaw16.SampleDrawMatchesReference'. -/
def sampleDrawMatchesReferenceUptoCard : Claim7 := { stood := { row := sampleDrawMatchesReferenceUptoRow, standIns := [], harness := (true, "f280d3b25affa2d217ca5ddb96eea4144919626d05da2afa35fb1d10b5bfdfe5"), looks := true }, kinds := [], alts := [], laidByText := true, laidKinds := [.data], laidTests := true, laidLooks := .later }
def SampleDrawMatchesReferenceUptoCardSaid : Prop := Claim7.holds Tryd.pinned (.plain (OpenSpec.upto sampleDrawMatchesReferenceSpec)) sampleDrawMatchesReferenceUptoCard

/-- THE SECOND FORM's CARD OF 'evergreenlaw16.SampleCounts'. -/
def sampleCountsUptoCard : Claim7 := { stood := { row := sampleCountsUptoRow, standIns := [], harness := (true, "f280d3b25affa2d217ca5ddb96eea4144919626d05da2afa35fb1d10b5bfdfe5"), looks := true }, kinds := [], alts := [], laidByText := true, laidKinds := [.data], laidTests := true, laidLooks := .later }
def SampleCountsUptoCardSaid : Prop := Claim7.holds Tryd.pinned (.plain (OpenSpec.upto sampleCountsSpec)) sampleCountsUptoCard

/-- THE SECOND FORM's CARD OF 'evergreenlaw16.SampleSymmetric'. -/
def sampleSymmetricUptoCard : Claim7 := { stood := { row := sampleSymmetricUptoRow, standIns := [], harness := (true, "f280d3b25affa2d217ca5ddb96eea4144919626d05da2afa35fb1d10b5bfdfe5"), looks := true }, kinds := [], alts := [], laidByText := true, laidKinds := [.data], laidTests := true, laidLooks := .later }
def SampleSymmetricUptoCardSaid : Prop := Claim7.holds Tryd.pinned (.plain (OpenSpec.upto sampleSymmetricSpec)) sampleSymmetricUptoCard

/-- THE SECOND FORM's CARD OF 'evergreenlaw16.SampleNeeded'. -/
def sampleNeededUptoCard : Claim7 := { stood := { row := sampleNeededUptoRow, standIns := [], harness := (true, "f280d3b25affa2d217ca5ddb96eea4144919626d05da2afa35fb1d10b5bfdfe5"), looks := true }, kinds := [], alts := [], laidByText := true, laidKinds := [.data], laidTests := true, laidLooks := .later }
def SampleNeededUptoCardSaid : Prop := Claim7.holds Tryd.pinned (.plain (OpenSpec.upto sampleNeededSpec)) sampleNeededUptoCard

/-- THE SECOND FORM's CARD OF 'evergreenlaw16.SampleBound'. -/
def sampleBoundUptoCard : Claim7 := { stood := { row := sampleBoundUptoRow, standIns := [], harness := (true, "f280d3b25affa2d217ca5ddb96eea4144919626d05da2afa35fb1d10b5bfdfe5"), looks := true }, kinds := [], alts := [], laidByText := true, laidKinds := [.data], laidTests := true, laidLooks := .later }
def SampleBoundUptoCardSaid : Prop := Claim7.holds Tryd.pinned (.plain (OpenSpec.upto sampleBoundSpec)) sampleBoundUptoCard

/-- THE SECOND FORM's CARD OF 'evergreenlaw16.SampleDrawn'. -/
def sampleDrawnUptoCard : Claim7 := { stood := { row := sampleDrawnUptoRow, standIns := [], harness := (true, "f280d3b25affa2d217ca5ddb96eea4144919626d05da2afa35fb1d10b5bfdfe5"), looks := true }, kinds := [], alts := [], laidByText := true, laidKinds := [.data], laidTests := true, laidLooks := .later }
def SampleDrawnUptoCardSaid : Prop := Claim7.holds Tryd.pinned (.plain (OpenSpec.upto sampleDrawnSpec)) sampleDrawnUptoCard

/-- THE SECOND FORM's CARD OF 'evergreenlaw16.SampleProduct'. -/
def sampleProductUptoCard : Claim7 := { stood := { row := sampleProductUptoRow, standIns := [], harness := (true, "f280d3b25affa2d217ca5ddb96eea4144919626d05da2afa35fb1d10b5bfdfe5"), looks := true }, kinds := [], alts := [], laidByText := true, laidKinds := [.data, .sentinel], laidTests := true, laidLooks := .later }
def SampleProductUptoCardSaid : Prop := Claim7.holds Tryd.pinned (.plain (OpenSpec.upto sampleProductSpec)) sampleProductUptoCard
end Rows
end Go.Proofs.YtjlldolmlfgejaaDoor
