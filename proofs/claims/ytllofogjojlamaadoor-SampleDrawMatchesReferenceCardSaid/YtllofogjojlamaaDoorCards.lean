/-
  DERIVED. GIVEN WITH THE SEED: THE CARDS: each row of YtllofogjojlamaaDoorRows.lean that lists a variable, with what it lists TIED to the program's text (the seventh form; the later family's looks); each row that meets fmt, with fmt's text TOLD by the authors' own Lean function (tested against real Go, not proved from fmt's source: count such statements apart). THE CARD IS WHAT COUNTS. Prove the row's statement (the work); the ties are given (YtllofogjojlamaaDoorTie.lean); close each card by the builder's one call (the guide's Derived/Test/ToyasCard.lean, 'card_holds'). Laid BY PROGRAM, IN A SANDBOX (cutbox-door.mjs). By AI agents, Wed Nov 11 2026. No macro, syntax, notation, axiom, sorry.
-/
import Derived.Test.YtllofogjojlamaaDoorRows
import GoSem.ClaimSeven
namespace Go.Proofs.YtllofogjojlamaaDoor
namespace Rows

/-- THE TIED CARD OF 'evergreenlaw16.SampleDrawMatchesReference'. -/
def sampleDrawMatchesReferenceCard : Claim7 := { stood := { row := sampleDrawMatchesReferenceRow, standIns := [], harness := (true, "e51382fefc8e4979734e2f8716fd6b8b64befd3676539c8b54fb3be4f3c7f82a"), looks := false }, kinds := [], alts := [], laidByText := true, laidKinds := [.data], laidTests := true, laidLooks := .later }
def SampleDrawMatchesReferenceCardSaid : Prop := Claim7.holds Tryd.pinned (.plain (OpenSpec.ofChange sampleDrawMatchesReferenceSpec)) sampleDrawMatchesReferenceCard

/-- THE SECOND FORM's CARD OF 'evergreenlaw16.SampleDrawMatchesReference'. -/
def sampleDrawMatchesReferenceUptoCard : Claim7 := { stood := { row := sampleDrawMatchesReferenceUptoRow, standIns := [], harness := (true, "e51382fefc8e4979734e2f8716fd6b8b64befd3676539c8b54fb3be4f3c7f82a"), looks := false }, kinds := [], alts := [], laidByText := true, laidKinds := [.data], laidTests := true, laidLooks := .later }
def SampleDrawMatchesReferenceUptoCardSaid : Prop := Claim7.holds Tryd.pinned (.plain (OpenSpec.upto sampleDrawMatchesReferenceSpec)) sampleDrawMatchesReferenceUptoCard
end Rows
end Go.Proofs.YtllofogjojlamaaDoor
