/-
  DERIVED. GIVEN WITH THE SEED: THE CARDS: each row of YtpeandbcdaikbaaGreatDoorRows.lean that lists a variable, with what it lists TIED to the program's text (the seventh form; the later family's looks); each row that meets fmt, with fmt's text TOLD by the authors' own Lean function (tested against real Go, not proved from fmt's source: count such statements apart). THE CARD IS WHAT COUNTS. Prove the row's statement (the work); the ties are given (YtpeandbcdaikbaaGreatDoorTie.lean); close each card by the builder's one call (the guide's Derived/Test/ToyasCard.lean, 'card_holds'). Laid BY PROGRAM, IN A SANDBOX (cutbox-door.mjs). By AI agents, Wed Nov 11 2026. No macro, syntax, notation, axiom, sorry.
-/
import Derived.Test.YtpeandbcdaikbaaGreatDoorRows
import GoSem.ClaimSeven
namespace Go.Proofs.YtpeandbcdaikbaaGreatDoor
namespace Rows

/-- THE TIED CARD OF 'evergreenlaw11.RouteMatchesReference'. -/
def routeMatchesReferenceCard : Claim7 := { stood := { row := routeMatchesReferenceRow, standIns := [], harness := (true, "a17e67633c6fdf4f9d5269fcfef8285f702c32304ff4ff4c247298ddff750289"), looks := false }, kinds := [], alts := [], laidByText := true, laidKinds := [.data, .pinned, .pinned], laidTests := true, laidLooks := .later }
def RouteMatchesReferenceCardSaid : Prop := Claim7.holds Tryz.pinned (.plain (OpenSpec.ofChange routeMatchesReferenceSpec)) routeMatchesReferenceCard

/-- THE TIED CARD OF 'evergreenlaw11.RouteBest'. -/
def routeBestCard : Claim7 := { stood := { row := routeBestRow, standIns := [], harness := (true, "a17e67633c6fdf4f9d5269fcfef8285f702c32304ff4ff4c247298ddff750289"), looks := false }, kinds := [], alts := [], laidByText := true, laidKinds := [.data, .pinned, .pinned], laidTests := true, laidLooks := .later }
def RouteBestCardSaid : Prop := Claim7.holds Tryz.pinned (.plain (OpenSpec.ofChange routeBestSpec)) routeBestCard

/-- THE TIED CARD OF 'evergreenlaw11.RouteDivided'. -/
def routeDividedCard : Claim7 := { stood := { row := routeDividedRow, standIns := [], harness := (true, "a17e67633c6fdf4f9d5269fcfef8285f702c32304ff4ff4c247298ddff750289"), looks := false }, kinds := [], alts := [], laidByText := true, laidKinds := [.data, .pinned, .pinned], laidTests := true, laidLooks := .later }
def RouteDividedCardSaid : Prop := Claim7.holds Tryz.pinned (.plain (OpenSpec.ofChange routeDividedSpec)) routeDividedCard

/-- THE TIED CARD OF 'evergreenlaw11.RouteKept'. -/
def routeKeptCard : Claim7 := { stood := { row := routeKeptRow, standIns := [], harness := (true, "a17e67633c6fdf4f9d5269fcfef8285f702c32304ff4ff4c247298ddff750289"), looks := false }, kinds := [], alts := [], laidByText := true, laidKinds := [.data, .pinned, .pinned], laidTests := true, laidLooks := .later }
def RouteKeptCardSaid : Prop := Claim7.holds Tryz.pinned (.plain (OpenSpec.ofChange routeKeptSpec)) routeKeptCard

/-- THE TIED CARD OF 'evergreenlaw11.RouteExpired'. -/
def routeExpiredCard : Claim7 := { stood := { row := routeExpiredRow, standIns := [], harness := (true, "a17e67633c6fdf4f9d5269fcfef8285f702c32304ff4ff4c247298ddff750289"), looks := false }, kinds := [], alts := [], laidByText := true, laidKinds := [.data, .pinned, .pinned], laidTests := true, laidLooks := .later }
def RouteExpiredCardSaid : Prop := Claim7.holds Tryz.pinned (.plain (OpenSpec.ofChange routeExpiredSpec)) routeExpiredCard

/-- THE TIED CARD OF 'evergreenlaw11.RouteOrder'. -/
def routeOrderCard : Claim7 := { stood := { row := routeOrderRow, standIns := [], harness := (true, "a17e67633c6fdf4f9d5269fcfef8285f702c32304ff4ff4c247298ddff750289"), looks := false }, kinds := [], alts := [], laidByText := true, laidKinds := [.data, .pinned, .pinned], laidTests := true, laidLooks := .later }
def RouteOrderCardSaid : Prop := Claim7.holds Tryz.pinned (.plain (OpenSpec.ofChange routeOrderSpec)) routeOrderCard

/-- THE TIED CARD OF 'evergreenlaw11.RouteClaims'. -/
def routeClaimsCard : Claim7 := { stood := { row := routeClaimsRow, standIns := [], harness := (true, "a17e67633c6fdf4f9d5269fcfef8285f702c32304ff4ff4c247298ddff750289"), looks := false }, kinds := [], alts := [], laidByText := true, laidKinds := [.data, .pinned, .pinned], laidTests := true, laidLooks := .later }
def RouteClaimsCardSaid : Prop := Claim7.holds Tryz.pinned (.plain (OpenSpec.ofChange routeClaimsSpec)) routeClaimsCard

/-- THE SECOND FORM's CARD OF 'evergreenlaw11.RouteMatchesReference'. -/
def routeMatchesReferenceUptoCard : Claim7 := { stood := { row := routeMatchesReferenceUptoRow, standIns := [], harness := (true, "a17e67633c6fdf4f9d5269fcfef8285f702c32304ff4ff4c247298ddff750289"), looks := false }, kinds := [], alts := [], laidByText := true, laidKinds := [.data, .pinned, .pinned], laidTests := true, laidLooks := .later }
def RouteMatchesReferenceUptoCardSaid : Prop := Claim7.holds Tryz.pinned (.plain (OpenSpec.upto routeMatchesReferenceSpec)) routeMatchesReferenceUptoCard

/-- THE SECOND FORM's CARD OF 'evergreenlaw11.RouteBest'. -/
def routeBestUptoCard : Claim7 := { stood := { row := routeBestUptoRow, standIns := [], harness := (true, "a17e67633c6fdf4f9d5269fcfef8285f702c32304ff4ff4c247298ddff750289"), looks := false }, kinds := [], alts := [], laidByText := true, laidKinds := [.data, .pinned, .pinned], laidTests := true, laidLooks := .later }
def RouteBestUptoCardSaid : Prop := Claim7.holds Tryz.pinned (.plain (OpenSpec.upto routeBestSpec)) routeBestUptoCard

/-- THE SECOND FORM's CARD OF 'evergreenlaw11.RouteDivided'. -/
def routeDividedUptoCard : Claim7 := { stood := { row := routeDividedUptoRow, standIns := [], harness := (true, "a17e67633c6fdf4f9d5269fcfef8285f702c32304ff4ff4c247298ddff750289"), looks := false }, kinds := [], alts := [], laidByText := true, laidKinds := [.data, .pinned, .pinned], laidTests := true, laidLooks := .later }
def RouteDividedUptoCardSaid : Prop := Claim7.holds Tryz.pinned (.plain (OpenSpec.upto routeDividedSpec)) routeDividedUptoCard

/-- THE SECOND FORM's CARD OF 'evergreenlaw11.RouteKept'. -/
def routeKeptUptoCard : Claim7 := { stood := { row := routeKeptUptoRow, standIns := [], harness := (true, "a17e67633c6fdf4f9d5269fcfef8285f702c32304ff4ff4c247298ddff750289"), looks := false }, kinds := [], alts := [], laidByText := true, laidKinds := [.data, .pinned, .pinned], laidTests := true, laidLooks := .later }
def RouteKeptUptoCardSaid : Prop := Claim7.holds Tryz.pinned (.plain (OpenSpec.upto routeKeptSpec)) routeKeptUptoCard

/-- THE SECOND FORM's CARD OF 'evergreenlaw11.RouteExpired'. -/
def routeExpiredUptoCard : Claim7 := { stood := { row := routeExpiredUptoRow, standIns := [], harness := (true, "a17e67633c6fdf4f9d5269fcfef8285f702c32304ff4ff4c247298ddff750289"), looks := false }, kinds := [], alts := [], laidByText := true, laidKinds := [.data, .pinned, .pinned], laidTests := true, laidLooks := .later }
def RouteExpiredUptoCardSaid : Prop := Claim7.holds Tryz.pinned (.plain (OpenSpec.upto routeExpiredSpec)) routeExpiredUptoCard

/-- THE SECOND FORM's CARD OF 'evergreenlaw11.RouteOrder'. -/
def routeOrderUptoCard : Claim7 := { stood := { row := routeOrderUptoRow, standIns := [], harness := (true, "a17e67633c6fdf4f9d5269fcfef8285f702c32304ff4ff4c247298ddff750289"), looks := false }, kinds := [], alts := [], laidByText := true, laidKinds := [.data, .pinned, .pinned], laidTests := true, laidLooks := .later }
def RouteOrderUptoCardSaid : Prop := Claim7.holds Tryz.pinned (.plain (OpenSpec.upto routeOrderSpec)) routeOrderUptoCard

/-- THE SECOND FORM's CARD OF 'evergreenlaw11.RouteClaims'. -/
def routeClaimsUptoCard : Claim7 := { stood := { row := routeClaimsUptoRow, standIns := [], harness := (true, "a17e67633c6fdf4f9d5269fcfef8285f702c32304ff4ff4c247298ddff750289"), looks := false }, kinds := [], alts := [], laidByText := true, laidKinds := [.data, .pinned, .pinned], laidTests := true, laidLooks := .later }
def RouteClaimsUptoCardSaid : Prop := Claim7.holds Tryz.pinned (.plain (OpenSpec.upto routeClaimsSpec)) routeClaimsUptoCard
end Rows
end Go.Proofs.YtpeandbcdaikbaaGreatDoor
