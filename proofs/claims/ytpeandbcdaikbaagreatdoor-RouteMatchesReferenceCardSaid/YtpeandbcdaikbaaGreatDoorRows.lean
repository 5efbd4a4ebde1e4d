/-
  NARROWER THAN 'FOR EVERY INPUT', by the rows' own cells (each row's printed sentence says how): RouteMatchesReference: laid · RouteBest: laid · RouteDivided: laid · RouteKept: laid · RouteExpired: laid · RouteOrder: laid · RouteClaims: laid.
  DERIVED. THE GIVEN ROWS OF THIS SEAT. 7 by the template 'for every input the law returns true; each argument reads behind the call as it read before'; 0 by the template 'total and deterministic' (their statements: YtpeandbcdaikbaaGreatDoorTotals.lean).
  GIVEN WITH THE SEED: the statements are not yours to turn. If you find one false, say at which input.
  Laid BY PROGRAM, IN A SANDBOX (cutbox-rows.mjs): the forced cells as the released guide's own fill.sh prints them over the translation cfefeef4c01240f2… (all of the seat's roots in one cut). By AI agents, Wed Nov 11 2026. No macro, syntax, notation, axiom, sorry.
-/
import Derived.Test.YtpeandbcdaikbaaGreatDoorChecked
import GoSem.PinnedTables
import GoSem.Claim
import GoSem.ClaimJoined
import GoSem.ClaimMapViews
import Derived.JoinedTies
import Derived.KernelRfl
namespace Go.Proofs.YtpeandbcdaikbaaGreatDoor
/- THE CELL 'sum', in the pinned program and in every row, IS THE sha256 OF THE DUMP (.gsa) THAT YtpeandbcdaikbaaGreatDoorProg.lean LOADS. Nothing in Lean hashes anything: it is a label: what it is worth is what the hold of that sum in a sandbox is worth. -/
noncomputable def Tryz.pinned : Pinned := { name := "ytpeandbcdaikbaagreatdoor", sum := "cfefeef4c01240f21af949879ca78af1192ea5a93f464ea2b21ac2683b300a93", checked := Tryz.checked }
namespace Rows
def none {H : Type} : Left H := { results := [], args := [] }

/- WHAT THE LISTED PACKAGE-LEVEL VARIABLES READ AS WHEN THE CALL BEGINS. Each datum BY PROGRAM (the guide's laid-datum.mjs) off the statement by which the dump's own 'gosem.cut.vars' lays the variable. In a bare row this is a premise. The card (YtpeandbcdaikbaaGreatDoorCards.lean) ties it to the program's text. -/
def laid_unicode_utf8_acceptRanges {H : Type} : DataW H := .agg [.agg [.lit (.int .u8 128), .lit (.int .u8 191)], .agg [.lit (.int .u8 160), .lit (.int .u8 191)], .agg [.lit (.int .u8 128), .lit (.int .u8 159)], .agg [.lit (.int .u8 144), .lit (.int .u8 191)], .agg [.lit (.int .u8 128), .lit (.int .u8 143)], .agg [.lit (.int .u8 0), .lit (.int .u8 0)], .agg [.lit (.int .u8 0), .lit (.int .u8 0)], .agg [.lit (.int .u8 0), .lit (.int .u8 0)], .agg [.lit (.int .u8 0), .lit (.int .u8 0)], .agg [.lit (.int .u8 0), .lit (.int .u8 0)], .agg [.lit (.int .u8 0), .lit (.int .u8 0)], .agg [.lit (.int .u8 0), .lit (.int .u8 0)], .agg [.lit (.int .u8 0), .lit (.int .u8 0)], .agg [.lit (.int .u8 0), .lit (.int .u8 0)], .agg [.lit (.int .u8 0), .lit (.int .u8 0)], .agg [.lit (.int .u8 0), .lit (.int .u8 0)]]
/-- One of Go's own tables, pinned by name: the form's constant. -/
def laid_unicode_CaseRanges : DataW Unit := Go.Pinned.caseRanges
/-- One of Go's own tables, pinned by name: the form's constant. -/
def laid_unicode_utf8_first : DataW Unit := Go.Pinned.utf8First

/-- 'evergreenlaw11.RouteMatchesReference': WHATEVER THE INPUT: true; the input reads as it did. -/
def routeMatchesReferenceSpec : ChangeSpec := { name := "routeMatchesReference", fn := fun _ => fun
  | [d1, d2, d3, d4, d5, d6, d7] => { results := [.lit (.bool true)], args := [d1, d2, d3, d4, d5, d6, d7] }
  | _ => none }
def routeMatchesReferenceRow : OpenClaim := { program := "ytpeandbcdaikbaagreatdoor", sum := "cfefeef4c01240f21af949879ca78af1192ea5a93f464ea2b21ac2683b300a93", func := "evergreen/evergreenlaw11.RouteMatchesReference", spec := "routeMatchesReference", inPlace := ["internal/abi.NoEscape", "internal/bytealg.MakeNoZero", "internal/bytealg.IndexByteString", "internal/bytealg.IndexString", "internal/bytealg.CountString"], unfollowed := true, recurses := true, named := ["unicode/utf8.first", "unicode/utf8.acceptRanges", "unicode.CaseRanges", "internal/bytealg.MaxLen"], apart := false, laid := [("unicode/utf8.acceptRanges", laid_unicode_utf8_acceptRanges), ("unicode.CaseRanges", laid_unicode_CaseRanges), ("unicode/utf8.first", laid_unicode_utf8_first)] }
def RouteMatchesReferenceSaid : Prop := routeMatchesReferenceRow.holds Tryz.pinned (OpenSpec.ofChange routeMatchesReferenceSpec)

/-- ITS FALSE NEIGHBOUR: 'it returns false'. Refute it at one input. -/
def routeMatchesReferenceWrong : ChangeSpec := { name := "routeMatchesReference", fn := fun _ => fun
  | [d1, d2, d3, d4, d5, d6, d7] => { results := [.lit (.bool false)], args := [d1, d2, d3, d4, d5, d6, d7] }
  | _ => none }
def RouteMatchesReferenceWrongFalsely : Prop := routeMatchesReferenceRow.holds Tryz.pinned (OpenSpec.ofChange routeMatchesReferenceWrong)

/-- 'evergreenlaw11.RouteBest': WHATEVER THE INPUT: true; the input reads as it did. -/
def routeBestSpec : ChangeSpec := { name := "routeBest", fn := fun _ => fun
  | [d1, d2] => { results := [.lit (.bool true)], args := [d1, d2] }
  | _ => none }
def routeBestRow : OpenClaim := { program := "ytpeandbcdaikbaagreatdoor", sum := "cfefeef4c01240f21af949879ca78af1192ea5a93f464ea2b21ac2683b300a93", func := "evergreen/evergreenlaw11.RouteBest", spec := "routeBest", inPlace := ["internal/abi.NoEscape", "internal/bytealg.MakeNoZero", "internal/bytealg.IndexByteString", "internal/bytealg.IndexString", "internal/bytealg.CountString"], unfollowed := true, recurses := true, named := ["unicode/utf8.first", "unicode/utf8.acceptRanges", "unicode.CaseRanges", "internal/bytealg.MaxLen"], apart := false, laid := [("unicode/utf8.acceptRanges", laid_unicode_utf8_acceptRanges), ("unicode.CaseRanges", laid_unicode_CaseRanges), ("unicode/utf8.first", laid_unicode_utf8_first)] }
def RouteBestSaid : Prop := routeBestRow.holds Tryz.pinned (OpenSpec.ofChange routeBestSpec)

/-- ITS FALSE NEIGHBOUR: 'it returns false'. Refute it at one input. -/
def routeBestWrong : ChangeSpec := { name := "routeBest", fn := fun _ => fun
  | [d1, d2] => { results := [.lit (.bool false)], args := [d1, d2] }
  | _ => none }
def RouteBestWrongFalsely : Prop := routeBestRow.holds Tryz.pinned (OpenSpec.ofChange routeBestWrong)

/-- 'evergreenlaw11.RouteDivided': WHATEVER THE INPUT: true; the input reads as it did. -/
def routeDividedSpec : ChangeSpec := { name := "routeDivided", fn := fun _ => fun
  | [d1, d2, d3] => { results := [.lit (.bool true)], args := [d1, d2, d3] }
  | _ => none }
def routeDividedRow : OpenClaim := { program := "ytpeandbcdaikbaagreatdoor", sum := "cfefeef4c01240f21af949879ca78af1192ea5a93f464ea2b21ac2683b300a93", func := "evergreen/evergreenlaw11.RouteDivided", spec := "routeDivided", inPlace := ["internal/abi.NoEscape", "internal/bytealg.MakeNoZero", "internal/bytealg.IndexByteString", "internal/bytealg.IndexString", "internal/bytealg.CountString"], unfollowed := true, recurses := true, named := ["unicode/utf8.first", "unicode/utf8.acceptRanges", "unicode.CaseRanges", "internal/bytealg.MaxLen"], apart := false, laid := [("unicode/utf8.acceptRanges", laid_unicode_utf8_acceptRanges), ("unicode.CaseRanges", laid_unicode_CaseRanges), ("unicode/utf8.first", laid_unicode_utf8_first)] }
def RouteDividedSaid : Prop := routeDividedRow.holds Tryz.pinned (OpenSpec.ofChange routeDividedSpec)

/-- ITS FALSE NEIGHBOUR: 'it returns false'. Refute it at one input. -/
def routeDividedWrong : ChangeSpec := { name := "routeDivided", fn := fun _ => fun
  | [d1, d2, d3] => { results := [.lit (.bool false)], args := [d1, d2, d3] }
  | _ => none }
def RouteDividedWrongFalsely : Prop := routeDividedRow.holds Tryz.pinned (OpenSpec.ofChange routeDividedWrong)

/-- 'evergreenlaw11.RouteKept': WHATEVER THE INPUT: true; the input reads as it did. -/
def routeKeptSpec : ChangeSpec := { name := "routeKept", fn := fun _ => fun
  | [d1, d2, d3] => { results := [.lit (.bool true)], args := [d1, d2, d3] }
  | _ => none }
def routeKeptRow : OpenClaim := { program := "ytpeandbcdaikbaagreatdoor", sum := "cfefeef4c01240f21af949879ca78af1192ea5a93f464ea2b21ac2683b300a93", func := "evergreen/evergreenlaw11.RouteKept", spec := "routeKept", inPlace := ["internal/abi.NoEscape", "internal/bytealg.MakeNoZero", "internal/bytealg.IndexByteString", "internal/bytealg.IndexString", "internal/bytealg.CountString"], unfollowed := true, recurses := true, named := ["unicode/utf8.first", "unicode/utf8.acceptRanges", "unicode.CaseRanges", "internal/bytealg.MaxLen"], apart := false, laid := [("unicode/utf8.acceptRanges", laid_unicode_utf8_acceptRanges), ("unicode.CaseRanges", laid_unicode_CaseRanges), ("unicode/utf8.first", laid_unicode_utf8_first)] }
def RouteKeptSaid : Prop := routeKeptRow.holds Tryz.pinned (OpenSpec.ofChange routeKeptSpec)

/-- ITS FALSE NEIGHBOUR: 'it returns false'. Refute it at one input. -/
def routeKeptWrong : ChangeSpec := { name := "routeKept", fn := fun _ => fun
  | [d1, d2, d3] => { results := [.lit (.bool false)], args := [d1, d2, d3] }
  | _ => none }
def RouteKeptWrongFalsely : Prop := routeKeptRow.holds Tryz.pinned (OpenSpec.ofChange routeKeptWrong)

/-- 'evergreenlaw11.RouteExpired': WHATEVER THE INPUT: true; the input reads as it did. -/
def routeExpiredSpec : ChangeSpec := { name := "routeExpired", fn := fun _ => fun
  | [d1, d2] => { results := [.lit (.bool true)], args := [d1, d2] }
  | _ => none }
def routeExpiredRow : OpenClaim := { program := "ytpeandbcdaikbaagreatdoor", sum := "cfefeef4c01240f21af949879ca78af1192ea5a93f464ea2b21ac2683b300a93", func := "evergreen/evergreenlaw11.RouteExpired", spec := "routeExpired", inPlace := ["internal/abi.NoEscape", "internal/bytealg.MakeNoZero", "internal/bytealg.IndexByteString", "internal/bytealg.IndexString", "internal/bytealg.CountString"], unfollowed := true, recurses := true, named := ["unicode/utf8.first", "unicode/utf8.acceptRanges", "unicode.CaseRanges", "internal/bytealg.MaxLen"], apart := false, laid := [("unicode/utf8.acceptRanges", laid_unicode_utf8_acceptRanges), ("unicode.CaseRanges", laid_unicode_CaseRanges), ("unicode/utf8.first", laid_unicode_utf8_first)] }
def RouteExpiredSaid : Prop := routeExpiredRow.holds Tryz.pinned (OpenSpec.ofChange routeExpiredSpec)

/-- ITS FALSE NEIGHBOUR: 'it returns false'. Refute it at one input. -/
def routeExpiredWrong : ChangeSpec := { name := "routeExpired", fn := fun _ => fun
  | [d1, d2] => { results := [.lit (.bool false)], args := [d1, d2] }
  | _ => none }
def RouteExpiredWrongFalsely : Prop := routeExpiredRow.holds Tryz.pinned (OpenSpec.ofChange routeExpiredWrong)

/-- 'evergreenlaw11.RouteOrder': WHATEVER THE INPUT: true; the input reads as it did. -/
def routeOrderSpec : ChangeSpec := { name := "routeOrder", fn := fun _ => fun
  | [d1, d2, d3, d4, d5, d6] => { results := [.lit (.bool true)], args := [d1, d2, d3, d4, d5, d6] }
  | _ => none }
def routeOrderRow : OpenClaim := { program := "ytpeandbcdaikbaagreatdoor", sum := "cfefeef4c01240f21af949879ca78af1192ea5a93f464ea2b21ac2683b300a93", func := "evergreen/evergreenlaw11.RouteOrder", spec := "routeOrder", inPlace := ["internal/abi.NoEscape", "internal/bytealg.MakeNoZero", "internal/bytealg.IndexByteString", "internal/bytealg.IndexString", "internal/bytealg.CountString"], unfollowed := true, recurses := true, named := ["unicode/utf8.first", "unicode/utf8.acceptRanges", "unicode.CaseRanges", "internal/bytealg.MaxLen"], apart := false, laid := [("unicode/utf8.acceptRanges", laid_unicode_utf8_acceptRanges), ("unicode.CaseRanges", laid_unicode_CaseRanges), ("unicode/utf8.first", laid_unicode_utf8_first)] }
def RouteOrderSaid : Prop := routeOrderRow.holds Tryz.pinned (OpenSpec.ofChange routeOrderSpec)

/-- ITS FALSE NEIGHBOUR: 'it returns false'. Refute it at one input. -/
def routeOrderWrong : ChangeSpec := { name := "routeOrder", fn := fun _ => fun
  | [d1, d2, d3, d4, d5, d6] => { results := [.lit (.bool false)], args := [d1, d2, d3, d4, d5, d6] }
  | _ => none }
def RouteOrderWrongFalsely : Prop := routeOrderRow.holds Tryz.pinned (OpenSpec.ofChange routeOrderWrong)

/-- 'evergreenlaw11.RouteClaims': WHATEVER THE INPUT: true; the input reads as it did. -/
def routeClaimsSpec : ChangeSpec := { name := "routeClaims", fn := fun _ => fun
  | [d1, d2] => { results := [.lit (.bool true)], args := [d1, d2] }
  | _ => none }
def routeClaimsRow : OpenClaim := { program := "ytpeandbcdaikbaagreatdoor", sum := "cfefeef4c01240f21af949879ca78af1192ea5a93f464ea2b21ac2683b300a93", func := "evergreen/evergreenlaw11.RouteClaims", spec := "routeClaims", inPlace := ["internal/abi.NoEscape", "internal/bytealg.MakeNoZero", "internal/bytealg.IndexByteString", "internal/bytealg.IndexString", "internal/bytealg.CountString"], unfollowed := true, recurses := true, named := ["unicode/utf8.first", "unicode/utf8.acceptRanges", "unicode.CaseRanges", "internal/bytealg.MaxLen"], apart := false, laid := [("unicode/utf8.acceptRanges", laid_unicode_utf8_acceptRanges), ("unicode.CaseRanges", laid_unicode_CaseRanges), ("unicode/utf8.first", laid_unicode_utf8_first)] }
def RouteClaimsSaid : Prop := routeClaimsRow.holds Tryz.pinned (OpenSpec.ofChange routeClaimsSpec)

/-- ITS FALSE NEIGHBOUR: 'it returns false'. Refute it at one input. -/
def routeClaimsWrong : ChangeSpec := { name := "routeClaims", fn := fun _ => fun
  | [d1, d2] => { results := [.lit (.bool false)], args := [d1, d2] }
  | _ => none }
def RouteClaimsWrongFalsely : Prop := routeClaimsRow.holds Tryz.pinned (OpenSpec.ofChange routeClaimsWrong)

/- THE SECOND FORM. 'bulk': how many values and letters a reading holds, each counted each time it is reached (what is shared counts as often as it is met; a slice's spare places count too). A statement '..UptoSaid' is the law's where the arguments, and the package variables that the reading takes, are together of bulk at most 1048576: NARROWER than '..Said'. Prove '..Said' where nothing that the law and all that it calls make is longer than what came in: it says more and counts as full. Else prove '..UptoSaid'. A law counts once. -/
mutual
def uptoBulk {H : Type} : DataW H → Nat
  | .lit (.string bytes) => bytes.length + 1
  | .lit _ => 1
  | .nil => 1
  | .ptr d => uptoBulk d + 1
  | .slice elems spare => uptoBulkAll elems + uptoBulkAll spare + 1
  | .agg parts => uptoBulkAll parts + 1
  | .iface _ d => uptoBulk d + 1
  | .map entries => uptoBulkEntries entries + 1
  | .held _ => 1
def uptoBulkAll {H : Type} : List (DataW H) → Nat
  | [] => 0
  | d :: r => uptoBulk d + uptoBulkAll r
def uptoBulkEntries {H : Type} : List (Lit × DataW H) → Nat
  | [] => 0
  | x :: r => uptoBulkEntry x + uptoBulkEntries r
def uptoBulkEntry {H : Type} : Lit × DataW H → Nat
  | (.string bytes, d) => bytes.length + uptoBulk d + 1
  | (_, d) => uptoBulk d + 1
 end
def uptoSmall : (H : Type) → List (DataW H) → Bool := fun _ ds => decide (uptoBulkAll ds ≤ 1048576)
def OpenSpec.upto (s : _root_.Go.ChangeSpec) : _root_.Go.OpenSpec := { _root_.Go.OpenSpec.ofChange s with cond := some uptoSmall }

/-- 'evergreenlaw11.RouteMatchesReference', WHERE WHAT IT READS IS OF BULK AT MOST 1048576: true; the input reads as it did. -/
def routeMatchesReferenceUptoRow : OpenClaim := { program := "ytpeandbcdaikbaagreatdoor", sum := "cfefeef4c01240f21af949879ca78af1192ea5a93f464ea2b21ac2683b300a93", func := "evergreen/evergreenlaw11.RouteMatchesReference", spec := "routeMatchesReference", inPlace := ["internal/abi.NoEscape", "internal/bytealg.MakeNoZero", "internal/bytealg.IndexByteString", "internal/bytealg.IndexString", "internal/bytealg.CountString"], unfollowed := true, recurses := true, named := ["unicode/utf8.first", "unicode/utf8.acceptRanges", "unicode.CaseRanges", "internal/bytealg.MaxLen"], apart := false, laid := [("unicode/utf8.acceptRanges", laid_unicode_utf8_acceptRanges), ("unicode.CaseRanges", laid_unicode_CaseRanges), ("unicode/utf8.first", laid_unicode_utf8_first)], narrowed := true }
def RouteMatchesReferenceUptoSaid : Prop := routeMatchesReferenceUptoRow.holds Tryz.pinned (OpenSpec.upto routeMatchesReferenceSpec)

/-- 'evergreenlaw11.RouteBest', WHERE WHAT IT READS IS OF BULK AT MOST 1048576: true; the input reads as it did. -/
def routeBestUptoRow : OpenClaim := { program := "ytpeandbcdaikbaagreatdoor", sum := "cfefeef4c01240f21af949879ca78af1192ea5a93f464ea2b21ac2683b300a93", func := "evergreen/evergreenlaw11.RouteBest", spec := "routeBest", inPlace := ["internal/abi.NoEscape", "internal/bytealg.MakeNoZero", "internal/bytealg.IndexByteString", "internal/bytealg.IndexString", "internal/bytealg.CountString"], unfollowed := true, recurses := true, named := ["unicode/utf8.first", "unicode/utf8.acceptRanges", "unicode.CaseRanges", "internal/bytealg.MaxLen"], apart := false, laid := [("unicode/utf8.acceptRanges", laid_unicode_utf8_acceptRanges), ("unicode.CaseRanges", laid_unicode_CaseRanges), ("unicode/utf8.first", laid_unicode_utf8_first)], narrowed := true }
def RouteBestUptoSaid : Prop := routeBestUptoRow.holds Tryz.pinned (OpenSpec.upto routeBestSpec)

/-- 'evergreenlaw11.RouteDivided', WHERE WHAT IT READS IS OF BULK AT MOST 1048576: true; the input reads as it did. -/
def routeDividedUptoRow : OpenClaim := { program := "ytpeandbcdaikbaagreatdoor", sum := "cfefeef4c01240f21af949879ca78af1192ea5a93f464ea2b21ac2683b300a93", func := "evergreen/evergreenlaw11.RouteDivided", spec := "routeDivided", inPlace := ["internal/abi.NoEscape", "internal/bytealg.MakeNoZero", "internal/bytealg.IndexByteString", "internal/bytealg.IndexString", "internal/bytealg.CountString"], unfollowed := true, recurses := true, named := ["unicode/utf8.first", "unicode/utf8.acceptRanges", "unicode.CaseRanges", "internal/bytealg.MaxLen"], apart := false, laid := [("unicode/utf8.acceptRanges", laid_unicode_utf8_acceptRanges), ("unicode.CaseRanges", laid_unicode_CaseRanges), ("unicode/utf8.first", laid_unicode_utf8_first)], narrowed := true }
def RouteDividedUptoSaid : Prop := routeDividedUptoRow.holds Tryz.pinned (OpenSpec.upto routeDividedSpec)

/-- 'evergreenlaw11.RouteKept', WHERE WHAT IT READS IS OF BULK AT MOST 1048576: true; the input reads as it did. -/
def routeKeptUptoRow : OpenClaim := { program := "ytpeandbcdaikbaagreatdoor", sum := "cfefeef4c01240f21af949879ca78af1192ea5a93f464ea2b21ac2683b300a93", func := "evergreen/evergreenlaw11.RouteKept", spec := "routeKept", inPlace := ["internal/abi.NoEscape", "internal/bytealg.MakeNoZero", "internal/bytealg.IndexByteString", "internal/bytealg.IndexString", "internal/bytealg.CountString"], unfollowed := true, recurses := true, named := ["unicode/utf8.first", "unicode/utf8.acceptRanges", "unicode.CaseRanges", "internal/bytealg.MaxLen"], apart := false, laid := [("unicode/utf8.acceptRanges", laid_unicode_utf8_acceptRanges), ("unicode.CaseRanges", laid_unicode_CaseRanges), ("unicode/utf8.first", laid_unicode_utf8_first)], narrowed := true }
def RouteKeptUptoSaid : Prop := routeKeptUptoRow.holds Tryz.pinned (OpenSpec.upto routeKeptSpec)

/-- 'evergreenlaw11.RouteExpired', WHERE WHAT IT READS IS OF BULK AT MOST 1048576: true; the input reads as it did. -/
def routeExpiredUptoRow : OpenClaim := { program := "ytpeandbcdaikbaagreatdoor", sum := "cfefeef4c01240f21af949879ca78af1192ea5a93f464ea2b21ac2683b300a93", func := "evergreen/evergreenlaw11.RouteExpired", spec := "routeExpired", inPlace := ["internal/abi.NoEscape", "internal/bytealg.MakeNoZero", "internal/bytealg.IndexByteString", "internal/bytealg.IndexString", "internal/bytealg.CountString"], unfollowed := true, recurses := true, named := ["unicode/utf8.first", "unicode/utf8.acceptRanges", "unicode.CaseRanges", "internal/bytealg.MaxLen"], apart := false, laid := [("unicode/utf8.acceptRanges", laid_unicode_utf8_acceptRanges), ("unicode.CaseRanges", laid_unicode_CaseRanges), ("unicode/utf8.first", laid_unicode_utf8_first)], narrowed := true }
def RouteExpiredUptoSaid : Prop := routeExpiredUptoRow.holds Tryz.pinned (OpenSpec.upto routeExpiredSpec)

/-- 'evergreenlaw11.RouteOrder', WHERE WHAT IT READS IS OF BULK AT MOST 1048576: true; the input reads as it did. -/
def routeOrderUptoRow : OpenClaim := { program := "ytpeandbcdaikbaagreatdoor", sum := "cfefeef4c01240f21af949879ca78af1192ea5a93f464ea2b21ac2683b300a93", func := "evergreen/evergreenlaw11.RouteOrder", spec := "routeOrder", inPlace := ["internal/abi.NoEscape", "internal/bytealg.MakeNoZero", "internal/bytealg.IndexByteString", "internal/bytealg.IndexString", "internal/bytealg.CountString"], unfollowed := true, recurses := true, named := ["unicode/utf8.first", "unicode/utf8.acceptRanges", "unicode.CaseRanges", "internal/bytealg.MaxLen"], apart := false, laid := [("unicode/utf8.acceptRanges", laid_unicode_utf8_acceptRanges), ("unicode.CaseRanges", laid_unicode_CaseRanges), ("unicode/utf8.first", laid_unicode_utf8_first)], narrowed := true }
def RouteOrderUptoSaid : Prop := routeOrderUptoRow.holds Tryz.pinned (OpenSpec.upto routeOrderSpec)

/-- 'evergreenlaw11.RouteClaims', WHERE WHAT IT READS IS OF BULK AT MOST 1048576: true; the input reads as it did. -/
def routeClaimsUptoRow : OpenClaim := { program := "ytpeandbcdaikbaagreatdoor", sum := "cfefeef4c01240f21af949879ca78af1192ea5a93f464ea2b21ac2683b300a93", func := "evergreen/evergreenlaw11.RouteClaims", spec := "routeClaims", inPlace := ["internal/abi.NoEscape", "internal/bytealg.MakeNoZero", "internal/bytealg.IndexByteString", "internal/bytealg.IndexString", "internal/bytealg.CountString"], unfollowed := true, recurses := true, named := ["unicode/utf8.first", "unicode/utf8.acceptRanges", "unicode.CaseRanges", "internal/bytealg.MaxLen"], apart := false, laid := [("unicode/utf8.acceptRanges", laid_unicode_utf8_acceptRanges), ("unicode.CaseRanges", laid_unicode_CaseRanges), ("unicode/utf8.first", laid_unicode_utf8_first)], narrowed := true }
def RouteClaimsUptoSaid : Prop := routeClaimsUptoRow.holds Tryz.pinned (OpenSpec.upto routeClaimsSpec)

end Rows
end Go.Proofs.YtpeandbcdaikbaaGreatDoor
