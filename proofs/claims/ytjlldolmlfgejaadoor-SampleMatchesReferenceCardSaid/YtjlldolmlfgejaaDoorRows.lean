/-
  NARROWER THAN 'FOR EVERY INPUT', by the rows' own cells (each row's printed sentence says how): SampleMatchesReference: laid · SampleDrawMatchesReference: laid · SampleCounts: laid · SampleSymmetric: laid · SampleNeeded: laid · SampleBound: laid · SampleDrawn: laid · SampleProduct: laid.
  DERIVED. THE GIVEN ROWS OF THIS SEAT. 8 by the template 'for every input the law returns true; each argument reads behind the call as it read before'; 0 by the template 'total and deterministic' (their statements: YtjlldolmlfgejaaDoorTotals.lean).
  GIVEN WITH THE SEED: the statements are not yours to turn. If you find one false, say at which input.
  Laid BY PROGRAM, IN A SANDBOX (cutbox-rows.mjs): the forced cells as the released guide's own fill.sh prints them over the translation 73cbb87fa3e57245… (all of the seat's roots in one cut). By AI agents, Wed Nov 11 2026. No macro, syntax, notation, axiom, sorry.
-/
import Derived.Test.YtjlldolmlfgejaaDoorChecked
import GoSem.Claim
import GoSem.ClaimJoined
import GoSem.ClaimMapViews
import Derived.JoinedTies
import Derived.KernelRfl
namespace Go.Proofs.YtjlldolmlfgejaaDoor
/- THE CELL 'sum', in the pinned program and in every row, IS THE sha256 OF THE DUMP (.gsa) THAT YtjlldolmlfgejaaDoorProg.lean LOADS. Nothing in Lean hashes anything: it is a label: what it is worth is what the hold of that sum in a sandbox is worth. -/
noncomputable def Tryd.pinned : Pinned := { name := "ytjlldolmlfgejaadoor", sum := "73cbb87fa3e572453c083f22e5e209d1d21392adbe573c748ef0658e276186b7", checked := Tryd.checked }
namespace Rows
def none {H : Type} : Left H := { results := [], args := [] }

/- WHAT THE LISTED PACKAGE-LEVEL VARIABLES READ AS WHEN THE CALL BEGINS. Each datum BY PROGRAM (the guide's laid-datum.mjs) off the statement by which the dump's own 'gosem.cut.vars' lays the variable. In a bare row this is a premise. The card (YtjlldolmlfgejaaDoorCards.lean) ties it to the program's text. -/
def laid_evergreen_digest_round {H : Type} : DataW H := .agg [.lit (.int .u32 1116352408), .lit (.int .u32 1899447441), .lit (.int .u32 3049323471), .lit (.int .u32 3921009573), .lit (.int .u32 961987163), .lit (.int .u32 1508970993), .lit (.int .u32 2453635748), .lit (.int .u32 2870763221), .lit (.int .u32 3624381080), .lit (.int .u32 310598401), .lit (.int .u32 607225278), .lit (.int .u32 1426881987), .lit (.int .u32 1925078388), .lit (.int .u32 2162078206), .lit (.int .u32 2614888103), .lit (.int .u32 3248222580), .lit (.int .u32 3835390401), .lit (.int .u32 4022224774), .lit (.int .u32 264347078), .lit (.int .u32 604807628), .lit (.int .u32 770255983), .lit (.int .u32 1249150122), .lit (.int .u32 1555081692), .lit (.int .u32 1996064986), .lit (.int .u32 2554220882), .lit (.int .u32 2821834349), .lit (.int .u32 2952996808), .lit (.int .u32 3210313671), .lit (.int .u32 3336571891), .lit (.int .u32 3584528711), .lit (.int .u32 113926993), .lit (.int .u32 338241895), .lit (.int .u32 666307205), .lit (.int .u32 773529912), .lit (.int .u32 1294757372), .lit (.int .u32 1396182291), .lit (.int .u32 1695183700), .lit (.int .u32 1986661051), .lit (.int .u32 2177026350), .lit (.int .u32 2456956037), .lit (.int .u32 2730485921), .lit (.int .u32 2820302411), .lit (.int .u32 3259730800), .lit (.int .u32 3345764771), .lit (.int .u32 3516065817), .lit (.int .u32 3600352804), .lit (.int .u32 4094571909), .lit (.int .u32 275423344), .lit (.int .u32 430227734), .lit (.int .u32 506948616), .lit (.int .u32 659060556), .lit (.int .u32 883997877), .lit (.int .u32 958139571), .lit (.int .u32 1322822218), .lit (.int .u32 1537002063), .lit (.int .u32 1747873779), .lit (.int .u32 1955562222), .lit (.int .u32 2024104815), .lit (.int .u32 2227730452), .lit (.int .u32 2361852424), .lit (.int .u32 2428436474), .lit (.int .u32 2756734187), .lit (.int .u32 3204031479), .lit (.int .u32 3329325298)]
def laid_evergreen_ratio_errMisfit {H : Type} : DataW H := .iface "*errors.errorString" (.ptr (.agg [.lit (.string [109, 105, 115, 102, 105, 116])]))

/-- 'evergreenlaw16.SampleMatchesReference': WHATEVER THE INPUT: true; the input reads as it did. -/
def sampleMatchesReferenceSpec : ChangeSpec := { name := "sampleMatchesReference", fn := fun _ => fun
  | [d1, d2, d3, d4, d5, d6] => { results := [.lit (.bool true)], args := [d1, d2, d3, d4, d5, d6] }
  | _ => none }
def sampleMatchesReferenceRow : OpenClaim := { program := "ytjlldolmlfgejaadoor", sum := "73cbb87fa3e572453c083f22e5e209d1d21392adbe573c748ef0658e276186b7", func := "evergreen/evergreenlaw16.SampleMatchesReference", spec := "sampleMatchesReference", unfollowed := true, recurses := true, named := ["evergreen/digest.round"], apart := false, laid := [("evergreen/digest.round", laid_evergreen_digest_round)] }
def SampleMatchesReferenceSaid : Prop := sampleMatchesReferenceRow.holds Tryd.pinned (OpenSpec.ofChange sampleMatchesReferenceSpec)

/-- ITS FALSE NEIGHBOUR: 'it returns false'. Refute it at one input. -/
def sampleMatchesReferenceWrong : ChangeSpec := { name := "sampleMatchesReference", fn := fun _ => fun
  | [d1, d2, d3, d4, d5, d6] => { results := [.lit (.bool false)], args := [d1, d2, d3, d4, d5, d6] }
  | _ => none }
def SampleMatchesReferenceWrongFalsely : Prop := sampleMatchesReferenceRow.holds Tryd.pinned (OpenSpec.ofChange sampleMatchesReferenceWrong)

/-- 'evergreenlaw16.SampleDrawMatchesReference': WHATEVER THE INPUT: true; the input reads as it did. -/
def sampleDrawMatchesReferenceSpec : ChangeSpec := { name := "sampleDrawMatchesReference", fn := fun _ => fun
  | [d1, d2, d3] => { results := [.lit (.bool true)], args := [d1, d2, d3] }
  | _ => none }
def sampleDrawMatchesReferenceRow : OpenClaim := { program := "ytjlldolmlfgejaadoor", sum := "73cbb87fa3e572453c083f22e5e209d1d21392adbe573c748ef0658e276186b7", func := "evergreen/evergreenlaw16.SampleDrawMatchesReference", spec := "sampleDrawMatchesReference", unfollowed := true, recurses := true, named := ["evergreen/digest.round"], apart := false, laid := [("evergreen/digest.round", laid_evergreen_digest_round)] }
def SampleDrawMatchesReferenceSaid : Prop := sampleDrawMatchesReferenceRow.holds Tryd.pinned (OpenSpec.ofChange sampleDrawMatchesReferenceSpec)

/-- ITS FALSE NEIGHBOUR: 'it returns false'. Refute it at one input. -/
def sampleDrawMatchesReferenceWrong : ChangeSpec := { name := "sampleDrawMatchesReference", fn := fun _ => fun
  | [d1, d2, d3] => { results := [.lit (.bool false)], args := [d1, d2, d3] }
  | _ => none }
def SampleDrawMatchesReferenceWrongFalsely : Prop := sampleDrawMatchesReferenceRow.holds Tryd.pinned (OpenSpec.ofChange sampleDrawMatchesReferenceWrong)

/-- 'evergreenlaw16.SampleCounts': WHATEVER THE INPUT: true; the input reads as it did. -/
def sampleCountsSpec : ChangeSpec := { name := "sampleCounts", fn := fun _ => fun
  | [d1, d2, d3] => { results := [.lit (.bool true)], args := [d1, d2, d3] }
  | _ => none }
def sampleCountsRow : OpenClaim := { program := "ytjlldolmlfgejaadoor", sum := "73cbb87fa3e572453c083f22e5e209d1d21392adbe573c748ef0658e276186b7", func := "evergreen/evergreenlaw16.SampleCounts", spec := "sampleCounts", unfollowed := true, recurses := true, named := ["evergreen/digest.round"], apart := false, laid := [("evergreen/digest.round", laid_evergreen_digest_round)] }
def SampleCountsSaid : Prop := sampleCountsRow.holds Tryd.pinned (OpenSpec.ofChange sampleCountsSpec)

/-- ITS FALSE NEIGHBOUR: 'it returns false'. Refute it at one input. -/
def sampleCountsWrong : ChangeSpec := { name := "sampleCounts", fn := fun _ => fun
  | [d1, d2, d3] => { results := [.lit (.bool false)], args := [d1, d2, d3] }
  | _ => none }
def SampleCountsWrongFalsely : Prop := sampleCountsRow.holds Tryd.pinned (OpenSpec.ofChange sampleCountsWrong)

/-- 'evergreenlaw16.SampleSymmetric': WHATEVER THE INPUT: true; the input reads as it did. -/
def sampleSymmetricSpec : ChangeSpec := { name := "sampleSymmetric", fn := fun _ => fun
  | [d1, d2, d3] => { results := [.lit (.bool true)], args := [d1, d2, d3] }
  | _ => none }
def sampleSymmetricRow : OpenClaim := { program := "ytjlldolmlfgejaadoor", sum := "73cbb87fa3e572453c083f22e5e209d1d21392adbe573c748ef0658e276186b7", func := "evergreen/evergreenlaw16.SampleSymmetric", spec := "sampleSymmetric", unfollowed := true, recurses := true, named := ["evergreen/digest.round"], apart := false, laid := [("evergreen/digest.round", laid_evergreen_digest_round)] }
def SampleSymmetricSaid : Prop := sampleSymmetricRow.holds Tryd.pinned (OpenSpec.ofChange sampleSymmetricSpec)

/-- ITS FALSE NEIGHBOUR: 'it returns false'. Refute it at one input. -/
def sampleSymmetricWrong : ChangeSpec := { name := "sampleSymmetric", fn := fun _ => fun
  | [d1, d2, d3] => { results := [.lit (.bool false)], args := [d1, d2, d3] }
  | _ => none }
def SampleSymmetricWrongFalsely : Prop := sampleSymmetricRow.holds Tryd.pinned (OpenSpec.ofChange sampleSymmetricWrong)

/-- 'evergreenlaw16.SampleNeeded': WHATEVER THE INPUT: true; the input reads as it did. -/
def sampleNeededSpec : ChangeSpec := { name := "sampleNeeded", fn := fun _ => fun
  | [d1, d2, d3, d4] => { results := [.lit (.bool true)], args := [d1, d2, d3, d4] }
  | _ => none }
def sampleNeededRow : OpenClaim := { program := "ytjlldolmlfgejaadoor", sum := "73cbb87fa3e572453c083f22e5e209d1d21392adbe573c748ef0658e276186b7", func := "evergreen/evergreenlaw16.SampleNeeded", spec := "sampleNeeded", unfollowed := true, recurses := true, named := ["evergreen/digest.round"], apart := false, laid := [("evergreen/digest.round", laid_evergreen_digest_round)] }
def SampleNeededSaid : Prop := sampleNeededRow.holds Tryd.pinned (OpenSpec.ofChange sampleNeededSpec)

/-- ITS FALSE NEIGHBOUR: 'it returns false'. Refute it at one input. -/
def sampleNeededWrong : ChangeSpec := { name := "sampleNeeded", fn := fun _ => fun
  | [d1, d2, d3, d4] => { results := [.lit (.bool false)], args := [d1, d2, d3, d4] }
  | _ => none }
def SampleNeededWrongFalsely : Prop := sampleNeededRow.holds Tryd.pinned (OpenSpec.ofChange sampleNeededWrong)

/-- 'evergreenlaw16.SampleBound': WHATEVER THE INPUT: true; the input reads as it did. -/
def sampleBoundSpec : ChangeSpec := { name := "sampleBound", fn := fun _ => fun
  | [d1, d2, d3, d4, d5] => { results := [.lit (.bool true)], args := [d1, d2, d3, d4, d5] }
  | _ => none }
def sampleBoundRow : OpenClaim := { program := "ytjlldolmlfgejaadoor", sum := "73cbb87fa3e572453c083f22e5e209d1d21392adbe573c748ef0658e276186b7", func := "evergreen/evergreenlaw16.SampleBound", spec := "sampleBound", unfollowed := true, recurses := true, named := ["evergreen/digest.round"], apart := false, laid := [("evergreen/digest.round", laid_evergreen_digest_round)] }
def SampleBoundSaid : Prop := sampleBoundRow.holds Tryd.pinned (OpenSpec.ofChange sampleBoundSpec)

/-- ITS FALSE NEIGHBOUR: 'it returns false'. Refute it at one input. -/
def sampleBoundWrong : ChangeSpec := { name := "sampleBound", fn := fun _ => fun
  | [d1, d2, d3, d4, d5] => { results := [.lit (.bool false)], args := [d1, d2, d3, d4, d5] }
  | _ => none }
def SampleBoundWrongFalsely : Prop := sampleBoundRow.holds Tryd.pinned (OpenSpec.ofChange sampleBoundWrong)

/-- 'evergreenlaw16.SampleDrawn': WHATEVER THE INPUT: true; the input reads as it did. -/
def sampleDrawnSpec : ChangeSpec := { name := "sampleDrawn", fn := fun _ => fun
  | [d1, d2, d3, d4, d5] => { results := [.lit (.bool true)], args := [d1, d2, d3, d4, d5] }
  | _ => none }
def sampleDrawnRow : OpenClaim := { program := "ytjlldolmlfgejaadoor", sum := "73cbb87fa3e572453c083f22e5e209d1d21392adbe573c748ef0658e276186b7", func := "evergreen/evergreenlaw16.SampleDrawn", spec := "sampleDrawn", unfollowed := true, recurses := true, named := ["evergreen/digest.round"], apart := false, laid := [("evergreen/digest.round", laid_evergreen_digest_round)] }
def SampleDrawnSaid : Prop := sampleDrawnRow.holds Tryd.pinned (OpenSpec.ofChange sampleDrawnSpec)

/-- ITS FALSE NEIGHBOUR: 'it returns false'. Refute it at one input. -/
def sampleDrawnWrong : ChangeSpec := { name := "sampleDrawn", fn := fun _ => fun
  | [d1, d2, d3, d4, d5] => { results := [.lit (.bool false)], args := [d1, d2, d3, d4, d5] }
  | _ => none }
def SampleDrawnWrongFalsely : Prop := sampleDrawnRow.holds Tryd.pinned (OpenSpec.ofChange sampleDrawnWrong)

/-- 'evergreenlaw16.SampleProduct': WHATEVER THE INPUT: true; the input reads as it did. -/
def sampleProductSpec : ChangeSpec := { name := "sampleProduct", fn := fun _ => fun
  | [d1, d2, d3] => { results := [.lit (.bool true)], args := [d1, d2, d3] }
  | _ => none }
def sampleProductRow : OpenClaim := { program := "ytjlldolmlfgejaadoor", sum := "73cbb87fa3e572453c083f22e5e209d1d21392adbe573c748ef0658e276186b7", func := "evergreen/evergreenlaw16.SampleProduct", spec := "sampleProduct", inPlace := ["internal/reflectlite.TypeOf"], unfollowed := true, recurses := true, named := ["evergreen/digest.round", "evergreen/ratio.errMisfit"], apart := false, laid := [("evergreen/digest.round", laid_evergreen_digest_round), ("evergreen/ratio.errMisfit", laid_evergreen_ratio_errMisfit)] }
def SampleProductSaid : Prop := sampleProductRow.holds Tryd.pinned (OpenSpec.ofChange sampleProductSpec)

/-- ITS FALSE NEIGHBOUR: 'it returns false'. Refute it at one input. -/
def sampleProductWrong : ChangeSpec := { name := "sampleProduct", fn := fun _ => fun
  | [d1, d2, d3] => { results := [.lit (.bool false)], args := [d1, d2, d3] }
  | _ => none }
def SampleProductWrongFalsely : Prop := sampleProductRow.holds Tryd.pinned (OpenSpec.ofChange sampleProductWrong)

/- THE SECOND FORM. 'bulk': how many values and letters a reading holds, each counted each time it is reached (what is shared counts as often as it is met; a slice's spare places count too). A statement '..UptoSaid' is the law's where the arguments, and the package variables that the reading takes, are together of bulk at most 1048576: NARROWER than '..Said'. Prove '..Said' where nothing that the law and all that it calls make is longer than what came in: it says more and counts as full. Else prove '..UptoSaid'. A law counts once. -/
mutual
def uptoBulk {H : Type} : DataW H → Nat
  | .lit (.string bytes) => bytes.length + 1
  | .lit _ => 1
  | .nil => 1
  | .ptr d => uptoBulk d + 1
  | .slice elems spare => uptoBulkAll elems + uptoBulkAll spare + 1
  | .agg parts => uptoBulkAll parts + 1
  | .iface _ d => uptoBulk d + 1
  | .map entries => uptoBulkEntries entries + 1
  | .held _ => 1
def uptoBulkAll {H : Type} : List (DataW H) → Nat
  | [] => 0
  | d :: r => uptoBulk d + uptoBulkAll r
def uptoBulkEntries {H : Type} : List (Lit × DataW H) → Nat
  | [] => 0
  | x :: r => uptoBulkEntry x + uptoBulkEntries r
def uptoBulkEntry {H : Type} : Lit × DataW H → Nat
  | (.string bytes, d) => bytes.length + uptoBulk d + 1
  | (_, d) => uptoBulk d + 1
 end
def uptoSmall : (H : Type) → List (DataW H) → Bool := fun _ ds => decide (uptoBulkAll ds ≤ 1048576)
def OpenSpec.upto (s : _root_.Go.ChangeSpec) : _root_.Go.OpenSpec := { _root_.Go.OpenSpec.ofChange s with cond := some uptoSmall }

/-- 'evergreenlaw16.SampleMatchesReference', WHERE WHAT IT READS IS OF BULK AT MOST 1048576: true; the input reads as it did. -/
def sampleMatchesReferenceUptoRow : OpenClaim := { program := "ytjlldolmlfgejaadoor", sum := "73cbb87fa3e572453c083f22e5e209d1d21392adbe573c748ef0658e276186b7", func := "evergreen/evergreenlaw16.SampleMatchesReference", spec := "sampleMatchesReference", unfollowed := true, recurses := true, named := ["evergreen/digest.round"], apart := false, laid := [("evergreen/digest.round", laid_evergreen_digest_round)], narrowed := true }
def SampleMatchesReferenceUptoSaid : Prop := sampleMatchesReferenceUptoRow.holds Tryd.pinned (OpenSpec.upto sampleMatchesReferenceSpec)

/-- 'evergreenlaw16.SampleDrawMatchesReference', WHERE WHAT IT READS IS OF BULK AT MOST 1048576: true; the input reads as it did. -/
def sampleDrawMatchesReferenceUptoRow : OpenClaim := { program := "ytjlldolmlfgejaadoor", sum := "73cbb87fa3e572453c083f22e5e209d1d21392adbe573c748ef0658e276186b7", func := "evergreen/evergreenlaw16.SampleDrawMatchesReference", spec := "sampleDrawMatchesReference", unfollowed := true, recurses := true, named := ["evergreen/digest.round"], apart := false, laid := [("evergreen/digest.round", laid_evergreen_digest_round)], narrowed := true }
def SampleDrawMatchesReferenceUptoSaid : Prop := sampleDrawMatchesReferenceUptoRow.holds Tryd.pinned (OpenSpec.upto sampleDrawMatchesReferenceSpec)

/-- 'evergreenlaw16.SampleCounts', WHERE WHAT IT READS IS OF BULK AT MOST 1048576: true; the input reads as it did. -/
def sampleCountsUptoRow : OpenClaim := { program := "ytjlldolmlfgejaadoor", sum := "73cbb87fa3e572453c083f22e5e209d1d21392adbe573c748ef0658e276186b7", func := "evergreen/evergreenlaw16.SampleCounts", spec := "sampleCounts", unfollowed := true, recurses := true, named := ["evergreen/digest.round"], apart := false, laid := [("evergreen/digest.round", laid_evergreen_digest_round)], narrowed := true }
def SampleCountsUptoSaid : Prop := sampleCountsUptoRow.holds Tryd.pinned (OpenSpec.upto sampleCountsSpec)

/-- 'evergreenlaw16.SampleSymmetric', WHERE WHAT IT READS IS OF BULK AT MOST 1048576: true; the input reads as it did. -/
def sampleSymmetricUptoRow : OpenClaim := { program := "ytjlldolmlfgejaadoor", sum := "73cbb87fa3e572453c083f22e5e209d1d21392adbe573c748ef0658e276186b7", func := "evergreen/evergreenlaw16.SampleSymmetric", spec := "sampleSymmetric", unfollowed := true, recurses := true, named := ["evergreen/digest.round"], apart := false, laid := [("evergreen/digest.round", laid_evergreen_digest_round)], narrowed := true }
def SampleSymmetricUptoSaid : Prop := sampleSymmetricUptoRow.holds Tryd.pinned (OpenSpec.upto sampleSymmetricSpec)

/-- 'evergreenlaw16.SampleNeeded', WHERE WHAT IT READS IS OF BULK AT MOST 1048576: true; the input reads as it did. -/
def sampleNeededUptoRow : OpenClaim := { program := "ytjlldolmlfgejaadoor", sum := "73cbb87fa3e572453c083f22e5e209d1d21392adbe573c748ef0658e276186b7", func := "evergreen/evergreenlaw16.SampleNeeded", spec := "sampleNeeded", unfollowed := true, recurses := true, named := ["evergreen/digest.round"], apart := false, laid := [("evergreen/digest.round", laid_evergreen_digest_round)], narrowed := true }
def SampleNeededUptoSaid : Prop := sampleNeededUptoRow.holds Tryd.pinned (OpenSpec.upto sampleNeededSpec)

/-- 'evergreenlaw16.SampleBound', WHERE WHAT IT READS IS OF BULK AT MOST 1048576: true; the input reads as it did. -/
def sampleBoundUptoRow : OpenClaim := { program := "ytjlldolmlfgejaadoor", sum := "73cbb87fa3e572453c083f22e5e209d1d21392adbe573c748ef0658e276186b7", func := "evergreen/evergreenlaw16.SampleBound", spec := "sampleBound", unfollowed := true, recurses := true, named := ["evergreen/digest.round"], apart := false, laid := [("evergreen/digest.round", laid_evergreen_digest_round)], narrowed := true }
def SampleBoundUptoSaid : Prop := sampleBoundUptoRow.holds Tryd.pinned (OpenSpec.upto sampleBoundSpec)

/-- 'evergreenlaw16.SampleDrawn', WHERE WHAT IT READS IS OF BULK AT MOST 1048576: true; the input reads as it did. -/
def sampleDrawnUptoRow : OpenClaim := { program := "ytjlldolmlfgejaadoor", sum := "73cbb87fa3e572453c083f22e5e209d1d21392adbe573c748ef0658e276186b7", func := "evergreen/evergreenlaw16.SampleDrawn", spec := "sampleDrawn", unfollowed := true, recurses := true, named := ["evergreen/digest.round"], apart := false, laid := [("evergreen/digest.round", laid_evergreen_digest_round)], narrowed := true }
def SampleDrawnUptoSaid : Prop := sampleDrawnUptoRow.holds Tryd.pinned (OpenSpec.upto sampleDrawnSpec)

/-- 'evergreenlaw16.SampleProduct', WHERE WHAT IT READS IS OF BULK AT MOST 1048576: true; the input reads as it did. -/
def sampleProductUptoRow : OpenClaim := { program := "ytjlldolmlfgejaadoor", sum := "73cbb87fa3e572453c083f22e5e209d1d21392adbe573c748ef0658e276186b7", func := "evergreen/evergreenlaw16.SampleProduct", spec := "sampleProduct", inPlace := ["internal/reflectlite.TypeOf"], unfollowed := true, recurses := true, named := ["evergreen/digest.round", "evergreen/ratio.errMisfit"], apart := false, laid := [("evergreen/digest.round", laid_evergreen_digest_round), ("evergreen/ratio.errMisfit", laid_evergreen_ratio_errMisfit)], narrowed := true }
def SampleProductUptoSaid : Prop := sampleProductUptoRow.holds Tryd.pinned (OpenSpec.upto sampleProductSpec)

end Rows
end Go.Proofs.YtjlldolmlfgejaaDoor
