/-
  NARROWER THAN 'FOR EVERY INPUT', by the rows' own cells (each row's printed sentence says how): MachineMatchesReference: laid · MachineTextMatchesReference: laid · MachineSafe: laid · MachineSteps: laid · MachineInput: laid · MachineRoundTrip: laid · MachineParsedAgain: laid · MachineCalculates: laid.
  DERIVED. THE GIVEN ROWS OF THIS SEAT. 8 by the template 'for every input the law returns true; each argument reads behind the call as it read before'; 0 by the template 'total and deterministic' (their statements: YtainohbfcehpoaaDoorTotals.lean).
  GIVEN WITH THE SEED: the statements are not yours to turn. If you find one false, say at which input.
  Laid BY PROGRAM, IN A SANDBOX (cutbox-rows.mjs): the forced cells as the released guide's own fill.sh prints them over the translation 226f66b19381471b… (all of the seat's roots in one cut). By AI agents, Wed Nov 11 2026. No macro, syntax, notation, axiom, sorry.
-/
import Derived.Test.YtainohbfcehpoaaDoorChecked
import GoSem.Claim
import GoSem.ClaimJoined
import GoSem.ClaimMapViews
import Derived.JoinedTies
import Derived.KernelRfl
namespace Go.Proofs.YtainohbfcehpoaaDoor
/- THE CELL 'sum', in the pinned program and in every row, IS THE sha256 OF THE DUMP (.gsa) THAT YtainohbfcehpoaaDoorProg.lean LOADS. Nothing in Lean hashes anything: it is a label: what it is worth is what the hold of that sum in a sandbox is worth. -/
noncomputable def Tryd.pinned : Pinned := { name := "ytainohbfcehpoaadoor", sum := "226f66b19381471b5a27ba4c3ec866052858145300a6d6bdfb8b1f6f4600267b", checked := Tryd.checked }
namespace Rows
def none {H : Type} : Left H := { results := [], args := [] }

/- WHAT THE LISTED PACKAGE-LEVEL VARIABLES READ AS WHEN THE CALL BEGINS. Each datum BY PROGRAM (the guide's laid-datum.mjs) off the statement by which the dump's own 'gosem.cut.vars' lays the variable. In a bare row this is a premise. The card (YtainohbfcehpoaaDoorCards.lean) ties it to the program's text. -/
def laid_evergreen_evergreenref08_Takes {H : Type} : DataW H := .agg [.lit (.int .i64 0), .lit (.int .i64 1), .lit (.int .i64 2), .lit (.int .i64 1), .lit (.int .i64 2), .lit (.int .i64 2), .lit (.int .i64 2), .lit (.int .i64 0), .lit (.int .i64 1), .lit (.int .i64 0), .lit (.int .i64 1), .lit (.int .i64 0)]
def laid_evergreen_evergreenref08_Puts {H : Type} : DataW H := .agg [.lit (.int .i64 1), .lit (.int .i64 2), .lit (.int .i64 2), .lit (.int .i64 0), .lit (.int .i64 1), .lit (.int .i64 1), .lit (.int .i64 1), .lit (.int .i64 0), .lit (.int .i64 0), .lit (.int .i64 1), .lit (.int .i64 0), .lit (.int .i64 0)]
def laid_math_bits_deBruijn32tab {H : Type} : DataW H := .agg [.lit (.int .u8 0), .lit (.int .u8 1), .lit (.int .u8 28), .lit (.int .u8 2), .lit (.int .u8 29), .lit (.int .u8 14), .lit (.int .u8 24), .lit (.int .u8 3), .lit (.int .u8 30), .lit (.int .u8 22), .lit (.int .u8 20), .lit (.int .u8 15), .lit (.int .u8 25), .lit (.int .u8 17), .lit (.int .u8 4), .lit (.int .u8 8), .lit (.int .u8 31), .lit (.int .u8 27), .lit (.int .u8 13), .lit (.int .u8 23), .lit (.int .u8 21), .lit (.int .u8 19), .lit (.int .u8 16), .lit (.int .u8 7), .lit (.int .u8 26), .lit (.int .u8 12), .lit (.int .u8 18), .lit (.int .u8 6), .lit (.int .u8 11), .lit (.int .u8 5), .lit (.int .u8 10), .lit (.int .u8 9)]
def laid_math_bits_deBruijn64tab {H : Type} : DataW H := .agg [.lit (.int .u8 0), .lit (.int .u8 1), .lit (.int .u8 56), .lit (.int .u8 2), .lit (.int .u8 57), .lit (.int .u8 49), .lit (.int .u8 28), .lit (.int .u8 3), .lit (.int .u8 61), .lit (.int .u8 58), .lit (.int .u8 42), .lit (.int .u8 50), .lit (.int .u8 38), .lit (.int .u8 29), .lit (.int .u8 17), .lit (.int .u8 4), .lit (.int .u8 62), .lit (.int .u8 47), .lit (.int .u8 59), .lit (.int .u8 36), .lit (.int .u8 45), .lit (.int .u8 43), .lit (.int .u8 51), .lit (.int .u8 22), .lit (.int .u8 53), .lit (.int .u8 39), .lit (.int .u8 33), .lit (.int .u8 30), .lit (.int .u8 24), .lit (.int .u8 18), .lit (.int .u8 12), .lit (.int .u8 5), .lit (.int .u8 63), .lit (.int .u8 55), .lit (.int .u8 48), .lit (.int .u8 27), .lit (.int .u8 60), .lit (.int .u8 41), .lit (.int .u8 37), .lit (.int .u8 16), .lit (.int .u8 46), .lit (.int .u8 35), .lit (.int .u8 44), .lit (.int .u8 21), .lit (.int .u8 52), .lit (.int .u8 32), .lit (.int .u8 23), .lit (.int .u8 11), .lit (.int .u8 54), .lit (.int .u8 26), .lit (.int .u8 40), .lit (.int .u8 15), .lit (.int .u8 34), .lit (.int .u8 20), .lit (.int .u8 31), .lit (.int .u8 10), .lit (.int .u8 25), .lit (.int .u8 14), .lit (.int .u8 19), .lit (.int .u8 9), .lit (.int .u8 13), .lit (.int .u8 8), .lit (.int .u8 7), .lit (.int .u8 6)]
def laid_internal_strconv_uint64pow10 {H : Type} : DataW H := .agg [.lit (.int .u64 1), .lit (.int .u64 10), .lit (.int .u64 100), .lit (.int .u64 1000), .lit (.int .u64 10000), .lit (.int .u64 100000), .lit (.int .u64 1000000), .lit (.int .u64 10000000), .lit (.int .u64 100000000), .lit (.int .u64 1000000000), .lit (.int .u64 10000000000), .lit (.int .u64 100000000000), .lit (.int .u64 1000000000000), .lit (.int .u64 10000000000000), .lit (.int .u64 100000000000000), .lit (.int .u64 1000000000000000), .lit (.int .u64 10000000000000000), .lit (.int .u64 100000000000000000), .lit (.int .u64 1000000000000000000), .lit (.int .u64 10000000000000000000)]
def laid_strconv_ErrRange {H : Type} : DataW H := .iface "*errors.errorString" (.ptr (.agg [.lit (.string [118, 97, 108, 117, 101, 32, 111, 117, 116, 32, 111, 102, 32, 114, 97, 110, 103, 101])]))
def laid_strconv_ErrSyntax {H : Type} : DataW H := .iface "*errors.errorString" (.ptr (.agg [.lit (.string [105, 110, 118, 97, 108, 105, 100, 32, 115, 121, 110, 116, 97, 120])]))
def laid_evergreen_machine_operations {H : Type} : DataW H := .agg [.agg [.lit (.string [112, 117, 115, 104]), .lit (.int .i64 0), .lit (.int .i64 1), .lit (.bool true), .lit (.bool false)], .agg [.lit (.string [100, 117, 112]), .lit (.int .i64 1), .lit (.int .i64 2), .lit (.bool false), .lit (.bool false)], .agg [.lit (.string [115, 119, 97, 112]), .lit (.int .i64 2), .lit (.int .i64 2), .lit (.bool false), .lit (.bool false)], .agg [.lit (.string [100, 114, 111, 112]), .lit (.int .i64 1), .lit (.int .i64 0), .lit (.bool false), .lit (.bool false)], .agg [.lit (.string [97, 100, 100]), .lit (.int .i64 2), .lit (.int .i64 1), .lit (.bool false), .lit (.bool false)], .agg [.lit (.string [115, 117, 98]), .lit (.int .i64 2), .lit (.int .i64 1), .lit (.bool false), .lit (.bool false)], .agg [.lit (.string [108, 101, 115, 115]), .lit (.int .i64 2), .lit (.int .i64 1), .lit (.bool false), .lit (.bool false)], .agg [.lit (.string [106, 117, 109, 112]), .lit (.int .i64 0), .lit (.int .i64 0), .lit (.bool true), .lit (.bool true)], .agg [.lit (.string [105, 102]), .lit (.int .i64 1), .lit (.int .i64 0), .lit (.bool true), .lit (.bool true)], .agg [.lit (.string [105, 110]), .lit (.int .i64 0), .lit (.int .i64 1), .lit (.bool false), .lit (.bool false)], .agg [.lit (.string [111, 117, 116]), .lit (.int .i64 1), .lit (.int .i64 0), .lit (.bool false), .lit (.bool false)], .agg [.lit (.string [104, 97, 108, 116]), .lit (.int .i64 0), .lit (.int .i64 0), .lit (.bool false), .lit (.bool false)]]
def laid_evergreen_evergreenref08_Names {H : Type} : DataW H := .agg [.lit (.string [112, 117, 115, 104]), .lit (.string [100, 117, 112]), .lit (.string [115, 119, 97, 112]), .lit (.string [100, 114, 111, 112]), .lit (.string [97, 100, 100]), .lit (.string [115, 117, 98]), .lit (.string [108, 101, 115, 115]), .lit (.string [106, 117, 109, 112]), .lit (.string [105, 102]), .lit (.string [105, 110]), .lit (.string [111, 117, 116]), .lit (.string [104, 97, 108, 116])]

/-- 'evergreenlaw08.MachineMatchesReference': WHATEVER THE INPUT: true; the input reads as it did. -/
def machineMatchesReferenceSpec : ChangeSpec := { name := "machineMatchesReference", fn := fun _ => fun
  | [d1, d2, d3, d4, d5, d6] => { results := [.lit (.bool true)], args := [d1, d2, d3, d4, d5, d6] }
  | _ => none }
def machineMatchesReferenceRow : OpenClaim := { program := "ytainohbfcehpoaadoor", sum := "226f66b19381471b5a27ba4c3ec866052858145300a6d6bdfb8b1f6f4600267b", func := "evergreen/evergreenlaw08.MachineMatchesReference", spec := "machineMatchesReference", inPlace := ["internal/bytealg.IndexByteString", "internal/bytealg.IndexString", "internal/abi.NoEscape"], unfollowed := true, recurses := true, named := ["internal/bytealg.MaxLen", "evergreen/machine.operations", "strconv.ErrSyntax", "strconv.ErrRange", "internal/strconv.uint64pow10", "math/bits.deBruijn32tab", "math/bits.deBruijn64tab", "evergreen/evergreenref08.Takes", "evergreen/evergreenref08.Puts"], apart := false, laid := [("evergreen/evergreenref08.Takes", laid_evergreen_evergreenref08_Takes), ("evergreen/evergreenref08.Puts", laid_evergreen_evergreenref08_Puts), ("math/bits.deBruijn32tab", laid_math_bits_deBruijn32tab), ("math/bits.deBruijn64tab", laid_math_bits_deBruijn64tab), ("internal/strconv.uint64pow10", laid_internal_strconv_uint64pow10), ("strconv.ErrRange", laid_strconv_ErrRange), ("strconv.ErrSyntax", laid_strconv_ErrSyntax), ("evergreen/machine.operations", laid_evergreen_machine_operations)] }
def MachineMatchesReferenceSaid : Prop := machineMatchesReferenceRow.holds Tryd.pinned (OpenSpec.ofChange machineMatchesReferenceSpec)

/-- ITS FALSE NEIGHBOUR: 'it returns false'. Refute it at one input. -/
def machineMatchesReferenceWrong : ChangeSpec := { name := "machineMatchesReference", fn := fun _ => fun
  | [d1, d2, d3, d4, d5, d6] => { results := [.lit (.bool false)], args := [d1, d2, d3, d4, d5, d6] }
  | _ => none }
def MachineMatchesReferenceWrongFalsely : Prop := machineMatchesReferenceRow.holds Tryd.pinned (OpenSpec.ofChange machineMatchesReferenceWrong)

/-- 'evergreenlaw08.MachineTextMatchesReference': WHATEVER THE INPUT: true; the input reads as it did. -/
def machineTextMatchesReferenceSpec : ChangeSpec := { name := "machineTextMatchesReference", fn := fun _ => fun
  | [d1, d2, d3, d4, d5] => { results := [.lit (.bool true)], args := [d1, d2, d3, d4, d5] }
  | _ => none }
def machineTextMatchesReferenceRow : OpenClaim := { program := "ytainohbfcehpoaadoor", sum := "226f66b19381471b5a27ba4c3ec866052858145300a6d6bdfb8b1f6f4600267b", func := "evergreen/evergreenlaw08.MachineTextMatchesReference", spec := "machineTextMatchesReference", inPlace := ["internal/bytealg.IndexByteString", "internal/bytealg.IndexString", "internal/abi.NoEscape"], unfollowed := true, recurses := true, named := ["internal/bytealg.MaxLen", "evergreen/machine.operations", "strconv.ErrSyntax", "strconv.ErrRange", "internal/strconv.uint64pow10", "math/bits.deBruijn32tab", "math/bits.deBruijn64tab", "evergreen/evergreenref08.Takes", "evergreen/evergreenref08.Puts", "evergreen/evergreenref08.Names"], apart := false, laid := [("evergreen/evergreenref08.Names", laid_evergreen_evergreenref08_Names), ("evergreen/evergreenref08.Takes", laid_evergreen_evergreenref08_Takes), ("evergreen/evergreenref08.Puts", laid_evergreen_evergreenref08_Puts), ("math/bits.deBruijn32tab", laid_math_bits_deBruijn32tab), ("math/bits.deBruijn64tab", laid_math_bits_deBruijn64tab), ("internal/strconv.uint64pow10", laid_internal_strconv_uint64pow10), ("strconv.ErrRange", laid_strconv_ErrRange), ("strconv.ErrSyntax", laid_strconv_ErrSyntax), ("evergreen/machine.operations", laid_evergreen_machine_operations)] }
def MachineTextMatchesReferenceSaid : Prop := machineTextMatchesReferenceRow.holds Tryd.pinned (OpenSpec.ofChange machineTextMatchesReferenceSpec)

/-- ITS FALSE NEIGHBOUR: 'it returns false'. Refute it at one input. -/
def machineTextMatchesReferenceWrong : ChangeSpec := { name := "machineTextMatchesReference", fn := fun _ => fun
  | [d1, d2, d3, d4, d5] => { results := [.lit (.bool false)], args := [d1, d2, d3, d4, d5] }
  | _ => none }
def MachineTextMatchesReferenceWrongFalsely : Prop := machineTextMatchesReferenceRow.holds Tryd.pinned (OpenSpec.ofChange machineTextMatchesReferenceWrong)

/-- 'evergreenlaw08.MachineSafe': WHATEVER THE INPUT: true; the input reads as it did. -/
def machineSafeSpec : ChangeSpec := { name := "machineSafe", fn := fun _ => fun
  | [d1, d2, d3, d4, d5] => { results := [.lit (.bool true)], args := [d1, d2, d3, d4, d5] }
  | _ => none }
def machineSafeRow : OpenClaim := { program := "ytainohbfcehpoaadoor", sum := "226f66b19381471b5a27ba4c3ec866052858145300a6d6bdfb8b1f6f4600267b", func := "evergreen/evergreenlaw08.MachineSafe", spec := "machineSafe", inPlace := ["internal/bytealg.IndexByteString", "internal/bytealg.IndexString", "internal/abi.NoEscape"], unfollowed := true, recurses := true, named := ["evergreen/evergreenref08.Takes", "internal/bytealg.MaxLen", "evergreen/machine.operations", "strconv.ErrSyntax", "strconv.ErrRange", "internal/strconv.uint64pow10", "math/bits.deBruijn32tab", "math/bits.deBruijn64tab", "evergreen/evergreenref08.Puts"], apart := false, laid := [("evergreen/evergreenref08.Takes", laid_evergreen_evergreenref08_Takes), ("evergreen/evergreenref08.Puts", laid_evergreen_evergreenref08_Puts), ("math/bits.deBruijn32tab", laid_math_bits_deBruijn32tab), ("math/bits.deBruijn64tab", laid_math_bits_deBruijn64tab), ("internal/strconv.uint64pow10", laid_internal_strconv_uint64pow10), ("strconv.ErrRange", laid_strconv_ErrRange), ("strconv.ErrSyntax", laid_strconv_ErrSyntax), ("evergreen/machine.operations", laid_evergreen_machine_operations)] }
def MachineSafeSaid : Prop := machineSafeRow.holds Tryd.pinned (OpenSpec.ofChange machineSafeSpec)

/-- ITS FALSE NEIGHBOUR: 'it returns false'. Refute it at one input. -/
def machineSafeWrong : ChangeSpec := { name := "machineSafe", fn := fun _ => fun
  | [d1, d2, d3, d4, d5] => { results := [.lit (.bool false)], args := [d1, d2, d3, d4, d5] }
  | _ => none }
def MachineSafeWrongFalsely : Prop := machineSafeRow.holds Tryd.pinned (OpenSpec.ofChange machineSafeWrong)

/-- 'evergreenlaw08.MachineSteps': WHATEVER THE INPUT: true; the input reads as it did. -/
def machineStepsSpec : ChangeSpec := { name := "machineSteps", fn := fun _ => fun
  | [d1, d2, d3] => { results := [.lit (.bool true)], args := [d1, d2, d3] }
  | _ => none }
def machineStepsRow : OpenClaim := { program := "ytainohbfcehpoaadoor", sum := "226f66b19381471b5a27ba4c3ec866052858145300a6d6bdfb8b1f6f4600267b", func := "evergreen/evergreenlaw08.MachineSteps", spec := "machineSteps", inPlace := ["internal/bytealg.IndexByteString", "internal/bytealg.IndexString", "internal/abi.NoEscape"], unfollowed := true, recurses := true, named := ["internal/bytealg.MaxLen", "evergreen/machine.operations", "strconv.ErrSyntax", "strconv.ErrRange", "internal/strconv.uint64pow10", "math/bits.deBruijn32tab", "math/bits.deBruijn64tab", "evergreen/evergreenref08.Takes", "evergreen/evergreenref08.Puts"], apart := false, laid := [("evergreen/evergreenref08.Takes", laid_evergreen_evergreenref08_Takes), ("evergreen/evergreenref08.Puts", laid_evergreen_evergreenref08_Puts), ("math/bits.deBruijn32tab", laid_math_bits_deBruijn32tab), ("math/bits.deBruijn64tab", laid_math_bits_deBruijn64tab), ("internal/strconv.uint64pow10", laid_internal_strconv_uint64pow10), ("strconv.ErrRange", laid_strconv_ErrRange), ("strconv.ErrSyntax", laid_strconv_ErrSyntax), ("evergreen/machine.operations", laid_evergreen_machine_operations)] }
def MachineStepsSaid : Prop := machineStepsRow.holds Tryd.pinned (OpenSpec.ofChange machineStepsSpec)

/-- ITS FALSE NEIGHBOUR: 'it returns false'. Refute it at one input. -/
def machineStepsWrong : ChangeSpec := { name := "machineSteps", fn := fun _ => fun
  | [d1, d2, d3] => { results := [.lit (.bool false)], args := [d1, d2, d3] }
  | _ => none }
def MachineStepsWrongFalsely : Prop := machineStepsRow.holds Tryd.pinned (OpenSpec.ofChange machineStepsWrong)

/-- 'evergreenlaw08.MachineInput': WHATEVER THE INPUT: true; the input reads as it did. -/
def machineInputSpec : ChangeSpec := { name := "machineInput", fn := fun _ => fun
  | [d1, d2, d3] => { results := [.lit (.bool true)], args := [d1, d2, d3] }
  | _ => none }
def machineInputRow : OpenClaim := { program := "ytainohbfcehpoaadoor", sum := "226f66b19381471b5a27ba4c3ec866052858145300a6d6bdfb8b1f6f4600267b", func := "evergreen/evergreenlaw08.MachineInput", spec := "machineInput", inPlace := ["internal/bytealg.IndexByteString", "internal/bytealg.IndexString", "internal/abi.NoEscape"], unfollowed := true, recurses := true, named := ["internal/bytealg.MaxLen", "evergreen/machine.operations", "strconv.ErrSyntax", "strconv.ErrRange", "internal/strconv.uint64pow10", "math/bits.deBruijn32tab", "math/bits.deBruijn64tab", "evergreen/evergreenref08.Takes", "evergreen/evergreenref08.Puts"], apart := false, laid := [("evergreen/evergreenref08.Takes", laid_evergreen_evergreenref08_Takes), ("evergreen/evergreenref08.Puts", laid_evergreen_evergreenref08_Puts), ("math/bits.deBruijn32tab", laid_math_bits_deBruijn32tab), ("math/bits.deBruijn64tab", laid_math_bits_deBruijn64tab), ("internal/strconv.uint64pow10", laid_internal_strconv_uint64pow10), ("strconv.ErrRange", laid_strconv_ErrRange), ("strconv.ErrSyntax", laid_strconv_ErrSyntax), ("evergreen/machine.operations", laid_evergreen_machine_operations)] }
def MachineInputSaid : Prop := machineInputRow.holds Tryd.pinned (OpenSpec.ofChange machineInputSpec)

/-- ITS FALSE NEIGHBOUR: 'it returns false'. Refute it at one input. -/
def machineInputWrong : ChangeSpec := { name := "machineInput", fn := fun _ => fun
  | [d1, d2, d3] => { results := [.lit (.bool false)], args := [d1, d2, d3] }
  | _ => none }
def MachineInputWrongFalsely : Prop := machineInputRow.holds Tryd.pinned (OpenSpec.ofChange machineInputWrong)

/-- 'evergreenlaw08.MachineRoundTrip': WHATEVER THE INPUT: true; the input reads as it did. -/
def machineRoundTripSpec : ChangeSpec := { name := "machineRoundTrip", fn := fun _ => fun
  | [d1, d2, d3, d4] => { results := [.lit (.bool true)], args := [d1, d2, d3, d4] }
  | _ => none }
def machineRoundTripRow : OpenClaim := { program := "ytainohbfcehpoaadoor", sum := "226f66b19381471b5a27ba4c3ec866052858145300a6d6bdfb8b1f6f4600267b", func := "evergreen/evergreenlaw08.MachineRoundTrip", spec := "machineRoundTrip", inPlace := ["internal/bytealg.IndexByteString", "internal/bytealg.IndexString", "internal/abi.NoEscape"], unfollowed := true, recurses := true, named := ["internal/bytealg.MaxLen", "evergreen/machine.operations", "strconv.ErrSyntax", "strconv.ErrRange", "internal/strconv.uint64pow10", "math/bits.deBruijn32tab", "math/bits.deBruijn64tab", "evergreen/evergreenref08.Takes", "evergreen/evergreenref08.Puts"], apart := false, laid := [("evergreen/evergreenref08.Takes", laid_evergreen_evergreenref08_Takes), ("evergreen/evergreenref08.Puts", laid_evergreen_evergreenref08_Puts), ("math/bits.deBruijn32tab", laid_math_bits_deBruijn32tab), ("math/bits.deBruijn64tab", laid_math_bits_deBruijn64tab), ("internal/strconv.uint64pow10", laid_internal_strconv_uint64pow10), ("strconv.ErrRange", laid_strconv_ErrRange), ("strconv.ErrSyntax", laid_strconv_ErrSyntax), ("evergreen/machine.operations", laid_evergreen_machine_operations)] }
def MachineRoundTripSaid : Prop := machineRoundTripRow.holds Tryd.pinned (OpenSpec.ofChange machineRoundTripSpec)

/-- ITS FALSE NEIGHBOUR: 'it returns false'. Refute it at one input. -/
def machineRoundTripWrong : ChangeSpec := { name := "machineRoundTrip", fn := fun _ => fun
  | [d1, d2, d3, d4] => { results := [.lit (.bool false)], args := [d1, d2, d3, d4] }
  | _ => none }
def MachineRoundTripWrongFalsely : Prop := machineRoundTripRow.holds Tryd.pinned (OpenSpec.ofChange machineRoundTripWrong)

/-- 'evergreenlaw08.MachineParsedAgain': WHATEVER THE INPUT: true; the input reads as it did. -/
def machineParsedAgainSpec : ChangeSpec := { name := "machineParsedAgain", fn := fun _ => fun
  | [d1, d2, d3, d4, d5] => { results := [.lit (.bool true)], args := [d1, d2, d3, d4, d5] }
  | _ => none }
def machineParsedAgainRow : OpenClaim := { program := "ytainohbfcehpoaadoor", sum := "226f66b19381471b5a27ba4c3ec866052858145300a6d6bdfb8b1f6f4600267b", func := "evergreen/evergreenlaw08.MachineParsedAgain", spec := "machineParsedAgain", inPlace := ["internal/bytealg.IndexByteString", "internal/bytealg.IndexString", "internal/abi.NoEscape"], unfollowed := true, recurses := true, named := ["internal/bytealg.MaxLen", "evergreen/machine.operations", "strconv.ErrSyntax", "strconv.ErrRange", "internal/strconv.uint64pow10", "math/bits.deBruijn32tab", "math/bits.deBruijn64tab", "evergreen/evergreenref08.Takes", "evergreen/evergreenref08.Puts", "evergreen/evergreenref08.Names"], apart := false, laid := [("evergreen/evergreenref08.Names", laid_evergreen_evergreenref08_Names), ("evergreen/evergreenref08.Takes", laid_evergreen_evergreenref08_Takes), ("evergreen/evergreenref08.Puts", laid_evergreen_evergreenref08_Puts), ("math/bits.deBruijn32tab", laid_math_bits_deBruijn32tab), ("math/bits.deBruijn64tab", laid_math_bits_deBruijn64tab), ("internal/strconv.uint64pow10", laid_internal_strconv_uint64pow10), ("strconv.ErrRange", laid_strconv_ErrRange), ("strconv.ErrSyntax", laid_strconv_ErrSyntax), ("evergreen/machine.operations", laid_evergreen_machine_operations)] }
def MachineParsedAgainSaid : Prop := machineParsedAgainRow.holds Tryd.pinned (OpenSpec.ofChange machineParsedAgainSpec)

/-- ITS FALSE NEIGHBOUR: 'it returns false'. Refute it at one input. -/
def machineParsedAgainWrong : ChangeSpec := { name := "machineParsedAgain", fn := fun _ => fun
  | [d1, d2, d3, d4, d5] => { results := [.lit (.bool false)], args := [d1, d2, d3, d4, d5] }
  | _ => none }
def MachineParsedAgainWrongFalsely : Prop := machineParsedAgainRow.holds Tryd.pinned (OpenSpec.ofChange machineParsedAgainWrong)

/-- 'evergreenlaw08.MachineCalculates': WHATEVER THE INPUT: true; the input reads as it did. -/
def machineCalculatesSpec : ChangeSpec := { name := "machineCalculates", fn := fun _ => fun
  | [d1, d2, d3, d4] => { results := [.lit (.bool true)], args := [d1, d2, d3, d4] }
  | _ => none }
def machineCalculatesRow : OpenClaim := { program := "ytainohbfcehpoaadoor", sum := "226f66b19381471b5a27ba4c3ec866052858145300a6d6bdfb8b1f6f4600267b", func := "evergreen/evergreenlaw08.MachineCalculates", spec := "machineCalculates", inPlace := ["internal/bytealg.IndexByteString", "internal/bytealg.IndexString", "internal/abi.NoEscape"], unfollowed := true, recurses := true, named := ["internal/bytealg.MaxLen", "evergreen/machine.operations", "strconv.ErrSyntax", "strconv.ErrRange", "internal/strconv.uint64pow10", "math/bits.deBruijn32tab", "math/bits.deBruijn64tab"], apart := false, laid := [("math/bits.deBruijn32tab", laid_math_bits_deBruijn32tab), ("math/bits.deBruijn64tab", laid_math_bits_deBruijn64tab), ("internal/strconv.uint64pow10", laid_internal_strconv_uint64pow10), ("strconv.ErrRange", laid_strconv_ErrRange), ("strconv.ErrSyntax", laid_strconv_ErrSyntax), ("evergreen/machine.operations", laid_evergreen_machine_operations)] }
def MachineCalculatesSaid : Prop := machineCalculatesRow.holds Tryd.pinned (OpenSpec.ofChange machineCalculatesSpec)

/-- ITS FALSE NEIGHBOUR: 'it returns false'. Refute it at one input. -/
def machineCalculatesWrong : ChangeSpec := { name := "machineCalculates", fn := fun _ => fun
  | [d1, d2, d3, d4] => { results := [.lit (.bool false)], args := [d1, d2, d3, d4] }
  | _ => none }
def MachineCalculatesWrongFalsely : Prop := machineCalculatesRow.holds Tryd.pinned (OpenSpec.ofChange machineCalculatesWrong)

/- THE SECOND FORM. 'bulk': how many values and letters a reading holds, each counted each time it is reached (what is shared counts as often as it is met; a slice's spare places count too). A statement '..UptoSaid' is the law's where the arguments, and the package variables that the reading takes, are together of bulk at most 1048576: NARROWER than '..Said'. Prove '..Said' where nothing that the law and all that it calls make is longer than what came in: it says more and counts as full. Else prove '..UptoSaid'. A law counts once. -/
mutual
def uptoBulk {H : Type} : DataW H → Nat
  | .lit (.string bytes) => bytes.length + 1
  | .lit _ => 1
  | .nil => 1
  | .ptr d => uptoBulk d + 1
  | .slice elems spare => uptoBulkAll elems + uptoBulkAll spare + 1
  | .agg parts => uptoBulkAll parts + 1
  | .iface _ d => uptoBulk d + 1
  | .map entries => uptoBulkEntries entries + 1
  | .held _ => 1
def uptoBulkAll {H : Type} : List (DataW H) → Nat
  | [] => 0
  | d :: r => uptoBulk d + uptoBulkAll r
def uptoBulkEntries {H : Type} : List (Lit × DataW H) → Nat
  | [] => 0
  | x :: r => uptoBulkEntry x + uptoBulkEntries r
def uptoBulkEntry {H : Type} : Lit × DataW H → Nat
  | (.string bytes, d) => bytes.length + uptoBulk d + 1
  | (_, d) => uptoBulk d + 1
 end
def uptoSmall : (H : Type) → List (DataW H) → Bool := fun _ ds => decide (uptoBulkAll ds ≤ 1048576)
def OpenSpec.upto (s : _root_.Go.ChangeSpec) : _root_.Go.OpenSpec := { _root_.Go.OpenSpec.ofChange s with cond := some uptoSmall }

/-- 'evergreenlaw08.MachineMatchesReference', WHERE WHAT IT READS IS OF BULK AT MOST 1048576: true; the input reads as it did. -/
def machineMatchesReferenceUptoRow : OpenClaim := { program := "ytainohbfcehpoaadoor", sum := "226f66b19381471b5a27ba4c3ec866052858145300a6d6bdfb8b1f6f4600267b", func := "evergreen/evergreenlaw08.MachineMatchesReference", spec := "machineMatchesReference", inPlace := ["internal/bytealg.IndexByteString", "internal/bytealg.IndexString", "internal/abi.NoEscape"], unfollowed := true, recurses := true, named := ["internal/bytealg.MaxLen", "evergreen/machine.operations", "strconv.ErrSyntax", "strconv.ErrRange", "internal/strconv.uint64pow10", "math/bits.deBruijn32tab", "math/bits.deBruijn64tab", "evergreen/evergreenref08.Takes", "evergreen/evergreenref08.Puts"], apart := false, laid := [("evergreen/evergreenref08.Takes", laid_evergreen_evergreenref08_Takes), ("evergreen/evergreenref08.Puts", laid_evergreen_evergreenref08_Puts), ("math/bits.deBruijn32tab", laid_math_bits_deBruijn32tab), ("math/bits.deBruijn64tab", laid_math_bits_deBruijn64tab), ("internal/strconv.uint64pow10", laid_internal_strconv_uint64pow10), ("strconv.ErrRange", laid_strconv_ErrRange), ("strconv.ErrSyntax", laid_strconv_ErrSyntax), ("evergreen/machine.operations", laid_evergreen_machine_operations)], narrowed := true }
def MachineMatchesReferenceUptoSaid : Prop := machineMatchesReferenceUptoRow.holds Tryd.pinned (OpenSpec.upto machineMatchesReferenceSpec)

/-- 'evergreenlaw08.MachineTextMatchesReference', WHERE WHAT IT READS IS OF BULK AT MOST 1048576: true; the input reads as it did. -/
def machineTextMatchesReferenceUptoRow : OpenClaim := { program := "ytainohbfcehpoaadoor", sum := "226f66b19381471b5a27ba4c3ec866052858145300a6d6bdfb8b1f6f4600267b", func := "evergreen/evergreenlaw08.MachineTextMatchesReference", spec := "machineTextMatchesReference", inPlace := ["internal/bytealg.IndexByteString", "internal/bytealg.IndexString", "internal/abi.NoEscape"], unfollowed := true, recurses := true, named := ["internal/bytealg.MaxLen", "evergreen/machine.operations", "strconv.ErrSyntax", "strconv.ErrRange", "internal/strconv.uint64pow10", "math/bits.deBruijn32tab", "math/bits.deBruijn64tab", "evergreen/evergreenref08.Takes", "evergreen/evergreenref08.Puts", "evergreen/evergreenref08.Names"], apart := false, laid := [("evergreen/evergreenref08.Names", laid_evergreen_evergreenref08_Names), ("evergreen/evergreenref08.Takes", laid_evergreen_evergreenref08_Takes), ("evergreen/evergreenref08.Puts", laid_evergreen_evergreenref08_Puts), ("math/bits.deBruijn32tab", laid_math_bits_deBruijn32tab), ("math/bits.deBruijn64tab", laid_math_bits_deBruijn64tab), ("internal/strconv.uint64pow10", laid_internal_strconv_uint64pow10), ("strconv.ErrRange", laid_strconv_ErrRange), ("strconv.ErrSyntax", laid_strconv_ErrSyntax), ("evergreen/machine.operations", laid_evergreen_machine_operations)], narrowed := true }
def MachineTextMatchesReferenceUptoSaid : Prop := machineTextMatchesReferenceUptoRow.holds Tryd.pinned (OpenSpec.upto machineTextMatchesReferenceSpec)

/-- 'evergreenlaw08.MachineSafe', WHERE WHAT IT READS IS OF BULK AT MOST 1048576: true; the input reads as it did. -/
def machineSafeUptoRow : OpenClaim := { program := "ytainohbfcehpoaadoor", sum := "226f66b19381471b5a27ba4c3ec866052858145300a6d6bdfb8b1f6f4600267b", func := "evergreen/evergreenlaw08.MachineSafe", spec := "machineSafe", inPlace := ["internal/bytealg.IndexByteString", "internal/bytealg.IndexString", "internal/abi.NoEscape"], unfollowed := true, recurses := true, named := ["evergreen/evergreenref08.Takes", "internal/bytealg.MaxLen", "evergreen/machine.operations", "strconv.ErrSyntax", "strconv.ErrRange", "internal/strconv.uint64pow10", "math/bits.deBruijn32tab", "math/bits.deBruijn64tab", "evergreen/evergreenref08.Puts"], apart := false, laid := [("evergreen/evergreenref08.Takes", laid_evergreen_evergreenref08_Takes), ("evergreen/evergreenref08.Puts", laid_evergreen_evergreenref08_Puts), ("math/bits.deBruijn32tab", laid_math_bits_deBruijn32tab), ("math/bits.deBruijn64tab", laid_math_bits_deBruijn64tab), ("internal/strconv.uint64pow10", laid_internal_strconv_uint64pow10), ("strconv.ErrRange", laid_strconv_ErrRange), ("strconv.ErrSyntax", laid_strconv_ErrSyntax), ("evergreen/machine.operations", laid_evergreen_machine_operations)], narrowed := true }
def MachineSafeUptoSaid : Prop := machineSafeUptoRow.holds Tryd.pinned (OpenSpec.upto machineSafeSpec)

/-- 'evergreenlaw08.MachineSteps', WHERE WHAT IT READS IS OF BULK AT MOST 1048576: true; the input reads as it did. -/
def machineStepsUptoRow : OpenClaim := { program := "ytainohbfcehpoaadoor", sum := "226f66b19381471b5a27ba4c3ec866052858145300a6d6bdfb8b1f6f4600267b", func := "evergreen/evergreenlaw08.MachineSteps", spec := "machineSteps", inPlace := ["internal/bytealg.IndexByteString", "internal/bytealg.IndexString", "internal/abi.NoEscape"], unfollowed := true, recurses := true, named := ["internal/bytealg.MaxLen", "evergreen/machine.operations", "strconv.ErrSyntax", "strconv.ErrRange", "internal/strconv.uint64pow10", "math/bits.deBruijn32tab", "math/bits.deBruijn64tab", "evergreen/evergreenref08.Takes", "evergreen/evergreenref08.Puts"], apart := false, laid := [("evergreen/evergreenref08.Takes", laid_evergreen_evergreenref08_Takes), ("evergreen/evergreenref08.Puts", laid_evergreen_evergreenref08_Puts), ("math/bits.deBruijn32tab", laid_math_bits_deBruijn32tab), ("math/bits.deBruijn64tab", laid_math_bits_deBruijn64tab), ("internal/strconv.uint64pow10", laid_internal_strconv_uint64pow10), ("strconv.ErrRange", laid_strconv_ErrRange), ("strconv.ErrSyntax", laid_strconv_ErrSyntax), ("evergreen/machine.operations", laid_evergreen_machine_operations)], narrowed := true }
def MachineStepsUptoSaid : Prop := machineStepsUptoRow.holds Tryd.pinned (OpenSpec.upto machineStepsSpec)

/-- 'evergreenlaw08.MachineInput', WHERE WHAT IT READS IS OF BULK AT MOST 1048576: true; the input reads as it did. -/
def machineInputUptoRow : OpenClaim := { program := "ytainohbfcehpoaadoor", sum := "226f66b19381471b5a27ba4c3ec866052858145300a6d6bdfb8b1f6f4600267b", func := "evergreen/evergreenlaw08.MachineInput", spec := "machineInput", inPlace := ["internal/bytealg.IndexByteString", "internal/bytealg.IndexString", "internal/abi.NoEscape"], unfollowed := true, recurses := true, named := ["internal/bytealg.MaxLen", "evergreen/machine.operations", "strconv.ErrSyntax", "strconv.ErrRange", "internal/strconv.uint64pow10", "math/bits.deBruijn32tab", "math/bits.deBruijn64tab", "evergreen/evergreenref08.Takes", "evergreen/evergreenref08.Puts"], apart := false, laid := [("evergreen/evergreenref08.Takes", laid_evergreen_evergreenref08_Takes), ("evergreen/evergreenref08.Puts", laid_evergreen_evergreenref08_Puts), ("math/bits.deBruijn32tab", laid_math_bits_deBruijn32tab), ("math/bits.deBruijn64tab", laid_math_bits_deBruijn64tab), ("internal/strconv.uint64pow10", laid_internal_strconv_uint64pow10), ("strconv.ErrRange", laid_strconv_ErrRange), ("strconv.ErrSyntax", laid_strconv_ErrSyntax), ("evergreen/machine.operations", laid_evergreen_machine_operations)], narrowed := true }
def MachineInputUptoSaid : Prop := machineInputUptoRow.holds Tryd.pinned (OpenSpec.upto machineInputSpec)

/-- 'evergreenlaw08.MachineRoundTrip', WHERE WHAT IT READS IS OF BULK AT MOST 1048576: true; the input reads as it did. -/
def machineRoundTripUptoRow : OpenClaim := { program := "ytainohbfcehpoaadoor", sum := "226f66b19381471b5a27ba4c3ec866052858145300a6d6bdfb8b1f6f4600267b", func := "evergreen/evergreenlaw08.MachineRoundTrip", spec := "machineRoundTrip", inPlace := ["internal/bytealg.IndexByteString", "internal/bytealg.IndexString", "internal/abi.NoEscape"], unfollowed := true, recurses := true, named := ["internal/bytealg.MaxLen", "evergreen/machine.operations", "strconv.ErrSyntax", "strconv.ErrRange", "internal/strconv.uint64pow10", "math/bits.deBruijn32tab", "math/bits.deBruijn64tab", "evergreen/evergreenref08.Takes", "evergreen/evergreenref08.Puts"], apart := false, laid := [("evergreen/evergreenref08.Takes", laid_evergreen_evergreenref08_Takes), ("evergreen/evergreenref08.Puts", laid_evergreen_evergreenref08_Puts), ("math/bits.deBruijn32tab", laid_math_bits_deBruijn32tab), ("math/bits.deBruijn64tab", laid_math_bits_deBruijn64tab), ("internal/strconv.uint64pow10", laid_internal_strconv_uint64pow10), ("strconv.ErrRange", laid_strconv_ErrRange), ("strconv.ErrSyntax", laid_strconv_ErrSyntax), ("evergreen/machine.operations", laid_evergreen_machine_operations)], narrowed := true }
def MachineRoundTripUptoSaid : Prop := machineRoundTripUptoRow.holds Tryd.pinned (OpenSpec.upto machineRoundTripSpec)

/-- 'evergreenlaw08.MachineParsedAgain', WHERE WHAT IT READS IS OF BULK AT MOST 1048576: true; the input reads as it did. -/
def machineParsedAgainUptoRow : OpenClaim := { program := "ytainohbfcehpoaadoor", sum := "226f66b19381471b5a27ba4c3ec866052858145300a6d6bdfb8b1f6f4600267b", func := "evergreen/evergreenlaw08.MachineParsedAgain", spec := "machineParsedAgain", inPlace := ["internal/bytealg.IndexByteString", "internal/bytealg.IndexString", "internal/abi.NoEscape"], unfollowed := true, recurses := true, named := ["internal/bytealg.MaxLen", "evergreen/machine.operations", "strconv.ErrSyntax", "strconv.ErrRange", "internal/strconv.uint64pow10", "math/bits.deBruijn32tab", "math/bits.deBruijn64tab", "evergreen/evergreenref08.Takes", "evergreen/evergreenref08.Puts", "evergreen/evergreenref08.Names"], apart := false, laid := [("evergreen/evergreenref08.Names", laid_evergreen_evergreenref08_Names), ("evergreen/evergreenref08.Takes", laid_evergreen_evergreenref08_Takes), ("evergreen/evergreenref08.Puts", laid_evergreen_evergreenref08_Puts), ("math/bits.deBruijn32tab", laid_math_bits_deBruijn32tab), ("math/bits.deBruijn64tab", laid_math_bits_deBruijn64tab), ("internal/strconv.uint64pow10", laid_internal_strconv_uint64pow10), ("strconv.ErrRange", laid_strconv_ErrRange), ("strconv.ErrSyntax", laid_strconv_ErrSyntax), ("evergreen/machine.operations", laid_evergreen_machine_operations)], narrowed := true }
def MachineParsedAgainUptoSaid : Prop := machineParsedAgainUptoRow.holds Tryd.pinned (OpenSpec.upto machineParsedAgainSpec)

/-- 'evergreenlaw08.MachineCalculates', WHERE WHAT IT READS IS OF BULK AT MOST 1048576: true; the input reads as it did. -/
def machineCalculatesUptoRow : OpenClaim := { program := "ytainohbfcehpoaadoor", sum := "226f66b19381471b5a27ba4c3ec866052858145300a6d6bdfb8b1f6f4600267b", func := "evergreen/evergreenlaw08.MachineCalculates", spec := "machineCalculates", inPlace := ["internal/bytealg.IndexByteString", "internal/bytealg.IndexString", "internal/abi.NoEscape"], unfollowed := true, recurses := true, named := ["internal/bytealg.MaxLen", "evergreen/machine.operations", "strconv.ErrSyntax", "strconv.ErrRange", "internal/strconv.uint64pow10", "math/bits.deBruijn32tab", "math/bits.deBruijn64tab"], apart := false, laid := [("math/bits.deBruijn32tab", laid_math_bits_deBruijn32tab), ("math/bits.deBruijn64tab", laid_math_bits_deBruijn64tab), ("internal/strconv.uint64pow10", laid_internal_strconv_uint64pow10), ("strconv.ErrRange", laid_strconv_ErrRange), ("strconv.ErrSyntax", laid_strconv_ErrSyntax), ("evergreen/machine.operations", laid_evergreen_machine_operations)], narrowed := true }
def MachineCalculatesUptoSaid : Prop := machineCalculatesUptoRow.holds Tryd.pinned (OpenSpec.upto machineCalculatesSpec)

end Rows
end Go.Proofs.YtainohbfcehpoaaDoor
