/-
  The contract of machine.Verify.
-/
import Derived.Test.YtainohbfcehpoaaDoorMbD
namespace Go.Proofs.YtainohbfcehpoaaDoor
open Go.RowKit Go.Shelf

/-- What Verify returns. -/
def VfyPost (code : List UInt8) (e : Ending) : Prop :=
  (∃ l m, formed code = some l ∧ Good l ∧ MostOf l m ∧ e = .returned (.tuple #[.int .i64 (m : Int), .int .i64 0])) ∨
  ((∀ l, formed code = some l → ¬ Good l) ∧ e = .returned (.tuple #[.int .i64 0, .int .i64 80]))
set_option maxRecDepth 100000 in
set_option maxHeartbeats 2000000 in
theorem Verify_any (code : List UInt8) (w : World) (hc : code.length ≤ 1000000) (hO : OpsIs w) :
    Calls Tryd.prog 14 #[.string (str code)] w fun e w' => VfyPost code e ∧ Below w.heap.size w w' := by
  have hP := Lib.hid (verified_any code w hc hO)
  go_enter Tryd.func14, Tryd.ntmps14
  go_wp2_with fail
  refine hP.out.mono ?_
  rintro e w1 ⟨⟨L, m, g, cap, hf, hgood, hmost, rfl, hwg, hg1, hLc, hcm, hrow⟩ | ⟨hno, rfl⟩, hb1⟩
  · have hfin : Hid (VfyPost code (.returned (.tuple #[.int .i64 (m : Int), .int .i64 0]))) := .inl ⟨L, m, hf, hgood, hmost, rfl⟩
    clear hf hgood hmost hrow
    go_wp2_with fail
    go_ret2
    exact ⟨hfin.out, hb1⟩
  · have hfin : Hid (VfyPost code (.returned (.tuple #[.int .i64 0, .int .i64 80]))) := .inr ⟨hno, rfl⟩
    clear hno
    go_wp2_with fail
    go_ret2
    exact ⟨hfin.out, hb1⟩
end Go.Proofs.YtainohbfcehpoaaDoor
