/-
  The reference's HasOperand and leads.
-/
import Derived.Test.YtainohbfcehpoaaDoorMb5
namespace Go.Proofs.YtainohbfcehpoaaDoor
open Go.RowKit

set_option maxHeartbeats 1000000 in
theorem hasOperand_any (o : Nat) (w : World) (_ : o < 12) :
    Calls Tryd.prog 41 #[.int .i64 (o : Int)] w fun e w' => e = .returned (.bool (longOp o)) ∧ ∃ q, w' = w.drewN q := by
  go_enter Tryd.func41, Tryd.ntmps41
  go_wp2
  all_goals (go_ret; refine ⟨congrArg (fun z => Ending.returned (.bool z)) ?_, by first | exact ⟨0, rfl⟩ | exact ⟨_, rfl⟩⟩; rw [Bool.eq_iff_iff]; simp [longOp]; try omega)
set_option maxHeartbeats 1000000 in
theorem leads_any (o : Nat) (w : World) (_ : o < 12) :
    Calls Tryd.prog 39 #[.int .i64 (o : Int)] w fun e w' => e = .returned (.bool (leadOp o)) ∧ ∃ q, w' = w.drewN q := by
  go_enter Tryd.func39, Tryd.ntmps39
  go_wp2
  all_goals (go_ret; refine ⟨congrArg (fun z => Ending.returned (.bool z)) ?_, by first | exact ⟨0, rfl⟩ | exact ⟨_, rfl⟩⟩; rw [Bool.eq_iff_iff]; simp [leadOp]; try omega)
end Go.Proofs.YtainohbfcehpoaaDoor
