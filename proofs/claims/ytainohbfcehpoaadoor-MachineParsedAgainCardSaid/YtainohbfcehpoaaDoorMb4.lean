/-
  The comparison of offsets (program's closure).
-/
import Derived.Test.YtainohbfcehpoaaDoorMb3
import Derived.Test.YtainohbfcehpoaaDoorGen2
namespace Go.Proofs.YtainohbfcehpoaaDoor
open Go.RowKit

set_option maxHeartbeats 1000000 in
theorem cmpOff_any (off op opd to t : Nat) (w : World) (h1 : off ≤ 1000000) (h2 : t ≤ 1000000) :
    Calls Tryd.prog 48 #[insAgg off op opd to, .int .i64 (t : Int)] w fun e w' => e = .returned (.int .i64 ((off : Int) - (t : Int))) ∧ Below w.heap.size w w' := by
  have hw : IntKind.i64.wrap ((off : Int) - (t : Int)) = (off : Int) - (t : Int) := IntWalk.i64_in _ (by omega)
  unfold insAgg
  go_enter Tryd.func48, Tryd.ntmps48
  go_wp2
  go_ret
  exact ⟨rfl, (Below.refl _ _).alloc (Nat.le_refl _) _⟩
end Go.Proofs.YtainohbfcehpoaaDoor
