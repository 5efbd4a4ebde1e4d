/-
  What instructions returns: the iterator.
-/
import Derived.Test.YtainohbfcehpoaaDoorMb2
namespace Go.Proofs.YtainohbfcehpoaaDoor
open Go.RowKit

set_option maxHeartbeats 1000000 in
theorem instructions_any (s : ByteArray) (w : World) :
    Calls Tryd.prog 46 #[.string s] w fun e w' => e = .returned (.func (.func 55) #[] #[.pointer (some ⟨w.heap.size, 0, none⟩)]) ∧ Arr w' w.heap.size 9 [.string s] ∧ Below w.heap.size w w' := by
  have hmf : ∀ (fn : Fn) (first cap : Array Value) (w : World), (Instr.makeFunc fn first cap).run Tryd.prog w = .ok (.func fn first cap) w := fun _ _ _ _ => rfl
  go_enter Tryd.func46, Tryd.ntmps46
  go_wp2
  go_ret
  exact ⟨rfl, Arr.new rfl rfl, (Below.refl _ _).alloc (Nat.le_refl _) _⟩
end Go.Proofs.YtainohbfcehpoaaDoor
