/-
  The contracts of computer.Valid and of the closures of computer.areKeys.
-/
import Derived.Test.YtkgbknjpnhoadaaGreatDoorCqA
import Derived.Test.YtkgbknjpnhoadaaGreatDoorShelf
namespace Go.Proofs.YtkgbknjpnhoadaaGreatDoor
open Go.RowKit Go.Shelf

set_option maxRecDepth 100000 in
set_option maxHeartbeats 4000000 in
theorem areKeys1_any (e : Ev) (w : World) :
    Calls Tryz.prog 59 #[evAgg e] w fun r w' => r = .returned (.bool (!keyOk e)) ∧ Below w.heap.size w w' := by
  have hB : Below w.heap.size w (w.alloc (.cells #[.int .i64 e.t, .int .i64 e.k, .int .i64 e.a, .int .i64 e.b] 39)) := (Below.refl _ w).alloc (Nat.le_refl _) _
  have hA : Arr (w.alloc (.cells #[.int .i64 e.t, .int .i64 e.k, .int .i64 e.a, .int .i64 e.b] 39)) w.heap.size 39 [.int .i64 e.t, .int .i64 e.k, .int .i64 e.a, .int .i64 e.b] := Arr.new rfl rfl
  have e0 := hA.cell (j := 0) rfl
  have e1 := hA.cell (j := 1) rfl
  have e2 := hA.cell (j := 2) rfl
  have e3 := hA.cell (j := 3) rfl
  clear hA
  unfold evAgg keyOk
  obtain ⟨t, k, a, b⟩ := e
  dsimp only at *
  go_enter Tryz.func59, Tryz.ntmps59
  go_wp2
  all_goals (go_ret; refine ⟨congrArg (fun z => Ending.returned (.bool z)) ?_, (Below.refl _ w).alloc (Nat.le_refl _) _⟩; rw [Bool.eq_iff_iff]; simp; try omega)

set_option maxHeartbeats 1000000 in
theorem areKeys2_any (x y : Ev) (w : World) (hx : 0 ≤ x.t) (hx2 : x.t ≤ 20000) (hy : 0 ≤ y.t) (hy2 : y.t ≤ 20000) :
    Calls Tryz.prog 60 #[evAgg x, evAgg y] w fun r w' => r = .returned (.int .i64 (x.t - y.t)) ∧ Below w.heap.size w w' := by
  obtain ⟨t, k, a, b⟩ := x
  obtain ⟨t', k', a', b'⟩ := y
  unfold evAgg
  dsimp only at *
  go_enter Tryz.func60, Tryz.ntmps60
  go_wp2
  go_ret
  exact ⟨by go_num, ((Below.refl _ w).alloc (Nat.le_refl _) _).alloc (by simp) _⟩

set_option maxHeartbeats 1000000 in
theorem Valid_any (p d : ByteArray) (w : World) :
    Calls Tryz.prog 26 #[.string p, .string d] w fun r w' => r = .returned (.bool (progOk p.data.toList d.data.toList)) ∧ ∃ q, w' = w.drewN q := by
  go_enter Tryz.func26, Tryz.ntmps26
  go_wp2
  all_goals (go_ret; refine ⟨congrArg (fun z => Ending.returned (.bool z)) ?_, by first | exact ⟨0, rfl⟩ | exact ⟨_, rfl⟩⟩; rw [Bool.eq_iff_iff]; simp [progOk]; try omega)
end Go.Proofs.YtkgbknjpnhoadaaGreatDoor
