/-
  ratio.Mul, Add, Sub, Div, Round at all fractions.
-/
import Derived.Test.YtfojgdlegojdgaaDoorOpB
import Derived.Test.YtfojgdlegojdgaaDoorRefO
namespace Go.Proofs.YtfojgdlegojdgaaDoor
open Go.RowKit

theorem Mul_all (a b c d : Int) (w : World) (ia : I64 a) (ib : I64 b) (ic : I64 c) (id : I64 d) (p : Addr) (hP : Mis w p) :
    Calls Tryd.prog 27 #[rv a b, rv c d] w fun e w' => e = .returned (.tuple #[rv (mulA a b c d).1 (mulA a b c d).2.1, .int .i64 (mulA a b c d).2.2]) ∧ Below w.heap.size w w' := by
  by_cases h : vld a b = true ∧ vld c d = true
  · rw [show mulA a b c d = mk (a * c) (b * d) from by simp [mulA, h]]
    exact Mul_valid a b c d w h.1 h.2
  · rw [show mulA a b c d = (0, 0, 30) from by unfold mulA; rw [if_neg (by simpa using h)]]
    exact Mul_bad a b c d w ia ib ic id h p hP
theorem Add_all (a b c d : Int) (w : World) (ia : I64 a) (ib : I64 b) (ic : I64 c) (id : I64 d) (p : Addr) (hP : Mis w p) :
    Calls Tryd.prog 26 #[rv a b, rv c d] w fun e w' => e = .returned (.tuple #[rv (addA a b c d).1 (addA a b c d).2.1, .int .i64 (addA a b c d).2.2]) ∧ Below w.heap.size w w' := by
  by_cases h : vld a b = true ∧ vld c d = true
  · rw [show addA a b c d = mk (a * d + c * b) (b * d) from by simp [addA, h]]
    exact Add_valid a b c d w h.1 h.2
  · rw [show addA a b c d = (0, 0, 30) from by unfold addA; rw [if_neg (by simpa using h)]]
    exact Add_bad a b c d w ia ib ic id h p hP
theorem Sub_all (a b c d : Int) (w : World) (ia : I64 a) (ib : I64 b) (ic : I64 c) (id : I64 d) (p : Addr) (hP : Mis w p) :
    Calls Tryd.prog 25 #[rv a b, rv c d] w fun e w' => e = .returned (.tuple #[rv (subA a b c d).1 (subA a b c d).2.1, .int .i64 (subA a b c d).2.2]) ∧ Below w.heap.size w w' := by
  by_cases h : vld a b = true ∧ vld c d = true
  · rw [show subA a b c d = subv a b c d from by simp [subA, subv, h, Int.sub_eq_add_neg, Int.neg_mul]]
    exact Sub_valid a b c d w h.1 h.2
  · rw [show subA a b c d = (0, 0, 30) from by unfold subA; rw [if_neg (by simpa using h)]]
    exact Sub_bad a b c d w ia ib ic id h p hP
theorem Div_all (a b c d : Int) (w : World) (ia : I64 a) (ib : I64 b) (ic : I64 c) (id : I64 d) (p : Addr) (hP : Mis w p) :
    Calls Tryd.prog 32 #[rv a b, rv c d] w fun e w' => e = .returned (.tuple #[rv (divA a b c d).1 (divA a b c d).2.1, .int .i64 (divA a b c d).2.2]) ∧ Below w.heap.size w w' := by
  by_cases h : vld a b = true ∧ vld c d = true
  · rw [show divA a b c d = divv a b c d from by simp [divA, divv, h]]
    exact Div_valid a b c d w h.1 h.2
  · rw [show divA a b c d = (0, 0, 30) from by unfold divA; rw [if_neg (by simpa using h)]]
    exact Div_bad a b c d w ia ib ic id h p hP
theorem Round_all (a b k : Int) (w : World) (ia : I64 a) (ib : I64 b) (p : Addr) (hP : Mis w p) :
    Calls Tryd.prog 22 #[rv a b, .int .i64 k] w fun e w' => e = .returned (.tuple #[rv (roundA a b k).1 (roundA a b k).2.1, .int .i64 (roundA a b k).2.2]) ∧ Below w.heap.size w w' := by
  by_cases hk : k < 1 ∨ 1000000000 < k
  · rw [show roundA a b k = (0, 0, 30) from by unfold roundA; rw [if_neg (by simp; omega)]]
    exact Round_out a b k w hk
  · have h1 : 1 ≤ k := by omega
    have h2 : k ≤ 1000000000 := by omega
    by_cases h : vld a b = true
    · rw [show roundA a b k = roundv a b k from by simp [roundA, roundv, h, h1, h2]]
      exact Round_valid a b k w h h1 h2
    · rw [show roundA a b k = (0, 0, 30) from by unfold roundA; rw [if_neg (by simp [h])]]
      exact Round_bad a b k w ia ib (by simpa using h) h1 h2 p hP
end Go.Proofs.YtfojgdlegojdgaaDoor
