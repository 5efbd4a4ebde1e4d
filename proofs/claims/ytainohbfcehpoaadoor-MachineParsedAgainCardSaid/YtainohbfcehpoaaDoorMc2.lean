/-
  The reference's Simple: the bytes of an instruction.
-/
import Derived.Test.YtainohbfcehpoaaDoorMc1
import Derived.Test.YtainohbfcehpoaaDoorMa5
import Derived.Laws.BytesArg
namespace Go.Proofs.YtainohbfcehpoaaDoor
open Go.RowKit

theorem below_drewQ {B : Nat} {a w : World} (h : Below B a w) (n : Nat) : Below B a (w.drewN n) := ⟨h.os, h.tape, h.output, h.size, h.block⟩
theorem strOfNums_nats (l : List Nat) : strOfNums (l.map fun n : Nat => (n : Int)) = str (l.map UInt8.ofNat) := by
  simp [strOfNums, str, Function.comp_def]
set_option maxRecDepth 100000 in
set_option maxHeartbeats 2000000 in
theorem simple_any (o n : Nat) (w : World) (ho : o < 12) (hn : n < 65536) :
    Calls Tryd.prog 26 #[.int .i64 (o : Int), .int .i64 (n : Int)] w fun e w' => e = .returned (.string (str (simB o n))) ∧ Below w.heap.size w w' := by
  have hH := Lib.hid (hasOperand_any o w ho)
  have hw1 : IntKind.u8.wrap (o : Int) = (o : Int) := IntWalk.u8_in _ (by omega)
  have hw2 : IntKind.u8.wrap ((n : Int) / 256) = (n : Int) / 256 := IntWalk.u8_in _ (by omega)
  have hw3 : IntKind.u8.wrap ((n : Int) % 256) = (n : Int) % 256 := IntWalk.u8_in _ (by omega)
  cases hl : longOp o with
  | true =>
    rw [hl] at hH
    have hcv := fun W : World => run_convert_bytes_arg (P := Tryd.prog) (W.alloc (.cells #[.int .u8 (o : Int), .int .u8 ((n : Int) / 256), .int .u8 ((n : Int) % 256)] 5)) 46 5 Tryd.underlying46 Tryd.underlying5 W.heap.size 0 3 3 [(o : Int), (n : Int) / 256, (n : Int) % 256] rfl (fun i hi => by
      have hc := cells_new W [.int .u8 (o : Int), .int .u8 ((n : Int) / 256), .int .u8 ((n : Int) % 256)] 5 i (.int .u8 ([(o : Int), (n : Int) / 256, (n : Int) % 256].getD i 0)) (by rcases (show i = 0 ∨ i = 1 ∨ i = 2 by omega) with rfl | rfl | rfl <;> rfl)
      rwa [Addr.add_mid] at hc) 9 Tryd.underlying9
    have e : strOfNums [(o : Int), (n : Int) / 256, (n : Int) % 256] = str (simB o n) := by
      have h := strOfNums_nats [o, n / 256, n % 256]
      rw [simB, if_pos hl]
      exact h
    rw [e] at hcv
    replace hl := Lib.hid hl
    clear e
    go_enter Tryd.func26, Tryd.ntmps26
    go_wp2_with fail
    refine hH.out.mono ?_
    rintro e w1 ⟨rfl, q, rfl⟩
    have hb1 := below_drewQ (Below.refl w.heap.size w) q
    generalize w.drewN q = w1 at *
    have hcw := hcv w1
    clear hcv
    go_wp2_with fail
    go_ret
    exact ⟨rfl, hb1.alloc hb1.size _⟩
  | false =>
    rw [hl] at hH
    have hcv := fun W : World => run_convert_bytes_arg (P := Tryd.prog) (W.alloc (.cells #[.int .u8 (o : Int)] 5)) 46 5 Tryd.underlying46 Tryd.underlying5 W.heap.size 0 1 1 [(o : Int)] rfl (fun i hi => by
      obtain rfl : i = 0 := by omega
      have hc := cells_new W [.int .u8 (o : Int)] 5 0 (.int .u8 (o : Int)) rfl
      rwa [Addr.add_mid] at hc) 9 Tryd.underlying9
    have e : strOfNums [(o : Int)] = str (simB o n) := by
      have h := strOfNums_nats [o]
      rw [simB, if_neg (by rw [hl]; decide)]
      exact h
    rw [e] at hcv
    replace hl := Lib.hid hl
    clear e
    go_enter Tryd.func26, Tryd.ntmps26
    go_wp2_with fail
    refine hH.out.mono ?_
    rintro e w1 ⟨rfl, q, rfl⟩
    have hb1 := below_drewQ (Below.refl w.heap.size w) q
    generalize w.drewN q = w1 at *
    have hcw := hcv w1
    clear hcv
    go_wp2_with fail
    go_ret
    exact ⟨rfl, hb1.alloc hb1.size _⟩
end Go.Proofs.YtainohbfcehpoaaDoor
