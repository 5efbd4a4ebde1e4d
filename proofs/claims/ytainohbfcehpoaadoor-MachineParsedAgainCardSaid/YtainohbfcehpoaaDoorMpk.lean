/-
  The helper pick of the law and of the reference.
-/
import Derived.Test.YtainohbfcehpoaaDoorMbJ
namespace Go.Proofs.YtainohbfcehpoaaDoor
open Go.RowKit Go.Shelf

def pickv (c : Int) (n : Nat) : Nat := (if c < 0 then -(c + 1) else c).toNat % n
theorem pickv_lt (c : Int) (n : Nat) (h : 1 ≤ n) : pickv c n < n := Nat.mod_lt _ (by omega)
set_option maxHeartbeats 400000 in
theorem pick_any (c : Int) (n : Nat) (w : World) (hc : I64 c) (h1 : 1 ≤ n) (h2 : n ≤ 1000000000) :
    Calls Tryd.prog 16 #[.int .i64 c, .int .i64 n] w fun e w' => e = .returned (.int .i64 (pickv c n : Nat)) ∧ w' = w := by
  obtain ⟨hc1, hc2⟩ := hc
  by_cases h0 : c < 0
  · have hv : Hid (((pickv c n : Nat) : Int) = (-(c + 1)) % (n : Int)) := by
      show _ = _
      rw [pickv, if_pos h0, Int.natCast_emod, Int.toNat_of_nonneg (by omega)]
    have hd : decide (c < 0) = true := by simpa using h0
    have hnn : 0 ≤ -(c + 1) := by omega
    go_enter Tryd.func16, Tryd.ntmps16
    go_wp2
    go_ret
    exact ⟨ret_i64 (by rw [← Int.neg_tmod, Int.tmod_eq_emod_of_nonneg hnn]; exact hv.out.symm), rfl⟩
  · have hv : Hid (((pickv c n : Nat) : Int) = c % (n : Int)) := by
      show _ = _
      rw [pickv, if_neg h0, Int.natCast_emod, Int.toNat_of_nonneg (by omega)]
    have hd : decide (c < 0) = false := by simpa using h0
    have h0' : 0 ≤ c := by omega
    go_enter Tryd.func16, Tryd.ntmps16
    go_wp2
    go_ret
    exact ⟨ret_i64 hv.out.symm, rfl⟩
set_option maxHeartbeats 400000 in
theorem pickR_any (c : Int) (n : Nat) (w : World) (hc : I64 c) (h1 : 1 ≤ n) (h2 : n ≤ 1000000000) :
    Calls Tryd.prog 25 #[.int .i64 c, .int .i64 n] w fun e w' => e = .returned (.int .i64 (pickv c n : Nat)) ∧ w' = w := by
  obtain ⟨hc1, hc2⟩ := hc
  by_cases h0 : c < 0
  · have hv : Hid (((pickv c n : Nat) : Int) = (-(c + 1)) % (n : Int)) := by
      show _ = _
      rw [pickv, if_pos h0, Int.natCast_emod, Int.toNat_of_nonneg (by omega)]
    have hd : decide (c < 0) = true := by simpa using h0
    have hnn : 0 ≤ -(c + 1) := by omega
    go_enter Tryd.func25, Tryd.ntmps25
    go_wp2
    go_ret
    exact ⟨ret_i64 (by rw [← Int.neg_tmod, Int.tmod_eq_emod_of_nonneg hnn]; exact hv.out.symm), rfl⟩
  · have hv : Hid (((pickv c n : Nat) : Int) = c % (n : Int)) := by
      show _ = _
      rw [pickv, if_neg h0, Int.natCast_emod, Int.toNat_of_nonneg (by omega)]
    have hd : decide (c < 0) = false := by simpa using h0
    have h0' : 0 ≤ c := by omega
    go_enter Tryd.func25, Tryd.ntmps25
    go_wp2
    go_ret
    exact ⟨ret_i64 hv.out.symm, rfl⟩
end Go.Proofs.YtainohbfcehpoaaDoor
