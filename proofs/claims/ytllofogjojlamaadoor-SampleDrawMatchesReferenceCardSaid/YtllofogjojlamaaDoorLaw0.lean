/-
  The contracts of the law's helpers: pick, is.
-/
import Derived.Test.YtllofogjojlamaaDoorSample3
namespace Go.Proofs.YtllofogjojlamaaDoor
open Go.RowKit

theorem run_eq_rv (x y a b : Int) (w : World) : (binOp .eql 33 (.agg #[.int .i64 x, .int .i64 y]) (.agg #[.int .i64 a, .int .i64 b])).run Tryd.prog w = .ok (.bool (x == a && y == b)) w := by
  by_cases h1 : x = a
  · by_cases h2 : y = b
    · subst h1 h2
      go_simp
    · have h2' : (y == b) = false := by simpa using h2
      subst h1
      go_simp
  · have h1' : (x == a) = false := by simpa using h1
    go_simp
theorem run_ne_rv (x y a b : Int) (w : World) : (binOp .neq 33 (.agg #[.int .i64 x, .int .i64 y]) (.agg #[.int .i64 a, .int .i64 b])).run Tryd.prog w = .ok (.bool !(x == a && y == b)) w := by
  by_cases h1 : x = a
  · by_cases h2 : y = b
    · subst h1 h2
      go_simp
    · have h2' : (y == b) = false := by simpa using h2
      subst h1
      go_simp
  · have h1' : (x == a) = false := by simpa using h1
    go_simp
/-- pick: an integer mapped to 0 .. n - 1. -/
def pickv (c : Int) (n : Nat) : Nat := (if c < 0 then -(c + 1) else c).toNat % n
theorem pickv_lt (c : Int) (n : Nat) (h : 1 ≤ n) : pickv c n < n := Nat.mod_lt _ (by omega)

set_option maxHeartbeats 400000 in
theorem pick_any (c : Int) (n : Nat) (w : World) (hc : I64 c) (h1 : 1 ≤ n) (h2 : n ≤ 1000000000) :
    Calls Tryd.prog 5 #[.int .i64 c, .int .i64 n] w fun e w' => e = .returned (.int .i64 (pickv c n : Nat)) ∧ w' = w := by
  obtain ⟨hc1, hc2⟩ := hc
  by_cases h0 : c < 0
  · have hv : Hid (((pickv c n : Nat) : Int) = (-(c + 1)) % (n : Int)) := by
      show _ = _
      rw [pickv, if_pos h0, Int.natCast_emod, Int.toNat_of_nonneg (by omega)]
    have hd : decide (c < 0) = true := by simpa using h0
    have hnn : 0 ≤ -(c + 1) := by omega
    go_enter Tryd.func5, Tryd.ntmps5
    go_wp2
    go_ret
    exact ⟨ret_i64 (by rw [← Int.neg_tmod, Int.tmod_eq_emod_of_nonneg hnn]; exact hv.out.symm), rfl⟩
  · have hv : Hid (((pickv c n : Nat) : Int) = c % (n : Int)) := by
      show _ = _
      rw [pickv, if_neg h0, Int.natCast_emod, Int.toNat_of_nonneg (by omega)]
    have hd : decide (c < 0) = false := by simpa using h0
    have h0' : 0 ≤ c := by omega
    go_enter Tryd.func5, Tryd.ntmps5
    go_wp2
    go_ret
    exact ⟨ret_i64 hv.out.symm, rfl⟩

set_option maxHeartbeats 400000 in
theorem is_any (x y : Int) (w : World) :
    Calls Tryd.prog 11 #[.int .i64 x, .int .i64 y] w fun e w' => e = .returned (rv x y) ∧ Below w.heap.size w w' := by
  go_enter Tryd.func11, Tryd.ntmps11
  go_wp2
  exact bodyPost_ret (v := rv x y) (by simp [results, Tryd.results11, go_sem]) rfl ⟨rfl, (by repeat first | with_reducible exact Below.refl _ _ | with_reducible assumption | with_reducible refine below_drewN ?_ _ | with_reducible refine Below.drew ?_ | with_reducible refine Below.setCell ?_ (by first | exact Nat.le_refl _ | (simp; done) | (simp; omega) | omega) _ | with_reducible refine Below.alloc ?_ (by first | exact Nat.le_refl _ | (simp; done) | (simp; omega) | omega) _ | exact Below.refl _ _ | assumption)⟩
end Go.Proofs.YtllofogjojlamaaDoor
