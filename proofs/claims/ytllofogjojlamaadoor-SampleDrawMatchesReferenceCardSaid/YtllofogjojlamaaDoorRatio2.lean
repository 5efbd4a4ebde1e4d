/-
  The contract of ratio.Compare.
-/
import Derived.Test.YtllofogjojlamaaDoorRatio
namespace Go.Proofs.YtllofogjojlamaaDoor
open Go.RowKit

/-- P3.1: Compare. -/
def cmpr (a b c d : Int) : Int := if vld a b && vld c d then cmpv (a * d) (c * b) else 0

theorem I64.of_vld_num {n d : Int} (h : vld n d = true) : -1000000000 ≤ n ∧ n ≤ 1000000000 := by
  simp [vld] at h; omega
theorem I64.of_vld_den {n d : Int} (h : vld n d = true) : 1 ≤ d ∧ d ≤ 1000000000 := by
  simp [vld] at h; omega
theorem mul_le_9 {a b : Int} (h1 : -1000000000 ≤ a ∧ a ≤ 1000000000) (h2 : 1 ≤ b ∧ b ≤ 1000000000) : -1000000000000000000 ≤ a * b ∧ a * b ≤ 1000000000000000000 := by
  obtain ⟨h1, h1'⟩ := h1; obtain ⟨h2, h2'⟩ := h2
  constructor
  · have : -1000000000 * b ≤ a * b := Int.mul_le_mul_of_nonneg_right h1 (by omega)
    omega
  · have : a * b ≤ 1000000000 * b := Int.mul_le_mul_of_nonneg_right h1' (by omega)
    omega

set_option maxHeartbeats 400000 in
theorem Compare_any (a b c d : Int) (w : World) (ha : I64 a) (hb : I64 b) (hc : I64 c) (hd : I64 d) :
    Calls Tryd.prog 27 #[rv a b, rv c d] w fun e w' => e = .returned (.int .i64 (cmpr a b c d)) ∧ Below w.heap.size w w' := by
  by_cases h1 : vld a b = true
  · by_cases h2 : vld c d = true
    · have hv : Hid (cmpr a b c d = cmpv (a * d) (c * b)) := by show _ = _; simp [cmpr, h1, h2]
      have m1 := mul_le_9 (I64.of_vld_num h1) (I64.of_vld_den h2)
      have m2 := mul_le_9 (I64.of_vld_num h2) (I64.of_vld_den h1)
      go_enter Tryd.func27, Tryd.ntmps27
      go_wp2_with fail
      refine (Valid_any _ _ _ ha hb).mono ?_; rintro e w1 ⟨rfl, k1, rfl⟩
      go_wp2_with fail
      refine (Valid_any _ _ _ hc hd).mono ?_; rintro e w1 ⟨rfl, k2, rfl⟩
      go_wp2_with fail
      refine (cmp_any _ _ _).mono ?_; rintro e w1 ⟨rfl, rfl⟩
      go_wp2
      go_ret
      exact ⟨ret_i64 hv.out.symm, (by repeat first | with_reducible exact Below.refl _ _ | with_reducible assumption | with_reducible refine below_drewN ?_ _ | with_reducible refine Below.drew ?_ | with_reducible refine Below.setCell ?_ (by first | exact Nat.le_refl _ | (simp; done) | (simp; omega) | omega) _ | with_reducible refine Below.alloc ?_ (by first | exact Nat.le_refl _ | (simp; done) | (simp; omega) | omega) _ | exact Below.refl _ _ | assumption)⟩
    · have h2' : vld c d = false := by simpa using h2
      have hv : Hid (cmpr a b c d = 0) := by show _ = _; simp [cmpr, h2']
      clear h2
      go_enter Tryd.func27, Tryd.ntmps27
      go_wp2_with fail
      refine (Valid_any _ _ _ ha hb).mono ?_; rintro e w1 ⟨rfl, k1, rfl⟩
      go_wp2_with fail
      refine (Valid_any _ _ _ hc hd).mono ?_; rintro e w1 ⟨rfl, k2, rfl⟩
      go_wp2
      go_ret
      exact ⟨ret_i64 hv.out.symm, (by repeat first | with_reducible exact Below.refl _ _ | with_reducible assumption | with_reducible refine below_drewN ?_ _ | with_reducible refine Below.drew ?_ | with_reducible refine Below.setCell ?_ (by first | exact Nat.le_refl _ | (simp; done) | (simp; omega) | omega) _ | with_reducible refine Below.alloc ?_ (by first | exact Nat.le_refl _ | (simp; done) | (simp; omega) | omega) _ | exact Below.refl _ _ | assumption)⟩
  · have h1' : vld a b = false := by simpa using h1
    have hv : Hid (cmpr a b c d = 0) := by show _ = _; simp [cmpr, h1']
    clear h1
    go_enter Tryd.func27, Tryd.ntmps27
    go_wp2_with fail
    refine (Valid_any _ _ _ ha hb).mono ?_; rintro e w1 ⟨rfl, k1, rfl⟩
    go_wp2
    go_ret
    exact ⟨ret_i64 hv.out.symm, (by repeat first | with_reducible exact Below.refl _ _ | with_reducible assumption | with_reducible refine below_drewN ?_ _ | with_reducible refine Below.drew ?_ | with_reducible refine Below.setCell ?_ (by first | exact Nat.le_refl _ | (simp; done) | (simp; omega) | omega) _ | with_reducible refine Below.alloc ?_ (by first | exact Nat.le_refl _ | (simp; done) | (simp; omega) | omega) _ | exact Below.refl _ _ | assumption)⟩
end Go.Proofs.YtllofogjojlamaaDoor
