/-
  SampleProduct's law: plain.
-/
import Derived.Test.YtjlldolmlfgejaaDoorMath2
import Derived.Test.YtjlldolmlfgejaaDoorMk
namespace Go.Proofs.YtjlldolmlfgejaaDoor
open Go.RowKit

/-- No hit among the first i. -/
def missv (n bad i : Nat) : Int × Int × Int := mk (bin (n - bad) i : Nat) (bin n i : Nat)
def shr (n bad i : Nat) : Int × Int × Int := mk (n - bad - i : Nat) (n - i : Nat)
theorem kron_up : ∀ m, m < 25 → ∀ i, i < 24 → kron m i * (m - i) = kron m (i + 1) * (i + 1) := by decide +kernel
theorem kron_le : ∀ m, m < 25 → ∀ i, i < 25 → kron m i ≤ 1000000000 := by decide +kernel
theorem kron_pos : ∀ m, m < 25 → ∀ i, i < m + 1 → 0 < kron m i := by decide +kernel
theorem kron_mono : ∀ m, m < 25 → ∀ b, b < m + 1 → ∀ i, i < m + 1 → kron (m - b) i ≤ kron m i := by decide +kernel
theorem miss_zero (n bad : Nat) (hn : n ≤ 24) : missv n bad 0 = (1, 1, 0) := by
  unfold missv
  rw [bin_kron _ _ (by omega) (by omega), bin_kron _ _ hn (by omega), kron_zero _ (by omega), kron_zero _ (by omega)]
  rfl
theorem miss_spec {n bad i : Nat} (hn : n ≤ 24) (_hb : bad ≤ n) (hi : i ≤ n) : ∃ r s, missv n bad i = (r, s, 0) ∧ vld r s = true ∧ r * (bin n i : Nat) = (bin (n - bad) i : Nat) * s := by
  have k1 := kron_le n (by omega) i (by omega)
  have k2 := kron_le (n - bad) (by omega) i (by omega)
  have k3 := kron_pos n (by omega) i (by omega)
  rw [← bin_kron _ _ (by omega) (by omega)] at k1 k2 k3
  exact mk_ok (by omega) (by omega) (by omega)
theorem cross_step {x y u v B N B' N' p q j : Int} (hN : 0 < N) (hq : 0 < q) (h1 : x * N = B * y) (h2 : u * q = p * v) (h3 : B * p = B' * j) (h4 : N * q = N' * j) :
    x * u * N' = B' * (y * v) := by
  have hp : N * q ≠ 0 := by have := Int.mul_pos hN hq; omega
  apply Int.eq_of_mul_eq_mul_right hp
  calc x * u * N' * (N * q) = (x * N) * (u * q) * N' := by ac_rfl
    _ = (B * p) * (y * v) * N' := by rw [h1, h2]; ac_rfl
    _ = B' * (y * v) * (N' * j) := by rw [h3]; ac_rfl
    _ = B' * (y * v) * (N * q) := by rw [h4]
theorem step_law {n bad i : Nat} (hn : n ≤ 24) (hb : bad ≤ n) (hi : i < n) :
    mk ((missv n bad i).1 * (shr n bad i).1) ((missv n bad i).2.1 * (shr n bad i).2.1) = ((missv n bad (i + 1)).1, (missv n bad (i + 1)).2.1, 0) ∧
      (shr n bad i).2.2 = 0 ∧ vld (missv n bad i).1 (missv n bad i).2.1 = true ∧ vld (shr n bad i).1 (shr n bad i).2.1 = true := by
  obtain ⟨x, y, e1, v1, c1⟩ := miss_spec hn hb (Nat.le_of_lt hi)
  obtain ⟨x', y', e2, v2, c2⟩ := miss_spec hn hb (show i + 1 ≤ n from hi)
  obtain ⟨u, v, e3, v3, c3⟩ := mk_ok (n := ((n - bad - i : Nat) : Int)) (d := ((n - i : Nat) : Int)) (by omega) (by omega) (by omega)
  have k1 := kron_up n (by omega) i (by omega)
  have k2 := kron_up (n - bad) (by omega) i (by omega)
  have k3 := kron_pos n (by omega) i (by omega)
  have k4 := kron_pos n (by omega) (i + 1) (by omega)
  rw [← bin_kron _ _ (by omega) (by omega), ← bin_kron _ _ (by omega) (by omega)] at k1 k2
  rw [← bin_kron _ _ (by omega) (by omega)] at k3 k4
  have e4 := I64.of_vld_den v1
  have e5 := I64.of_vld_den v3
  have hm : mk (x * u) (y * v) = missv n bad (i + 1) := by
    refine mk_cross (Int.mul_pos (by omega) (by omega)) (by omega) (cross_step (N := (bin n i : Nat)) (B := (bin (n - bad) i : Nat)) (p := ((n - bad - i : Nat) : Int)) (q := ((n - i : Nat) : Int)) (j := ((i + 1 : Nat) : Int)) (by omega) (by omega) c1 c3 ?_ ?_)
    · rw [← Int.natCast_mul, k2, Int.natCast_mul]
    · rw [← Int.natCast_mul, k1, Int.natCast_mul]
  show mk ((missv n bad i).1 * (shr n bad i).1) ((missv n bad i).2.1 * (shr n bad i).2.1) = _ ∧ _
  have e3' : shr n bad i = (u, v, 0) := e3
  rw [e1, e3']
  exact ⟨by rw [hm, e2], rfl, v1, v3⟩
theorem sum_law {n bad k : Nat} (hn : n ≤ 24) (hb : bad ≤ n) (hk : k ≤ n) :
    mk ((det n bad k).1 * (missv n bad k).2.1 + (missv n bad k).1 * (det n bad k).2.1) ((det n bad k).2.1 * (missv n bad k).2.1) = (1, 1, 0) ∧ vld (missv n bad k).1 (missv n bad k).2.1 = true := by
  obtain ⟨u, v, e1, v1, c1⟩ := miss_spec hn hb hk
  have k1 := kron_le n (by omega) k (by omega)
  have k3 := kron_pos n (by omega) k (by omega)
  have k4 := kron_mono n (by omega) bad (by omega) k (by omega)
  rw [← bin_kron _ _ (by omega) (by omega)] at k1 k3
  rw [← bin_kron _ _ (by omega) (by omega), ← bin_kron _ _ (by omega) (by omega)] at k4
  obtain ⟨x, y, e2, v2, c2⟩ := mk_ok (n := ((bin n k : Nat) : Int) - ((bin (n - bad) k : Nat) : Int)) (d := ((bin n k : Nat) : Int)) (by omega) (by omega) (by omega)
  have e2' : det n bad k = (x, y, 0) := e2
  have e4 := I64.of_vld_den v1
  have e5 := I64.of_vld_den v2
  rw [e1, e2']
  refine ⟨?_, v1⟩
  have : mk (x * v + u * y) (y * v) = mk 1 1 := by
    refine mk_cross (Int.mul_pos (by omega) (by omega)) (by omega) ?_
    apply Int.eq_of_mul_eq_mul_right (show ((bin n k : Nat) : Int) ≠ 0 by omega)
    generalize ((bin n k : Nat) : Int) = N at *
    generalize ((bin (n - bad) k : Nat) : Int) = B at *
    calc (x * v + u * y) * 1 * N = (x * N) * v + (u * N) * y := by rw [Int.mul_one, Int.add_mul]; congr 1 <;> ac_rfl
      _ = (N - B) * y * v + B * v * y := by rw [c1, c2]
      _ = 1 * (y * v) * N := by rw [Int.sub_mul, Int.sub_mul, Int.one_mul, show B * v * y = B * y * v from by ac_rfl, Int.sub_add_cancel]; ac_rfl
  rw [this]
  rfl
end Go.Proofs.YtjlldolmlfgejaaDoor
