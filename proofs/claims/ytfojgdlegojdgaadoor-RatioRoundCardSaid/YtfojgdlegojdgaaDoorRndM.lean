/-
  The plain laws of RatioRound.
-/
import Derived.Test.YtfojgdlegojdgaaDoorRatM
namespace Go.Proofs.YtfojgdlegojdgaaDoor

theorem num_small {a b NN DN : Int} (hb : 0 < b) (hD : 1 ≤ DN) (hN : NN.natAbs ≤ 999999) (h : a * DN = NN * b) : -(999999 * b) ≤ a ∧ a ≤ 999999 * b := by
  have h1 : NN * b ≤ 999999 * b := Int.mul_le_mul_of_nonneg_right (by omega) (by omega)
  have h2 : -999999 * b ≤ NN * b := Int.mul_le_mul_of_nonneg_right (by omega) (by omega)
  have h3 : -999999 * b = -(999999 * b) := Int.neg_mul _ _
  have hb' : 0 ≤ 999999 * b := by omega
  constructor
  · apply Classical.byContradiction
    intro hc
    have g : a * DN ≤ a * 1 := Int.mul_le_mul_of_nonpos_left (by omega) hD
    omega
  · apply Classical.byContradiction
    intro hc
    have g : a * 1 ≤ a * DN := Int.mul_le_mul_of_nonneg_left hD (by omega)
    omega
theorem rk_small {a b K : Int} (hb : 0 < b) (hK : 1 ≤ K) (hK2 : K ≤ 1000) (h : -(999999 * b) ≤ a ∧ a ≤ 999999 * b) : (rkv a b K).natAbs ≤ 1000000000 := by
  obtain ⟨h1, h2⟩ := rkv_bounds (n := a) K hb
  have g1 : a * K ≤ 999999 * b * K := Int.mul_le_mul_of_nonneg_right h.2 (by omega)
  have g2 : -(999999 * b) * K ≤ a * K := Int.mul_le_mul_of_nonneg_right h.1 (by omega)
  generalize rkv a b K = q at *
  have e1 : 999999 * b * K = 999999 * K * b := by ac_rfl
  have e2 : -(999999 * b) * K = -(999999 * K * b) := by rw [Int.neg_mul, e1]
  rw [e1] at g1
  rw [e2] at g2
  have u1 : 2 * q ≤ 2 * (999999 * K) + 1 := by
    refine Int.le_of_mul_le_mul_right (a := b) ?_ hb
    have : (2 * (999999 * K) + 1) * b = 2 * (999999 * K * b) + b := by rw [Int.add_mul, Int.mul_assoc]; omega
    have e : 2 * q * b = 2 * (q * b) := Int.mul_assoc _ _ _
    omega
  have u2 : -(2 * (999999 * K) + 1) ≤ 2 * q := by
    refine Int.le_of_mul_le_mul_right (a := b) ?_ hb
    have : -(2 * (999999 * K) + 1) * b = -(2 * (999999 * K * b) + b) := by rw [Int.neg_mul, Int.add_mul, Int.mul_assoc]; omega
    have e : 2 * q * b = 2 * (q * b) := Int.mul_assoc _ _ _
    omega
  omega

/-- What RatioRound asks of one number. -/
structure Rnd (a b K r s q T P1 P2 : Int) : Prop where
  made : roundv a b K = (r, s, 0)
  again : roundv r s K = (r, s, 0)
  v : vld r s = true
  dvd : K % s = 0
  quo : K / s = T
  back : r * T = q
  p1 : q * b = P1
  p2 : a * K = P2
  b1 : -1000000000000000000 ≤ P1 ∧ P1 ≤ 1000000000000000000
  b2 : -1000000000000000000 ≤ P2 ∧ P2 ≤ 1000000000000000000
  lo : -b < 2 * (P1 - P2)
  hi : 2 * (P1 - P2) ≤ b
  q1 : q.natAbs ≤ 1000000000
theorem rnd {a b NN DN K : Int} (hv : vld a b = true) (hD : 1 ≤ DN) (hN : NN.natAbs ≤ 999999) (h : a * DN = NN * b) (hK : 1 ≤ K) (hK2 : K ≤ 1000) :
    ∃ r s q T P1 P2, q = rkv a b K ∧ Rnd a b K r s q T P1 P2 := by
  have p := vld_pos hv
  have h1 := I64.of_vld_num hv
  have h2 := I64.of_vld_den hv
  have hq := rk_small p hK hK2 (num_small p hD hN h)
  obtain ⟨r, s, hm, hrs, he⟩ := mk_ok (n := rkv a b K) (d := K) (by omega) hq (by omega)
  have ps := vld_pos hrs
  obtain ⟨d1, d2⟩ := mk_den_dvd (by omega) hm
  have hb := rkv_bounds (n := a) K p
  refine ⟨r, s, rkv a b K, K / s, rkv a b K * b, a * K, rfl, ?_⟩
  have hb1 : (rkv a b K * b).natAbs ≤ 1000000000 * 1000000000 := by rw [Int.natAbs_mul]; exact Nat.mul_le_mul hq (by omega)
  have hb2 : (a * K).natAbs ≤ 1000000000 * 1000 := by rw [Int.natAbs_mul]; exact Nat.mul_le_mul (by omega) (by omega)
  refine ⟨hm, ?_, hrs, d1, rfl, d2, rfl, rfl, by omega, by omega, by omega, by omega, hq⟩
  unfold roundv
  rw [rkv_of ps he]
  exact hm
theorem rnd_mono {a b c g K r s t u : Int} (h1 : vld a b = true) (h2 : vld c g = true) (hK : 1 ≤ K) (hr : roundv a b K = (r, s, 0)) (ht : roundv c g K = (t, u, 0)) (v1 : vld r s = true) (v2 : vld t u = true) (h : ¬ 0 < cmpr a b c g) : cmpr r s t u ≤ 0 := by
  rw [cmpr_vld h1 h2, cmpv_pos] at h
  rw [cmpr_vld v1 v2, cmpv_le]
  exact mk_mono (by omega) (rkv_mono K (vld_pos h1) (vld_pos h2) (by omega) (by omega)) hr ht
end Go.Proofs.YtfojgdlegojdgaaDoor
