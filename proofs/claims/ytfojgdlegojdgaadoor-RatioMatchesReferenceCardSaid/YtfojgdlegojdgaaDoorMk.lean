/-
  Fractions in lowest terms: plain laws of mk.
-/
import Derived.Test.YtfojgdlegojdgaaDoorRatio2
namespace Go.Proofs.YtfojgdlegojdgaaDoor
open Go.RowKit

theorem red_unique {x y z t : Nat} (hy : 0 < y) (ht : 0 < t) (h : x * t = z * y) : x / Nat.gcd x y = z / Nat.gcd z t ∧ y / Nat.gcd x y = t / Nat.gcd z t := by
  obtain ⟨x', y', c1, e1, e2⟩ := Nat.exists_coprime x y
  obtain ⟨z', t', c2, e3, e4⟩ := Nat.exists_coprime z t
  have g1 : 0 < Nat.gcd x y := Nat.gcd_pos_of_pos_right _ hy
  have g2 : 0 < Nat.gcd z t := Nat.gcd_pos_of_pos_right _ ht
  generalize Nat.gcd x y = g at *
  generalize Nat.gcd z t = k at *
  subst e1 e2 e3 e4
  rw [Nat.mul_div_cancel _ g1, Nat.mul_div_cancel _ g2, Nat.mul_div_cancel _ g1, Nat.mul_div_cancel _ g2]
  have h' : x' * t' = z' * y' := Nat.eq_of_mul_eq_mul_right (Nat.mul_pos g1 g2) (by
    rw [show x' * t' * (g * k) = x' * g * (t' * k) from by ac_rfl, h]; ac_rfl)
  have d1 : y' ∣ t' := Nat.Coprime.dvd_of_dvd_mul_left c1.symm ⟨z', by rw [h', Nat.mul_comm]⟩
  have d2 : t' ∣ y' := Nat.Coprime.dvd_of_dvd_mul_left c2.symm ⟨x', by rw [← h', Nat.mul_comm]⟩
  have e := Nat.dvd_antisymm d1 d2
  subst e
  have hp : 0 < y' := Nat.pos_of_mul_pos_right hy
  exact ⟨Nat.eq_of_mul_eq_mul_right hp h', rfl⟩

theorem sign_cross {a b c d : Int} (hb : 0 < b) (hd : 0 < d) (h : a * d = c * b) (ha : a < 0) : c < 0 := by
  have h1 : a * d < 0 := Int.mul_neg_of_neg_of_pos ha hd
  rw [h] at h1
  apply Classical.byContradiction
  intro hc
  have := Int.mul_nonneg (by omega : 0 ≤ c) (by omega : 0 ≤ b)
  omega

theorem sgn {n d : Int} (hd : 0 < d) (A B : Int) : (if (n < 0) ≠ (d < 0) then A else B) = if n < 0 then A else B := by
  have hd' : ¬ d < 0 := by omega
  by_cases hn : n < 0 <;> simp [hn, hd']

/-- Equal quotients, one fraction. -/
theorem mk_cross {a b c d : Int} (hb : 0 < b) (hd : 0 < d) (h : a * d = c * b) : mk a b = mk c d := by
  have hn : a.natAbs * d.natAbs = c.natAbs * b.natAbs := by rw [← Int.natAbs_mul, ← Int.natAbs_mul, h]
  obtain ⟨e1, e2⟩ := red_unique (by omega) (by omega) hn
  unfold mk
  rw [if_neg (show ¬ b = 0 by omega), if_neg (show ¬ d = 0 by omega), e1, e2, sgn hb, sgn hd]
  by_cases ha : a < 0
  · rw [if_pos ha, if_pos (sign_cross hb hd h ha)]
  · rw [if_neg ha, if_neg (fun hc => ha (sign_cross hd hb h.symm hc))]

theorem mk_vld {a b : Int} (h : vld a b = true) : mk a b = (a, b, 0) := by
  simp only [vld, Bool.and_eq_true, decide_eq_true_eq] at h
  obtain ⟨⟨⟨h1, h2⟩, h3⟩, h4⟩ := h
  unfold mk
  rw [if_neg (by omega), h4, Nat.div_one, Nat.div_one, if_neg (by omega), sgn h1]
  by_cases ha : a < 0
  · simp [ha]; omega
  · simp [ha]; omega

theorem mk_spec {n d : Int} (hd : 0 < d) : mk n d = (0, 0, 30) ∨ ∃ r s, mk n d = (r, s, 0) ∧ vld r s = true ∧ r * d = n * s := by
  have g1 : 0 < Nat.gcd n.natAbs d.natAbs := Nat.gcd_pos_of_pos_right _ (by omega)
  have hc := Nat.coprime_div_gcd_div_gcd g1
  have d1 := Nat.div_mul_cancel (Nat.gcd_dvd_left n.natAbs d.natAbs)
  have d2 := Nat.div_mul_cancel (Nat.gcd_dvd_right n.natAbs d.natAbs)
  unfold mk
  rw [if_neg (by omega), sgn hd]
  generalize Nat.gcd n.natAbs d.natAbs = g at *
  have hy : 0 < d.natAbs / g := Nat.pos_of_ne_zero (fun e => by rw [e] at d2; omega)
  generalize n.natAbs / g = x at *
  generalize d.natAbs / g = y at *
  split
  · exact .inl rfl
  · rename_i hm
    refine .inr ⟨_, _, rfl, ?_, ?_⟩
    · have hg : Nat.gcd x y = 1 := hc
      by_cases hn : n < 0
      · simp [vld, hn, hg]; omega
      · simp [vld, hn, hg]; omega
    · have e1 : (d : Int) = (y : Int) * (g : Int) := by rw [← Int.natCast_mul, d2]; omega
      by_cases hn : n < 0
      · have e2 : n = -((x : Int) * (g : Int)) := by rw [← Int.natCast_mul, d1]; omega
        rw [if_pos hn]
        rw [e1, e2]
        simp only [Int.neg_mul]
        congr 1
        ac_rfl
      · have e2 : n = (x : Int) * (g : Int) := by rw [← Int.natCast_mul, d1]; omega
        rw [if_neg hn]
        rw [e1, e2]
        ac_rfl

theorem mk_ok {n d : Int} (hd : 0 < d) (h1 : n.natAbs ≤ 1000000000) (h2 : d ≤ 1000000000) : ∃ r s, mk n d = (r, s, 0) ∧ vld r s = true ∧ r * d = n * s := by
  rcases mk_spec (n := n) hd with h | h
  · exfalso
    unfold mk at h
    have a1 := Nat.div_le_self n.natAbs (Nat.gcd n.natAbs d.natAbs)
    have a2 := Nat.div_le_self d.natAbs (Nat.gcd n.natAbs d.natAbs)
    rw [if_neg (by omega), if_neg (by omega)] at h
    simp at h
  · exact h
end Go.Proofs.YtfojgdlegojdgaaDoor
