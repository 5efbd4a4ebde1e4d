/-
  The laws of fractions: plain integers, no program in sight.
-/
import Derived.Test.YtfojgdlegojdgaaDoorMk
namespace Go.Proofs.YtfojgdlegojdgaaDoor

theorem mk_neg (n d : Int) : mk (-n) (-d) = mk n d := by
  unfold mk
  rw [Int.natAbs_neg, Int.natAbs_neg]
  by_cases hd : d = 0
  · simp [hd]
  · rw [if_neg (by omega), if_neg hd]
    by_cases hn : n = 0
    · subst hn; simp
    · have e : ((-n < 0) ≠ (-d < 0)) ↔ ((n < 0) ≠ (d < 0)) := by
        by_cases h1 : n < 0 <;> by_cases h2 : d < 0 <;> simp [h1, h2] <;> omega
      simp only [e]

theorem mk_cross0 {a b c d : Int} (hb : b ≠ 0) (hd : d ≠ 0) (h : a * d = c * b) : mk a b = mk c d := by
  by_cases h1 : 0 < b <;> by_cases h2 : 0 < d
  · exact mk_cross h1 h2 h
  · rw [← mk_neg c d]
    exact mk_cross h1 (by omega) (by grind)
  · rw [← mk_neg a b]
    exact mk_cross (by omega) h2 (by grind)
  · rw [← mk_neg a b, ← mk_neg c d]
    exact mk_cross (by omega) (by omega) (by grind)

/-- What Make gives is nothing, or a valid fraction with the same value. -/
theorem mk_spec0 (n d : Int) : mk n d = (0, 0, 30) ∨ ∃ r s, mk n d = (r, s, 0) ∧ vld r s = true ∧ r * d = n * s ∧ d ≠ 0 := by
  by_cases hd : d = 0
  · subst hd; left; simp [mk]
  by_cases h : 0 < d
  · rcases mk_spec (n := n) h with h1 | ⟨r, s, h1, h2, h3⟩
    · exact .inl h1
    · exact .inr ⟨r, s, h1, h2, h3, hd⟩
  · rw [← mk_neg]
    rcases mk_spec (n := -n) (d := -d) (by omega) with h1 | ⟨r, s, h1, h2, h3⟩
    · exact .inl h1
    · exact .inr ⟨r, s, h1, h2, by grind, hd⟩

theorem mk_inv {n d r s e : Int} (he : e = 0) (h : mk n d = (r, s, e)) : vld r s = true ∧ r * d = n * s ∧ d ≠ 0 := by
  subst he
  rcases mk_spec0 n d with h1 | ⟨r', s', h1, h2, h3, h4⟩
  · rw [h] at h1; simp at h1
  · rw [h] at h1
    simp only [Prod.mk.injEq] at h1
    obtain ⟨rfl, rfl, _⟩ := h1
    exact ⟨h2, h3, h4⟩

/-- What Make gives has the error 0 or 30. -/
theorem mk_err (n d : Int) : (mk n d).2.2 = 0 ∨ mk n d = (0, 0, 30) := by
  rcases mk_spec0 n d with h1 | ⟨r', s', h1, _⟩
  · exact .inr h1
  · rw [h1]; exact .inl rfl

theorem vld_pos {n d : Int} (h : vld n d = true) : 0 < d := by have := I64.of_vld_den h; omega

theorem mk_int {k : Int} (h : k.natAbs ≤ 1000000000) : mk k 1 = (k, 1, 0) := by
  apply mk_vld
  simp [vld]
  omega
theorem vld_int {k : Int} (h : k.natAbs ≤ 1000000000) : vld k 1 = true := by
  simp [vld]
  omega

/-! Add, Sub, Mul, Div of valid fractions. -/
def addv (a b c d : Int) : Int × Int × Int := mk (a * d + c * b) (b * d)
def mulv (a b c d : Int) : Int × Int × Int := mk (a * c) (b * d)
def subv (a b c d : Int) : Int × Int × Int := mk (a * d + -c * b) (b * d)
def divv (a b c d : Int) : Int × Int × Int := mk (a * d) (b * c)

theorem addv_comm (a b c d : Int) : addv a b c d = addv c d a b := by
  unfold addv; rw [Int.add_comm, Int.mul_comm b d]
theorem mulv_comm (a b c d : Int) : mulv a b c d = mulv c d a b := by
  unfold mulv; rw [Int.mul_comm a c, Int.mul_comm b d]

theorem addv_assoc {a b c d e f r s r' s' : Int} (h1 : vld a b = true) (h2 : vld c d = true) (h3 : vld e f = true)
    (g1 : addv a b c d = (r, s, 0)) (g2 : addv c d e f = (r', s', 0)) : addv r s e f = addv a b r' s' := by
  have p1 := vld_pos h1
  have p2 := vld_pos h2
  have p3 := vld_pos h3
  obtain ⟨v1, q1, _⟩ := mk_inv rfl g1
  obtain ⟨v2, q2, _⟩ := mk_inv rfl g2
  have p4 := vld_pos v1
  have p5 := vld_pos v2
  unfold addv
  have e1 : mk (r * f + e * s) (s * f) = mk ((a * d + c * b) * f + e * (b * d)) (b * d * f) :=
    mk_cross (Int.mul_pos p4 p3) (Int.mul_pos (Int.mul_pos p1 p2) p3) (by grind)
  have e2 : mk (a * s' + r' * b) (b * s') = mk ((a * d + c * b) * f + e * (b * d)) (b * d * f) :=
    mk_cross (Int.mul_pos p1 p5) (Int.mul_pos (Int.mul_pos p1 p2) p3) (by grind)
  rw [e1, e2]

theorem mulv_assoc {a b c d e f r s r' s' : Int} (h1 : vld a b = true) (h2 : vld c d = true) (h3 : vld e f = true)
    (g1 : mulv a b c d = (r, s, 0)) (g2 : mulv c d e f = (r', s', 0)) : mulv r s e f = mulv a b r' s' := by
  have p1 := vld_pos h1
  have p2 := vld_pos h2
  have p3 := vld_pos h3
  obtain ⟨v1, q1, _⟩ := mk_inv rfl g1
  obtain ⟨v2, q2, _⟩ := mk_inv rfl g2
  have p4 := vld_pos v1
  have p5 := vld_pos v2
  unfold mulv
  have e1 : mk (r * e) (s * f) = mk (a * c * e) (b * d * f) :=
    mk_cross (Int.mul_pos p4 p3) (Int.mul_pos (Int.mul_pos p1 p2) p3) (by grind)
  have e2 : mk (a * r') (b * s') = mk (a * c * e) (b * d * f) :=
    mk_cross (Int.mul_pos p1 p5) (Int.mul_pos (Int.mul_pos p1 p2) p3) (by grind)
  rw [e1, e2]

theorem distrib {a b c d e f r s p q p' q' : Int} (h1 : vld a b = true) (h2 : vld c d = true) (h3 : vld e f = true)
    (g1 : addv c d e f = (r, s, 0)) (g2 : mulv a b c d = (p, q, 0)) (g3 : mulv a b e f = (p', q', 0)) : mulv a b r s = addv p q p' q' := by
  have p1 := vld_pos h1
  have p2 := vld_pos h2
  have p3 := vld_pos h3
  obtain ⟨v1, q1, _⟩ := mk_inv rfl g1
  obtain ⟨v2, q2, _⟩ := mk_inv rfl g2
  obtain ⟨v3, q3, _⟩ := mk_inv rfl g3
  have p4 := vld_pos v1
  have p5 := vld_pos v2
  have p6 := vld_pos v3
  unfold addv mulv
  refine mk_cross (Int.mul_pos p1 p4) (Int.mul_pos p5 p6) ?_
  have hne : d * f ≠ 0 := by have := Int.mul_pos p2 p3; omega
  refine Int.eq_of_mul_eq_mul_right hne ?_
  grind

theorem sub_add {a b c d r s : Int} (h1 : vld a b = true) (h2 : vld c d = true) (g1 : addv a b c d = (r, s, 0)) : subv r s c d = (a, b, 0) := by
  have p1 := vld_pos h1
  have p2 := vld_pos h2
  obtain ⟨v1, q1, _⟩ := mk_inv rfl g1
  have p4 := vld_pos v1
  rw [← mk_vld h1]
  unfold subv
  exact mk_cross (Int.mul_pos p4 p2) p1 (by grind)

theorem div_mul {a b c d r s : Int} (h1 : vld a b = true) (h2 : vld c d = true) (hc : c ≠ 0) (g1 : mulv a b c d = (r, s, 0)) : divv r s c d = (a, b, 0) := by
  have p1 := vld_pos h1
  have p2 := vld_pos h2
  obtain ⟨v1, q1, _⟩ := mk_inv rfl g1
  have p4 := vld_pos v1
  rw [← mk_vld h1]
  unfold divv
  exact mk_cross0 (Int.mul_ne_zero (by omega) hc) (by omega) (by grind)

/-! Compare. -/
theorem cmpr_vld {a b c d : Int} (h1 : vld a b = true) (h2 : vld c d = true) : cmpr a b c d = cmpv (a * d) (c * b) := by
  simp [cmpr, h1, h2]
theorem cmpv_swap (x y : Int) : cmpv x y = - cmpv y x := by
  unfold cmpv
  by_cases h1 : x < y
  · rw [if_pos h1, if_neg (by omega), if_pos h1]
  · rw [if_neg h1]
    by_cases h2 : y < x
    · rw [if_pos h2, if_pos h2]; rfl
    · rw [if_neg h2, if_neg h2, if_neg h1]; rfl
theorem cmpv_zero (x y : Int) : cmpv x y = 0 ↔ x = y := by
  unfold cmpv; split <;> (try split) <;> omega
theorem cmpv_neg (x y : Int) : cmpv x y < 0 ↔ x < y := by
  unfold cmpv; split <;> (try split) <;> omega
theorem cmpv_le (x y : Int) : cmpv x y ≤ 0 ↔ x ≤ y := by
  unfold cmpv; split <;> (try split) <;> omega
theorem cmpv_pos (x y : Int) : 0 < cmpv x y ↔ y < x := by
  unfold cmpv; split <;> (try split) <;> omega

theorem vld_cross {a b c d : Int} (h1 : vld a b = true) (h2 : vld c d = true) (h : a * d = c * b) : a = c ∧ b = d := by
  have := mk_cross (vld_pos h1) (vld_pos h2) h
  rw [mk_vld h1, mk_vld h2] at this
  simp only [Prod.mk.injEq] at this
  exact ⟨this.1, this.2.1⟩

theorem le_trans_q {a b c d e f : Int} (hb : 0 < b) (hd : 0 < d) (hf : 0 < f) (h1 : a * d ≤ c * b) (h2 : c * f ≤ e * d) : a * f ≤ e * b := by
  refine Int.le_of_mul_le_mul_right (a := d) ?_ hd
  have g1 : a * d * f ≤ c * b * f := Int.mul_le_mul_of_nonneg_right h1 (by omega)
  have g2 : c * f * b ≤ e * d * b := Int.mul_le_mul_of_nonneg_right h2 (by omega)
  calc a * f * d = a * d * f := by ac_rfl
    _ ≤ c * b * f := g1
    _ = c * f * b := by ac_rfl
    _ ≤ e * d * b := g2
    _ = e * b * d := by ac_rfl
theorem lt_trans_q {a b c d e f : Int} (hb : 0 < b) (hd : 0 < d) (hf : 0 < f) (h1 : a * d < c * b) (h2 : c * f ≤ e * d) : a * f < e * b := by
  refine Int.lt_of_mul_lt_mul_right (a := d) ?_ (by omega)
  have g1 : a * d * f < c * b * f := Int.mul_lt_mul_of_pos_right h1 (by omega)
  have g2 : c * f * b ≤ e * d * b := Int.mul_le_mul_of_nonneg_right h2 (by omega)
  calc a * f * d = a * d * f := by ac_rfl
    _ < c * b * f := g1
    _ = c * f * b := by ac_rfl
    _ ≤ e * d * b := g2
    _ = e * b * d := by ac_rfl

/-- The sign of a difference. -/
theorem sub_sign {a b c d r s : Int} (h1 : vld a b = true) (h2 : vld c d = true) (g : subv c d a b = (r, s, 0)) : (a * d < c * b ↔ 0 < r) ∧ (a * d = c * b ↔ r = 0) := by
  have p1 := vld_pos h1
  have p2 := vld_pos h2
  obtain ⟨v1, q1, _⟩ := mk_inv rfl g
  have p4 := vld_pos v1
  have p5 := Int.mul_pos p2 p1
  have e : r * (d * b) = (c * b - a * d) * s := by rw [q1]; grind
  generalize hx : c * b - a * d = x at e
  have hx1 : (a * d < c * b ↔ 0 < x) := by omega
  have hx2 : (a * d = c * b ↔ x = 0) := by omega
  rw [hx1, hx2]
  constructor
  · constructor
    · intro h
      have := Int.mul_pos h p4
      rw [← e] at this
      exact Int.pos_of_mul_pos_left this p5
    · intro h
      have := Int.mul_pos h p5
      rw [e] at this
      exact Int.pos_of_mul_pos_left this p4
  · constructor
    · rintro rfl
      rw [Int.zero_mul] at e
      rcases Int.mul_eq_zero.1 e with h | h
      · exact h
      · omega
    · rintro rfl
      rw [Int.zero_mul] at e
      rcases Int.mul_eq_zero.1 e.symm with h | h
      · exact h
      · omega

/-! Floor, Round. -/
/-- The greatest integer that is at most n / d. -/
def floorv (n d : Int) : Int := if vld n d then n / d else 0
theorem div_bounds {n d : Int} (hd : 0 < d) : n / d * d ≤ n ∧ n < (n / d + 1) * d := by
  have h1 := Int.mul_ediv_add_emod n d
  have h2 := Int.emod_nonneg n (show d ≠ 0 by omega)
  have h3 := Int.emod_lt_of_pos n hd
  constructor
  · rw [Int.mul_comm]; omega
  · rw [Int.add_mul, Int.mul_comm (n / d) d]; omega
/-- Round's numerator. -/
def rkv (n den d : Int) : Int := (2 * n * d + den) / (2 * den)
def roundv (n den d : Int) : Int × Int × Int := mk (rkv n den d) d

theorem rkv_bounds {n den : Int} (d : Int) (hden : 0 < den) : -den < 2 * (rkv n den d * den - n * d) ∧ 2 * (rkv n den d * den - n * d) ≤ den := by
  have h := div_bounds (n := 2 * n * d + den) (d := 2 * den) (by omega)
  unfold rkv
  generalize (2 * n * d + den) / (2 * den) = K at *
  obtain ⟨h1, h2⟩ := h
  constructor <;> grind

theorem rkv_of {r s K d : Int} (hs : 0 < s) (h : r * d = K * s) : rkv r s d = K := by
  unfold rkv
  have e : 2 * r * d + s = s + K * (2 * s) := by grind
  rw [e, Int.add_mul_ediv_right _ _ (by omega), Int.ediv_eq_zero_of_lt (by omega) (by omega)]
  omega

theorem rkv_mono {a b c e : Int} (d : Int) (hb : 0 < b) (he : 0 < e) (hd : 0 < d) (h : a * e ≤ c * b) : rkv a b d ≤ rkv c e d := by
  have h1 := rkv_bounds (n := a) d hb
  have h2 := rkv_bounds (n := c) d he
  unfold rkv
  refine (Int.le_ediv_iff_mul_le (by omega)).2 ?_
  have h3 := (div_bounds (n := 2 * a * d + b) (d := 2 * b) (by omega)).1
  clear h1 h2
  generalize (2 * a * d + b) / (2 * b) = K at *
  -- K * 2b ≤ 2ad + b; multiply with e, divide by b
  refine Int.le_of_mul_le_mul_right (a := b) ?_ hb
  have g1 : K * (2 * b) * e ≤ (2 * a * d + b) * e := Int.mul_le_mul_of_nonneg_right h3 (by omega)
  have g2 : a * e * (2 * d) ≤ c * b * (2 * d) := Int.mul_le_mul_of_nonneg_right h (by omega)
  grind

theorem mk_den_dvd {n d r s : Int} (hd : 0 < d) (h : mk n d = (r, s, 0)) : d % s = 0 ∧ r * (d / s) = n := by
  obtain ⟨v, q, _⟩ := mk_inv rfl h
  have p := vld_pos v
  have hs : s = ((d.natAbs / Nat.gcd n.natAbs d.natAbs : Nat) : Int) := by
    unfold mk at h
    rw [if_neg (by omega)] at h
    split at h
    · simp at h
    · simp only [Prod.mk.injEq] at h
      exact h.2.1.symm
  have hdvd : s ∣ d := by
    have : (d.natAbs / Nat.gcd n.natAbs d.natAbs) ∣ d.natAbs := Nat.div_dvd_of_dvd (Nat.gcd_dvd_right _ _)
    rw [hs]
    exact Int.ofNat_dvd_left.2 this
  obtain ⟨t, ht⟩ := hdvd
  refine ⟨by rw [ht]; simp, ?_⟩
  rw [ht, Int.mul_ediv_cancel_left _ (by omega)]
  rw [ht] at q
  refine Int.eq_of_mul_eq_mul_right (show s ≠ 0 by omega) ?_
  grind

theorem mk_mono {K L d r s p q : Int} (hd : 0 < d) (h : K ≤ L) (h1 : mk K d = (r, s, 0)) (h2 : mk L d = (p, q, 0)) : r * q ≤ p * s := by
  obtain ⟨v1, e1, _⟩ := mk_inv rfl h1
  obtain ⟨v2, e2, _⟩ := mk_inv rfl h2
  have p1 := vld_pos v1
  have p2 := vld_pos v2
  refine Int.le_of_mul_le_mul_right (a := d) ?_ hd
  have g : K * (s * q) ≤ L * (s * q) := Int.mul_le_mul_of_nonneg_right h (by have := Int.mul_pos p1 p2; omega)
  have g1 : r * q * d = K * (s * q) := by grind
  have g2 : p * s * d = L * (s * q) := by grind
  rw [g1, g2]; exact g

/-! Clamp. -/
def clampv (a b c d e f : Int) : Int × Int :=
  if vld a b && vld c d && vld e f then if cmpr a b c d < 0 then (c, d) else if 0 < cmpr a b e f then (e, f) else (a, b) else (0, 0)

theorem clamp_in {a b c d e f : Int} (h1 : vld a b = true) (h2 : vld c d = true) (h3 : vld e f = true) :
    (0 < cmpr c d e f ∨ cmpr c d (clampv a b c d e f).1 (clampv a b c d e f).2 ≤ 0 ∧ cmpr (clampv a b c d e f).1 (clampv a b c d e f).2 e f ≤ 0) ∧
    (clampv a b c d e f = (a, b) ∨ clampv a b c d e f = (c, d) ∨ clampv a b c d e f = (e, f)) := by
  unfold clampv
  rw [h1, h2, h3]
  simp only [Bool.and_self, if_true]
  by_cases g1 : cmpr a b c d < 0
  · rw [if_pos g1]
    refine ⟨?_, .inr (.inl rfl)⟩
    rw [cmpr_vld h2 h3, cmpr_vld h2 h2, cmpv_le, cmpv_pos, cmpv_le]
    omega
  · rw [if_neg g1]
    by_cases g2 : 0 < cmpr a b e f
    · rw [if_pos g2]
      refine ⟨?_, .inr (.inr rfl)⟩
      simp only
      rw [cmpr_vld h2 h3, cmpr_vld h3 h3, cmpv_le, cmpv_pos, cmpv_le]
      omega
    · rw [if_neg g2]
      refine ⟨.inr ?_, .inl rfl⟩
      simp only
      rw [cmpr_vld h1 h2, cmpv_neg] at g1
      rw [cmpr_vld h1 h3, cmpv_pos] at g2
      rw [cmpr_vld h2 h1, cmpr_vld h1 h3, cmpv_le, cmpv_le]
      omega
end Go.Proofs.YtfojgdlegojdgaaDoor
