/-
  The plain laws of RatioOrder: what Compare and Sub give at three valid fractions.
-/
import Derived.Test.YtfojgdlegojdgaaDoorRatM
namespace Go.Proofs.YtfojgdlegojdgaaDoor

theorem cmpv_cases (x y : Int) : cmpv x y = -1 ∨ cmpv x y = 0 ∨ cmpv x y = 1 := by
  unfold cmpv; split <;> (try split) <;> simp

/-- What RatioOrder asks. -/
structure Ord3 (a b c d e f : Int) : Prop where
  p : cmpr a b c d = -1 ∨ cmpr a b c d = 0 ∨ cmpr a b c d = 1
  q : cmpr c d e f = -1 ∨ cmpr c d e f = 0 ∨ cmpr c d e f = 1
  swap : cmpr a b c d = - cmpr c d a b
  eq : (a == c && b == d) = (cmpr a b c d == 0)
  t1 : cmpr a b c d ≤ 0 → cmpr c d e f ≤ 0 → cmpr a b e f ≤ 0
  t2 : cmpr a b c d < 0 → cmpr c d e f ≤ 0 → cmpr a b e f < 0
  sub : subv c d a b = (0, 0, 30) ∨ ∃ r s, subv c d a b = (r, s, 0) ∧ (cmpr a b c d < 0 ↔ 0 < r) ∧ (cmpr a b c d = 0 ↔ r = 0)

theorem ord3 {a b c d e f : Int} (h1 : vld a b = true) (h2 : vld c d = true) (h3 : vld e f = true) : Ord3 a b c d e f := by
  have p1 := vld_pos h1
  have p2 := vld_pos h2
  have p3 := vld_pos h3
  have e1 := cmpr_vld h1 h2
  have e2 := cmpr_vld h2 h3
  have e3 := cmpr_vld h1 h3
  have e4 := cmpr_vld h2 h1
  refine ⟨?_, ?_, ?_, ?_, ?_, ?_, ?_⟩
  · rw [e1]; exact cmpv_cases _ _
  · rw [e2]; exact cmpv_cases _ _
  · rw [e1, e4]; exact cmpv_swap _ _
  · rw [e1, Bool.eq_iff_iff]
    simp only [Bool.and_eq_true, beq_iff_eq, cmpv_zero]
    constructor
    · rintro ⟨rfl, rfl⟩; rfl
    · intro h; exact vld_cross h1 h2 h
  · rw [e1, e2, e3, cmpv_le, cmpv_le, cmpv_le]
    exact fun g1 g2 => le_trans_q p1 p2 p3 g1 g2
  · rw [e1, e2, e3, cmpv_neg, cmpv_le, cmpv_neg]
    exact fun g1 g2 => lt_trans_q p1 p2 p3 g1 g2
  · rcases mk_spec0 (c * b + -a * d) (d * b) with g | ⟨r, s, g, _⟩
    · exact .inl g
    · have h := sub_sign h1 h2 g
      refine .inr ⟨r, s, g, ?_, ?_⟩
      · rw [e1, cmpv_neg]; exact h.1
      · rw [e1, cmpv_zero]; exact h.2
end Go.Proofs.YtfojgdlegojdgaaDoor
