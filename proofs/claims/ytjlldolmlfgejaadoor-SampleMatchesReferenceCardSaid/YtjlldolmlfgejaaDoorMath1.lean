/-
  The plain law of the probabilities of a hit (no program in sight).
-/
import Derived.Test.YtjlldolmlfgejaaDoorBound
namespace Go.Proofs.YtjlldolmlfgejaaDoor

/-- The binomial coefficients, by one division. -/
def kron (n k : Nat) : Nat := (4294967296 + 1) ^ n / 4294967296 ^ k % 4294967296
theorem kron_step : ∀ n, n < 24 → ∀ k, k < 24 → kron (n + 1) (k + 1) = kron n k + kron n (k + 1) := by decide +kernel
theorem kron_zero : ∀ n, n < 25 → kron n 0 = 1 := by decide +kernel
theorem kron_none : ∀ k, k < 24 → kron 0 (k + 1) = 0 := by decide +kernel
theorem bin_kron (n k : Nat) (hn : n ≤ 24) (hk : k ≤ 24) : bin n k = kron n k := by
  induction n generalizing k with
  | zero =>
    cases k with
    | zero => rw [kron_zero 0 (by omega)]; rfl
    | succ k => rw [kron_none k (by omega)]; rfl
  | succ n ih =>
    cases k with
    | zero => rw [kron_zero _ (by omega)]; rfl
    | succ k =>
      rw [kron_step n (by omega) k (by omega), ← ih k (by omega) (by omega), ← ih (k + 1) (by omega) hk]; rfl
/-- The same as 'det', quickly. -/
def detK (n bad k : Nat) : Int × Int × Int := mk ((kron n k : Int) - kron (n - bad) k) (kron n k)
theorem det_eq (n bad k : Nat) (hn : n ≤ 24) (hk : k ≤ 24) : det n bad k = detK n bad k := by
  unfold det detK
  rw [bin_kron n k hn hk, bin_kron (n - bad) k (by omega) hk]

/-- P16.3 at one place. -/
def symB (n bad k : Nat) : Bool :=
  (detK n bad k).2.2 == 0 && detK n bad k == detK n k bad && ((detK n bad k).1 == 1 && (detK n bad k).2.1 == 1) == decide (n - bad < k) &&
  ((detK n bad k).1 == 0 && (detK n bad k).2.1 == 1) == (decide (k = 0) || decide (bad = 0)) && vld (detK n bad k).1 (detK n bad k).2.1 &&
  (bad == n || decide (cmpr (detK n bad k).1 (detK n bad k).2.1 (detK n (bad + 1) k).1 (detK n (bad + 1) k).2.1 ≤ 0))
theorem sym_all : ∀ n, n < 25 → ∀ bad, bad < n + 1 → ∀ k, k < n + 1 → symB n bad k = true := by decide +kernel

theorem symB_of {n bad k : Nat} (hn : n ≤ 24) (hb : bad ≤ n) (hk : k ≤ n) : symB n bad k = true := sym_all n (by omega) bad (by omega) k (by omega)
theorem det_ok {n bad k : Nat} (hn : n ≤ 24) (hb : bad ≤ n) (hk : k ≤ n) : (det n bad k).2.2 = 0 := by
  have := symB_of hn hb hk
  rw [det_eq n bad k hn (by omega)]
  simp only [symB, Bool.and_eq_true, beq_iff_eq] at this
  exact this.1.1.1.1.1
theorem det_sym {n bad k : Nat} (hn : n ≤ 24) (hb : bad ≤ n) (hk : k ≤ n) : det n bad k = det n k bad := by
  have := symB_of hn hb hk
  rw [det_eq n bad k hn (by omega), det_eq n k bad hn (by omega)]
  simp only [symB, Bool.and_eq_true, beq_iff_eq] at this
  exact this.1.1.1.1.2
theorem det_one {n bad k : Nat} (hn : n ≤ 24) (hb : bad ≤ n) (hk : k ≤ n) : ((det n bad k).1 == 1 && (det n bad k).2.1 == 1) = decide (n - bad < k) := by
  have := symB_of hn hb hk
  rw [det_eq n bad k hn (by omega)]
  simp only [symB, Bool.and_eq_true] at this
  exact beq_iff_eq.1 this.1.1.1.2
theorem det_nil {n bad k : Nat} (hn : n ≤ 24) (hb : bad ≤ n) (hk : k ≤ n) : ((det n bad k).1 == 0 && (det n bad k).2.1 == 1) = (decide (k = 0) || decide (bad = 0)) := by
  have := symB_of hn hb hk
  rw [det_eq n bad k hn (by omega)]
  simp only [symB, Bool.and_eq_true] at this
  exact beq_iff_eq.1 this.1.1.2
theorem det_vld {n bad k : Nat} (hn : n ≤ 24) (hb : bad ≤ n) (hk : k ≤ n) : vld (det n bad k).1 (det n bad k).2.1 = true := by
  have := symB_of hn hb hk
  rw [det_eq n bad k hn (by omega)]
  simp only [symB, Bool.and_eq_true] at this
  exact this.1.2
theorem det_mono {n bad k : Nat} (hn : n ≤ 24) (hb : bad < n) (hk : k ≤ n) : cmpr (det n bad k).1 (det n bad k).2.1 (det n (bad + 1) k).1 (det n (bad + 1) k).2.1 ≤ 0 := by
  have := symB_of hn (by omega : bad ≤ n) hk
  rw [det_eq n bad k hn (by omega), det_eq n (bad + 1) k hn (by omega)]
  simp only [symB, Bool.and_eq_true, Bool.or_eq_true, beq_iff_eq, decide_eq_true_eq] at this
  rcases this.2 with h | h
  · omega
  · exact h

theorem cmpr_le {a b c d : Int} (h1 : vld a b = true) (h2 : vld c d = true) : cmpr a b c d ≤ 0 ↔ a * d ≤ c * b := by
  simp only [cmpr, h1, h2, Bool.and_self, if_true, cmpv]
  by_cases h3 : a * d < c * b
  · simp [h3]; omega
  · by_cases h4 : c * b < a * d
    · simp [h3, h4]
    · simp [h3, h4]; omega
theorem cmpr_ge {a b c d : Int} (h1 : vld a b = true) (h2 : vld c d = true) : 0 ≤ cmpr a b c d ↔ c * b ≤ a * d := by
  simp only [cmpr, h1, h2, Bool.and_self, if_true, cmpv]
  by_cases h3 : a * d < c * b
  · simp [h3]
  · by_cases h4 : c * b < a * d
    · simp [h3, h4]; omega
    · simp [h3, h4]; omega
theorem cross_le {a b c d p q : Int} (hb : 1 ≤ b) (hd : 1 ≤ d) (hq : 1 ≤ q) (h1 : a * d ≤ c * b) (h2 : p * b ≤ a * q) : p * d ≤ c * q := by
  have e1 : p * b * d ≤ a * q * d := Int.mul_le_mul_of_nonneg_right h2 (by omega)
  have e2 : a * d * q ≤ c * b * q := Int.mul_le_mul_of_nonneg_right h1 (by omega)
  have e3 : a * q * d = a * d * q := by rw [Int.mul_assoc, Int.mul_comm q d, ← Int.mul_assoc]
  have e4 : b * (p * d) ≤ b * (c * q) := by
    have f1 : b * (p * d) = p * b * d := by rw [← Int.mul_assoc, Int.mul_comm b p]
    have f2 : b * (c * q) = c * b * q := by rw [← Int.mul_assoc, Int.mul_comm b c]
    rw [f1, f2]; omega
  exact Int.le_of_mul_le_mul_left e4 (by omega)

theorem lvl_vld {p q : Int} (h : lvl p q = true) : vld p q = true ∧ 0 ≤ p ∧ p ≤ q := by
  simp only [lvl, Bool.and_eq_true, decide_eq_true_eq] at h; exact ⟨h.1.1, h.1.2, h.2⟩
theorem hit_step {n bad k : Nat} {p q : Int} (hn : n ≤ 24) (hb : bad < n) (hk : k ≤ n) (hl : lvl p q = true) (h : hit n bad k p q = true) : hit n (bad + 1) k p q = true := by
  obtain ⟨hv, _, _⟩ := lvl_vld hl
  have v1 := det_vld hn (by omega : bad ≤ n) hk
  have v2 := det_vld hn (by omega : bad + 1 ≤ n) hk
  simp only [hit, decide_eq_true_eq] at h ⊢
  rw [cmpr_ge v1 hv] at h
  rw [cmpr_ge v2 hv]
  have hm := (cmpr_le v1 v2).1 (det_mono hn hb hk)
  exact cross_le (I64.of_vld_den v1).1 (I64.of_vld_den v2).1 (I64.of_vld_den hv).1 hm h
theorem hit_mono {n k : Nat} {p q : Int} (hn : n ≤ 24) (hk : k ≤ n) (hl : lvl p q = true) (a : Nat) : ∀ c, a + c ≤ n → hit n a k p q = true → hit n (a + c) k p q = true := by
  intro c
  induction c with
  | zero => intro _ h; exact h
  | succ c ih => intro hc h; exact hit_step (bad := a + c) hn (by omega) hk hl (ih (by omega) h)
theorem hit_le {n a b k : Nat} {p q : Int} (hn : n ≤ 24) (hk : k ≤ n) (hab : a ≤ b) (hb : b ≤ n) (hl : lvl p q = true) (h : hit n a k p q = true) : hit n b k p q = true := by
  obtain ⟨c, rfl⟩ : ∃ c, b = a + c := ⟨b - a, by omega⟩
  exact hit_mono hn hk hl a c hb h
theorem hit_sym {n bad k : Nat} {p q : Int} (hn : n ≤ 24) (hb : bad ≤ n) (hk : k ≤ n) : hit n bad k p q = hit n k bad p q := by
  simp only [hit, det_sym hn hb hk]
theorem hit_none {n k : Nat} {p q : Int} (hn : n ≤ 24) (hk : k ≤ n) (hl : lvl p q = true) (hp : p ≠ 0) : hit n 0 k p q = false := by
  obtain ⟨hv, h0, _⟩ := lvl_vld hl
  have v1 := det_vld hn (Nat.zero_le n) hk
  have hz := det_nil hn (Nat.zero_le n) hk
  simp at hz
  obtain ⟨z1, z2⟩ := hz
  have : ¬ hit n 0 k p q = true := by
    simp only [hit, decide_eq_true_eq]
    rw [cmpr_ge v1 hv, z1, z2]
    omega
  simpa using this
end Go.Proofs.YtjlldolmlfgejaaDoor
