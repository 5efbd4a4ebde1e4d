/-
  The plain law of SampleCounts: counting samples one by one (no program in sight).
-/
import Derived.Test.YtjlldolmlfgejaaDoorMath2
namespace Go.Proofs.YtjlldolmlfgejaaDoor

/-- How many of the numbers below a bound will do. -/
def cnt (f : Nat → Bool) : Nat → Nat
  | 0 => 0
  | m + 1 => cnt f m + if f m then 1 else 0
theorem cnt_le (f : Nat → Bool) (m : Nat) : cnt f m ≤ m := by
  induction m with
  | zero => exact Nat.le_refl _
  | succ m ih => simp only [cnt]; split <;> omega
theorem cnt_add (f : Nat → Bool) (a b : Nat) : cnt f (a + b) = cnt f a + cnt (fun r => f (a + r)) b := by
  induction b with
  | zero => rfl
  | succ b ih => rw [← Nat.add_assoc]; simp only [cnt]; omega
theorem cnt_congr {f g : Nat → Bool} {m : Nat} (h : ∀ x, x < m → f x = g x) : cnt f m = cnt g m := by
  induction m with
  | zero => rfl
  | succ m ih => simp only [cnt]; rw [ih (fun x hx => h x (by omega)), h m (by omega)]
theorem cnt_none {f : Nat → Bool} {m : Nat} (h : ∀ x, x < m → f x = false) : cnt f m = 0 := by
  induction m with
  | zero => rfl
  | succ m ih => simp only [cnt]; rw [ih (fun x hx => h x (by omega)), h m (by omega)]; rfl
/-- The sum of the first n bits. -/
def popc : Nat → Nat → Nat
  | 0, _ => 0
  | i + 1, m => popc i m + m / 2 ^ i % 2
theorem popc_le (n m : Nat) : popc n m ≤ n := by
  induction n with
  | zero => exact Nat.le_refl _
  | succ n ih => simp only [popc]; have : m / 2 ^ n % 2 < 2 := Nat.mod_lt _ (by omega); omega
theorem popc_up (i n r : Nat) (h : i ≤ n) : popc i (2 ^ n + r) = popc i r := by
  induction i with
  | zero => rfl
  | succ i ih =>
    simp only [popc]
    rw [ih (by omega)]
    obtain ⟨d, rfl⟩ : ∃ d, n = i + (d + 1) := ⟨n - i - 1, by omega⟩
    rw [Nat.pow_add, Nat.mul_add_div (Nat.two_pow_pos i), Nat.pow_succ]
    omega
theorem popc_hi {n r : Nat} (h : r < 2 ^ n) : popc (n + 1) (2 ^ n + r) = popc n r + 1 := by
  simp only [popc]
  rw [popc_up n n r (Nat.le_refl n)]
  have : (2 ^ n + r) / 2 ^ n = 1 := by
    rw [Nat.add_div_left _ (Nat.two_pow_pos n), Nat.div_eq_of_lt h]
  rw [this]
theorem popc_lo {n r : Nat} (h : r < 2 ^ n) : popc (n + 1) r = popc n r := by
  simp only [popc]; rw [Nat.div_eq_of_lt h]; rfl
/-- The samples, counted. -/
def allB (n k m : Nat) : Bool := decide (popc n m = k)
def hitB (n bad k m : Nat) : Bool := decide (popc n m = k) && !decide (m % 2 ^ bad = 0)
def missB (n bad k m : Nat) : Bool := decide (popc n m = k) && decide (m % 2 ^ bad = 0)
theorem all_count (n : Nat) : ∀ k, cnt (allB n k) (2 ^ n) = bin n k := by
  induction n with
  | zero => intro k; cases k <;> simp [cnt, allB, popc, bin]
  | succ n ih =>
    intro k
    rw [Nat.pow_succ, Nat.mul_two, cnt_add]
    have e1 : cnt (allB (n + 1) k) (2 ^ n) = bin n k := by
      rw [← ih k]; exact cnt_congr fun x hx => by simp only [allB, popc_lo hx]
    rw [e1]
    cases k with
    | zero =>
      rw [cnt_none (fun x hx => by simp [allB, popc_hi hx])]
      cases n <;> rfl
    | succ k =>
      have e2 : cnt (fun r => allB (n + 1) (k + 1) (2 ^ n + r)) (2 ^ n) = bin n k := by
        rw [← ih k]; exact cnt_congr fun x hx => by simp only [allB, popc_hi hx]; simp
      rw [e2]; simp only [bin]; omega
theorem popc_zero (n : Nat) : popc n 0 = 0 := by
  induction n with
  | zero => rfl
  | succ n ih => simp [popc, ih]
theorem miss_count (bad : Nat) : ∀ d k, cnt (missB (bad + d) bad k) (2 ^ (bad + d)) = bin d k := by
  intro d
  induction d with
  | zero =>
    intro k
    have h : ∀ m, m ≤ 2 ^ bad → cnt (missB (bad + 0) bad k) m = if m = 0 then 0 else if k = 0 then 1 else 0 := by
      intro m
      induction m with
      | zero => intro _; rfl
      | succ m ih =>
        intro hm
        simp only [cnt]
        rw [ih (by omega)]
        by_cases h0 : m = 0
        · subst h0; simp [missB, popc_zero]; by_cases hk : k = 0 <;> simp [hk]; omega
        · have : m % 2 ^ bad = m := Nat.mod_eq_of_lt (by omega)
          simp [missB, this, h0]
    rw [Nat.add_zero] at h ⊢
    rw [h _ (Nat.le_refl _), if_neg (Nat.pos_iff_ne_zero.1 (Nat.two_pow_pos bad))]
    cases k <;> simp [bin]
  | succ d ih =>
    intro k
    have hdv : ∀ r, (2 ^ (bad + d) + r) % 2 ^ bad = r % 2 ^ bad := fun r => by rw [Nat.pow_add, Nat.mul_add_mod]
    rw [← Nat.add_assoc, Nat.pow_succ, Nat.mul_two, cnt_add]
    have e1 : cnt (missB (bad + d + 1) bad k) (2 ^ (bad + d)) = bin d k := by
      rw [← ih k]; exact cnt_congr fun x hx => by simp only [missB, popc_lo hx]
    rw [e1]
    cases k with
    | zero =>
      rw [cnt_none (fun x hx => by simp [missB, popc_hi hx])]
      cases d <;> rfl
    | succ k =>
      have e2 : cnt (fun r => missB (bad + d + 1) bad (k + 1) (2 ^ (bad + d) + r)) (2 ^ (bad + d)) = bin d k := by
        rw [← ih k]; exact cnt_congr fun x hx => by simp only [missB, popc_hi hx, hdv]; simp
      rw [e2]; simp only [bin]; omega
theorem hit_miss (n bad k m : Nat) : cnt (hitB n bad k) m + cnt (missB n bad k) m = cnt (allB n k) m := by
  induction m with
  | zero => rfl
  | succ m ih =>
    simp only [cnt]
    have : (if hitB n bad k m then 1 else 0) + (if missB n bad k m then 1 else 0) = (if allB n k m then 1 else 0 : Nat) := by
      simp only [hitB, missB, allB]
      by_cases h1 : popc n m = k <;> by_cases h2 : m % 2 ^ bad = 0 <;> simp [h1, h2]
    omega
theorem counts_law {n bad k : Nat} (hb : bad ≤ n) : mk ((cnt (hitB n bad k) (2 ^ n) : Nat) : Int) ((cnt (allB n k) (2 ^ n) : Nat) : Int) = det n bad k := by
  have h1 := hit_miss n bad k (2 ^ n)
  have h2 := all_count n k
  obtain ⟨d, rfl⟩ : ∃ d, n = bad + d := ⟨n - bad, by omega⟩
  have h3 := miss_count bad d k
  unfold det
  rw [show bad + d - bad = d from by omega, ← h2, ← h3]
  congr 1
  omega
end Go.Proofs.YtjlldolmlfgejaaDoor
