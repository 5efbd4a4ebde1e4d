/-
  The contract of sample.ways: the triangle of binomial coefficients in a new block of 625 cells.
-/
import Derived.Test.YtllofogjojlamaaDoorSample1
namespace Go.Proofs.YtllofogjojlamaaDoor
open Go.RowKit

/-- The binomial coefficients. -/
def bin : Nat → Nat → Nat
  | _, 0 => 1
  | 0, _ + 1 => 0
  | n + 1, k + 1 => bin n k + bin n (k + 1)
theorem bin_zero : ∀ n k, n < k → bin n k = 0 := by
  intro n
  induction n with
  | zero => intro k h; cases k <;> simp_all [bin]
  | succ n ih => intro k h; cases k with
    | zero => omega
    | succ k => simp only [bin, ih k (by omega), ih (k + 1) (by omega)]

/-- The triangle as far as the row n, of which the first k entries are there. -/
def triTo (n k i : Nat) : Int := if i / 25 < n ∨ (i / 25 = n ∧ i % 25 < k) then (bin (i / 25) (i % 25) : Int) else 0
/-- The block B holds the triangle as far as the row n, of which the first k entries are there. -/
structure TriAt (B : Nat) (n k : Nat) (w : World) : Prop where
  cell : ∀ i, i < 625 → w.cell? ⟨B, i, none⟩ = some (.int .i64 (triTo n k i))
  free : ∀ i, w.frozen? ⟨B, i, none⟩ = false

theorem tri_start (w : World) : TriAt w.heap.size 0 0 (w.alloc (.cells Tryd.zeroCells74 74)) := by
  have hz : Tryd.zeroCells74 = Array.replicate 625 (.int .i64 0) := by kernel_rfl
  refine ⟨fun i hi => ?_, fun i => ?_⟩
  · have e : (w.alloc (.cells Tryd.zeroCells74 74)).heap[w.heap.size]? = some (.cells Tryd.zeroCells74 74 (0, 0)) := (MapKept.heap_alloc w _).1
    have e2 : ∀ a : World, a.heap[w.heap.size]? = some (.cells Tryd.zeroCells74 74 (0, 0)) → a.cell? ⟨w.heap.size, i, none⟩ = some (.int .i64 (triTo 0 0 i)) := by
      intro a ha
      simp only [World.cell?, ha, hz]
      simp [triTo, hi]
    exact e2 _ e
  · have e : (w.alloc (.cells Tryd.zeroCells74 74)).heap[w.heap.size]? = some (.cells Tryd.zeroCells74 74 (0, 0)) := (MapKept.heap_alloc w _).1
    have e2 : ∀ a : World, a.heap[w.heap.size]? = some (.cells Tryd.zeroCells74 74 (0, 0)) → a.frozen? ⟨w.heap.size, i, none⟩ = false := by
      intro a ha
      simp only [World.frozen?, ha]
      simp
    exact e2 _ e
theorem TriAt.drewN {B n k : Nat} {w : World} (h : TriAt B n k w) (q : Nat) : TriAt B n k (w.drewN q) := ⟨h.cell, h.free⟩
theorem TriAt.drew {B n k : Nat} {w : World} (h : TriAt B n k w) : TriAt B n k w.drew := ⟨h.cell, h.free⟩
theorem TriAt.set {B n k : Nat} {w : World} (h : TriAt B n k w) (hk : k < 25) (_hn : n < 25) : TriAt B n (k + 1) (w.setCell ⟨B, n * 25 + k, none⟩ (.int .i64 (bin n k))) := by
  refine ⟨fun i hi => ?_, fun i => (World.frozen?_setCell _ _ _ _).trans (h.free i)⟩
  by_cases e : i = n * 25 + k
  · subst e
    rw [World.cell?_setCell_same' _ _ _ (by rw [h.cell _ hi]; rfl)]
    have e1 : (n * 25 + k) / 25 = n := by omega
    have e2 : (n * 25 + k) % 25 = k := by omega
    simp only [triTo, e1, e2]
    rw [if_pos (by simp)]
  · rw [World.cell?_setCell_other _ _ _ _ (by intro hh; injection hh with _ h2; omega), h.cell i hi]
    simp only [triTo]
    by_cases hc : i / 25 < n ∨ (i / 25 = n ∧ i % 25 < k)
    · rw [if_pos hc, if_pos (by omega)]
    · rw [if_neg hc, if_neg (by omega)]
theorem TriAt.next {B n : Nat} {w : World} (h : TriAt B n (n + 1) w) : TriAt B (n + 1) 0 w := by
  refine ⟨fun i hi => ?_, h.free⟩
  rw [h.cell i hi]
  simp only [triTo]
  by_cases hc : i / 25 < n ∨ (i / 25 = n ∧ i % 25 < n + 1)
  · rw [if_pos hc, if_pos (by omega)]
  · rw [if_neg hc]
    by_cases hc2 : i / 25 = n
    · rw [if_pos (by omega), hc2, bin_zero _ _ (by omega)]; rfl
    · rw [if_neg (by omega)]

theorem bin_le (n k : Nat) (h : n ≤ 24) : bin n k ≤ 16777216 := by
  have h1 : ∀ n k, bin n k ≤ 2 ^ n := by
    intro n
    induction n with
    | zero => intro k; cases k <;> simp [bin]
    | succ n ih =>
      intro k
      cases k with
      | zero => simp only [bin]; exact Nat.one_le_two_pow
      | succ k => simp only [bin]; have := ih k; have := ih (k + 1); omega
  have h2 : 2 ^ n ≤ 2 ^ 24 := Nat.pow_le_pow_right (by omega) h
  have := h1 n k
  omega
theorem bin_pascal (n k : Nat) (hn : 1 ≤ n) (hk : 1 ≤ k) : bin n k = bin (n - 1) (k - 1) + bin (n - 1) k := by
  obtain ⟨n, rfl⟩ : ∃ m, n = m + 1 := ⟨n - 1, by omega⟩
  obtain ⟨k, rfl⟩ : ∃ m, k = m + 1 := ⟨k - 1, by omega⟩
  rfl
theorem triTo_up (n k c : Nat) (hn : 1 ≤ n) (hc : c < 25) : triTo n k ((n - 1) * 25 + c) = bin (n - 1) c := by
  have e1 : ((n - 1) * 25 + c) / 25 = n - 1 := by omega
  have e2 : ((n - 1) * 25 + c) % 25 = c := by omega
  simp only [triTo, e1, e2]
  rw [if_pos (by omega)]
set_option maxRecDepth 100000 in
set_option maxHeartbeats 400000 in
theorem ways_any (w : World) :
    Calls Tryd.prog 22 #[] w fun e w' => e = .returned (.pointer (some ⟨w.heap.size, 0, none⟩)) ∧ Below w.heap.size w w' ∧ TriAt w.heap.size 25 0 w' := by
  have hs := tri_start w
  have hb : Below w.heap.size w (w.alloc (.cells Tryd.zeroCells74 74)) := (by repeat first | with_reducible exact Below.refl _ _ | with_reducible assumption | with_reducible refine below_drewN ?_ _ | with_reducible refine Below.drew ?_ | with_reducible refine Below.setCell ?_ (by first | exact Nat.le_refl _ | (simp; done) | (simp; omega) | omega) _ | with_reducible refine Below.alloc ?_ (by first | exact Nat.le_refl _ | (simp; done) | (simp; omega) | omega) _ | exact Below.refl _ _ | assumption)
  go_enter Tryd.func22, Tryd.ntmps22
  go_wp2
  go_loopw [4] (fun i wr => ∃ n : Nat, n ≤ 25 ∧ i = .int .i64 n ∧ Below w.heap.size w wr ∧ TriAt w.heap.size n 0 wr) (fun i _ => 25 - (intOf i).toNat)
  case atStart => exact ⟨0, by omega, rfl, hb, hs⟩
  case round =>
    obtain ⟨n, hn, rfl, hbr, ht⟩ := hrel
    clear hs hb
    by_cases hlt : n < 25
    · have hd : decide ((n : Int) < 25) = true := by simp; omega
      have c0 := ht.cell (n * 25) (by omega)
      have f0 := ht.free (n * 25)
      have ht2 := (ht.set (by omega) hlt)
      have eb : bin n 0 = 1 := by cases n <;> rfl
      rw [eb] at ht2
      replace eb := Lib.hid eb
      have hb2 : Below w.heap.size w (wr.setCell ⟨w.heap.size, n * 25 + 0, none⟩ (.int .i64 1)) := (by repeat first | with_reducible exact Below.refl _ _ | with_reducible assumption | with_reducible refine below_drewN ?_ _ | with_reducible refine Below.drew ?_ | with_reducible refine Below.setCell ?_ (by first | exact Nat.le_refl _ | (simp; done) | (simp; omega) | omega) _ | with_reducible refine Below.alloc ?_ (by first | exact Nat.le_refl _ | (simp; done) | (simp; omega) | omega) _ | exact Below.refl _ _ | assumption)
      go_wp2
      simp only [Nat.add_zero, Nat.zero_add] at ht2 hb2
      clear c0 f0 ht
      generalize wr.setCell ⟨w.heap.size, n * 25, none⟩ (.int .i64 1) = wo at *
      go_loopw [3] (fun i wr => ∃ k : Nat, 1 ≤ k ∧ k ≤ n + 1 ∧ i = .int .i64 k ∧ Below w.heap.size w wr ∧ TriAt w.heap.size n k wr) (fun i _ => n + 1 - (intOf i).toNat)
      case atStart => exact ⟨1, by omega, by omega, rfl, hb2, ht2⟩
      case round =>
        obtain ⟨k, hk1, hk, rfl, hbi, hti⟩ := hrel
        clear hb2 ht2 hbr
        by_cases hkn : k ≤ n
        · have hd2 : decide ((k : Int) ≤ (n : Int)) = true := by simp; omega
          have c1 := hti.cell ((n - 1) * 25 + (k - 1)) (by omega)
          have c2 := hti.cell ((n - 1) * 25 + k) (by omega)
          have v1 := triTo_up n k (k - 1) (by omega) (by omega)
          have v2 := triTo_up n k k (by omega) (by omega)
          have ev := bin_pascal n k (by omega) hk1
          have b1 := bin_le (n - 1) (k - 1) (by omega)
          have b2 := bin_le (n - 1) k (by omega)
          rw [v1] at c1; rw [v2] at c2
          clear v1 v2
          generalize bin (n - 1) (k - 1) = x1 at *
          generalize bin (n - 1) k = x2 at *
          replace ev := Lib.hid ev
          have c3 := hti.cell (n * 25 + k) (by omega)
          have f3 := hti.free (n * 25 + k)
          go_wp2
          go_region
          have ht3 := hti.set (k := k) (by omega) hlt
          rw [ev.out] at ht3
          go_wp2
          go_roundw
          case rel => exact ⟨k + 1, by omega, by omega, by go_num, (by repeat first | with_reducible exact Below.refl _ _ | with_reducible assumption | with_reducible refine below_drewN ?_ _ | with_reducible refine Below.drew ?_ | with_reducible refine Below.setCell ?_ (by first | exact Nat.le_refl _ | (simp; done) | (simp; omega) | omega) _ | with_reducible refine Below.alloc ?_ (by first | exact Nat.le_refl _ | (simp; done) | (simp; omega) | omega) _ | exact Below.refl _ _ | assumption), by have := ht3.drew; simpa using this⟩
          case measure => simp [intOf]; omega
        · have hd2 : decide ((k : Int) ≤ (n : Int)) = false := by simp; omega
          obtain rfl : k = n + 1 := by omega
          go_wp2
          go_roundw
          case rel => exact ⟨n + 1, by omega, by go_num, hbi, hti.next⟩
          case measure => simp [intOf]; omega
    · have hd : decide ((n : Int) < 25) = false := by simp; omega
      obtain rfl : n = 25 := by omega
      go_wp2
      go_ret
      exact ⟨rfl, hbr, ht⟩
end Go.Proofs.YtllofogjojlamaaDoor
