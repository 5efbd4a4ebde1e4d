/-
  What is drawn, and how it grows (no program in sight).
-/
import Derived.Test.YtllofogjojlamaaDoorDraw2
namespace Go.Proofs.YtllofogjojlamaaDoor

theorem jAt_lt {s : ByteArray} {n i : Nat} (h : i < n) : i ≤ jAt s n i ∧ jAt s n i < n := by
  unfold jAt
  have := Nat.mod_lt (xOf s i) (show 0 < n - i by omega)
  omega
theorem swap_perm {l : List Int} {i j : Nat} (hi : i < l.length) (hj : j < l.length) : (swapAt l i j).Perm l := by
  unfold swapAt
  have e1 : l.getD j 0 = l[j] := by simp [List.getD_eq_getElem?_getD, hj]
  have e2 : l.getD i 0 = l[i] := by simp [List.getD_eq_getElem?_getD, hi]
  rw [e1, e2]
  exact List.set_set_perm hi hj
theorem drawTo_perm (s : ByteArray) (n k : Nat) (h : k ≤ n) : (drawTo s n k).Perm ((List.range n).map fun i : Nat => (i : Int)) := by
  induction k with
  | zero => exact List.Perm.refl _
  | succ k ih =>
    have hj := jAt_lt (s := s) (show k < n by omega)
    exact (swap_perm (by rw [drawTo_len]; omega) (by rw [drawTo_len]; omega)).trans (ih (by omega))
theorem swap_take {l : List Int} {i j k : Nat} (hi : k ≤ i) (hj : k ≤ j) : (swapAt l i j).take k = l.take k := by
  unfold swapAt
  rw [List.take_set_of_le hj, List.take_set_of_le hi]
theorem drawTo_take (s : ByteArray) (n k : Nat) : ∀ c, k + c ≤ n → (drawTo s n (k + c)).take k = (drawTo s n k).take k := by
  intro c
  induction c with
  | zero => intro _; rfl
  | succ c ih =>
    intro h
    have hj := jAt_lt (s := s) (show k + c < n by omega)
    show (swapAt (drawTo s n (k + c)) (k + c) (jAt s n (k + c))).take k = _
    rw [swap_take (by omega) (by omega), ih (by omega)]

/-- Ascending, each number once. -/
def Asc (l : List Int) : Prop := l.Pairwise (· < ·)
theorem sortI_perm (l : List Int) : (sortI l).Perm l := List.mergeSort_perm _ _
theorem sortI_asc {l : List Int} (h : l.Nodup) : Asc (sortI l) := by
  have h1 : (sortI l).Pairwise (fun a b => decide (a ≤ b) = true) := List.pairwise_mergeSort (by intro a b c; simp; omega) (by intro a b; simp; omega) l
  have h2 : (sortI l).Nodup := (sortI_perm l).nodup_iff.2 h
  refine List.Pairwise.imp ?_ (List.Pairwise.and h1 h2)
  rintro a b ⟨x, y⟩
  have : a ≤ b := by simpa using x
  omega
theorem asc_lt {l : List Int} (h : Asc l) {i j : Nat} (hij : i < j) (hj : j < l.length) : l.getD i 0 < l.getD j 0 := by
  have := List.pairwise_iff_getElem.1 h i j (by omega) hj hij
  simpa [List.getD_eq_getElem?_getD, hj, show i < l.length by omega] using this
theorem range_nodup (n : Nat) : ((List.range n).map fun i : Nat => (i : Int)).Nodup := by
  rw [List.nodup_iff_pairwise_ne, List.pairwise_map]
  exact (List.nodup_range (n := n)).imp (fun {a b} h => by omega)
theorem drawTo_nodup (s : ByteArray) (n k : Nat) (h : k ≤ n) : (drawTo s n k).Nodup := (drawTo_perm s n k h).nodup_iff.2 (range_nodup n)
theorem drawn_asc {s : ByteArray} {n k : Nat} (h : k ≤ n) : Asc (drawn s n k) := sortI_asc ((drawTo_nodup s n k h).sublist (List.take_sublist _ _))
theorem drawn_mem {s : ByteArray} {n k : Nat} (_h : k ≤ n) {v : Int} : v ∈ drawn s n k ↔ v ∈ (drawTo s n k).take k := (sortI_perm _).mem_iff
theorem drawTo_mem {s : ByteArray} {n k : Nat} (h : k ≤ n) {v : Int} : v ∈ drawTo s n k ↔ 0 ≤ v ∧ v < n := by
  rw [(drawTo_perm s n k h).mem_iff]
  simp only [List.mem_map, List.mem_range]
  constructor
  · rintro ⟨i, hi, rfl⟩; omega
  · rintro ⟨h1, h2⟩; exact ⟨v.toNat, by omega, by omega⟩
theorem drawn_range {s : ByteArray} {n k i : Nat} (h : k ≤ n) (hi : i < k) : 0 ≤ (drawn s n k).getD i 0 ∧ (drawn s n k).getD i 0 < n := by
  have hl := drawn_len s n k h
  have hm : (drawn s n k).getD i 0 ∈ drawn s n k := by
    rw [List.getD_eq_getElem?_getD, List.getElem?_eq_getElem (by omega)]; exact List.getElem_mem _
  exact (drawTo_mem h).1 (List.mem_of_mem_take ((drawn_mem h).1 hm))
/-- Where an element of the smaller sample stands in the larger one. -/
theorem drawn_idx {s : ByteArray} {n k more i : Nat} (hk : k ≤ more) (hm : more ≤ n) (hi : i < k) : ∃ p, p < more ∧ (drawn s n more).getD p 0 = (drawn s n k).getD i 0 := by
  have hl := drawn_len s n k (by omega)
  have hl2 := drawn_len s n more hm
  have h1 : (drawn s n k).getD i 0 ∈ drawn s n k := by
    rw [List.getD_eq_getElem?_getD, List.getElem?_eq_getElem (by omega)]; exact List.getElem_mem _
  have h2 := (drawn_mem (by omega)).1 h1
  obtain ⟨c, rfl⟩ : ∃ c, more = k + c := ⟨more - k, by omega⟩
  rw [← drawTo_take s n k c hm] at h2
  have h3 : (drawn s n k).getD i 0 ∈ drawn s n (k + c) := (drawn_mem hm).2 ((List.take_subset_take_left _ (Nat.le_add_right k c)) h2)
  obtain ⟨p, hp, he⟩ := List.getElem_of_mem h3
  exact ⟨p, by omega, by rw [List.getD_eq_getElem?_getD, List.getElem?_eq_getElem hp]; exact he⟩
theorem drawn_idx_mono {s : ByteArray} {n k more i p q : Nat} (hm : more ≤ n) (hk : k ≤ n) (hi : i + 1 < k) (hp : p < more)
    (ep : (drawn s n more).getD p 0 = (drawn s n k).getD i 0) (eq : (drawn s n more).getD q 0 = (drawn s n k).getD (i + 1) 0) : p < q := by
  rcases Nat.lt_or_ge p q with h | h
  · exact h
  · have h1 : (drawn s n k).getD i 0 < (drawn s n k).getD (i + 1) 0 := asc_lt (drawn_asc hk) (by omega) (by rw [drawn_len s n k hk]; exact hi)
    rcases Nat.eq_or_lt_of_le h with rfl | h
    · omega
    · have := asc_lt (drawn_asc (s := s) hm) h (by rw [drawn_len s n more hm]; exact hp)
      omega
theorem drawn_full {s : ByteArray} {n i : Nat} (hi : i < n) : (drawn s n n).getD i 0 = i := by
  have h1 : Asc (drawn s n n) := drawn_asc (Nat.le_refl n)
  have hl := drawn_len s n n (Nat.le_refl n)
  have h2 : (drawn s n n).Perm ((List.range n).map fun i : Nat => (i : Int)) := by
    have : (drawTo s n n).take n = drawTo s n n := List.take_of_length_le (by rw [drawTo_len]; exact Nat.le_refl n)
    unfold drawn
    rw [this]
    exact (sortI_perm _).trans (drawTo_perm s n n (Nat.le_refl n))
  have h3 : Asc ((List.range n).map fun i : Nat => (i : Int)) := by
    unfold Asc
    rw [List.pairwise_map]
    exact (List.pairwise_lt_range (n := n)).imp (fun {a b} h => by omega)
  have h4 : drawn s n n = (List.range n).map fun i : Nat => (i : Int) := List.Perm.eq_of_pairwise (le := (· < ·)) (fun a b _ _ h h' => by omega) h1 h3 h2
  rw [h4]
  simp [List.getD_eq_getElem?_getD, hi]
end Go.Proofs.YtllofogjojlamaaDoor
