/-
  The plain law of SampleDrawMatchesReference (no program in sight): numbers collected one by one stand in ascending order.
-/
import Derived.Test.YtllofogjojlamaaDoorMath4a
namespace Go.Proofs.YtllofogjojlamaaDoor

/-- The places of v among the first i. -/
def colRow (l : List Int) (v : Int) (i : Nat) : List Int := (l.take i).filter fun x => decide (x = v)
/-- What is collected of the numbers below v. -/
def colTo (l : List Int) : Nat → List Int
  | 0 => []
  | v + 1 => colTo l v ++ colRow l (v : Int) l.length
theorem colRow_succ {l : List Int} {v : Int} {i : Nat} (h : i < l.length) : colRow l v (i + 1) = if l.getD i 0 = v then colRow l v i ++ [v] else colRow l v i := by
  unfold colRow
  rw [List.take_succ_eq_append_getElem h, List.filter_append]
  have e : l.getD i 0 = l[i] := by simp [List.getD_eq_getElem?_getD, h]
  rw [e]
  by_cases hv : l[i] = v
  · simp [hv]
  · simp [hv]
theorem colRow_zero (l : List Int) (v : Int) : colRow l v 0 = [] := by simp [colRow]
theorem colRow_mem {l : List Int} {v x : Int} : x ∈ colRow l v l.length ↔ x ∈ l ∧ x = v := by
  simp [colRow]
theorem colTo_mem {l : List Int} {v : Nat} {x : Int} : x ∈ colTo l v ↔ x ∈ l ∧ 0 ≤ x ∧ x < v := by
  induction v with
  | zero => simp [colTo]
  | succ v ih =>
    rw [colTo, List.mem_append, ih, colRow_mem]
    constructor
    · rintro (⟨h1, h2, h3⟩ | ⟨h1, rfl⟩)
      · exact ⟨h1, h2, by omega⟩
      · exact ⟨h1, by omega, by omega⟩
    · rintro ⟨h1, h2, h3⟩
      by_cases h : x = v
      · exact .inr ⟨h1, h⟩
      · exact .inl ⟨h1, h2, by omega⟩
theorem colTo_asc {l : List Int} (h : l.Nodup) (v : Nat) : Asc (colTo l v) := by
  induction v with
  | zero => exact List.Pairwise.nil
  | succ v ih =>
    refine List.pairwise_append.2 ⟨ih, ?_, ?_⟩
    · have h2 : (colRow l (v : Int) l.length).Pairwise (· ≠ ·) := List.nodup_iff_pairwise_ne.1 ((h.sublist (List.take_sublist _ _)).sublist List.filter_sublist)
      refine h2.imp_of_mem ?_
      intro a b ha hb hne
      have ea := (colRow_mem.1 ha).2
      have eb := (colRow_mem.1 hb).2
      exact absurd (ea.trans eb.symm) hne
    · intro a ha b hb
      have h1 := (colTo_mem.1 ha).2.2
      have h2 := (colRow_mem.1 hb).2
      omega
theorem asc_nodup {l : List Int} (h : Asc l) : l.Nodup := List.nodup_iff_pairwise_ne.2 (h.imp fun {a b} hab => by omega)
theorem colTo_sort {l : List Int} (h : l.Nodup) {n : Nat} (hr : ∀ x, x ∈ l → 0 ≤ x ∧ x < n) : colTo l n = sortI l := by
  have h1 := colTo_asc h n
  have h2 := sortI_asc h
  have hp : (colTo l n).Perm (sortI l) := by
    refine (List.perm_ext_iff_of_nodup (asc_nodup h1) (asc_nodup h2)).2 fun x => ?_
    rw [colTo_mem, (sortI_perm l).mem_iff]
    exact ⟨fun hx => hx.1, fun hx => ⟨hx, hr x hx⟩⟩
  exact List.Perm.eq_of_pairwise (le := (· < ·)) (fun a b _ _ h h' => by omega) h1 h2 hp
theorem colTo_drawn (s : ByteArray) {n k : Nat} (h : k ≤ n) : colTo ((drawTo s n k).take k) n = drawn s n k :=
  colTo_sort ((drawTo_nodup s n k h).sublist (List.take_sublist _ _)) fun _ hx => (drawTo_mem h).1 (List.mem_of_mem_take hx)
end Go.Proofs.YtllofogjojlamaaDoor
