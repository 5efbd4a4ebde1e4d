/-
  Plain laws of ComputerKeys: the early keys, the late ones, the program of four operations.
-/
import Derived.Test.YtkgbknjpnhoadaaGreatDoorCrB
namespace Go.Proofs.YtkgbknjpnhoadaaGreatDoor

theorem inOrder_pair : ∀ l : List Ev, inOrder l = true ↔ l.Pairwise (fun a b => a.t ≤ b.t)
  | [] => by simp [inOrder]
  | [x] => by simp [inOrder]
  | x :: y :: r => by
    rw [inOrder, Bool.and_eq_true, decide_eq_true_eq, inOrder_pair (y :: r), List.pairwise_cons (a := x)]
    constructor
    · rintro ⟨h1, h2⟩
      refine ⟨fun b hb => ?_, h2⟩
      rcases List.mem_cons.1 hb with rfl | hb
      · exact h1
      · exact Int.le_trans h1 ((List.pairwise_cons.1 h2).1 b hb)
    · rintro ⟨h1, h2⟩
      exact ⟨h1 y (by simp), h2⟩
/-- The keys among the first k that come ahead of the end. -/
def early (ks : List Ev) (m k : Nat) : List Ev := (ks.take k).filter fun e => decide (e.t < (m : Int))
theorem early_yes {ks : List Ev} {m k : Nat} (hk : k < ks.length) (h : ks[k]!.t < (m : Int)) : early ks m (k + 1) = early ks m k ++ [ks[k]!] := by
  unfold early
  rw [take_snoc ks k hk, List.filter_append, List.filter_cons_of_pos (by simpa using h), List.filter_nil]
theorem early_no {ks : List Ev} {m k : Nat} (hk : k < ks.length) (h : ¬ ks[k]!.t < (m : Int)) : early ks m (k + 1) = early ks m k := by
  unfold early
  rw [take_snoc ks k hk, List.filter_append, List.filter_cons_of_neg (by simpa using h), List.filter_nil, List.append_nil]
theorem early_len (ks : List Ev) (m k : Nat) : (early ks m k).length ≤ ks.length := by
  unfold early
  refine Nat.le_trans (List.length_filter_le _ _) ?_
  simp; omega
def shiftE (m : Nat) (e : Ev) : Ev := ⟨e.t + (m : Int), e.k, e.a, e.b⟩
def lateOf (E X : List Ev) (m k : Nat) : List Ev := E ++ (X.take k).map (shiftE m)
theorem late_snoc (E X : List Ev) (m k : Nat) (hk : k < X.length) : lateOf E X m (k + 1) = lateOf E X m k ++ [shiftE m X[k]!] := by
  unfold lateOf
  rw [take_snoc X k hk, List.map_append, List.append_assoc]
  rfl
theorem late_zero (E X : List Ev) (m : Nat) : lateOf E X m 0 = E := by unfold lateOf; simp
theorem late_len (E X : List Ev) (m k : Nat) : (lateOf E X m k).length ≤ E.length + X.length := by unfold lateOf; simp; omega
theorem early_ok {ks : List Ev} (h : TypedOk ks 1180) (m : Nat) : keysOk (early ks m ks.length) = true := by
  have hl := early_len ks m ks.length
  have h20 := h.len
  simp only [keysOk, Bool.and_eq_true, decide_eq_true_eq, List.all_eq_true]
  unfold early at hl ⊢
  rw [List.take_length] at hl ⊢
  exact ⟨⟨by omega, fun k hk => (h.all k (List.mem_filter.1 hk).1).1⟩, (inOrder_pair _).2 (((inOrder_pair _).1 h.ord).filter _)⟩
theorem late_ok {ks X : List Ev} (h : TypedOk ks 1180) (hX : TypedOk X 1180) (m : Nat) (hm : m ≤ 1500) : keysOk (lateOf (early ks m ks.length) X m X.length) = true := by
  have hl := early_len ks m ks.length
  have h20 := h.len
  have hx20 := hX.len
  have hE := early_ok h m
  simp only [keysOk, Bool.and_eq_true, decide_eq_true_eq, List.all_eq_true] at hE
  have hEt : ∀ e ∈ early ks m ks.length, e.t < (m : Int) := fun e he => by unfold early at he; simpa using (List.mem_filter.1 he).2
  unfold lateOf
  rw [List.take_length]
  simp only [keysOk, Bool.and_eq_true, decide_eq_true_eq, List.all_eq_true]
  have hXk : ∀ x ∈ X, keyOk (shiftE m x) = true ∧ (m : Int) ≤ (shiftE m x).t := fun x hx => by
    obtain ⟨h1, h2⟩ := hX.all x hx
    have h3 := keyOk_parts h1
    refine ⟨?_, by show (m : Int) ≤ x.t + (m : Int); omega⟩
    have h4 : x.k = 5 ∧ 0 ≤ x.t ∧ x.t ≤ 20000 ∧ 1 ≤ x.a ∧ x.a ≤ 255 ∧ x.b = 0 := h3
    simp [keyOk, shiftE, h4.1, h4.2.2.2.2.2]
    omega
  refine ⟨⟨by simp; omega, fun k hk => ?_⟩, (inOrder_pair _).2 (List.pairwise_append.2 ⟨(inOrder_pair _).1 hE.2, ?_, fun a ha b hb => ?_⟩)⟩
  · rcases List.mem_append.1 hk with hk | hk
    · exact hE.1.2 k hk
    · obtain ⟨x, hx, rfl⟩ := List.mem_map.1 hk
      exact (hXk x hx).1
  · refine List.pairwise_map.2 (((inOrder_pair _).1 hX.ord).imp ?_)
    intro a b hab
    show a.t + (m : Int) ≤ b.t + (m : Int)
    omega
  · obtain ⟨x, hx, rfl⟩ := List.mem_map.1 hb
    have h1 := hEt a ha
    have h2 := (hXk x hx).2
    omega
theorem late_perf {ks X : List Ev} (hX : TypedOk X 1180) (p d : List UInt8) (m : Nat) : perf p d (lateOf (early ks m ks.length) X m X.length) m = perf p d (early ks m ks.length) m := by
  unfold lateOf
  rw [List.take_length]
  refine perf_late p d _ _ m fun k hk => ?_
  obtain ⟨x, hx, rfl⟩ := List.mem_map.1 hk
  have h3 := keyOk_parts (hX.all x hx).1
  show (m : Int) ≤ x.t + (m : Int)
  omega
theorem str_at (l : List UInt8) (j : Nat) (h : j < (str l).size) : (str l)[j] = l[j]'(by rw [str_size] at h; exact h) := by
  show (str l).data[j]'_ = _
  simp [str]
/-- An operation, made one of HALT, LDI, TXT and PIX. -/
def q4 (o : Nat) : Nat := if 1 < o ∧ o ≠ 12 ∧ o ≠ 13 then 1 else o
def qOf (s : List UInt8) : Nat → List UInt8
  | 0 => []
  | k + 1 => qOf s k ++ [UInt8.ofNat (q4 (s.getD (2 * k) 0).toNat), 120]
theorem qOf_len (s : List UInt8) (k : Nat) : (qOf s k).length = 2 * k := by
  induction k with
  | zero => rfl
  | succ k ih => rw [qOf, List.length_append, ih]; rfl
theorem qOf_at (s : List UInt8) (j : Nat) : ∀ k, j < k → (qOf s k).getD (2 * j) 0 = UInt8.ofNat (q4 (s.getD (2 * j) 0).toNat)
  | 0, h => by omega
  | k + 1, h => by
    rw [qOf, List.getD_eq_getElem?_getD]
    by_cases e : j = k
    · subst e
      rw [List.getElem?_append_right (by rw [qOf_len]; omega), qOf_len, Nat.sub_self]
      rfl
    · rw [List.getElem?_append_left (by rw [qOf_len]; omega), ← List.getD_eq_getElem?_getD]
      exact qOf_at s j k (by omega)
theorem q4_in (o : Nat) : q4 o = 0 ∨ q4 o = 1 ∨ q4 o = 12 ∨ q4 o = 13 := by
  unfold q4
  split <;> omega
theorem plain4_q (s : List UInt8) (k : Nat) : Plain4 (loaded (qOf s k)) := by
  intro j
  unfold loaded
  rw [List.getD_eq_getElem?_getD]
  by_cases h : j < k
  · rw [List.getElem?_append_left (by rw [List.length_map, qOf_len]; omega), List.getElem?_map]
    have e := qOf_at s j k h
    have hj : 2 * j < (qOf s k).length := by rw [qOf_len]; omega
    rw [List.getD_eq_getElem?_getD, List.getElem?_eq_getElem hj] at e
    rw [List.getElem?_eq_getElem hj]
    have e' : (qOf s k)[2 * j] = UInt8.ofNat (q4 (s.getD (2 * j) 0).toNat) := e
    rw [e']
    rcases q4_in (s.getD (2 * j) 0).toNat with h | h | h | h <;> rw [h] <;> decide
  · left
    rw [List.getElem?_append_right (by rw [List.length_map, qOf_len]; omega)]
    generalize 2 * j - (List.map (fun x => x.toNat) (qOf s k)).length = i
    rw [List.getElem?_replicate]
    split <;> rfl
end Go.Proofs.YtkgbknjpnhoadaaGreatDoor
