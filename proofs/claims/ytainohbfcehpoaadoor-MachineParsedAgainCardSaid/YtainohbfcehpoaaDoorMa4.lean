/-
  The offsets of instructions; when a program is good; the programs that the reference makes, plain.
-/
import Derived.Test.YtainohbfcehpoaaDoorMa3
namespace Go.Proofs.YtainohbfcehpoaaDoor

/-- The instructions of some bytes lie one behind the other. -/
inductive Laid : Nat → List Ins → Prop
  | nil (a : Nat) : Laid a []
  | cons {a : Nat} {x : Ins} {l : List Ins} (h : x.off = a) (ho : x.op < 12) (hr : Laid (a + if longOp x.op then 3 else 1) l) : Laid a (x :: l)
theorem dec_laid : ∀ (n : Nat) (bs : List UInt8), bs.length ≤ n → ∀ (a : Nat) (l : List Ins), dec a bs = some l → Laid a l
  | _, [], _, a, l, h => by
    rw [dec] at h
    injection h with h
    subst h
    exact .nil a
  | 0, _ :: _, h, _, _, _ => by simp at h
  | n + 1, [o], _, a, l, h => by
    rw [dec] at h
    split at h
    · cases h
    · split at h
      · cases h
      · rename_i h1 h2
        injection h with h
        subst h
        exact .cons rfl (by show o.toNat < 12; omega) (by simp only [h2]; exact .nil _)
  | n + 1, [o, b], hl, a, l, h => by
    rw [dec] at h
    split at h
    · cases h
    · split at h
      · cases h
      · rename_i h1 h2
        obtain ⟨r, hr, rfl⟩ := Option.map_eq_some_iff.1 h
        exact .cons rfl (by show o.toNat < 12; omega) (by simp only [h2]; exact dec_laid n [b] (by simp at hl ⊢; omega) _ _ hr)
  | n + 1, o :: b :: c :: r, hl, a, l, h => by
    rw [dec] at h
    split at h
    · cases h
    · rename_i h1
      split at h
      · rename_i h2
        obtain ⟨q, hq, rfl⟩ := Option.map_eq_some_iff.1 h
        exact .cons rfl (by show o.toNat < 12; omega) (by simp only [h2, if_true]; exact dec_laid n r (by simp at hl ⊢; omega) _ _ hq)
      · rename_i h2
        obtain ⟨q, hq, rfl⟩ := Option.map_eq_some_iff.1 h
        exact .cons rfl (by show o.toNat < 12; omega) (by simp only [h2]; exact dec_laid n (b :: c :: r) (by simp at hl ⊢; omega) _ _ hq)
theorem Laid.ge {a : Nat} {l : List Ins} (h : Laid a l) : ∀ x ∈ l, a ≤ x.off := by
  induction h with
  | nil => simp
  | cons h _ _ ih =>
    intro y hy
    rcases List.mem_cons.1 hy with rfl | hy
    · omega
    · have := ih y hy
      split at this <;> omega
theorem Laid.lt {a : Nat} {l : List Ins} (h : Laid a l) : ∀ i j, i < j → j < l.length → l[i]!.off < l[j]!.off := by
  induction h with
  | nil => intro i j _ hj; simp at hj
  | @cons a x l h _ hr ih =>
    intro i j hij hj
    obtain ⟨j, rfl⟩ : ∃ j', j = j' + 1 := ⟨j - 1, by omega⟩
    simp only [List.length_cons] at hj
    rw [List.getElem!_cons_succ]
    cases i with
    | zero =>
      rw [List.getElem!_cons_zero]
      have := hr.ge l[j]! (by rw [getElem!_pos l j (by omega)]; exact List.getElem_mem _)
      split at this <;> omega
    | succ i =>
      rw [List.getElem!_cons_succ]
      exact ih i j (by omega) (by omega)
theorem Laid.idx {a : Nat} {l : List Ins} (h : Laid a l) {j : Nat} (hj : j < l.length) : idxOf l l[j]!.off = some j := by
  unfold idxOf
  rw [List.findIdx?_eq_some_iff_getElem]
  refine ⟨hj, by rw [getElem!_pos l j hj]; simp, fun k hk => ?_⟩
  have := h.lt k j hk hj
  rw [getElem!_pos l k (by omega), getElem!_pos l j hj] at this
  rw [getElem!_pos l j hj]
  simp
  omega
theorem good_of_closed {l : List Ins} (dep : Nat → Option Nat) (h0 : dep 0 = some 0)
    (hc : ∀ i d, dep i = some d → i < l.length ∧ takesOp l[i]!.op ≤ d ∧ afterOp l[i]!.op d ≤ 16 ∧ (l[i]!.op ≠ 7 → l[i]!.op ≠ 11 → dep (i + 1) = some (afterOp l[i]!.op d)) ∧ (∀ j, leadOp l[i]!.op = true → idxOf l l[i]!.opd = some j → dep j = some (afterOp l[i]!.op d))) : Good l := by
  have ha : ∀ i d, Reach l i d → dep i = some d := by
    intro i d hr
    induction hr with
    | zero => exact h0
    | next _ _ h7 h11 ih => exact (hc _ _ ih).2.2.2.1 h7 h11
    | lead _ _ hl hj ih => exact (hc _ _ ih).2.2.2.2 _ hl hj
  refine ⟨fun i d hr => (hc i d (ha i d hr)).1, fun i d hr => (hc i d (ha i d hr)).2.1, fun i d hr => (hc i d (ha i d hr)).2.2.1, fun i d e h1 h2 => ?_⟩
  have := ha i d h1
  rw [ha i e h2] at this
  injection this with this
  exact this.symm
end Go.Proofs.YtainohbfcehpoaaDoor
