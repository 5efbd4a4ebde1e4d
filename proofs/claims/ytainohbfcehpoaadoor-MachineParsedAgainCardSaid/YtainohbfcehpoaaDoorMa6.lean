/-
  The programs that the reference makes are good. Plain.
-/
import Derived.Test.YtainohbfcehpoaaDoorMa5
namespace Go.Proofs.YtainohbfcehpoaaDoor

/-- What is asked of the entry number i. -/
def EOk (L : List Ent) (i : Nat) : Prop := ∀ x dd, L[i]? = some (x, dd) → (leadOp x.op = true → dd ≠ none) ∧ ∀ e, dd = some e → takesOp x.op ≤ e ∧ afterOp x.op e ≤ 16 ∧
  (x.op ≠ 7 → x.op ≠ 11 → ∃ y, L[i + 1]? = some (y, some (afterOp x.op e))) ∧ (leadOp x.op = true → ∃ (j : Nat) (y : Ins), L[j]? = some (y, some (afterOp x.op e)) ∧ y.off = x.opd)
theorem EOk.shift {C L : List Ent} {i : Nat} (h : EOk L i) : EOk (C ++ L) (C.length + i) := by
  intro x dd hx
  rw [List.getElem?_append_right (by omega), Nat.add_sub_cancel_left] at hx
  obtain ⟨h1, h2⟩ := h x dd hx
  refine ⟨h1, fun e he => ?_⟩
  obtain ⟨a, b, c, d⟩ := h2 e he
  refine ⟨a, b, fun h7 h11 => ?_, fun hl => ?_⟩
  · obtain ⟨y, hy⟩ := c h7 h11
    exact ⟨y, by rw [show C.length + i + 1 = C.length + (i + 1) from by omega, List.getElem?_append_right (by omega), Nat.add_sub_cancel_left]; exact hy⟩
  · obtain ⟨j, y, hy, ho⟩ := d hl
    exact ⟨C.length + j, y, by rw [List.getElem?_append_right (by omega), Nat.add_sub_cancel_left]; exact hy, ho⟩
theorem EOk.none {L : List Ent} {i : Nat} (h : L.length ≤ i) : EOk L i := fun x dd hx => by
  rw [List.getElem?_eq_none h] at hx
  cases hx
theorem chunkE_head (a d o n : Nat) : ∃ x t, chunkE a d o n = (x, some d) :: t ∧ x.off = a := by
  unfold chunkE
  split
  · exact ⟨_, _, rfl, rfl⟩
  · split
    · exact ⟨_, _, rfl, rfl⟩
    · exact ⟨_, _, rfl, rfl⟩
theorem madeE_head (ps : List (Nat × Nat)) (a d : Nat) : ∃ x t, madeE a d ps = (x, some d) :: t ∧ x.off = a := by
  cases ps with
  | nil => exact ⟨_, _, rfl, rfl⟩
  | cons p r =>
    obtain ⟨o, n⟩ := p
    obtain ⟨x, t, h1, h2⟩ := chunkE_head a d o n
    exact ⟨x, t ++ madeE (a + chunkN d o) (chunkD d o) r, by rw [madeE, h1]; rfl, h2⟩
theorem chunk_ok (a d o n : Nat) (hd : d ≤ 16) (h : Ins) (t : List Ent) (hh : h.off = a + chunkN d o) : ∀ i, i < (chunkE a d o n).length → EOk (chunkE a d o n ++ (h, some (chunkD d o)) :: t) i := by
  unfold chunkE chunkN chunkD at *
  by_cases h1 : o = 12 ∧ d < 15
  · rw [if_pos h1] at hh
    rw [if_pos h1, if_pos h1]
    obtain ⟨_, hd15⟩ := h1
    intro i hi x dd hx
    simp only [List.length_cons, List.length_nil] at hi
    have hi' : i = 0 ∨ i = 1 ∨ i = 2 ∨ i = 3 := by omega
    rcases hi' with rfl | rfl | rfl | rfl
    all_goals
      injection hx with hx
      injection hx with hx1 hx2
      subst hx1 hx2
    · exact ⟨fun _ => by simp, fun e he => by injection he with he; subst he; exact ⟨by simp [simI, takesOp], by simp [simI, afterOp, takesOp, putsOp]; omega, fun _ _ => ⟨_, rfl⟩, fun hl => by simp [simI, leadOp] at hl⟩⟩
    · exact ⟨fun _ => by simp, fun e he => by injection he with he; subst he; exact ⟨by simp [simI, takesOp], by simp [simI, afterOp, takesOp, putsOp]; omega, fun _ _ => ⟨_, rfl⟩, fun _ => ⟨4, h, rfl, by rw [hh]; rfl⟩⟩⟩
    · exact ⟨fun _ => by simp, fun e he => by injection he with he; subst he; exact ⟨by simp [simI, takesOp], by simp [simI, afterOp, takesOp, putsOp]; omega, fun _ _ => ⟨_, rfl⟩, fun hl => by simp [simI, leadOp] at hl⟩⟩
    · exact ⟨fun _ => by simp, fun e he => by injection he with he; subst he; exact ⟨by simp [simI, takesOp], by simp [simI, afterOp, takesOp, putsOp]; omega, fun _ _ => ⟨_, rfl⟩, fun hl => by simp [simI, leadOp] at hl⟩⟩
  · rw [if_neg h1] at hh
    rw [if_neg h1, if_neg h1]
    by_cases h2 : o = 13 ∧ d < 13
    · rw [if_pos h2] at hh
      rw [if_pos h2, if_pos h2]
      obtain ⟨_, hd13⟩ := h2
      intro i hi x dd hx
      simp only [List.length_cons, List.length_nil] at hi
      have hi' : i = 0 ∨ i = 1 ∨ i = 2 ∨ i = 3 ∨ i = 4 ∨ i = 5 ∨ i = 6 ∨ i = 7 ∨ i = 8 ∨ i = 9 ∨ i = 10 := by omega
      rcases hi' with rfl | rfl | rfl | rfl | rfl | rfl | rfl | rfl | rfl | rfl | rfl
      all_goals
        injection hx with hx
        injection hx with hx1 hx2
        subst hx1 hx2
      case inr.inr.inr.inr.inl => exact ⟨fun _ => by simp, fun e he => by injection he with he; subst he; exact ⟨by simp [simI, takesOp], by simp [simI, afterOp, takesOp, putsOp]; omega, fun _ _ => ⟨_, rfl⟩, fun _ => ⟨10, _, rfl, rfl⟩⟩⟩
      case inr.inr.inr.inr.inr.inr.inr.inr.inl => exact ⟨fun _ => by simp, fun e he => by injection he with he; subst he; exact ⟨by simp [simI, takesOp], by simp [simI, afterOp, takesOp, putsOp]; omega, fun h7 => absurd rfl h7, fun _ => ⟨0, _, rfl, rfl⟩⟩⟩
      case inr.inr.inr.inr.inr.inr.inr.inr.inr.inl => exact ⟨fun hl => by simp [simI, leadOp] at hl, fun e he => by cases he⟩
      all_goals exact ⟨fun _ => by simp, fun e he => by injection he with he; subst he; exact ⟨by simp [simI, takesOp], by simp [simI, afterOp, takesOp, putsOp]; omega, fun _ _ => ⟨_, rfl⟩, fun hl => by simp [simI, leadOp] at hl⟩⟩
    · rw [if_neg h2] at hh
      rw [if_neg h2, if_neg h2]
      obtain ⟨m1, m2, m3, m4, m5, m6⟩ := madeOp_ok (o := o) hd
      intro i hi x dd hx
      simp only [List.length_cons, List.length_nil] at hi
      obtain rfl : i = 0 := by omega
      injection hx with hx
      injection hx with hx1 hx2
      subst hx1 hx2
      have hl : leadOp (madeOp o d) = false := by simp [leadOp]; omega
      exact ⟨fun _ => by simp, fun e he => by injection he with he; subst he; exact ⟨m5, m6, fun _ _ => ⟨h, rfl⟩, fun hl2 => by rw [show (simI a (madeOp o d) n).op = madeOp o d from rfl, hl] at hl2; cases hl2⟩⟩
theorem made_ok : ∀ (ps : List (Nat × Nat)) (a d : Nat), d ≤ 16 → ∀ i, EOk (madeE a d ps) i
  | [], a, d, hd, i => by
    cases i with
    | zero =>
      intro x dd hx
      injection hx with hx
      injection hx with hx1 hx2
      subst hx1 hx2
      exact ⟨fun _ => by simp, fun e he => by injection he with he; subst he; exact ⟨by simp [simI, takesOp], by simp [simI, afterOp, takesOp, putsOp]; omega, fun _ h11 => absurd rfl h11, fun hl => by simp [simI, leadOp] at hl⟩⟩
    | succ i => exact EOk.none (by simp [madeE])
  | (o, n) :: r, a, d, hd, i => by
    rw [madeE]
    obtain ⟨h, t, e1, e2⟩ := madeE_head r (a + chunkN d o) (chunkD d o)
    by_cases hi : i < (chunkE a d o n).length
    · rw [e1]
      exact chunk_ok a d o n hd h t e2 i hi
    · obtain ⟨k, rfl⟩ : ∃ k, i = (chunkE a d o n).length + k := ⟨i - (chunkE a d o n).length, by omega⟩
      exact (made_ok r _ _ (chunkD_le o hd) k).shift
end Go.Proofs.YtainohbfcehpoaaDoor
