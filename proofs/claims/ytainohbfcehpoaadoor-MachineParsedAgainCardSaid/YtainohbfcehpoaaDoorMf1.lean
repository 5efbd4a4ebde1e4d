/-
  The fixed examples of chapter 8, plain.
-/
import Derived.Test.YtainohbfcehpoaaDoorMe3
import Derived.Test.YtainohbfcehpoaaDoorMbE
namespace Go.Proofs.YtainohbfcehpoaaDoor
open Go.RowKit

def exT : List UInt8 := [105, 110, 10, 100, 117, 112, 10, 112, 117, 115, 104, 32, 48, 10, 108, 101, 115, 115, 10, 105, 102, 32, 55, 10, 111, 117, 116, 10, 106, 117, 109, 112, 32, 48, 10, 100, 114, 111, 112, 10, 104, 97, 108, 116, 10]
def exC : List UInt8 := [9, 1, 0, 0, 0, 6, 8, 0, 13, 10, 7, 0, 0, 3, 11]
def exL : List Ins := [⟨0, 9, 0⟩, ⟨1, 1, 0⟩, ⟨2, 0, 0⟩, ⟨5, 6, 0⟩, ⟨6, 8, 13⟩, ⟨9, 10, 0⟩, ⟨10, 7, 0⟩, ⟨13, 3, 0⟩, ⟨14, 11, 0⟩]
theorem ex_parse : parse8 exT = (exC, 0, 0) := by decide +kernel
theorem ex_formed : formed exC = some exL := by first | rfl | kernel_rfl
theorem ex_print : print8 exC = (exT, 0) := by
  obtain ⟨_, l, h1, h2⟩ := text_parse ex_parse
  unfold print8
  rw [h1]
  dsimp only
  rw [h2]
theorem ex_parse2 : parse8 [104, 97, 108, 116, 10, 106, 117, 109, 112, 32, 50, 10] = ([], 2, 80) := by decide +kernel
/-- What is reached is marked. -/
theorem dep_of_reach {l : List Ins} (dep : Nat → Option Nat) (h0 : dep 0 = some 0)
    (hc : ∀ i d, dep i = some d → i < l.length ∧ takesOp l[i]!.op ≤ d ∧ afterOp l[i]!.op d ≤ 16 ∧ (l[i]!.op ≠ 7 → l[i]!.op ≠ 11 → dep (i + 1) = some (afterOp l[i]!.op d)) ∧ (∀ j, leadOp l[i]!.op = true → idxOf l l[i]!.opd = some j → dep j = some (afterOp l[i]!.op d))) : ∀ i d, Reach l i d → dep i = some d := by
  intro i d hr
  induction hr with
  | zero => exact h0
  | next _ _ h7 h11 ih => exact (hc _ _ ih).2.2.2.1 h7 h11
  | lead _ _ hl hj ih => exact (hc _ _ ih).2.2.2.2 _ hl hj
def exDep (i : Nat) : Option Nat := [some 0, some 1, some 2, some 3, some 2, some 1, some 0, some 1, some 0].getD i none
theorem ex_closed : ∀ i d, exDep i = some d → i < exL.length ∧ takesOp exL[i]!.op ≤ d ∧ afterOp exL[i]!.op d ≤ 16 ∧ (exL[i]!.op ≠ 7 → exL[i]!.op ≠ 11 → exDep (i + 1) = some (afterOp exL[i]!.op d)) ∧ (∀ j, leadOp exL[i]!.op = true → idxOf exL exL[i]!.opd = some j → exDep j = some (afterOp exL[i]!.op d)) := by
  intro i d h
  have hi : i < 9 := by
    rcases Nat.lt_or_ge i 9 with h1 | h1
    · exact h1
    · unfold exDep at h
      rw [List.getD_eq_getElem?_getD, List.getElem?_eq_none (by simpa using h1)] at h
      cases h
  have h9 : i = 0 ∨ i = 1 ∨ i = 2 ∨ i = 3 ∨ i = 4 ∨ i = 5 ∨ i = 6 ∨ i = 7 ∨ i = 8 := by omega
  rcases h9 with rfl | rfl | rfl | rfl | rfl | rfl | rfl | rfl | rfl
  all_goals
    injection h with h
    subst h
    refine ⟨by decide, by decide, by decide, fun h7 h11 => ?_, fun j hl hj => ?_⟩
  all_goals first
    | rfl
    | exact absurd rfl h7
    | exact absurd rfl h11
    | exact absurd hl (by decide)
    | (have e := hj.symm.trans (show idxOf exL exL[4]!.opd = some 7 from rfl); injection e with e; subst e; rfl)
    | (have e := hj.symm.trans (show idxOf exL exL[6]!.opd = some 0 from rfl); injection e with e; subst e; rfl)
theorem ex_good : Good exL := good_of_closed exDep rfl ex_closed
theorem ex_most : MostOf exL 3 := by
  refine ⟨fun i d hr => ?_, 3, 3, ?_, .inl rfl⟩
  · have h := dep_of_reach exDep rfl ex_closed i d hr
    have hi : i < 9 := by have := (ex_closed i d h).1; exact this
    have h9 : i = 0 ∨ i = 1 ∨ i = 2 ∨ i = 3 ∨ i = 4 ∨ i = 5 ∨ i = 6 ∨ i = 7 ∨ i = 8 := by omega
    rcases h9 with rfl | rfl | rfl | rfl | rfl | rfl | rfl | rfl | rfl
    all_goals
      injection h with h
      subst h
      decide
  · have r1 : Reach exL 1 1 := Reach.next (i := 0) .zero (by decide) (by decide) (by decide)
    have r2 : Reach exL 2 2 := Reach.next (i := 1) r1 (by decide) (by decide) (by decide)
    exact Reach.next (i := 2) r2 (by decide) (by decide) (by decide)
theorem ex_run1 : runOf exL [104, 105] 1000 = some ([104, 105], 21) := by decide +kernel
theorem ex_run2 : runOf exL [104, 105] 20 = none := by decide +kernel
theorem ex_bad1 : ∀ l, formed [4, 11] = some l → ¬ Good l := by
  intro l h
  have e : formed [4, 11] = some [⟨0, 4, 0⟩, ⟨1, 11, 0⟩] := rfl
  rw [e] at h
  injection h with h
  subst h
  exact not_takes (i := 0) (d := 0) .zero (by decide)
theorem ex_bad2 : ∀ l, formed [0, 0, 1, 7, 0, 0] = some l → ¬ Good l := by
  intro l h
  have e : formed [0, 0, 1, 7, 0, 0] = some [⟨0, 0, 1⟩, ⟨3, 7, 0⟩] := rfl
  rw [e] at h
  injection h with h
  subst h
  intro g
  have r1 : Reach [⟨0, 0, 1⟩, ⟨3, 7, 0⟩] 1 1 := Reach.next (i := 0) .zero (by decide) (by decide) (by decide)
  have r2 : Reach [⟨0, 0, 1⟩, ⟨3, 7, 0⟩] 0 1 := Reach.lead (i := 1) r1 (by decide) (by decide) rfl
  exact absurd (g.one 0 0 1 .zero r2) (by decide)
end Go.Proofs.YtainohbfcehpoaaDoor
