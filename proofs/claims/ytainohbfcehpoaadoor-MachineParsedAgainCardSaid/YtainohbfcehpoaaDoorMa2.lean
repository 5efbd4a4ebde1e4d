/-
  Worklists over a program's instructions: a step, and why a program is refused.
-/
import Derived.Test.YtainohbfcehpoaaDoorMa1
namespace Go.Proofs.YtainohbfcehpoaaDoor

/-- A step: instruction i is taken from the list. -/
theorem Marks.step {l : List Ins} {dep dep' : Nat → Option Nat} {todo todo' : List Nat} {m m' i d : Nat} (h : Marks l dep todo m) (hi : dep i = some d) (hin : i < l.length) (ht : takesOp l[i]!.op ≤ d) (hr : afterOp l[i]!.op d ≤ 16)
    (hext : ∀ k e, dep k = some e → dep' k = some e)
    (hnew : ∀ k e, dep' k = some e → dep k = some e ∨ (e = afterOp l[i]!.op d ∧ k ∈ todo' ∧ ((k = i + 1 ∧ l[i]!.op ≠ 7 ∧ l[i]!.op ≠ 11) ∨ (leadOp l[i]!.op = true ∧ idxOf l l[i]!.opd = some k))))
    (hnx : l[i]!.op ≠ 7 → l[i]!.op ≠ 11 → dep' (i + 1) = some (afterOp l[i]!.op d))
    (hld : ∀ j, leadOp l[i]!.op = true → idxOf l l[i]!.opd = some j → dep' j = some (afterOp l[i]!.op d))
    (hto : ∀ k ∈ todo, k = i ∨ k ∈ todo') (hto' : ∀ k ∈ todo', ∃ e, dep' k = some e)
    (hm : m ≤ m') (hmd : d ≤ m') (hma : afterOp l[i]!.op d ≤ m') : Marks l dep' todo' m' := by
  have hri := h.reach i d hi
  refine ⟨fun k e hk => ?_, hext _ _ h.zero, hto', fun k e hk hnk => ?_⟩
  · rcases hnew k e hk with hk | ⟨rfl, _, ⟨rfl, h7, h11⟩ | ⟨hl, hj⟩⟩
    · exact h.reach k e hk
    · exact .next hri hin h7 h11
    · exact .lead hri hin hl hj
  · rcases hnew k e hk with hold | ⟨_, hkt, _⟩
    · by_cases hki : k = i
      · subst hki
        rw [hi] at hold
        injection hold with hold
        subst hold
        exact ⟨hin, ht, hr, hmd, hma, hnx, hld⟩
      · have hkt : k ∉ todo := fun hkt => by
          rcases hto k hkt with e | e
          · exact hki e
          · exact hnk e
        obtain ⟨c1, c2, c3, c4, c5, c6, c7⟩ := h.closed k e hold hkt
        exact ⟨c1, c2, c3, by omega, by omega, fun a b => hext _ _ (c6 a b), fun j a b => hext _ _ (c7 j a b)⟩
    · exact absurd hkt hnk
/-- Why a program is not good. -/
theorem not_takes {l : List Ins} {i d : Nat} (hr : Reach l i d) (h : d < takesOp l[i]!.op) : ¬ Good l := fun g => by
  have := g.takes i d hr
  omega
theorem not_room {l : List Ins} {i d : Nat} (hr : Reach l i d) (h : 16 < afterOp l[i]!.op d) : ¬ Good l := fun g => by
  have := g.room i d hr
  omega
theorem not_end {l : List Ins} {i d : Nat} (hr : Reach l i d) (hin : i < l.length) (h7 : l[i]!.op ≠ 7) (h11 : l[i]!.op ≠ 11) (h : i + 1 = l.length) : ¬ Good l := fun g => by
  have := g.inside _ _ (.next hr hin h7 h11)
  omega
theorem not_next {l : List Ins} {i d e : Nat} (hr : Reach l i d) (hin : i < l.length) (h7 : l[i]!.op ≠ 7) (h11 : l[i]!.op ≠ 11) (hk : Reach l (i + 1) e) (h : e ≠ afterOp l[i]!.op d) : ¬ Good l := fun g =>
  h (g.one _ _ _ hk (.next hr hin h7 h11))
theorem not_lead {l : List Ins} {i d e j : Nat} (hr : Reach l i d) (hin : i < l.length) (hl : leadOp l[i]!.op = true) (hj : idxOf l l[i]!.opd = some j) (hk : Reach l j e) (h : e ≠ afterOp l[i]!.op d) : ¬ Good l := fun g =>
  h (g.one _ _ _ hk (.lead hr hin hl hj))
theorem idxOf_some {l : List Ins} {off j : Nat} (h : idxOf l off = some j) : j < l.length ∧ l[j]!.off = off := by
  unfold idxOf at h
  rw [List.findIdx?_eq_some_iff_getElem] at h
  obtain ⟨hj, h1, _⟩ := h
  exact ⟨hj, by rw [getElem!_pos l j hj]; simpa using h1⟩
/-- The depths as the code keeps them: -1 where nothing is known. -/
def depOf (ds : List Int) (i : Nat) : Option Nat := match ds[i]? with
  | some z => if z < 0 then none else some z.toNat
  | none => none
theorem depOf_set (ds : List Int) (i k v : Nat) (hi : i < ds.length) : depOf (ds.set i (v : Int)) k = if k = i then some v else depOf ds k := by
  unfold depOf
  rw [List.getElem?_set]
  by_cases e : k = i
  · subst e
    rw [if_pos rfl, if_pos hi, if_pos rfl]
    simp
  · rw [if_neg (fun c => e c.symm), if_neg e]
end Go.Proofs.YtainohbfcehpoaaDoor
