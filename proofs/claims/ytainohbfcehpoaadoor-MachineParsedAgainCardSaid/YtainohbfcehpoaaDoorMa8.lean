/-
  What the iterator over a program's instructions yields, plain.
-/
import Derived.Test.YtainohbfcehpoaaDoorMa7
namespace Go.Proofs.YtainohbfcehpoaaDoor

/-- Each instruction of some bytes, and whether it is one; nothing behind the first that is none. -/
def evSeq : Nat → List UInt8 → List (Ins × Bool)
  | _, [] => []
  | a, [o] => if 12 ≤ o.toNat then [(⟨a, o.toNat, 0⟩, false)] else if longOp o.toNat then [(⟨a, o.toNat, 0⟩, false)] else [(⟨a, o.toNat, 0⟩, true)]
  | a, [o, h] => if 12 ≤ o.toNat then [(⟨a, o.toNat, 0⟩, false)] else if longOp o.toNat then [(⟨a, o.toNat, 0⟩, false)] else (⟨a, o.toNat, 0⟩, true) :: evSeq (a + 1) [h]
  | a, o :: h :: l :: r => if 12 ≤ o.toNat then [(⟨a, o.toNat, 0⟩, false)] else if longOp o.toNat then (⟨a, o.toNat, 256 * h.toNat + l.toNat⟩, true) :: evSeq (a + 3) r else (⟨a, o.toNat, 0⟩, true) :: evSeq (a + 1) (h :: l :: r)
/-- A program whose bytes are instructions yields them all. -/
theorem evSeq_dec : ∀ (n : Nat) (bs : List UInt8), bs.length ≤ n → ∀ a : Nat, (∀ l, dec a bs = some l → evSeq a bs = l.map fun x => (x, true)) ∧ (dec a bs = none → ∃ (pre : List Ins) (x : Ins), evSeq a bs = pre.map (fun x => (x, true)) ++ [(x, false)])
  | _, [], _, a => ⟨fun l h => by rw [dec] at h; injection h with h; subst h; rfl, fun h => by rw [dec] at h; cases h⟩
  | 0, _ :: _, h, _ => by simp at h
  | n + 1, [o], _, a => by
    rw [dec, evSeq]
    by_cases h1 : 12 ≤ o.toNat
    · rw [if_pos h1, if_pos h1]
      exact ⟨fun l h => (by cases h), fun _ => ⟨[], _, rfl⟩⟩
    · rw [if_neg h1, if_neg h1]
      by_cases h2 : longOp o.toNat = true
      · rw [if_pos h2, if_pos h2]
        exact ⟨fun l h => (by cases h), fun _ => ⟨[], _, rfl⟩⟩
      · rw [if_neg h2, if_neg h2]
        exact ⟨fun l h => by injection h with h; subst h; rfl, fun h => by cases h⟩
  | n + 1, [o, b], hl, a => by
    rw [dec, evSeq]
    by_cases h1 : 12 ≤ o.toNat
    · rw [if_pos h1, if_pos h1]
      exact ⟨fun l h => (by cases h), fun _ => ⟨[], _, rfl⟩⟩
    · rw [if_neg h1, if_neg h1]
      by_cases h2 : longOp o.toNat = true
      · rw [if_pos h2, if_pos h2]
        exact ⟨fun l h => (by cases h), fun _ => ⟨[], _, rfl⟩⟩
      · rw [if_neg h2, if_neg h2]
        obtain ⟨i1, i2⟩ := evSeq_dec n [b] (by simp at hl ⊢; omega) (a + 1)
        refine ⟨fun l h => ?_, fun h => ?_⟩
        · obtain ⟨q, hq, rfl⟩ := Option.map_eq_some_iff.1 h
          rw [i1 q hq]
          rfl
        · obtain ⟨pre, x, hp⟩ := i2 (by simpa using h)
          exact ⟨⟨a, o.toNat, 0⟩ :: pre, x, by rw [hp]; rfl⟩
  | n + 1, o :: b :: c :: r, hl, a => by
    rw [dec, evSeq]
    by_cases h1 : 12 ≤ o.toNat
    · rw [if_pos h1, if_pos h1]
      exact ⟨fun l h => (by cases h), fun _ => ⟨[], _, rfl⟩⟩
    · rw [if_neg h1, if_neg h1]
      by_cases h2 : longOp o.toNat = true
      · rw [if_pos h2, if_pos h2]
        obtain ⟨i1, i2⟩ := evSeq_dec n r (by simp at hl ⊢; omega) (a + 3)
        refine ⟨fun l h => ?_, fun h => ?_⟩
        · obtain ⟨q, hq, rfl⟩ := Option.map_eq_some_iff.1 h
          rw [i1 q hq]
          rfl
        · obtain ⟨pre, x, hp⟩ := i2 (by simpa using h)
          exact ⟨⟨a, o.toNat, 256 * b.toNat + c.toNat⟩ :: pre, x, by rw [hp]; rfl⟩
      · rw [if_neg h2, if_neg h2]
        obtain ⟨i1, i2⟩ := evSeq_dec n (b :: c :: r) (by simp at hl ⊢; omega) (a + 1)
        refine ⟨fun l h => ?_, fun h => ?_⟩
        · obtain ⟨q, hq, rfl⟩ := Option.map_eq_some_iff.1 h
          rw [i1 q hq]
          rfl
        · obtain ⟨pre, x, hp⟩ := i2 (by simpa using h)
          exact ⟨⟨a, o.toNat, 0⟩ :: pre, x, by rw [hp]; rfl⟩
/-- One step of the iterator at offset a of a program. -/
inductive EvStep (code : List UInt8) (a : Nat) : (Ins × Bool) → Option Nat → Prop
  | bad (h : a < code.length) (ho : 12 ≤ (code[a]!).toNat) : EvStep code a (⟨a, (code[a]!).toNat, 0⟩, false) none
  | cut (h : a < code.length) (ho : (code[a]!).toNat < 12) (hl : longOp (code[a]!).toNat = true) (hc : code.length < a + 3) : EvStep code a (⟨a, (code[a]!).toNat, 0⟩, false) none
  | long (h : a < code.length) (ho : (code[a]!).toNat < 12) (hl : longOp (code[a]!).toNat = true) (hc : a + 3 ≤ code.length) : EvStep code a (⟨a, (code[a]!).toNat, 256 * (code[a + 1]!).toNat + (code[a + 2]!).toNat⟩, true) (some (a + 3))
  | short (h : a < code.length) (ho : (code[a]!).toNat < 12) (hl : longOp (code[a]!).toNat = false) : EvStep code a (⟨a, (code[a]!).toNat, 0⟩, true) (some (a + 1))
theorem drop_cons (code : List UInt8) (a : Nat) (h : a < code.length) : code.drop a = code[a]! :: code.drop (a + 1) := by
  rw [List.drop_eq_getElem_cons h, getElem!_pos code a h]
theorem evSeq_step (code : List UInt8) (a : Nat) (h : a < code.length) : ∃ e nx, EvStep code a e nx ∧ evSeq a (code.drop a) = e :: (match nx with | none => [] | some b => evSeq b (code.drop b)) := by
  rw [drop_cons code a h]
  by_cases h1 : 12 ≤ (code[a]!).toNat
  · refine ⟨_, _, .bad h h1, ?_⟩
    cases hr : code.drop (a + 1) with
    | nil => rw [evSeq, if_pos h1]
    | cons b r => cases r with
      | nil => rw [evSeq, if_pos h1]
      | cons c r => rw [evSeq, if_pos h1]
  · by_cases h2 : longOp (code[a]!).toNat = true
    · by_cases h3 : a + 3 ≤ code.length
      · refine ⟨_, _, .long h (by omega) h2 h3, ?_⟩
        rw [drop_cons code (a + 1) (by omega), drop_cons code (a + 2) (by omega), evSeq, if_neg h1, if_pos h2]
      · refine ⟨_, _, .cut h (by omega) h2 (by omega), ?_⟩
        have hl : (code.drop (a + 1)).length ≤ 1 := by simp; omega
        cases hr : code.drop (a + 1) with
        | nil => rw [evSeq, if_neg h1, if_pos h2]
        | cons b r => cases r with
          | nil => rw [evSeq, if_neg h1, if_pos h2]
          | cons c r => rw [hr] at hl; simp at hl
    · refine ⟨_, _, .short h (by omega) (by simpa using h2), ?_⟩
      cases hr : code.drop (a + 1) with
      | nil => (rw [evSeq, if_neg h1, if_neg h2]; dsimp only; rw [hr]; rfl)
      | cons b r => cases r with
        | nil => (rw [evSeq, if_neg h1, if_neg h2]; dsimp only; rw [hr])
        | cons c r => (rw [evSeq, if_neg h1, if_neg h2]; dsimp only; rw [hr])
end Go.Proofs.YtainohbfcehpoaaDoor
