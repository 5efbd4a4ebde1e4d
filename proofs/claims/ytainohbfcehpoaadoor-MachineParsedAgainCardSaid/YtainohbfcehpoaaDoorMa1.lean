/-
  The stack machine of chapter 8, plain: instructions, programs that are well formed, what is reached, when a program is good.
-/
import Derived.Test.YtainohbfcehpoaaDoorBas0
namespace Go.Proofs.YtainohbfcehpoaaDoor

def longOp (o : Nat) : Bool := o == 0 || o == 7 || o == 8
def leadOp (o : Nat) : Bool := o == 7 || o == 8
def takesOp (o : Nat) : Nat := [0, 1, 2, 1, 2, 2, 2, 0, 1, 0, 1, 0].getD o 0
def putsOp (o : Nat) : Nat := [1, 2, 2, 0, 1, 1, 1, 0, 0, 1, 0, 0].getD o 0
/-- An instruction: its offset, its operation, its operand. -/
structure Ins where
  off : Nat
  op : Nat
  opd : Nat
deriving Inhabited
/-- The instructions of some bytes from an offset on. -/
def dec : Nat → List UInt8 → Option (List Ins)
  | _, [] => some []
  | at_, [o] => if 12 ≤ o.toNat then none else if longOp o.toNat then none else some [⟨at_, o.toNat, 0⟩]
  | at_, [o, h] => if 12 ≤ o.toNat then none else if longOp o.toNat then none else (dec (at_ + 1) [h]).map (⟨at_, o.toNat, 0⟩ :: ·)
  | at_, o :: h :: l :: r => if 12 ≤ o.toNat then none else if longOp o.toNat then (dec (at_ + 3) r).map (⟨at_, o.toNat, 256 * h.toNat + l.toNat⟩ :: ·) else (dec (at_ + 1) (h :: l :: r)).map (⟨at_, o.toNat, 0⟩ :: ·)
/-- The number of the instruction with an offset. -/
def idxOf (l : List Ins) (off : Nat) : Option Nat := l.findIdx? fun x => x.off == off
/-- P8.1: the instructions of a program that is well formed. -/
def formed (code : List UInt8) : Option (List Ins) :=
  if code = [] ∨ 1024 < code.length then none
  else match dec 0 code with
    | none => none
    | some l => if l.all fun x => !leadOp x.op || (idxOf l x.opd).isSome then some l else none
/-- The depth behind an instruction that is met at depth d. -/
def afterOp (o d : Nat) : Nat := d - takesOp o + putsOp o
/-- What is reached, and how deep. -/
inductive Reach (l : List Ins) : Nat → Nat → Prop
  | zero : Reach l 0 0
  | next {i d : Nat} : Reach l i d → i < l.length → l[i]!.op ≠ 7 → l[i]!.op ≠ 11 → Reach l (i + 1) (afterOp l[i]!.op d)
  | lead {i d j : Nat} : Reach l i d → i < l.length → leadOp l[i]!.op = true → idxOf l l[i]!.opd = some j → Reach l j (afterOp l[i]!.op d)
/-- A program is good: whatever is reached is an instruction, finds the numbers that it takes, leaves no more than 16, and is always found equally deep. -/
structure Good (l : List Ins) : Prop where
  inside : ∀ i d, Reach l i d → i < l.length
  takes : ∀ i d, Reach l i d → takesOp l[i]!.op ≤ d
  room : ∀ i d, Reach l i d → afterOp l[i]!.op d ≤ 16
  one : ∀ i d e, Reach l i d → Reach l i e → d = e
/-- The greatest depth. -/
structure MostOf (l : List Ins) (m : Nat) : Prop where
  le : ∀ i d, Reach l i d → d ≤ m ∧ afterOp l[i]!.op d ≤ m
  got : ∃ i d, Reach l i d ∧ (m = d ∨ m = afterOp l[i]!.op d)
theorem MostOf.unique {l : List Ins} {m n : Nat} (h : MostOf l m) (k : MostOf l n) : m = n := by
  obtain ⟨i, d, h1, h2⟩ := h.got
  obtain ⟨j, e, k1, k2⟩ := k.got
  have a := k.le i d h1
  have b := h.le j e k1
  omega

/-- Marks: what a worklist has found so far. -/
structure Marks (l : List Ins) (dep : Nat → Option Nat) (todo : List Nat) (m : Nat) : Prop where
  reach : ∀ i d, dep i = some d → Reach l i d
  zero : dep 0 = some 0
  known : ∀ i ∈ todo, ∃ d, dep i = some d
  closed : ∀ i d, dep i = some d → i ∉ todo →
    i < l.length ∧ takesOp l[i]!.op ≤ d ∧ afterOp l[i]!.op d ≤ 16 ∧ d ≤ m ∧ afterOp l[i]!.op d ≤ m ∧
    (l[i]!.op ≠ 7 → l[i]!.op ≠ 11 → dep (i + 1) = some (afterOp l[i]!.op d)) ∧
    (∀ j, leadOp l[i]!.op = true → idxOf l l[i]!.opd = some j → dep j = some (afterOp l[i]!.op d))
theorem Marks.all {l : List Ins} {dep : Nat → Option Nat} {m : Nat} (h : Marks l dep [] m) : ∀ i d, Reach l i d → dep i = some d := by
  intro i d hr
  induction hr with
  | zero => exact h.zero
  | next _ _ h7 h11 ih => exact (h.closed _ _ ih (by simp)).2.2.2.2.2.1 h7 h11
  | lead _ _ hl hj ih => exact (h.closed _ _ ih (by simp)).2.2.2.2.2.2 _ hl hj
theorem Marks.good {l : List Ins} {dep : Nat → Option Nat} {m : Nat} (h : Marks l dep [] m) : Good l := by
  have ha := h.all
  refine ⟨fun i d hr => (h.closed i d (ha i d hr) (by simp)).1, fun i d hr => (h.closed i d (ha i d hr) (by simp)).2.1, fun i d hr => (h.closed i d (ha i d hr) (by simp)).2.2.1, fun i d e h1 h2 => ?_⟩
  have := ha i d h1
  rw [ha i e h2] at this
  injection this with this
  exact this.symm
theorem Marks.most {l : List Ins} {dep : Nat → Option Nat} {m : Nat} (h : Marks l dep [] m) (hg : ∃ i d, Reach l i d ∧ (m = d ∨ m = afterOp l[i]!.op d)) : MostOf l m :=
  ⟨fun i d hr => ⟨(h.closed i d (h.all i d hr) (by simp)).2.2.2.1, (h.closed i d (h.all i d hr) (by simp)).2.2.2.2.1⟩, hg⟩
end Go.Proofs.YtainohbfcehpoaaDoor
