/-
  The stack machine of chapter 8 while it runs, plain.
-/
import Derived.Test.YtainohbfcehpoaaDoorMa2
namespace Go.Proofs.YtainohbfcehpoaaDoor

/-- A machine that runs: the next instruction, the stack (its top first), what is left of the input, the output. -/
structure Conf where
  pc : Nat
  st : List Int
  inp : List UInt8
  out : List UInt8
inductive Res where
  | go : Conf → Res
  | halt : Res
  | over : Res
def w64 (n : Int) : Int := IntKind.i64.wrap n
/-- What the stack's operations do. -/
def calcOp (o : Nat) (opd : Nat) : List Int → List Int
  | st => match o, st with
    | 0, st => (opd : Int) :: st
    | 1, a :: r => a :: a :: r
    | 2, b :: a :: r => a :: b :: r
    | 3, _ :: r => r
    | 4, b :: a :: r => w64 (a + b) :: r
    | 5, b :: a :: r => w64 (a - b) :: r
    | 6, b :: a :: r => (if a < b then 1 else 0) :: r
    | _, st => st
/-- To which instruction an operand leads. -/
def toOf (l : List Ins) (x : Ins) : Nat := if leadOp x.op then (idxOf l x.opd).getD 0 else 0
def stepM (l : List Ins) (c : Conf) : Res :=
  let x := l[c.pc]!
  match x.op with
  | 11 => .halt
  | 7 => .go { c with pc := toOf l x }
  | 8 => match c.st with
    | [] => .halt
    | a :: r => .go { c with pc := if a = 0 then c.pc + 1 else toOf l x, st := r }
  | 9 => match c.inp with
    | [] => .go { c with pc := c.pc + 1, st := -1 :: c.st }
    | b :: r => .go { c with pc := c.pc + 1, st := (b.toNat : Int) :: c.st, inp := r }
  | 10 => match c.st with
    | [] => .halt
    | a :: r => if c.out.length = 65536 then .over else .go { c with pc := c.pc + 1, st := r, out := c.out ++ [UInt8.ofNat (a % 256).toNat] }
  | o => .go { c with pc := c.pc + 1, st := calcOp o x.opd c.st }
/-- So many steps; the number of the next one. -/
def runM (l : List Ins) : Nat → Nat → Conf → Option (List UInt8 × Nat)
  | 0, _, _ => none
  | f + 1, n, c => match stepM l c with
    | .halt => some (c.out, n)
    | .over => none
    | .go c' => runM l f (n + 1) c'
/-- P8.1: what Run returns. -/
def runOf (l : List Ins) (inp : List UInt8) (most : Nat) : Option (List UInt8 × Nat) := runM l most 1 ⟨0, [], inp, []⟩
theorem afterOp_len {o d : Nat} : afterOp o d = d - takesOp o + putsOp o := rfl
theorem calc_len {o opd : Nat} {st : List Int} (h : o < 7) (ht : takesOp o ≤ st.length) : (calcOp o opd st).length = afterOp o st.length := by
  have ho : o = 0 ∨ o = 1 ∨ o = 2 ∨ o = 3 ∨ o = 4 ∨ o = 5 ∨ o = 6 := by omega
  rcases ho with rfl | rfl | rfl | rfl | rfl | rfl | rfl
  · simp [calcOp, afterOp, takesOp, putsOp]
  all_goals
    match st, ht with
    | [], ht => simp [takesOp] at ht
    | [a], ht => first | (simp [takesOp] at ht; done) | simp [calcOp, afterOp, takesOp, putsOp]
    | b :: a :: r, _ => simp [calcOp, afterOp, takesOp, putsOp]

/-- The operations are operations, and what leads leads to an instruction. -/
structure Form (l : List Ins) : Prop where
  ops : ∀ i, i < l.length → l[i]!.op < 12
  leads : ∀ i, i < l.length → leadOp l[i]!.op = true → ∃ j, idxOf l l[i]!.opd = some j
theorem Form.to {l : List Ins} (h : Form l) {i : Nat} (hi : i < l.length) (hl : leadOp l[i]!.op = true) : idxOf l l[i]!.opd = some (toOf l l[i]!) := by
  obtain ⟨j, hj⟩ := h.leads i hi hl
  rw [toOf, if_pos hl, hj]
  rfl
/-- A good program goes on being good. -/
theorem step_reach {l : List Ins} (hf : Form l) (hg : Good l) {c c' : Conf} (hr : Reach l c.pc c.st.length) (hs : stepM l c = .go c') : Reach l c'.pc c'.st.length := by
  have hin := hg.inside _ _ hr
  have ht := hg.takes _ _ hr
  have ho := hf.ops _ hin
  obtain ⟨pc, st, inp, out⟩ := c
  dsimp only at hr hin ht ho
  unfold stepM at hs
  dsimp only at hs
  have hto := hf.to hin
  generalize hx : l[pc]! = x at *
  have hnx : x.op ≠ 7 → x.op ≠ 11 → Reach l (pc + 1) (afterOp x.op st.length) := fun h7 h11 => by
    have := Reach.next hr hin (by rw [hx]; exact h7) (by rw [hx]; exact h11)
    rwa [hx] at this
  have hld : leadOp x.op = true → Reach l (toOf l x) (afterOp x.op st.length) := fun h => by
    have := Reach.lead hr hin (by rw [hx]; exact h) (by rw [hx]; exact hto h)
    rwa [hx] at this
  have hcases : x.op < 7 ∨ x.op = 7 ∨ x.op = 8 ∨ x.op = 9 ∨ x.op = 10 ∨ x.op = 11 := by omega
  rcases hcases with h | h | h | h | h | h
  · have hs' : Res.go ⟨pc + 1, calcOp x.op x.opd st, inp, out⟩ = Res.go c' := by
      rw [← hs]
      have h2 : x.op = 0 ∨ x.op = 1 ∨ x.op = 2 ∨ x.op = 3 ∨ x.op = 4 ∨ x.op = 5 ∨ x.op = 6 := by omega
      rcases h2 with h2 | h2 | h2 | h2 | h2 | h2 | h2 <;> rw [h2] <;> rfl
    injection hs' with hs'
    subst hs'
    show Reach l (pc + 1) (calcOp x.op x.opd st).length
    rw [calc_len h ht]
    exact hnx (by omega) (by omega)
  · rw [h] at hs
    injection hs with hs
    subst hs
    have := hld (by rw [h]; rfl)
    rw [h] at this
    exact this
  · rw [h] at hs ht hnx hld
    cases st with
    | nil => simp [takesOp] at ht
    | cons a r =>
      injection hs with hs
      subst hs
      by_cases ha : a = 0
      · show Reach l (if a = 0 then pc + 1 else toOf l x) r.length
        rw [if_pos ha]
        exact hnx (by omega) (by omega)
      · show Reach l (if a = 0 then pc + 1 else toOf l x) r.length
        rw [if_neg ha]
        exact hld rfl
  · rw [h] at hs hnx
    cases inp with
    | nil =>
      injection hs with hs
      subst hs
      exact hnx (by omega) (by omega)
    | cons b r =>
      injection hs with hs
      subst hs
      exact hnx (by omega) (by omega)
  · rw [h] at hs ht hnx
    cases st with
    | nil => simp [takesOp] at ht
    | cons a r =>
      change (if out.length = 65536 then Res.over else Res.go ⟨pc + 1, r, inp, out ++ [UInt8.ofNat (a % 256).toNat]⟩) = Res.go c' at hs
      by_cases hfull : out.length = 65536
      · rw [if_pos hfull] at hs
        cases hs
      · rw [if_neg hfull] at hs
        injection hs with hs
        subst hs
        exact hnx (by omega) (by omega)
  · rw [h] at hs
    cases hs
end Go.Proofs.YtainohbfcehpoaaDoor
