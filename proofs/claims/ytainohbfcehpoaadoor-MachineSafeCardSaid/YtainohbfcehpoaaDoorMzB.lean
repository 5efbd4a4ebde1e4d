/-
  The stack machine of chapter 8, plain: instructions, programs that are well formed, what is reached, when a program is good.
  Worklists over a program's instructions: a step, and why a program is refused.
  The stack machine of chapter 8 while it runs, plain.
  The offsets of instructions; when a program is good; the programs that the reference makes, plain.
  The programs that the reference makes (Made): they are well formed and good. Plain.
  The programs that the reference makes are good. Plain.
  The programs that the reference makes are well formed and good; general laws of formed. Plain.
  What the iterator over a program's instructions yields, plain.
  Texts, plain: numerals, a text divided at a byte, what strings.Cut and strconv.Atoi give. (General; cut out of CqT and Txt.)
-/
import Derived.Test.YtainohbfcehpoaaDoorMzA
import Derived.Lib.AtoiTie
import Derived.Lib.ItoaNum
import Derived.Lib.IndexMore
import Derived.Lib.SplitLaws
namespace Go.Proofs.YtainohbfcehpoaaDoor

def longOp (o : Nat) : Bool := o == 0 || o == 7 || o == 8
def leadOp (o : Nat) : Bool := o == 7 || o == 8
def takesOp (o : Nat) : Nat := [0, 1, 2, 1, 2, 2, 2, 0, 1, 0, 1, 0].getD o 0
def putsOp (o : Nat) : Nat := [1, 2, 2, 0, 1, 1, 1, 0, 0, 1, 0, 0].getD o 0
/-- An instruction: its offset, its operation, its operand. -/
structure Ins where
  off : Nat
  op : Nat
  opd : Nat
deriving Inhabited
/-- The instructions of some bytes from an offset on. -/
def dec : Nat → List UInt8 → Option (List Ins)
  | _, [] => some []
  | at_, [o] => if 12 ≤ o.toNat then none else if longOp o.toNat then none else some [⟨at_, o.toNat, 0⟩]
  | at_, [o, h] => if 12 ≤ o.toNat then none else if longOp o.toNat then none else (dec (at_ + 1) [h]).map (⟨at_, o.toNat, 0⟩ :: ·)
  | at_, o :: h :: l :: r => if 12 ≤ o.toNat then none else if longOp o.toNat then (dec (at_ + 3) r).map (⟨at_, o.toNat, 256 * h.toNat + l.toNat⟩ :: ·) else (dec (at_ + 1) (h :: l :: r)).map (⟨at_, o.toNat, 0⟩ :: ·)
/-- The number of the instruction with an offset. -/
def idxOf (l : List Ins) (off : Nat) : Option Nat := l.findIdx? fun x => x.off == off
/-- P8.1: the instructions of a program that is well formed. -/
def formed (code : List UInt8) : Option (List Ins) :=
  if code = [] ∨ 1024 < code.length then none
  else match dec 0 code with
    | none => none
    | some l => if l.all fun x => !leadOp x.op || (idxOf l x.opd).isSome then some l else none
/-- The depth behind an instruction that is met at depth d. -/
def afterOp (o d : Nat) : Nat := d - takesOp o + putsOp o
/-- What is reached, and how deep. -/
inductive Reach (l : List Ins) : Nat → Nat → Prop
  | zero : Reach l 0 0
  | next {i d : Nat} : Reach l i d → i < l.length → l[i]!.op ≠ 7 → l[i]!.op ≠ 11 → Reach l (i + 1) (afterOp l[i]!.op d)
  | lead {i d j : Nat} : Reach l i d → i < l.length → leadOp l[i]!.op = true → idxOf l l[i]!.opd = some j → Reach l j (afterOp l[i]!.op d)
/-- A program is good: whatever is reached is an instruction, finds the numbers that it takes, leaves no more than 16, and is always found equally deep. -/
structure Good (l : List Ins) : Prop where
  inside : ∀ i d, Reach l i d → i < l.length
  takes : ∀ i d, Reach l i d → takesOp l[i]!.op ≤ d
  room : ∀ i d, Reach l i d → afterOp l[i]!.op d ≤ 16
  one : ∀ i d e, Reach l i d → Reach l i e → d = e
/-- The greatest depth. -/
structure MostOf (l : List Ins) (m : Nat) : Prop where
  le : ∀ i d, Reach l i d → d ≤ m ∧ afterOp l[i]!.op d ≤ m
  got : ∃ i d, Reach l i d ∧ (m = d ∨ m = afterOp l[i]!.op d)
theorem MostOf.unique {l : List Ins} {m n : Nat} (h : MostOf l m) (k : MostOf l n) : m = n := by
  obtain ⟨i, d, h1, h2⟩ := h.got
  obtain ⟨j, e, k1, k2⟩ := k.got
  have a := k.le i d h1
  have b := h.le j e k1
  omega

/-- Marks: what a worklist has found so far. -/
structure Marks (l : List Ins) (dep : Nat → Option Nat) (todo : List Nat) (m : Nat) : Prop where
  reach : ∀ i d, dep i = some d → Reach l i d
  zero : dep 0 = some 0
  known : ∀ i ∈ todo, ∃ d, dep i = some d
  closed : ∀ i d, dep i = some d → i ∉ todo →
    i < l.length ∧ takesOp l[i]!.op ≤ d ∧ afterOp l[i]!.op d ≤ 16 ∧ d ≤ m ∧ afterOp l[i]!.op d ≤ m ∧
    (l[i]!.op ≠ 7 → l[i]!.op ≠ 11 → dep (i + 1) = some (afterOp l[i]!.op d)) ∧
    (∀ j, leadOp l[i]!.op = true → idxOf l l[i]!.opd = some j → dep j = some (afterOp l[i]!.op d))
theorem Marks.all {l : List Ins} {dep : Nat → Option Nat} {m : Nat} (h : Marks l dep [] m) : ∀ i d, Reach l i d → dep i = some d := by
  intro i d hr
  induction hr with
  | zero => exact h.zero
  | next _ _ h7 h11 ih => exact (h.closed _ _ ih (by simp)).2.2.2.2.2.1 h7 h11
  | lead _ _ hl hj ih => exact (h.closed _ _ ih (by simp)).2.2.2.2.2.2 _ hl hj
theorem Marks.good {l : List Ins} {dep : Nat → Option Nat} {m : Nat} (h : Marks l dep [] m) : Good l := by
  have ha := h.all
  refine ⟨fun i d hr => (h.closed i d (ha i d hr) (by simp)).1, fun i d hr => (h.closed i d (ha i d hr) (by simp)).2.1, fun i d hr => (h.closed i d (ha i d hr) (by simp)).2.2.1, fun i d e h1 h2 => ?_⟩
  have := ha i d h1
  rw [ha i e h2] at this
  injection this with this
  exact this.symm
theorem Marks.most {l : List Ins} {dep : Nat → Option Nat} {m : Nat} (h : Marks l dep [] m) (hg : ∃ i d, Reach l i d ∧ (m = d ∨ m = afterOp l[i]!.op d)) : MostOf l m :=
  ⟨fun i d hr => ⟨(h.closed i d (h.all i d hr) (by simp)).2.2.2.1, (h.closed i d (h.all i d hr) (by simp)).2.2.2.2.1⟩, hg⟩
end Go.Proofs.YtainohbfcehpoaaDoor
namespace Go.Proofs.YtainohbfcehpoaaDoor

/-- A step: instruction i is taken from the list. -/
theorem Marks.step {l : List Ins} {dep dep' : Nat → Option Nat} {todo todo' : List Nat} {m m' i d : Nat} (h : Marks l dep todo m) (hi : dep i = some d) (hin : i < l.length) (ht : takesOp l[i]!.op ≤ d) (hr : afterOp l[i]!.op d ≤ 16)
    (hext : ∀ k e, dep k = some e → dep' k = some e)
    (hnew : ∀ k e, dep' k = some e → dep k = some e ∨ (e = afterOp l[i]!.op d ∧ k ∈ todo' ∧ ((k = i + 1 ∧ l[i]!.op ≠ 7 ∧ l[i]!.op ≠ 11) ∨ (leadOp l[i]!.op = true ∧ idxOf l l[i]!.opd = some k))))
    (hnx : l[i]!.op ≠ 7 → l[i]!.op ≠ 11 → dep' (i + 1) = some (afterOp l[i]!.op d))
    (hld : ∀ j, leadOp l[i]!.op = true → idxOf l l[i]!.opd = some j → dep' j = some (afterOp l[i]!.op d))
    (hto : ∀ k ∈ todo, k = i ∨ k ∈ todo') (hto' : ∀ k ∈ todo', ∃ e, dep' k = some e)
    (hm : m ≤ m') (hmd : d ≤ m') (hma : afterOp l[i]!.op d ≤ m') : Marks l dep' todo' m' := by
  have hri := h.reach i d hi
  refine ⟨fun k e hk => ?_, hext _ _ h.zero, hto', fun k e hk hnk => ?_⟩
  · rcases hnew k e hk with hk | ⟨rfl, _, ⟨rfl, h7, h11⟩ | ⟨hl, hj⟩⟩
    · exact h.reach k e hk
    · exact .next hri hin h7 h11
    · exact .lead hri hin hl hj
  · rcases hnew k e hk with hold | ⟨_, hkt, _⟩
    · by_cases hki : k = i
      · subst hki
        rw [hi] at hold
        injection hold with hold
        subst hold
        exact ⟨hin, ht, hr, hmd, hma, hnx, hld⟩
      · have hkt : k ∉ todo := fun hkt => by
          rcases hto k hkt with e | e
          · exact hki e
          · exact hnk e
        obtain ⟨c1, c2, c3, c4, c5, c6, c7⟩ := h.closed k e hold hkt
        exact ⟨c1, c2, c3, by omega, by omega, fun a b => hext _ _ (c6 a b), fun j a b => hext _ _ (c7 j a b)⟩
    · exact absurd hkt hnk
/-- Why a program is not good. -/
theorem not_takes {l : List Ins} {i d : Nat} (hr : Reach l i d) (h : d < takesOp l[i]!.op) : ¬ Good l := fun g => by
  have := g.takes i d hr
  omega
theorem not_room {l : List Ins} {i d : Nat} (hr : Reach l i d) (h : 16 < afterOp l[i]!.op d) : ¬ Good l := fun g => by
  have := g.room i d hr
  omega
theorem not_end {l : List Ins} {i d : Nat} (hr : Reach l i d) (hin : i < l.length) (h7 : l[i]!.op ≠ 7) (h11 : l[i]!.op ≠ 11) (h : i + 1 = l.length) : ¬ Good l := fun g => by
  have := g.inside _ _ (.next hr hin h7 h11)
  omega
theorem not_next {l : List Ins} {i d e : Nat} (hr : Reach l i d) (hin : i < l.length) (h7 : l[i]!.op ≠ 7) (h11 : l[i]!.op ≠ 11) (hk : Reach l (i + 1) e) (h : e ≠ afterOp l[i]!.op d) : ¬ Good l := fun g =>
  h (g.one _ _ _ hk (.next hr hin h7 h11))
theorem not_lead {l : List Ins} {i d e j : Nat} (hr : Reach l i d) (hin : i < l.length) (hl : leadOp l[i]!.op = true) (hj : idxOf l l[i]!.opd = some j) (hk : Reach l j e) (h : e ≠ afterOp l[i]!.op d) : ¬ Good l := fun g =>
  h (g.one _ _ _ hk (.lead hr hin hl hj))
theorem idxOf_some {l : List Ins} {off j : Nat} (h : idxOf l off = some j) : j < l.length ∧ l[j]!.off = off := by
  unfold idxOf at h
  rw [List.findIdx?_eq_some_iff_getElem] at h
  obtain ⟨hj, h1, _⟩ := h
  exact ⟨hj, by rw [getElem!_pos l j hj]; simpa using h1⟩
/-- The depths as the code keeps them: -1 where nothing is known. -/
def depOf (ds : List Int) (i : Nat) : Option Nat := match ds[i]? with
  | some z => if z < 0 then none else some z.toNat
  | none => none
theorem depOf_set (ds : List Int) (i k v : Nat) (hi : i < ds.length) : depOf (ds.set i (v : Int)) k = if k = i then some v else depOf ds k := by
  unfold depOf
  rw [List.getElem?_set]
  by_cases e : k = i
  · subst e
    rw [if_pos rfl, if_pos hi, if_pos rfl]
    simp
  · rw [if_neg (fun c => e c.symm), if_neg e]
end Go.Proofs.YtainohbfcehpoaaDoor
namespace Go.Proofs.YtainohbfcehpoaaDoor

/-- A machine that runs: the next instruction, the stack (its top first), what is left of the input, the output. -/
structure Conf where
  pc : Nat
  st : List Int
  inp : List UInt8
  out : List UInt8
inductive Res where
  | go : Conf → Res
  | halt : Res
  | over : Res
def w64 (n : Int) : Int := IntKind.i64.wrap n
/-- What the stack's operations do. -/
def calcOp (o : Nat) (opd : Nat) : List Int → List Int
  | st => match o, st with
    | 0, st => (opd : Int) :: st
    | 1, a :: r => a :: a :: r
    | 2, b :: a :: r => a :: b :: r
    | 3, _ :: r => r
    | 4, b :: a :: r => w64 (a + b) :: r
    | 5, b :: a :: r => w64 (a - b) :: r
    | 6, b :: a :: r => (if a < b then 1 else 0) :: r
    | _, st => st
/-- To which instruction an operand leads. -/
def toOf (l : List Ins) (x : Ins) : Nat := if leadOp x.op then (idxOf l x.opd).getD 0 else 0
def stepM (l : List Ins) (c : Conf) : Res :=
  let x := l[c.pc]!
  match x.op with
  | 11 => .halt
  | 7 => .go { c with pc := toOf l x }
  | 8 => match c.st with
    | [] => .halt
    | a :: r => .go { c with pc := if a = 0 then c.pc + 1 else toOf l x, st := r }
  | 9 => match c.inp with
    | [] => .go { c with pc := c.pc + 1, st := -1 :: c.st }
    | b :: r => .go { c with pc := c.pc + 1, st := (b.toNat : Int) :: c.st, inp := r }
  | 10 => match c.st with
    | [] => .halt
    | a :: r => if c.out.length = 65536 then .over else .go { c with pc := c.pc + 1, st := r, out := c.out ++ [UInt8.ofNat (a % 256).toNat] }
  | o => .go { c with pc := c.pc + 1, st := calcOp o x.opd c.st }
/-- So many steps; the number of the next one. -/
def runM (l : List Ins) : Nat → Nat → Conf → Option (List UInt8 × Nat)
  | 0, _, _ => none
  | f + 1, n, c => match stepM l c with
    | .halt => some (c.out, n)
    | .over => none
    | .go c' => runM l f (n + 1) c'
/-- P8.1: what Run returns. -/
def runOf (l : List Ins) (inp : List UInt8) (most : Nat) : Option (List UInt8 × Nat) := runM l most 1 ⟨0, [], inp, []⟩
theorem afterOp_len {o d : Nat} : afterOp o d = d - takesOp o + putsOp o := rfl
theorem calc_len {o opd : Nat} {st : List Int} (h : o < 7) (ht : takesOp o ≤ st.length) : (calcOp o opd st).length = afterOp o st.length := by
  have ho : o = 0 ∨ o = 1 ∨ o = 2 ∨ o = 3 ∨ o = 4 ∨ o = 5 ∨ o = 6 := by omega
  rcases ho with rfl | rfl | rfl | rfl | rfl | rfl | rfl
  · simp [calcOp, afterOp, takesOp, putsOp]
  all_goals
    match st, ht with
    | [], ht => simp [takesOp] at ht
    | [a], ht => first | (simp [takesOp] at ht; done) | simp [calcOp, afterOp, takesOp, putsOp]
    | b :: a :: r, _ => simp [calcOp, afterOp, takesOp, putsOp]

/-- The operations are operations, and what leads leads to an instruction. -/
structure Form (l : List Ins) : Prop where
  ops : ∀ i, i < l.length → l[i]!.op < 12
  leads : ∀ i, i < l.length → leadOp l[i]!.op = true → ∃ j, idxOf l l[i]!.opd = some j
theorem Form.to {l : List Ins} (h : Form l) {i : Nat} (hi : i < l.length) (hl : leadOp l[i]!.op = true) : idxOf l l[i]!.opd = some (toOf l l[i]!) := by
  obtain ⟨j, hj⟩ := h.leads i hi hl
  rw [toOf, if_pos hl, hj]
  rfl
/-- A good program goes on being good. -/
theorem step_reach {l : List Ins} (hf : Form l) (hg : Good l) {c c' : Conf} (hr : Reach l c.pc c.st.length) (hs : stepM l c = .go c') : Reach l c'.pc c'.st.length := by
  have hin := hg.inside _ _ hr
  have ht := hg.takes _ _ hr
  have ho := hf.ops _ hin
  obtain ⟨pc, st, inp, out⟩ := c
  dsimp only at hr hin ht ho
  unfold stepM at hs
  dsimp only at hs
  have hto := hf.to hin
  generalize hx : l[pc]! = x at *
  have hnx : x.op ≠ 7 → x.op ≠ 11 → Reach l (pc + 1) (afterOp x.op st.length) := fun h7 h11 => by
    have := Reach.next hr hin (by rw [hx]; exact h7) (by rw [hx]; exact h11)
    rwa [hx] at this
  have hld : leadOp x.op = true → Reach l (toOf l x) (afterOp x.op st.length) := fun h => by
    have := Reach.lead hr hin (by rw [hx]; exact h) (by rw [hx]; exact hto h)
    rwa [hx] at this
  have hcases : x.op < 7 ∨ x.op = 7 ∨ x.op = 8 ∨ x.op = 9 ∨ x.op = 10 ∨ x.op = 11 := by omega
  rcases hcases with h | h | h | h | h | h
  · have hs' : Res.go ⟨pc + 1, calcOp x.op x.opd st, inp, out⟩ = Res.go c' := by
      rw [← hs]
      have h2 : x.op = 0 ∨ x.op = 1 ∨ x.op = 2 ∨ x.op = 3 ∨ x.op = 4 ∨ x.op = 5 ∨ x.op = 6 := by omega
      rcases h2 with h2 | h2 | h2 | h2 | h2 | h2 | h2 <;> rw [h2] <;> rfl
    injection hs' with hs'
    subst hs'
    show Reach l (pc + 1) (calcOp x.op x.opd st).length
    rw [calc_len h ht]
    exact hnx (by omega) (by omega)
  · rw [h] at hs
    injection hs with hs
    subst hs
    have := hld (by rw [h]; rfl)
    rw [h] at this
    exact this
  · rw [h] at hs ht hnx hld
    cases st with
    | nil => simp [takesOp] at ht
    | cons a r =>
      injection hs with hs
      subst hs
      by_cases ha : a = 0
      · show Reach l (if a = 0 then pc + 1 else toOf l x) r.length
        rw [if_pos ha]
        exact hnx (by omega) (by omega)
      · show Reach l (if a = 0 then pc + 1 else toOf l x) r.length
        rw [if_neg ha]
        exact hld rfl
  · rw [h] at hs hnx
    cases inp with
    | nil =>
      injection hs with hs
      subst hs
      exact hnx (by omega) (by omega)
    | cons b r =>
      injection hs with hs
      subst hs
      exact hnx (by omega) (by omega)
  · rw [h] at hs ht hnx
    cases st with
    | nil => simp [takesOp] at ht
    | cons a r =>
      change (if out.length = 65536 then Res.over else Res.go ⟨pc + 1, r, inp, out ++ [UInt8.ofNat (a % 256).toNat]⟩) = Res.go c' at hs
      by_cases hfull : out.length = 65536
      · rw [if_pos hfull] at hs
        cases hs
      · rw [if_neg hfull] at hs
        injection hs with hs
        subst hs
        exact hnx (by omega) (by omega)
  · rw [h] at hs
    cases hs
end Go.Proofs.YtainohbfcehpoaaDoor
namespace Go.Proofs.YtainohbfcehpoaaDoor

/-- The instructions of some bytes lie one behind the other. -/
inductive Laid : Nat → List Ins → Prop
  | nil (a : Nat) : Laid a []
  | cons {a : Nat} {x : Ins} {l : List Ins} (h : x.off = a) (ho : x.op < 12) (hr : Laid (a + if longOp x.op then 3 else 1) l) : Laid a (x :: l)
theorem dec_laid : ∀ (n : Nat) (bs : List UInt8), bs.length ≤ n → ∀ (a : Nat) (l : List Ins), dec a bs = some l → Laid a l
  | _, [], _, a, l, h => by
    rw [dec] at h
    injection h with h
    subst h
    exact .nil a
  | 0, _ :: _, h, _, _, _ => by simp at h
  | n + 1, [o], _, a, l, h => by
    rw [dec] at h
    split at h
    · cases h
    · split at h
      · cases h
      · rename_i h1 h2
        injection h with h
        subst h
        exact .cons rfl (by show o.toNat < 12; omega) (by simp only [h2]; exact .nil _)
  | n + 1, [o, b], hl, a, l, h => by
    rw [dec] at h
    split at h
    · cases h
    · split at h
      · cases h
      · rename_i h1 h2
        obtain ⟨r, hr, rfl⟩ := Option.map_eq_some_iff.1 h
        exact .cons rfl (by show o.toNat < 12; omega) (by simp only [h2]; exact dec_laid n [b] (by simp at hl ⊢; omega) _ _ hr)
  | n + 1, o :: b :: c :: r, hl, a, l, h => by
    rw [dec] at h
    split at h
    · cases h
    · rename_i h1
      split at h
      · rename_i h2
        obtain ⟨q, hq, rfl⟩ := Option.map_eq_some_iff.1 h
        exact .cons rfl (by show o.toNat < 12; omega) (by simp only [h2, if_true]; exact dec_laid n r (by simp at hl ⊢; omega) _ _ hq)
      · rename_i h2
        obtain ⟨q, hq, rfl⟩ := Option.map_eq_some_iff.1 h
        exact .cons rfl (by show o.toNat < 12; omega) (by simp only [h2]; exact dec_laid n (b :: c :: r) (by simp at hl ⊢; omega) _ _ hq)
theorem Laid.ge {a : Nat} {l : List Ins} (h : Laid a l) : ∀ x ∈ l, a ≤ x.off := by
  induction h with
  | nil => simp
  | cons h _ _ ih =>
    intro y hy
    rcases List.mem_cons.1 hy with rfl | hy
    · omega
    · have := ih y hy
      split at this <;> omega
theorem Laid.lt {a : Nat} {l : List Ins} (h : Laid a l) : ∀ i j, i < j → j < l.length → l[i]!.off < l[j]!.off := by
  induction h with
  | nil => intro i j _ hj; simp at hj
  | @cons a x l h _ hr ih =>
    intro i j hij hj
    obtain ⟨j, rfl⟩ : ∃ j', j = j' + 1 := ⟨j - 1, by omega⟩
    simp only [List.length_cons] at hj
    rw [List.getElem!_cons_succ]
    cases i with
    | zero =>
      rw [List.getElem!_cons_zero]
      have := hr.ge l[j]! (by rw [getElem!_pos l j (by omega)]; exact List.getElem_mem _)
      split at this <;> omega
    | succ i =>
      rw [List.getElem!_cons_succ]
      exact ih i j (by omega) (by omega)
theorem Laid.idx {a : Nat} {l : List Ins} (h : Laid a l) {j : Nat} (hj : j < l.length) : idxOf l l[j]!.off = some j := by
  unfold idxOf
  rw [List.findIdx?_eq_some_iff_getElem]
  refine ⟨hj, by rw [getElem!_pos l j hj]; simp, fun k hk => ?_⟩
  have := h.lt k j hk hj
  rw [getElem!_pos l k (by omega), getElem!_pos l j hj] at this
  rw [getElem!_pos l j hj]
  simp
  omega
theorem good_of_closed {l : List Ins} (dep : Nat → Option Nat) (h0 : dep 0 = some 0)
    (hc : ∀ i d, dep i = some d → i < l.length ∧ takesOp l[i]!.op ≤ d ∧ afterOp l[i]!.op d ≤ 16 ∧ (l[i]!.op ≠ 7 → l[i]!.op ≠ 11 → dep (i + 1) = some (afterOp l[i]!.op d)) ∧ (∀ j, leadOp l[i]!.op = true → idxOf l l[i]!.opd = some j → dep j = some (afterOp l[i]!.op d))) : Good l := by
  have ha : ∀ i d, Reach l i d → dep i = some d := by
    intro i d hr
    induction hr with
    | zero => exact h0
    | next _ _ h7 h11 ih => exact (hc _ _ ih).2.2.2.1 h7 h11
    | lead _ _ hl hj ih => exact (hc _ _ ih).2.2.2.2 _ hl hj
  refine ⟨fun i d hr => (hc i d (ha i d hr)).1, fun i d hr => (hc i d (ha i d hr)).2.1, fun i d hr => (hc i d (ha i d hr)).2.2.1, fun i d e h1 h2 => ?_⟩
  have := ha i d h1
  rw [ha i e h2] at this
  injection this with this
  exact this.symm
end Go.Proofs.YtainohbfcehpoaaDoor
namespace Go.Proofs.YtainohbfcehpoaaDoor

/-- The bytes of an instruction. -/
def simB (o n : Nat) : List UInt8 := if longOp o then [UInt8.ofNat o, UInt8.ofNat (n / 256), UInt8.ofNat (n % 256)] else [UInt8.ofNat o]
def simLen (o : Nat) : Nat := if longOp o then 3 else 1
theorem simB_len (o n : Nat) : (simB o n).length = simLen o := by unfold simB simLen; split <;> rfl
def simI (a o n : Nat) : Ins := ⟨a, o, if longOp o then n else 0⟩
theorem dec_sim (a o n : Nat) (r : List UInt8) (ho : o < 12) (hn : n < 65536) : dec a (simB o n ++ r) = (dec (a + simLen o) r).map (simI a o n :: ·) := by
  have e1 : (UInt8.ofNat o).toNat = o := by rw [UInt8.toNat_ofNat']; omega
  have e2 : (UInt8.ofNat (n / 256)).toNat = n / 256 := by rw [UInt8.toNat_ofNat']; omega
  have e3 : (UInt8.ofNat (n % 256)).toNat = n % 256 := by rw [UInt8.toNat_ofNat']; omega
  unfold simB simLen simI
  by_cases hl : longOp o = true
  · rw [if_pos hl, if_pos hl, if_pos hl, List.cons_append, List.cons_append, List.cons_append, List.nil_append, dec, e1, e2, e3, if_neg (by omega), if_pos hl, show 256 * (n / 256) + n % 256 = n from by omega]
  · have hl' : longOp o = false := by simpa using hl
    rw [if_neg hl, if_neg hl, if_neg hl, List.cons_append, List.nil_append]
    match r with
    | [] =>
      conv => lhs; rw [dec, e1, if_neg (show ¬ 12 ≤ o by omega), hl']
      rw [dec]
      rfl
    | [b] =>
      conv => lhs; rw [dec, e1, if_neg (show ¬ 12 ≤ o by omega), hl']
      rfl
    | b :: c :: r =>
      conv => lhs; rw [dec, e1, if_neg (show ¬ 12 ≤ o by omega), hl']
      rfl

def madeOp (o d : Nat) : Nat := if 12 ≤ o ∨ o = 7 ∨ o = 8 ∨ o = 11 ∨ d < takesOp o ∨ 16 < afterOp o d then (if d = 16 then 10 else 9) else o
theorem madeOp_ok {o d : Nat} (hd : d ≤ 16) : madeOp o d < 12 ∧ madeOp o d ≠ 7 ∧ madeOp o d ≠ 8 ∧ madeOp o d ≠ 11 ∧ takesOp (madeOp o d) ≤ d ∧ afterOp (madeOp o d) d ≤ 16 := by
  unfold madeOp
  split
  · split
    · subst_vars; decide
    · rename_i h1 h2
      refine ⟨by decide, by decide, by decide, by decide, by simp [takesOp], by simp [afterOp, takesOp, putsOp]; omega⟩
  · omega
/-- A part of a program: its instructions, each with the depth at which it is met. -/
abbrev Ent := Ins × Option Nat
def chunkB (a d o n : Nat) : List UInt8 :=
  if o = 12 ∧ d < 15 then simB 0 (n % 2) ++ (simB 8 (a + 10) ++ (simB 0 n ++ simB 10 0))
  else if o = 13 ∧ d < 13 then simB 9 0 ++ (simB 1 0 ++ (simB 0 0 ++ (simB 6 0 ++ (simB 8 (a + 18) ++ (simB 0 n ++ (simB 4 0 ++ (simB 10 0 ++ (simB 7 a ++ (simB 4 0 ++ simB 3 0)))))))))
  else simB (madeOp o d) n
def chunkE (a d o n : Nat) : List Ent :=
  if o = 12 ∧ d < 15 then [(simI a 0 (n % 2), some d), (simI (a + 3) 8 (a + 10), some (d + 1)), (simI (a + 6) 0 n, some d), (simI (a + 9) 10 0, some (d + 1))]
  else if o = 13 ∧ d < 13 then [(simI a 9 0, some d), (simI (a + 1) 1 0, some (d + 1)), (simI (a + 2) 0 0, some (d + 2)), (simI (a + 5) 6 0, some (d + 3)), (simI (a + 6) 8 (a + 18), some (d + 2)), (simI (a + 9) 0 n, some (d + 1)), (simI (a + 12) 4 0, some (d + 2)), (simI (a + 13) 10 0, some (d + 1)), (simI (a + 14) 7 a, some d), (simI (a + 17) 4 0, none), (simI (a + 18) 3 0, some (d + 1))]
  else [(simI a (madeOp o d) n, some d)]
def chunkN (d o : Nat) : Nat := if o = 12 ∧ d < 15 then 10 else if o = 13 ∧ d < 13 then 19 else simLen (madeOp o d)
def chunkD (d o : Nat) : Nat := if o = 12 ∧ d < 15 then d else if o = 13 ∧ d < 13 then d else afterOp (madeOp o d) d
theorem chunkB_len (a d o n : Nat) : (chunkB a d o n).length = chunkN d o := by
  unfold chunkB chunkN
  split
  · simp [simB_len, simLen, longOp]
  · split
    · simp [simB_len, simLen, longOp]
    · exact simB_len _ _
theorem chunkN_le (d o : Nat) : 1 ≤ chunkN d o ∧ chunkN d o ≤ 19 := by
  unfold chunkN simLen
  split
  · omega
  · split
    · omega
    · split <;> omega
theorem chunkD_le {d : Nat} (o : Nat) (hd : d ≤ 16) : chunkD d o ≤ 16 := by
  unfold chunkD
  split
  · exact hd
  · split
    · exact hd
    · exact (madeOp_ok hd).2.2.2.2.2
theorem dec_chunk (a d o n : Nat) (r : List UInt8) (hd : d ≤ 16) (ha : a ≤ 2000) (hn : n < 300) : dec a (chunkB a d o n ++ r) = (dec (a + chunkN d o) r).map (((chunkE a d o n).map (·.1)) ++ ·) := by
  unfold chunkB chunkE chunkN
  by_cases h1 : o = 12 ∧ d < 15
  · rw [if_pos h1, if_pos h1, if_pos h1]
    simp only [List.append_assoc]
    rw [dec_sim _ _ _ _ (by omega) (by omega), dec_sim _ _ _ _ (by omega) (by omega), dec_sim _ _ _ _ (by omega) (by omega), dec_sim _ _ _ _ (by omega) (by omega)]
    simp only [Option.map_map]
    rfl
  · rw [if_neg h1, if_neg h1, if_neg h1]
    by_cases h2 : o = 13 ∧ d < 13
    · rw [if_pos h2, if_pos h2, if_pos h2]
      simp only [List.append_assoc]
      rw [dec_sim _ _ _ _ (by omega) (by omega), dec_sim _ _ _ _ (by omega) (by omega), dec_sim _ _ _ _ (by omega) (by omega), dec_sim _ _ _ _ (by omega) (by omega), dec_sim _ _ _ _ (by omega) (by omega), dec_sim _ _ _ _ (by omega) (by omega), dec_sim _ _ _ _ (by omega) (by omega), dec_sim _ _ _ _ (by omega) (by omega), dec_sim _ _ _ _ (by omega) (by omega), dec_sim _ _ _ _ (by omega) (by omega), dec_sim _ _ _ _ (by omega) (by omega)]
      simp only [Option.map_map]
      rfl
    · rw [if_neg h2, if_neg h2, if_neg h2, dec_sim _ _ _ _ (madeOp_ok hd).1 (by omega)]
      rfl
def madeB : Nat → Nat → List (Nat × Nat) → List UInt8
  | _, _, [] => [11]
  | a, d, (o, n) :: r => chunkB a d o n ++ madeB (a + chunkN d o) (chunkD d o) r
def madeE : Nat → Nat → List (Nat × Nat) → List Ent
  | a, d, [] => [(simI a 11 0, some d)]
  | a, d, (o, n) :: r => chunkE a d o n ++ madeE (a + chunkN d o) (chunkD d o) r
theorem madeB_len : ∀ (ps : List (Nat × Nat)) (a d : Nat), (madeB a d ps).length ≤ 19 * ps.length + 1
  | [], _, _ => by simp [madeB]
  | (o, n) :: r, a, d => by
    have := madeB_len r (a + chunkN d o) (chunkD d o)
    have := chunkN_le d o
    rw [madeB, List.length_append, chunkB_len, List.length_cons]
    omega
theorem dec_made : ∀ (ps : List (Nat × Nat)) (a d : Nat), d ≤ 16 → a + 19 * ps.length ≤ 2000 → (∀ p ∈ ps, p.2 < 300) → dec a (madeB a d ps) = some ((madeE a d ps).map (·.1))
  | [], a, d, _, _, _ => by simp [madeB, madeE, dec, simI, longOp]
  | (o, n) :: r, a, d, hd, ha, hp => by
    have hN := chunkN_le d o
    simp only [List.length_cons] at ha
    rw [madeB, madeE, dec_chunk a d o n _ hd (by omega) (hp (o, n) (by simp)), dec_made r _ _ (chunkD_le o hd) (by omega) (fun p h => hp p (by simp [h])), List.map_append]
    rfl
end Go.Proofs.YtainohbfcehpoaaDoor
namespace Go.Proofs.YtainohbfcehpoaaDoor

/-- What is asked of the entry number i. -/
def EOk (L : List Ent) (i : Nat) : Prop := ∀ x dd, L[i]? = some (x, dd) → (leadOp x.op = true → dd ≠ none) ∧ ∀ e, dd = some e → takesOp x.op ≤ e ∧ afterOp x.op e ≤ 16 ∧
  (x.op ≠ 7 → x.op ≠ 11 → ∃ y, L[i + 1]? = some (y, some (afterOp x.op e))) ∧ (leadOp x.op = true → ∃ (j : Nat) (y : Ins), L[j]? = some (y, some (afterOp x.op e)) ∧ y.off = x.opd)
theorem EOk.shift {C L : List Ent} {i : Nat} (h : EOk L i) : EOk (C ++ L) (C.length + i) := by
  intro x dd hx
  rw [List.getElem?_append_right (by omega), Nat.add_sub_cancel_left] at hx
  obtain ⟨h1, h2⟩ := h x dd hx
  refine ⟨h1, fun e he => ?_⟩
  obtain ⟨a, b, c, d⟩ := h2 e he
  refine ⟨a, b, fun h7 h11 => ?_, fun hl => ?_⟩
  · obtain ⟨y, hy⟩ := c h7 h11
    exact ⟨y, by rw [show C.length + i + 1 = C.length + (i + 1) from by omega, List.getElem?_append_right (by omega), Nat.add_sub_cancel_left]; exact hy⟩
  · obtain ⟨j, y, hy, ho⟩ := d hl
    exact ⟨C.length + j, y, by rw [List.getElem?_append_right (by omega), Nat.add_sub_cancel_left]; exact hy, ho⟩
theorem EOk.none {L : List Ent} {i : Nat} (h : L.length ≤ i) : EOk L i := fun x dd hx => by
  rw [List.getElem?_eq_none h] at hx
  cases hx
theorem chunkE_head (a d o n : Nat) : ∃ x t, chunkE a d o n = (x, some d) :: t ∧ x.off = a := by
  unfold chunkE
  split
  · exact ⟨_, _, rfl, rfl⟩
  · split
    · exact ⟨_, _, rfl, rfl⟩
    · exact ⟨_, _, rfl, rfl⟩
theorem madeE_head (ps : List (Nat × Nat)) (a d : Nat) : ∃ x t, madeE a d ps = (x, some d) :: t ∧ x.off = a := by
  cases ps with
  | nil => exact ⟨_, _, rfl, rfl⟩
  | cons p r =>
    obtain ⟨o, n⟩ := p
    obtain ⟨x, t, h1, h2⟩ := chunkE_head a d o n
    exact ⟨x, t ++ madeE (a + chunkN d o) (chunkD d o) r, by rw [madeE, h1]; rfl, h2⟩
theorem chunk_ok (a d o n : Nat) (hd : d ≤ 16) (h : Ins) (t : List Ent) (hh : h.off = a + chunkN d o) : ∀ i, i < (chunkE a d o n).length → EOk (chunkE a d o n ++ (h, some (chunkD d o)) :: t) i := by
  unfold chunkE chunkN chunkD at *
  by_cases h1 : o = 12 ∧ d < 15
  · rw [if_pos h1] at hh
    rw [if_pos h1, if_pos h1]
    obtain ⟨_, hd15⟩ := h1
    intro i hi x dd hx
    simp only [List.length_cons, List.length_nil] at hi
    have hi' : i = 0 ∨ i = 1 ∨ i = 2 ∨ i = 3 := by omega
    rcases hi' with rfl | rfl | rfl | rfl
    all_goals
      injection hx with hx
      injection hx with hx1 hx2
      subst hx1 hx2
    · exact ⟨fun _ => by simp, fun e he => by injection he with he; subst he; exact ⟨by simp [simI, takesOp], by simp [simI, afterOp, takesOp, putsOp]; omega, fun _ _ => ⟨_, rfl⟩, fun hl => by simp [simI, leadOp] at hl⟩⟩
    · exact ⟨fun _ => by simp, fun e he => by injection he with he; subst he; exact ⟨by simp [simI, takesOp], by simp [simI, afterOp, takesOp, putsOp]; omega, fun _ _ => ⟨_, rfl⟩, fun _ => ⟨4, h, rfl, by rw [hh]; rfl⟩⟩⟩
    · exact ⟨fun _ => by simp, fun e he => by injection he with he; subst he; exact ⟨by simp [simI, takesOp], by simp [simI, afterOp, takesOp, putsOp]; omega, fun _ _ => ⟨_, rfl⟩, fun hl => by simp [simI, leadOp] at hl⟩⟩
    · exact ⟨fun _ => by simp, fun e he => by injection he with he; subst he; exact ⟨by simp [simI, takesOp], by simp [simI, afterOp, takesOp, putsOp]; omega, fun _ _ => ⟨_, rfl⟩, fun hl => by simp [simI, leadOp] at hl⟩⟩
  · rw [if_neg h1] at hh
    rw [if_neg h1, if_neg h1]
    by_cases h2 : o = 13 ∧ d < 13
    · rw [if_pos h2] at hh
      rw [if_pos h2, if_pos h2]
      obtain ⟨_, hd13⟩ := h2
      intro i hi x dd hx
      simp only [List.length_cons, List.length_nil] at hi
      have hi' : i = 0 ∨ i = 1 ∨ i = 2 ∨ i = 3 ∨ i = 4 ∨ i = 5 ∨ i = 6 ∨ i = 7 ∨ i = 8 ∨ i = 9 ∨ i = 10 := by omega
      rcases hi' with rfl | rfl | rfl | rfl | rfl | rfl | rfl | rfl | rfl | rfl | rfl
      all_goals
        injection hx with hx
        injection hx with hx1 hx2
        subst hx1 hx2
      case inr.inr.inr.inr.inl => exact ⟨fun _ => by simp, fun e he => by injection he with he; subst he; exact ⟨by simp [simI, takesOp], by simp [simI, afterOp, takesOp, putsOp]; omega, fun _ _ => ⟨_, rfl⟩, fun _ => ⟨10, _, rfl, rfl⟩⟩⟩
      case inr.inr.inr.inr.inr.inr.inr.inr.inl => exact ⟨fun _ => by simp, fun e he => by injection he with he; subst he; exact ⟨by simp [simI, takesOp], by simp [simI, afterOp, takesOp, putsOp]; omega, fun h7 => absurd rfl h7, fun _ => ⟨0, _, rfl, rfl⟩⟩⟩
      case inr.inr.inr.inr.inr.inr.inr.inr.inr.inl => exact ⟨fun hl => by simp [simI, leadOp] at hl, fun e he => by cases he⟩
      all_goals exact ⟨fun _ => by simp, fun e he => by injection he with he; subst he; exact ⟨by simp [simI, takesOp], by simp [simI, afterOp, takesOp, putsOp]; omega, fun _ _ => ⟨_, rfl⟩, fun hl => by simp [simI, leadOp] at hl⟩⟩
    · rw [if_neg h2] at hh
      rw [if_neg h2, if_neg h2]
      obtain ⟨m1, m2, m3, m4, m5, m6⟩ := madeOp_ok (o := o) hd
      intro i hi x dd hx
      simp only [List.length_cons, List.length_nil] at hi
      obtain rfl : i = 0 := by omega
      injection hx with hx
      injection hx with hx1 hx2
      subst hx1 hx2
      have hl : leadOp (madeOp o d) = false := by simp [leadOp]; omega
      exact ⟨fun _ => by simp, fun e he => by injection he with he; subst he; exact ⟨m5, m6, fun _ _ => ⟨h, rfl⟩, fun hl2 => by rw [show (simI a (madeOp o d) n).op = madeOp o d from rfl, hl] at hl2; cases hl2⟩⟩
theorem made_ok : ∀ (ps : List (Nat × Nat)) (a d : Nat), d ≤ 16 → ∀ i, EOk (madeE a d ps) i
  | [], a, d, hd, i => by
    cases i with
    | zero =>
      intro x dd hx
      injection hx with hx
      injection hx with hx1 hx2
      subst hx1 hx2
      exact ⟨fun _ => by simp, fun e he => by injection he with he; subst he; exact ⟨by simp [simI, takesOp], by simp [simI, afterOp, takesOp, putsOp]; omega, fun _ h11 => absurd rfl h11, fun hl => by simp [simI, leadOp] at hl⟩⟩
    | succ i => exact EOk.none (by simp [madeE])
  | (o, n) :: r, a, d, hd, i => by
    rw [madeE]
    obtain ⟨h, t, e1, e2⟩ := madeE_head r (a + chunkN d o) (chunkD d o)
    by_cases hi : i < (chunkE a d o n).length
    · rw [e1]
      exact chunk_ok a d o n hd h t e2 i hi
    · obtain ⟨k, rfl⟩ : ∃ k, i = (chunkE a d o n).length + k := ⟨i - (chunkE a d o n).length, by omega⟩
      exact (made_ok r _ _ (chunkD_le o hd) k).shift
end Go.Proofs.YtainohbfcehpoaaDoor
namespace Go.Proofs.YtainohbfcehpoaaDoor

theorem Laid.ops {a : Nat} {l : List Ins} (h : Laid a l) : ∀ i, i < l.length → l[i]!.op < 12 := by
  induction h with
  | nil => intro i hi; simp at hi
  | @cons a x l _ ho _ ih =>
    intro i hi
    cases i with
    | zero => exact ho
    | succ i =>
      rw [List.getElem!_cons_succ]
      exact ih i (by simpa using hi)
theorem formed_parts {code : List UInt8} {l : List Ins} (h : formed code = some l) : code ≠ [] ∧ code.length ≤ 1024 ∧ dec 0 code = some l ∧ Laid 0 l ∧ Form l := by
  unfold formed at h
  split at h
  · cases h
  · rename_i h1
    cases hd : dec 0 code with
    | none => rw [hd] at h; cases h
    | some l' =>
      rw [hd] at h
      dsimp only at h
      split at h
      · rename_i h2
        injection h with h
        subst h
        have hL := dec_laid _ code (Nat.le_refl _) _ _ hd
        refine ⟨fun e => h1 (.inl e), by omega, rfl, hL, hL.ops, fun i hi hl => ?_⟩
        rw [List.all_eq_true] at h2
        have h3 := h2 l'[i]! (by rw [getElem!_pos l' i hi]; exact List.getElem_mem hi)
        rw [hl] at h3
        exact Option.isSome_iff_exists.1 (by simpa using h3)
      · cases h
theorem formed_mk {code : List UInt8} {l : List Ins} (h1 : code ≠ []) (h2 : code.length ≤ 1024) (h3 : dec 0 code = some l) (h4 : ∀ i, i < l.length → leadOp l[i]!.op = true → ∃ j, idxOf l l[i]!.opd = some j) : formed code = some l := by
  unfold formed
  rw [if_neg (by rintro (h | h); exact h1 h; omega), h3]
  dsimp only
  rw [if_pos]
  rw [List.all_eq_true]
  intro x hx
  obtain ⟨i, hi, rfl⟩ := List.getElem_of_mem hx
  cases hl : leadOp l[i].op with
  | false => rfl
  | true =>
    obtain ⟨j, hj⟩ := h4 i hi (by rw [getElem!_pos l i hi]; exact hl)
    rw [getElem!_pos l i hi] at hj
    rw [hj]
    rfl
theorem made_formed (ps : List (Nat × Nat)) (hl : ps.length ≤ 40) (hp : ∀ p ∈ ps, p.2 < 300) : formed (madeB 0 0 ps) = some ((madeE 0 0 ps).map (·.1)) ∧ Good ((madeE 0 0 ps).map (·.1)) := by
  have hd := dec_made ps 0 0 (by omega) (by omega) hp
  have hL := dec_laid _ _ (Nat.le_refl _) _ _ hd
  have hlen := madeB_len ps 0 0
  have hok := made_ok ps 0 0 (by omega)
  obtain ⟨x0, t0, hh, _⟩ := madeE_head ps 0 0
  have hne : madeB 0 0 ps ≠ [] := fun e => by
    rw [e, hh, dec] at hd
    simp at hd
  generalize madeE 0 0 ps = L at *
  have hget : ∀ i, i < (L.map (·.1)).length → ∃ dd, L[i]? = some ((L.map (·.1))[i]!, dd) := fun i hi => by
    have hi' : i < L.length := by simpa using hi
    refine ⟨L[i].2, ?_⟩
    rw [getElem!_pos _ i hi, List.getElem_map, List.getElem?_eq_getElem hi']
  have hidx : ∀ j y dd, L[j]? = some (y, dd) → idxOf (L.map (·.1)) y.off = some j := fun j y dd hy => by
    obtain ⟨hj, e⟩ := List.getElem?_eq_some_iff.1 hy
    have hj' : j < (L.map (·.1)).length := by simpa using hj
    have := hL.idx hj'
    rw [getElem!_pos _ j hj', List.getElem_map, e] at this
    exact this
  refine ⟨formed_mk hne (by omega) hd fun i hi hlead => ?_, good_of_closed (fun i => (L[i]?).bind (·.2)) (by rw [hh]; rfl) fun i d hdep => ?_⟩
  · obtain ⟨dd, hx⟩ := hget i hi
    obtain ⟨h1, h2⟩ := hok i _ _ hx
    cases dd with
    | none => exact absurd rfl (h1 hlead)
    | some e =>
      obtain ⟨j, y, hy, ho⟩ := (h2 e rfl).2.2.2 hlead
      exact ⟨j, by rw [← ho]; exact hidx j y _ hy⟩
  · cases hx : L[i]? with
    | none => rw [hx] at hdep; cases hdep
    | some xd =>
      obtain ⟨x, dd⟩ := xd
      rw [hx] at hdep
      have hdd : dd = some d := hdep
      subst hdd
      obtain ⟨hi, _⟩ := List.getElem?_eq_some_iff.1 hx
      have hi' : i < (L.map (·.1)).length := by simpa using hi
      obtain ⟨dd, hx2⟩ := hget i hi'
      rw [hx] at hx2
      injection hx2 with hx2
      injection hx2 with hx3 _
      obtain ⟨_, h2⟩ := hok i _ _ hx
      obtain ⟨a, b, c, e⟩ := h2 d rfl
      rw [← hx3]
      refine ⟨hi', a, b, fun h7 h11 => ?_, fun j hl hj => ?_⟩
      · obtain ⟨y, hy⟩ := c h7 h11
        show (L[i + 1]?).bind (·.2) = _
        rw [hy]
        rfl
      · obtain ⟨j', y, hy, ho⟩ := e hl
        have := hidx j' y _ hy
        rw [ho, hj] at this
        injection this with this
        subst this
        show (L[j]?).bind (·.2) = _
        rw [hy]
        rfl
end Go.Proofs.YtainohbfcehpoaaDoor
namespace Go.Proofs.YtainohbfcehpoaaDoor

/-- Each instruction of some bytes, and whether it is one; nothing behind the first that is none. -/
def evSeq : Nat → List UInt8 → List (Ins × Bool)
  | _, [] => []
  | a, [o] => if 12 ≤ o.toNat then [(⟨a, o.toNat, 0⟩, false)] else if longOp o.toNat then [(⟨a, o.toNat, 0⟩, false)] else [(⟨a, o.toNat, 0⟩, true)]
  | a, [o, h] => if 12 ≤ o.toNat then [(⟨a, o.toNat, 0⟩, false)] else if longOp o.toNat then [(⟨a, o.toNat, 0⟩, false)] else (⟨a, o.toNat, 0⟩, true) :: evSeq (a + 1) [h]
  | a, o :: h :: l :: r => if 12 ≤ o.toNat then [(⟨a, o.toNat, 0⟩, false)] else if longOp o.toNat then (⟨a, o.toNat, 256 * h.toNat + l.toNat⟩, true) :: evSeq (a + 3) r else (⟨a, o.toNat, 0⟩, true) :: evSeq (a + 1) (h :: l :: r)
/-- A program whose bytes are instructions yields them all. -/
theorem evSeq_dec : ∀ (n : Nat) (bs : List UInt8), bs.length ≤ n → ∀ a : Nat, (∀ l, dec a bs = some l → evSeq a bs = l.map fun x => (x, true)) ∧ (dec a bs = none → ∃ (pre : List Ins) (x : Ins), evSeq a bs = pre.map (fun x => (x, true)) ++ [(x, false)])
  | _, [], _, a => ⟨fun l h => by rw [dec] at h; injection h with h; subst h; rfl, fun h => by rw [dec] at h; cases h⟩
  | 0, _ :: _, h, _ => by simp at h
  | n + 1, [o], _, a => by
    rw [dec, evSeq]
    by_cases h1 : 12 ≤ o.toNat
    · rw [if_pos h1, if_pos h1]
      exact ⟨fun l h => (by cases h), fun _ => ⟨[], _, rfl⟩⟩
    · rw [if_neg h1, if_neg h1]
      by_cases h2 : longOp o.toNat = true
      · rw [if_pos h2, if_pos h2]
        exact ⟨fun l h => (by cases h), fun _ => ⟨[], _, rfl⟩⟩
      · rw [if_neg h2, if_neg h2]
        exact ⟨fun l h => by injection h with h; subst h; rfl, fun h => by cases h⟩
  | n + 1, [o, b], hl, a => by
    rw [dec, evSeq]
    by_cases h1 : 12 ≤ o.toNat
    · rw [if_pos h1, if_pos h1]
      exact ⟨fun l h => (by cases h), fun _ => ⟨[], _, rfl⟩⟩
    · rw [if_neg h1, if_neg h1]
      by_cases h2 : longOp o.toNat = true
      · rw [if_pos h2, if_pos h2]
        exact ⟨fun l h => (by cases h), fun _ => ⟨[], _, rfl⟩⟩
      · rw [if_neg h2, if_neg h2]
        obtain ⟨i1, i2⟩ := evSeq_dec n [b] (by simp at hl ⊢; omega) (a + 1)
        refine ⟨fun l h => ?_, fun h => ?_⟩
        · obtain ⟨q, hq, rfl⟩ := Option.map_eq_some_iff.1 h
          rw [i1 q hq]
          rfl
        · obtain ⟨pre, x, hp⟩ := i2 (by simpa using h)
          exact ⟨⟨a, o.toNat, 0⟩ :: pre, x, by rw [hp]; rfl⟩
  | n + 1, o :: b :: c :: r, hl, a => by
    rw [dec, evSeq]
    by_cases h1 : 12 ≤ o.toNat
    · rw [if_pos h1, if_pos h1]
      exact ⟨fun l h => (by cases h), fun _ => ⟨[], _, rfl⟩⟩
    · rw [if_neg h1, if_neg h1]
      by_cases h2 : longOp o.toNat = true
      · rw [if_pos h2, if_pos h2]
        obtain ⟨i1, i2⟩ := evSeq_dec n r (by simp at hl ⊢; omega) (a + 3)
        refine ⟨fun l h => ?_, fun h => ?_⟩
        · obtain ⟨q, hq, rfl⟩ := Option.map_eq_some_iff.1 h
          rw [i1 q hq]
          rfl
        · obtain ⟨pre, x, hp⟩ := i2 (by simpa using h)
          exact ⟨⟨a, o.toNat, 256 * b.toNat + c.toNat⟩ :: pre, x, by rw [hp]; rfl⟩
      · rw [if_neg h2, if_neg h2]
        obtain ⟨i1, i2⟩ := evSeq_dec n (b :: c :: r) (by simp at hl ⊢; omega) (a + 1)
        refine ⟨fun l h => ?_, fun h => ?_⟩
        · obtain ⟨q, hq, rfl⟩ := Option.map_eq_some_iff.1 h
          rw [i1 q hq]
          rfl
        · obtain ⟨pre, x, hp⟩ := i2 (by simpa using h)
          exact ⟨⟨a, o.toNat, 0⟩ :: pre, x, by rw [hp]; rfl⟩
/-- One step of the iterator at offset a of a program. -/
inductive EvStep (code : List UInt8) (a : Nat) : (Ins × Bool) → Option Nat → Prop
  | bad (h : a < code.length) (ho : 12 ≤ (code[a]!).toNat) : EvStep code a (⟨a, (code[a]!).toNat, 0⟩, false) none
  | cut (h : a < code.length) (ho : (code[a]!).toNat < 12) (hl : longOp (code[a]!).toNat = true) (hc : code.length < a + 3) : EvStep code a (⟨a, (code[a]!).toNat, 0⟩, false) none
  | long (h : a < code.length) (ho : (code[a]!).toNat < 12) (hl : longOp (code[a]!).toNat = true) (hc : a + 3 ≤ code.length) : EvStep code a (⟨a, (code[a]!).toNat, 256 * (code[a + 1]!).toNat + (code[a + 2]!).toNat⟩, true) (some (a + 3))
  | short (h : a < code.length) (ho : (code[a]!).toNat < 12) (hl : longOp (code[a]!).toNat = false) : EvStep code a (⟨a, (code[a]!).toNat, 0⟩, true) (some (a + 1))
theorem drop_cons (code : List UInt8) (a : Nat) (h : a < code.length) : code.drop a = code[a]! :: code.drop (a + 1) := by
  rw [List.drop_eq_getElem_cons h, getElem!_pos code a h]
theorem evSeq_step (code : List UInt8) (a : Nat) (h : a < code.length) : ∃ e nx, EvStep code a e nx ∧ evSeq a (code.drop a) = e :: (match nx with | none => [] | some b => evSeq b (code.drop b)) := by
  rw [drop_cons code a h]
  by_cases h1 : 12 ≤ (code[a]!).toNat
  · refine ⟨_, _, .bad h h1, ?_⟩
    cases hr : code.drop (a + 1) with
    | nil => rw [evSeq, if_pos h1]
    | cons b r => cases r with
      | nil => rw [evSeq, if_pos h1]
      | cons c r => rw [evSeq, if_pos h1]
  · by_cases h2 : longOp (code[a]!).toNat = true
    · by_cases h3 : a + 3 ≤ code.length
      · refine ⟨_, _, .long h (by omega) h2 h3, ?_⟩
        rw [drop_cons code (a + 1) (by omega), drop_cons code (a + 2) (by omega), evSeq, if_neg h1, if_pos h2]
      · refine ⟨_, _, .cut h (by omega) h2 (by omega), ?_⟩
        have hl : (code.drop (a + 1)).length ≤ 1 := by simp; omega
        cases hr : code.drop (a + 1) with
        | nil => rw [evSeq, if_neg h1, if_pos h2]
        | cons b r => cases r with
          | nil => rw [evSeq, if_neg h1, if_pos h2]
          | cons c r => rw [hr] at hl; simp at hl
    · refine ⟨_, _, .short h (by omega) (by simpa using h2), ?_⟩
      cases hr : code.drop (a + 1) with
      | nil => (rw [evSeq, if_neg h1, if_neg h2]; dsimp only; rw [hr]; rfl)
      | cons b r => cases r with
        | nil => (rw [evSeq, if_neg h1, if_neg h2]; dsimp only; rw [hr])
        | cons c r => (rw [evSeq, if_neg h1, if_neg h2]; dsimp only; rw [hr])
end Go.Proofs.YtainohbfcehpoaaDoor
namespace Go.Proofs.YtainohbfcehpoaaDoor
open Go.Lib

theorem decDigits_digit (u : Nat) : ∀ c ∈ decDigits u, 48 ≤ c.toNat ∧ c.toNat ≤ 57 := by
  induction u using Nat.strongRecOn with
  | _ u ih =>
    intro c hc
    by_cases h : u < 10
    · rw [decDigits, dif_pos h] at hc
      obtain rfl := List.mem_singleton.1 hc
      rw [UInt8.toNat_ofNat']
      omega
    · rw [decDigits, dif_neg h, List.mem_append] at hc
      rcases hc with hc | hc
      · exact ih _ (by omega) c hc
      · obtain rfl := List.mem_singleton.1 hc
        rw [UInt8.toNat_ofNat']
        omega
theorem decFrom_snoc (l : List UInt8) (b : UInt8) (acc n d : Nat) (h : decFrom acc l = some n) (hd : digitVal b = some d) : decFrom acc (l ++ [b]) = some (n * 10 + d) := by
  induction l generalizing acc with
  | nil =>
    simp only [decFrom, Option.some.injEq] at h
    subst h
    simp [decFrom, hd]
  | cons c r ih =>
    simp only [List.cons_append, decFrom] at h ⊢
    cases hc : digitVal c with
    | none => simp [hc] at h
    | some e =>
      simp only [hc] at h ⊢
      exact ih _ h
theorem digitVal_mk (k : Nat) (h : k < 10) : digitVal (UInt8.ofNat (48 + k)) = some k := by
  unfold digitVal
  rw [UInt8.toNat_ofNat', if_pos (by omega)]
  congr 1
  omega
theorem decFrom_decDigits (u : Nat) : decFrom 0 (decDigits u) = some u := by
  induction u using Nat.strongRecOn with
  | _ u ih =>
    by_cases h : u < 10
    · rw [decDigits, dif_pos h]
      simp only [decFrom, digitVal_mk u h, Nat.zero_mul, Nat.zero_add]
    · rw [decDigits, dif_neg h, decFrom_snoc _ _ _ (u / 10) (u % 10) (ih _ (by omega)) (digitVal_mk _ (by omega))]
      congr 1
      omega
theorem decDigits_ne (u : Nat) : decDigits u ≠ [] := by
  intro h
  by_cases h1 : u < 10
  · rw [decDigits, dif_pos h1] at h; cases h
  · rw [decDigits, dif_neg h1] at h; simp at h
theorem decDigits_inj {u v : Nat} (h : decDigits u = decDigits v) : u = v := by
  have h1 := decFrom_decDigits u
  rw [h, decFrom_decDigits] at h1
  injection h1 with h1
  exact h1.symm
theorem decDigits_no (c : UInt8) (hc : c.toNat < 48) (u : Nat) : ∀ x ∈ decDigits u, x ≠ c := by
  intro x hx h
  have := decDigits_digit u x hx
  rw [h] at this
  omega
/-- A text divided at a byte. -/
def cutAll (c : UInt8) : List UInt8 → List (List UInt8)
  | [] => [[]]
  | b :: l => if b = c then [] :: cutAll c l else match cutAll c l with
    | [] => [[b]]
    | p :: r => (b :: p) :: r
theorem cutAll_ne (c : UInt8) (l : List UInt8) : cutAll c l ≠ [] := by
  cases l with
  | nil => simp [cutAll]
  | cons b l =>
    rw [cutAll]
    split
    · simp
    · cases cutAll c l <;> simp
theorem cutAll_hit (c : UInt8) (l r : List UInt8) (h : ∀ x ∈ l, x ≠ c) : cutAll c (l ++ c :: r) = l :: cutAll c r := by
  induction l with
  | nil => simp [cutAll]
  | cons b l ih =>
    rw [List.cons_append, cutAll, if_neg (h b (by simp)), ih (fun x hx => h x (by simp [hx]))]
theorem cutAll_miss (c : UInt8) (l : List UInt8) (h : ∀ x ∈ l, x ≠ c) : cutAll c l = [l] := by
  induction l with
  | nil => rfl
  | cons b l ih =>
    rw [cutAll, if_neg (h b (by simp)), ih (fun x hx => h x (by simp [hx]))]
theorem cutAll_no (c : UInt8) (l : List UInt8) : ∀ p ∈ cutAll c l, ∀ x ∈ p, x ≠ c := by
  induction l with
  | nil => simp [cutAll]
  | cons b l ih =>
    rw [cutAll]
    split
    · intro p hp
      rcases List.mem_cons.1 hp with rfl | hp
      · simp
      · exact ih p hp
    · rename_i hb
      cases h : cutAll c l with
      | nil => exact absurd h (cutAll_ne c l)
      | cons q r =>
        rw [h] at ih
        dsimp only
        intro p hp
        rcases List.mem_cons.1 hp with rfl | hp
        · intro x hx
          rcases List.mem_cons.1 hx with rfl | hx
          · exact hb
          · exact ih q (by simp) x hx
        · exact ih p (by simp [hp])
/-- The pieces put together again. -/
def glue (c : UInt8) : List (List UInt8) → List UInt8
  | [] => []
  | [p] => p
  | p :: q :: r => p ++ c :: glue c (q :: r)
theorem glue_cutAll (c : UInt8) (l : List UInt8) : glue c (cutAll c l) = l := by
  induction l with
  | nil => rfl
  | cons b l ih =>
    rw [cutAll]
    cases h : cutAll c l with
    | nil => exact absurd h (cutAll_ne c l)
    | cons q r =>
      rw [h] at ih
      split
      · rename_i hb
        rw [hb]
        show [] ++ c :: glue c (q :: r) = c :: l
        rw [ih]
        rfl
      · dsimp only
        cases r with
        | nil => simp only [glue] at ih ⊢; rw [ih]
        | cons q2 r => simp only [glue] at ih ⊢; rw [← ih]; simp
theorem cutAll_le (c : UInt8) (l : List UInt8) : ∀ p ∈ cutAll c l, p.length ≤ l.length := by
  induction l with
  | nil => simp [cutAll]
  | cons b l ih =>
    rw [cutAll]
    split
    · intro p hp
      rcases List.mem_cons.1 hp with rfl | hp
      · simp
      · have := ih p hp; simp; omega
    · cases h : cutAll c l with
      | nil => exact absurd h (cutAll_ne c l)
      | cons q r =>
        rw [h] at ih
        dsimp only
        intro p hp
        rcases List.mem_cons.1 hp with rfl | hp
        · have := ih q (by simp); simp; omega
        · have := ih p (by simp [hp]); simp; omega
theorem cutAll_len (c : UInt8) (l : List UInt8) : (cutAll c l).length ≤ l.length + 1 := by
  induction l with
  | nil => simp [cutAll]
  | cons b l ih =>
    rw [cutAll]
    split
    · simp; omega
    · cases h : cutAll c l with
      | nil => simp
      | cons q r => rw [h] at ih; simp at ih ⊢; omega
theorem decDigits_le {u : Nat} (h : u ≤ 1000000000) : (decDigits u).length ≤ 10 := by
  rw [decDigits_length]
  rw [nDigits]; split
  · omega
  rw [nDigits]; split
  · omega
  rw [nDigits]; split
  · omega
  rw [nDigits]; split
  · omega
  rw [nDigits]; split
  · omega
  rw [nDigits]; split
  · omega
  rw [nDigits]; split
  · omega
  rw [nDigits]; split
  · omega
  rw [nDigits]; split
  · omega
  rw [nDigits]; split
  · omega
  omega

theorem decNat_decDigits (u : Nat) : decNat (decDigits u) = some u := by
  unfold decNat
  rw [if_neg (by simpa using decDigits_ne u), decFrom_decDigits]

theorem decDigits_cons (u : Nat) : ∃ c r, decDigits u = c :: r ∧ 48 ≤ c.toNat ∧ c.toNat ≤ 57 := by
  cases h : decDigits u with
  | nil => exact absurd h (decDigits_ne u)
  | cons c r => exact ⟨c, r, rfl, decDigits_digit u c (by rw [h]; simp)⟩

theorem atoi_itoa (n : Int) : atoi (itoa n) = some n := by
  unfold itoa
  by_cases h : n < 0
  · rw [if_pos h]
    simp only [atoi, decNat_decDigits]
    simp
    omega
  · rw [if_neg h]
    obtain ⟨c, r, e, h1, h2⟩ := decDigits_cons n.toNat
    have h3 := decNat_decDigits n.toNat
    rw [e] at h3 ⊢
    have e1 : (c == 45) = false := by
      rw [beq_eq_false_iff_ne]; rintro rfl; simp at h1
    have e2 : (c == 43) = false := by
      rw [beq_eq_false_iff_ne]; rintro rfl; simp at h1
    simp only [atoi, e1, e2, h3]
    simp
    omega

theorem itoa_le {n : Int} (h : n.natAbs ≤ 1000000000) : (itoa n).length ≤ 11 := by
  unfold itoa
  split
  · have := decDigits_le h; simp; omega
  · have := decDigits_le (u := n.toNat) (by omega); omega

theorem itoa_le10 {n : Int} (h0 : 0 ≤ n) (h : n ≤ 1000000000) : (itoa n).length ≤ 10 := by
  unfold itoa
  rw [if_neg (by omega)]
  exact decDigits_le (u := n.toNat) (by omega)

/-- Atoi's number, if it is one. -/
def numv (l : List UInt8) : Option Int := match atoiAll l with
  | .ok v => some v
  | _ => none

theorem numv_itoa {n : Int} (h : n.natAbs ≤ 1000000000) : numv (itoa n) = some n := by
  have hl := itoa_le h
  unfold numv
  rw [atoiAll_short _ (by omega), atoi_itoa]
  rfl

theorem occAt_one (k : UInt8) (s : List UInt8) (i : Nat) : occAt s [k] i = (s[i]? == some k) := by
  unfold occAt
  cases h : s.drop i with
  | nil =>
    have : s[i]? = none := by
      rw [List.getElem?_eq_none_iff]
      have := congrArg List.length h
      simp at this
      omega
    simp [this]
  | cons c r =>
    have : s[i]? = some c := by
      have := congrArg (fun l => l[0]?) h
      simpa using this
    rw [this]
    have e : (some c == some k) = (c == k) := rfl
    have e2 : (k == c) = (c == k) := by rw [Bool.eq_iff_iff, beq_iff_eq, beq_iff_eq]; exact eq_comm
    simp only [List.isPrefixOf, Bool.and_true, e, e2]

theorem index_hit {k : UInt8} {l r : List UInt8} (h : ∀ c ∈ l, c ≠ k) : index (l ++ k :: r) [k] = (l.length : Int) := by
  refine index_first (by simp) ?_ (fun j hj => ?_)
  · rw [occAt_one]; simp
  · rw [occAt_one, List.getElem?_append_left hj, List.getElem?_eq_getElem hj]
    have := h l[j] (List.getElem_mem hj)
    simpa using this

theorem index_miss {k : UInt8} {l : List UInt8} (h : ∀ c ∈ l, c ≠ k) : index l [k] = -1 := by
  refine index_none (fun j hj => ?_)
  rw [occAt_one]
  by_cases hl : j < l.length
  · rw [List.getElem?_eq_getElem hl]
    have := h l[j] (List.getElem_mem hl)
    simpa using this
  · rw [List.getElem?_eq_none (by omega)]; rfl

theorem cut_hit {k : UInt8} {l r : List UInt8} (h : ∀ c ∈ l, c ≠ k) : cut (l ++ k :: r) [k] = (l, r, true) := by
  unfold cut
  rw [index_hit h, if_pos (by omega)]
  simp

theorem cut_miss {k : UInt8} {l : List UInt8} (h : ∀ c ∈ l, c ≠ k) : cut l [k] = (l, [], false) := by
  unfold cut
  rw [index_miss h, if_neg (by omega)]

theorem itoa_nat (n : Nat) : Lib.itoa (n : Int) = Lib.decDigits n := by unfold Lib.itoa; rw [if_neg (by omega)]; simp
/-- strings.Cut at one byte, by the pieces. -/
theorem cut_one (k : UInt8) (l : List UInt8) : (∃ p, cutAll k l = [p] ∧ cut l [k] = (p, [], false)) ∨ ∃ p r, cutAll k l = p :: cutAll k r ∧ cut l [k] = (p, r, true) ∧ l = p ++ k :: r := by
  have hg := glue_cutAll k l
  have hn := cutAll_no k l
  cases h : cutAll k l with
  | nil => exact absurd h (cutAll_ne k l)
  | cons p q =>
    rw [h] at hg hn
    cases q with
    | nil =>
      simp only [glue] at hg
      subst hg
      exact .inl ⟨p, rfl, cut_miss (hn p (by simp))⟩
    | cons q r =>
      simp only [glue] at hg
      have hp := hn p (by simp)
      refine .inr ⟨p, glue k (q :: r), ?_, ?_, hg.symm⟩
      · have := cutAll_hit k p (glue k (q :: r)) hp
        rw [hg, h] at this
        exact this
      · rw [← hg]
        exact cut_hit hp
end Go.Proofs.YtainohbfcehpoaaDoor
