/-
  Equality of fractions as one Bool; made as the laws use it.
-/
import Derived.Test.YtfojgdlegojdgaaDoorMade
import Derived.Test.YtfojgdlegojdgaaDoorSane3
namespace Go.Proofs.YtfojgdlegojdgaaDoor
open Go.RowKit

theorem run_eq_rv (x y a b : Int) (w : World) : (binOp .eql 27 (.agg #[.int .i64 x, .int .i64 y]) (.agg #[.int .i64 a, .int .i64 b])).run Tryd.prog w = .ok (.bool (x == a && y == b)) w := by
  by_cases h1 : x = a
  · by_cases h2 : y = b
    · subst h1 h2
      go_simp
    · have h2' : (y == b) = false := by simpa using h2
      subst h1
      go_simp
  · have h1' : (x == a) = false := by simpa using h1
    go_simp
theorem run_ne_rv (x y a b : Int) (w : World) : (binOp .neq 27 (.agg #[.int .i64 x, .int .i64 y]) (.agg #[.int .i64 a, .int .i64 b])).run Tryd.prog w = .ok (.bool !(x == a && y == b)) w := by
  by_cases h1 : x = a
  · by_cases h2 : y = b
    · subst h1 h2
      go_simp
    · have h2' : (y == b) = false := by simpa using h2
      subst h1
      go_simp
  · have h1' : (x == a) = false := by simpa using h1
    go_simp
theorem Add_v (a b c d : Int) (w : World) (h1 : vld a b = true) (h2 : vld c d = true) :
    Calls Tryd.prog 26 #[rv a b, rv c d] w fun e w' => e = .returned (.tuple #[rv (addv a b c d).1 (addv a b c d).2.1, .int .i64 (addv a b c d).2.2]) ∧ Below w.heap.size w w' := Add_valid a b c d w h1 h2
theorem Mul_v (a b c d : Int) (w : World) (h1 : vld a b = true) (h2 : vld c d = true) :
    Calls Tryd.prog 27 #[rv a b, rv c d] w fun e w' => e = .returned (.tuple #[rv (mulv a b c d).1 (mulv a b c d).2.1, .int .i64 (mulv a b c d).2.2]) ∧ Below w.heap.size w w' := Mul_valid a b c d w h1 h2
theorem mk_vld0 {n d : Int} (h : (mk n d).2.2 = 0) : vld (mk n d).1 (mk n d).2.1 = true ∧ mk n d = ((mk n d).1, (mk n d).2.1, 0) := by
  rcases mk_spec0 n d with h1 | ⟨r, s, h1, h2, _⟩
  · rw [h1] at h; simp at h
  · rw [h1]; exact ⟨h2, rfl⟩
theorem val0 {x : Int × Int × Int} {n d : Int} (hx : x = mk n d) (h : x.2.2 = 0) : vld x.1 x.2.1 = true ∧ mk n d = (x.1, x.2.1, 0) := by
  subst hx; exact mk_vld0 h
/-- Three valid fractions, or none. -/
def Made3 (e : Ending) : Prop :=
  (∃ a b c d g h : Int, vld a b = true ∧ vld c d = true ∧ vld g h = true ∧ e = .returned (.tuple #[sixv a b c d g h, .bool true])) ∨
  (∃ a b c d g h : Int, e = .returned (.tuple #[sixv a b c d g h, .bool false]))
theorem made_law (x0 x1 x2 x3 x4 x5 : Int) (w : World) (i0 : I64 x0) (i1 : I64 x1) (i2 : I64 x2) (i3 : I64 x3) (i4 : I64 x4) (i5 : I64 x5) :
    Calls Tryd.prog 23 #[sixv x0 x1 x2 x3 x4 x5] w fun e w' => Made3 e ∧ Below w.heap.size w w' := by
  refine (made_any x0 x1 x2 x3 x4 x5 w i0 i1 i2 i3 i4 i5).mono fun e w' ⟨h, hb⟩ => ⟨?_, hb⟩
  have key : ∀ n d : Int, (mk n d).2.2 = 0 → vld (mk n d).1 (mk n d).2.1 = true := fun n d h => by
    rcases mk_spec0 n d with h1 | ⟨r, s, h1, h2, _⟩
    · rw [h1] at h; simp at h
    · rw [h1]; exact h2
  rcases h with ⟨h1, h2, h3, he⟩ | h
  · exact .inl ⟨_, _, _, _, _, _, key _ _ h1, key _ _ h2, key _ _ h3, he⟩
  · exact .inr h
end Go.Proofs.YtfojgdlegojdgaaDoor
