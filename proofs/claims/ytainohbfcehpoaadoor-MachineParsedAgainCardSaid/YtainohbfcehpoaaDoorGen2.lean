/-
  General: below B nothing has turned but one block; slices by their cells. (Cut out of Cq2, CqA, CqL, CqN, for seats other than chapter 12's.)
-/
import Derived.Test.YtainohbfcehpoaaDoorRow0
namespace Go.Proofs.YtainohbfcehpoaaDoor
open Go.RowKit

/-- Below B nothing has turned but block x. -/
structure BelowBut (B x : Nat) (w w' : World) : Prop where
  os : w'.os = w.os
  tape : w'.tape = w.tape
  output : w'.output = w.output
  size : w.heap.size ≤ w'.heap.size
  block : ∀ k, k < B → k ≠ x → w'.heap[k]? = w.heap[k]?
section
variable {B C x : Nat} {w w' w'' : World}
theorem BelowBut.of (h : Below B w w') : BelowBut B x w w' := ⟨h.os, h.tape, h.output, h.size, fun k hk _ => h.block k hk⟩
theorem BelowBut.refl (B x : Nat) (w : World) : BelowBut B x w w := BelowBut.of (Below.refl _ _)
theorem BelowBut.setCell (h : BelowBut B x w w') (o : Nat) (u : Value) : BelowBut B x w (w'.setCell ⟨x, o, none⟩ u) :=
  ⟨h.os, h.tape, h.output, by simpa [World.setCell] using h.size, fun k hk hne => (Below.heap_setCell w' ⟨x, o, none⟩ u k (by simpa using hne)).trans (h.block k hk hne)⟩
theorem BelowBut.drew (h : BelowBut B x w w') : BelowBut B x w w'.drew := ⟨h.os, h.tape, h.output, h.size, h.block⟩
theorem BelowBut.drewN (h : BelowBut B x w w') (n : Nat) : BelowBut B x w (w'.drewN n) := ⟨h.os, h.tape, h.output, h.size, h.block⟩
theorem BelowBut.alloc (h : BelowBut B x w w') (o : Obj) (hB : B ≤ w'.heap.size) : BelowBut B x w (w'.alloc o) :=
  ⟨h.os, h.tape, h.output, by simpa using Nat.le_succ_of_le h.size, fun k hk hne => (Below.heap_alloc w' o k (by omega)).trans (h.block k hk hne)⟩
theorem BelowBut.trans (h : BelowBut B x w w') (k : BelowBut C x w' w'') (hBC : B ≤ C) : BelowBut B x w w'' :=
  ⟨k.os.trans h.os, k.tape.trans h.tape, k.output.trans h.output, Nat.le_trans h.size k.size, fun j hj hne => (k.block j (by omega) hne).trans (h.block j hj hne)⟩
theorem BelowBut.below (h : BelowBut B x w w') (hx : C ≤ x) (hC : C ≤ B) : Below C w w' := ⟨h.os, h.tape, h.output, h.size, fun k hk => h.block k (by omega) (by omega)⟩
theorem BelowBut.cell (h : BelowBut B x w w') {b o : Nat} (hb : b < B) (hne : b ≠ x) : w'.cell? ⟨b, o, none⟩ = w.cell? ⟨b, o, none⟩ := World.cell?_of_block (a := ⟨b, o, none⟩) (h.block b hb hne)
theorem BelowBut.mine (h : BelowBut w.heap.size x w w') {b o : Nat} {v : Value} (hm : Mine w b o v) (hne : b ≠ x) : Mine w' b o v := by
  have hb := h.block b hm.lt hne
  refine ⟨(World.cell?_of_block (a := ⟨b, o, none⟩) hb).trans hm.cell, ?_, Nat.lt_of_lt_of_le hm.lt h.size⟩
  rw [← hm.free]
  simp only [World.frozen?, hb]
theorem BelowBut.arr (h : BelowBut w.heap.size x w w') {b : Nat} {T : TypeId} {L : List Value} (hm : Arr w b T L) (hne : b ≠ x) : Arr w' b T L := (h.block b hm.lt hne).trans hm
end

/-- A value that is a slice whose elements' cells are xs, in a block below B. -/
def SliceAt (w : World) (B : Nat) (v : Value) (n : Nat) (xs : List Value) : Prop :=
  ∃ a cap, v = .slice a n cap ∧ n ≤ cap ∧ cap ≤ maxLen ∧ (0 < n → ∃ b o, a = some ⟨b, o, none⟩ ∧ b < B ∧ ∀ j u, xs[j]? = some u → w.cell? ⟨b, o + j, none⟩ = some u)
theorem SliceAt.keep {w w' : World} {B : Nat} {v : Value} {n : Nat} {xs : List Value} (h : SliceAt w B v n xs) (hb : ∀ b, b < B → w'.heap[b]? = w.heap[b]?) : SliceAt w' B v n xs := by
  obtain ⟨a, cap, hv, h1, h2, hc⟩ := h
  refine ⟨a, cap, hv, h1, h2, fun hn => ?_⟩
  obtain ⟨b, o, ha, hlt, hx⟩ := hc hn
  exact ⟨b, o, ha, hlt, fun j u hu => (World.cell?_of_block (a := ⟨b, o + j, none⟩) (hb b hlt)).trans (hx j u hu)⟩
theorem SliceAt.but {w w' : World} {B C : Nat} {v : Value} {n : Nat} {xs : List Value} (h : SliceAt w B v n xs) (hb : BelowBut C B w w') (hC : B ≤ C) : SliceAt w' B v n xs :=
  h.keep fun b hlt => hb.block b (by omega) (by omega)
theorem SliceAt.below {w w' : World} {B C : Nat} {v : Value} {n : Nat} {xs : List Value} (h : SliceAt w B v n xs) (hb : Below C w w') (hC : B ≤ C) : SliceAt w' B v n xs :=
  h.keep fun b hlt => hb.block b (by omega)

theorem SliceAt.later {w w' : World} {v : Value} {n : Nat} {xs : List Value} (h : SliceAt w w.heap.size v n xs) (hb : Below w.heap.size w w') : SliceAt w' w'.heap.size v n xs := by
  obtain ⟨a, cap, hv, h1, h2, hc⟩ := h.below hb (Nat.le_refl _)
  exact ⟨a, cap, hv, h1, h2, fun hn => by
    obtain ⟨b, o, ha, hlt, hx⟩ := hc hn
    exact ⟨b, o, ha, Nat.lt_of_lt_of_le hlt hb.size, hx⟩⟩
theorem sliceAt_of_own {w : World} {B s n : Nat} {e : TypeId} {v : Value} {xs : List Value} (h : w.ownsRow B e s v n xs) : SliceAt w w.heap.size v n xs := by
  obtain ⟨hl, h⟩ := h
  rcases h with ⟨rfl, rfl⟩ | ⟨g, cap, cur, rfl, hB, hg, h1, h2, h3, h4⟩
  · exact ⟨none, 0, rfl, Nat.le_refl _, by unfold maxLen; omega, fun h => by omega⟩
  · refine ⟨_, cap, rfl, h1, h2, fun _ => ⟨g, 0, rfl, (Array.getElem?_eq_some_iff.1 hg).1, fun j u hu => ?_⟩⟩
    subst h4
    rw [List.getElem?_take] at hu
    split at hu
    · rw [Nat.zero_add]
      simp only [World.cell?, hg]
      simpa using hu
    · cases hu
theorem own_val {w : World} {B n s : Nat} {e : TypeId} {v : Value} {xs : List Value} (h : w.ownsRow B e s v n xs) : ∃ a cap, v = .slice a n cap := by
  obtain ⟨_, h⟩ := h
  rcases h with ⟨rfl, rfl⟩ | ⟨g, cap, _, rfl, _⟩
  · exact ⟨_, _, rfl⟩
  · exact ⟨_, _, rfl⟩
end Go.Proofs.YtainohbfcehpoaaDoor
