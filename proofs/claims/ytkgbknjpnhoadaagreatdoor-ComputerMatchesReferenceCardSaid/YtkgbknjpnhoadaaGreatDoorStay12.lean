/-
  The arguments of chapter 12's laws, opened: events, pairs and triples of integers.
-/
import Derived.Test.YtkgbknjpnhoadaaGreatDoorStay
import Derived.Test.YtkgbknjpnhoadaaGreatDoorLaid12
import Derived.Test.YtkgbknjpnhoadaaGreatDoorCqC
namespace Go.Proofs.YtkgbknjpnhoadaaGreatDoor
open Go.ChangeShapes Go.WideShapes Go.ChangeAt Go.RowKit

theorem Tryz.kids : Kids Tryz.prog (· < Tryz.prog.types.size) := kids_rows (by kernel_rfl) (by kernel_rfl)
theorem Tryz.full : ∀ t e, t < Tryz.prog.types.size → Tryz.prog.underlying t = some (.slice e) → 0 < Tryz.prog.cellsOf e := slices_full_of Tryz.prog (by kernel_rfl)
/-- Integers as events. -/
def evsOf : List Int → List Ev
  | a :: b :: c :: d :: r => ⟨a, b, c, d⟩ :: evsOf r
  | _ => []
theorem evsOf_cells : ∀ (n : Nat) (zs : List Int), zs.length = n * 4 → evCells (evsOf zs) = zs.map (Value.int .i64) ∧ (evsOf zs).length = n
  | 0, zs, h => by
    have : zs = [] := List.length_eq_zero_iff.1 (by omega)
    subst this; exact ⟨rfl, rfl⟩
  | n + 1, zs, h => by
    match zs, h with
    | a :: b :: c :: d :: r, h =>
      have ih := evsOf_cells n r (by simp at h; omega)
      rw [evsOf, evCells_cons, ih.1, List.length_cons, ih.2]
      exact ⟨rfl, rfl⟩
    | [], h => simp at h
    | [_], h => simp at h; omega
    | [_, _], h => simp at h; omega
    | [_, _, _], h => simp at h; omega
section
variable {H : Type} {enc : TypeId × Value → H} {w : World} {r : Reach} {b0 : Nat} {v : Value} {d : DataW H} {ps : List MemPlace}
set_option maxRecDepth 100000 in
theorem open_events (hval : Value.okWide Tryz.prog w r b0 33 v) (hd : DataW.Trod enc Tryz.prog w 0 (fun _ => true) true 33 v d ps) : ∃ l : List Ev, SliceAt w w.heap.size v l.length (evCells l) := by
  obtain ⟨n, zs, h1, _, h3⟩ := open_introws Tryz.underlying33 (k := 4) (by kernel_rfl) (fun fuel cs x hl h => struct_row Tryz.underlying39 Tryz.underlying3 (by kernel_rfl) (fun i f hf => by
    have hi := (Array.getElem?_eq_some_iff.1 hf).1
    simp only [List.size_toArray, List.length_cons, List.length_nil] at hi
    match i, hi, hf with
    | 0, _, hf => simp at hf; subst hf; exact ⟨rfl, rfl⟩
    | 1, _, hf => simp at hf; subst hf; exact ⟨rfl, rfl⟩
    | 2, _, hf => simp at hf; subst hf; exact ⟨rfl, rfl⟩
    | 3, _, hf => simp at hf; subst hf; exact ⟨rfl, rfl⟩) fuel cs x hl h) (Nat.zero_lt_succ _) hval hd
  obtain ⟨e1, e2⟩ := evsOf_cells n zs h1
  exact ⟨evsOf zs, by rw [e2, e1]; exact h3⟩
set_option maxRecDepth 100000 in
theorem open_pairs (hval : Value.okWide Tryz.prog w r b0 30 v) (hd : DataW.Trod enc Tryz.prog w 0 (fun _ => true) true 30 v d ps) : ∃ (n : Nat) (zs : List Int), zs.length = n * 2 ∧ (∀ z ∈ zs, I64 z) ∧ SliceAt w w.heap.size v n (zs.map (Value.int .i64)) :=
  open_introws Tryz.underlying30 (k := 2) (by kernel_rfl) (array_row Tryz.underlying70 Tryz.underlying3 (by kernel_rfl)) (Nat.zero_lt_succ _) hval hd
set_option maxRecDepth 100000 in
theorem open_trips (hval : Value.okWide Tryz.prog w r b0 49 v) (hd : DataW.Trod enc Tryz.prog w 0 (fun _ => true) true 49 v d ps) : ∃ (n : Nat) (zs : List Int), zs.length = n * 3 ∧ (∀ z ∈ zs, I64 z) ∧ SliceAt w w.heap.size v n (zs.map (Value.int .i64)) :=
  open_introws Tryz.underlying49 (k := 3) (by kernel_rfl) (array_row Tryz.underlying50 Tryz.underlying3 (by kernel_rfl)) (Nat.zero_lt_succ _) hval hd
end
end Go.Proofs.YtkgbknjpnhoadaaGreatDoor
