/-
  The arguments of chapter 8's laws, opened: texts, integers, pairs of integers.
-/
import Derived.Test.YtainohbfcehpoaaDoorStayG
import Derived.Test.YtainohbfcehpoaaDoorLaid08
namespace Go.Proofs.YtainohbfcehpoaaDoor
open Go.ChangeShapes Go.WideShapes Go.ChangeAt Go.RowKit

theorem Tryd.kids : Kids Tryd.prog (· < Tryd.prog.types.size) := kids_rows (by kernel_rfl) (by kernel_rfl)
theorem Tryd.full : ∀ t e, t < Tryd.prog.types.size → Tryd.prog.underlying t = some (.slice e) → 0 < Tryd.prog.cellsOf e := slices_full_of Tryd.prog (by kernel_rfl)
theorem text_of (a : ByteArray) : ∃ l : List UInt8, a = str l := ⟨a.data.toList, rfl⟩
theorem u16_of_wf {a : Int} (h : (Lit.int .u16 a).wf = true) : ∃ m : Nat, m < 65536 ∧ a = (m : Int) := by
  have := h
  simp [Lit.wf, IntKind.min, IntKind.max, IntKind.signed, IntKind.bits] at this
  exact ⟨a.toNat, by omega, by omega⟩
theorem u8_of_wf {a : Int} (h : (Lit.int .u8 a).wf = true) : ∃ m : Nat, m < 256 ∧ a = (m : Int) := by
  have := h
  simp [Lit.wf, IntKind.min, IntKind.max, IntKind.signed, IntKind.bits] at this
  exact ⟨a.toNat, by omega, by omega⟩
section
variable {H : Type} {enc : TypeId × Value → H} {w : World} {r : Go.Reach} {b0 : Nat} {v : Value} {d : DataW H} {ps : List MemPlace}
set_option maxRecDepth 100000 in
theorem open_pairs (hval : Value.okWide Tryd.prog w r b0 22 v) (hd : DataW.Trod enc Tryd.prog w 0 (fun _ => true) true 22 v d ps) : ∃ (n : Nat) (zs : List Int), zs.length = n * 2 ∧ (∀ z ∈ zs, I64 z) ∧ SliceAt w w.heap.size v n (zs.map (Value.int .i64)) :=
  open_introws Tryd.underlying22 (k := 2) (by kernel_rfl) (array_row Tryd.underlying54 Tryd.underlying3 (by kernel_rfl)) (Nat.zero_lt_succ _) hval hd
end
end Go.Proofs.YtainohbfcehpoaaDoor
