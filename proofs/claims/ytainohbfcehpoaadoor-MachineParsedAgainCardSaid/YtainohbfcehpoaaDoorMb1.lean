/-
  The table of the machine's operations; what kind returns.
-/
import Derived.Test.YtainohbfcehpoaaDoorMa3
import Derived.Test.YtainohbfcehpoaaDoorRow0
namespace Go.Proofs.YtainohbfcehpoaaDoor
open Go.RowKit

def str (l : List UInt8) : ByteArray := ⟨l.toArray⟩
theorem str_list (l : List UInt8) : (str l).data.toList = l := rfl
theorem str_size (l : List UInt8) : (str l).size = l.length := by simp [str, ByteArray.size]
def opName (o : Nat) : List UInt8 := [[112, 117, 115, 104], [100, 117, 112], [115, 119, 97, 112], [100, 114, 111, 112], [97, 100, 100], [115, 117, 98], [108, 101, 115, 115], [106, 117, 109, 112], [105, 102], [105, 110], [111, 117, 116], [104, 97, 108, 116]].getD o []
def opVals (o : Nat) : List Value := [.string (str (opName o)), .int .i64 (takesOp o : Nat), .int .i64 (putsOp o : Nat), .bool (longOp o), .bool (leadOp o)]
/-- The variable 'operations' holds the table. -/
def OpsIs (w : World) : Prop := ∀ o, o < 12 → ∀ j, j < 5 → w.cell? ⟨3, o * 5 + j, none⟩ = (opVals o)[j]?
theorem OpsIs.below {w w' : World} {B : Nat} (h : OpsIs w) (hb : Below B w w') (hg : 3 < B) : OpsIs w' := fun o ho j hj =>
  (World.cell?_of_block (w' := w') (w := w) (a := ⟨3, o * 5 + j, none⟩) (hb.block _ hg)).trans (h o ho j hj)
theorem OpsIs.lt {w : World} (h : OpsIs w) : 3 < w.heap.size := World.block_lt_of_cell? w ⟨3, 0 * 5 + 0, none⟩ (h 0 (by omega) 0 (by omega))
def insAgg (off op opd to : Nat) : Value := .agg #[.int .i64 (off : Int), .int .i64 (op : Int), .int .i64 (opd : Int), .int .i64 (to : Int)]
set_option maxHeartbeats 1000000 in
theorem kind_any (off op opd to : Nat) (w : World) (ho : op < 12) (hO : OpsIs w) (hg : 3 < w.heap.size) :
    Calls Tryd.prog 35 #[insAgg off op opd to] w fun e w' => e = .returned (.agg (opVals op).toArray) ∧ Below w.heap.size w w' := by
  have hT := hO op ho
  have c0 := hT 0 (by omega)
  have c1 := hT 1 (by omega)
  have c2 := hT 2 (by omega)
  have c3 := hT 3 (by omega)
  have c4 := hT 4 (by omega)
  have hne : (3 : Nat) ≠ w.heap.size := by omega
  have i1 : (op : Int) < 12 := by omega
  have hB : Below w.heap.size w w := Below.refl _ _
  clear hT hO
  unfold insAgg opVals
  simp only [opVals, List.getElem?_cons_zero, List.getElem?_cons_succ, Nat.add_zero] at c0 c1 c2 c3 c4
  have hne2 : (3 : Nat) ≠ w.heap.size + 1 := by omega
  generalize str (opName op) = nm at *
  generalize takesOp op = tk at *
  generalize putsOp op = pt at *
  generalize longOp op = lg at *
  generalize leadOp op = ld at *
  go_enter Tryd.func35, Tryd.ntmps35
  go_wp2_with fail
  refine bodyPost_ret (v := .agg #[.string nm, .int .i64 (tk : Int), .int .i64 (pt : Int), .bool lg, .bool ld]) ?_ rfl ⟨rfl, (hB.alloc (Nat.le_refl _) _).alloc (by simp) _⟩
  simp [results, Tryd.f35, go_sem]
end Go.Proofs.YtainohbfcehpoaaDoor
