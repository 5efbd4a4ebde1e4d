/-
  The contracts of the computer's operations.
-/
import Derived.Test.YtkgbknjpnhoadaaGreatDoorCq2
import Derived.BigRegion
namespace Go.Proofs.YtkgbknjpnhoadaaGreatDoor
open Go.RowKit

/-- What an operation without an event does. -/
def OpDo (f : FuncId) (o : Nat) : Prop := ∀ (w : World) (B : Nat) (x : Cpu) (n m : Nat), CpuAt w B x → n < 256 → m < 256 →
  Calls Tryz.prog f #[.pointer (some ⟨B, 0, none⟩), .int .u8 (n : Int), .int .u8 (m : Int)] w fun e w' => e = .returned (.tuple #[]) ∧ CpuAt w' B (x.op o n m).1 ∧ BelowBut w.heap.size B w w'
theorem u8n (n : Int) : IntKind.u8.wrap n = n % 256 := by simp [IntKind.wrap, IntKind.bits, IntKind.signed]

set_option maxHeartbeats 1000000 in
theorem do1 : OpDo 80 1 := by
  intro w B x n m h hn hm
  have cA := h.a
  have fA := h.free 513
  have hs := Lib.hid (h.setA hn)
  go_enter Tryz.func80, Tryz.ntmps80
  go_wp2
  go_end0
  exact ⟨rfl, hs.out, (BelowBut.refl _ _ _).setCell _ _⟩

set_option maxHeartbeats 1000000 in
theorem do2 : OpDo 81 2 := by
  intro w B x n m h hn hm
  have cA := h.a
  have fA := h.free 513
  have hs := Lib.hid (h.setA hm)
  go_enter Tryz.func81, Tryz.ntmps81
  go_wp2
  go_end0
  exact ⟨rfl, hs.out, (BelowBut.refl _ _ _).setCell _ _⟩

set_option maxHeartbeats 1000000 in
theorem do3 : OpDo 82 3 := by
  intro w B x n m h hn hm
  have cA := h.a
  have fA := h.free 513
  have hn' : (n : Int) < 256 := by omega
  have cM := h.mem hn
  have fM := h.free (1 + n)
  have hs := Lib.hid (h.setMem hn h.wf.a)
  generalize x.mem.getD n 0 = y at cM
  go_enter Tryz.func82, Tryz.ntmps82
  go_wp2
  go_region
  go_wp2
  go_end0
  exact ⟨rfl, hs.out.drew, ((BelowBut.refl _ _ _).setCell _ _).drew⟩

set_option maxHeartbeats 1000000 in
theorem do4 : OpDo 83 4 := by
  intro w B x n m h hn hm
  have cA := h.a
  have fA := h.free 513
  have hm' : (m : Int) < 256 := by omega
  have cM := h.mem hm
  have hs := Lib.hid (h.setA (getD_lt h.wf.memB m))
  generalize hy : x.mem.getD m 0 = y at cM hs
  replace hy := Lib.hid hy
  go_enter Tryz.func83, Tryz.ntmps83
  go_wp2
  go_end0
  exact ⟨rfl, by obtain rfl := hy.out; exact hs.out, (BelowBut.refl _ _ _).setCell _ _⟩

set_option maxHeartbeats 1000000 in
theorem do5 : OpDo 84 5 := by
  intro w B x n m h hn hm
  have cA := h.a
  have fA := h.free 513
  have hm' : (m : Int) < 256 := by omega
  have cM := h.mem hm
  have fM := h.free (1 + m)
  have hs := Lib.hid (h.setMem hm h.wf.a)
  generalize x.mem.getD m 0 = y at cM
  go_enter Tryz.func84, Tryz.ntmps84
  go_wp2
  go_region
  go_wp2
  go_end0
  exact ⟨rfl, hs.out.drew, ((BelowBut.refl _ _ _).setCell _ _).drew⟩

set_option maxHeartbeats 1000000 in
theorem do6 : OpDo 85 6 := by
  intro w B x n m h hn hm
  have cA := h.a
  have fA := h.free 513
  have hs := Lib.hid (h.setA (v := (x.a + m) % 256) (by omega))
  go_enter Tryz.func85, Tryz.ntmps85
  go_wp2
  go_end0
  exact ⟨rfl, hs.out, (BelowBut.refl _ _ _).setCell _ _⟩

set_option maxHeartbeats 1000000 in
theorem do7 : OpDo 86 7 := by
  intro w B x n m h hn hm
  have cA := h.a
  have fA := h.free 513
  have hxa := h.wf.a
  have hs := Lib.hid (show CpuAt (w.setCell ⟨B, 513, none⟩ (.int .u8 (((x.a : Int) - (m : Int)) % 256))) B { x with a := (x.a + 256 - m) % 256 } by rw [show ((x.a : Int) - (m : Int)) % 256 = (((x.a + 256 - m) % 256 : Nat) : Int) from by omega]; exact h.setA (by omega))
  go_enter Tryz.func86, Tryz.ntmps86
  go_wp2
  go_end0
  exact ⟨rfl, hs.out, (BelowBut.refl _ _ _).setCell _ _⟩

set_option maxHeartbeats 1000000 in
theorem do14 : OpDo 95 14 := by
  intro w B x n m h hn hm
  have cA := h.a
  have fA := h.free 513
  have hm' : (m : Int) < 256 := by omega
  have cM := h.disk hm
  have hs := Lib.hid (h.setA (getD_lt h.wf.diskB m))
  generalize hy : x.disk.getD m 0 = y at cM hs
  replace hy := Lib.hid hy
  go_enter Tryz.func95, Tryz.ntmps95
  go_wp2
  go_end0
  exact ⟨rfl, by obtain rfl := hy.out; exact hs.out, (BelowBut.refl _ _ _).setCell _ _⟩

set_option maxHeartbeats 1000000 in
theorem do16 : OpDo 97 16 := by
  intro w B x n m h hn hm
  have cA := h.a
  have fA := h.free 513
  have cT := h.time
  have hs := Lib.hid (h.setA (v := x.time % 256) (by omega))
  go_enter Tryz.func97, Tryz.ntmps97
  go_wp2
  go_end0
  exact ⟨rfl, hs.out, (BelowBut.refl _ _ _).setCell _ _⟩

/-- What an operation with an event does. -/
def OpEv (f : FuncId) (o : Nat) : Prop := ∀ (w : World) (B : Nat) (x : Cpu) (n m : Nat), CpuAt w B x → n < 256 → m < 256 →
  Calls Tryz.prog f #[.pointer (some ⟨B, 0, none⟩), .int .u8 (n : Int), .int .u8 (m : Int)] w fun e w' => ∃ b v, e = .returned (.pointer (some ⟨b, 0, none⟩)) ∧ (x.op o n m).2 = some v ∧ b ≠ B ∧ Arr w' b 39 (evCells [v]) ∧ CpuAt w' B (x.op o n m).1 ∧ BelowBut w.heap.size B w w'
set_option maxHeartbeats 1000000 in
theorem event_any (w : World) (B : Nat) (x : Cpu) (k : Int) (a b : Nat) (h : CpuAt w B x) (ha : a < 256) (hb : b < 256) :
    Calls Tryz.prog 66 #[.pointer (some ⟨B, 0, none⟩), .int .i64 k, .int .u8 (a : Int), .int .u8 (b : Int)] w fun e w' =>
      e = .returned (.pointer (some ⟨w.heap.size, 0, none⟩)) ∧ Arr w' w.heap.size 39 (evCells [⟨x.time, k, (a : Int), (b : Int)⟩]) ∧ Below w.heap.size w w' := by
  have cT := h.time
  have hN : ∀ (W : World) (cs : Array Value), cs = (evCells [⟨x.time, k, (a : Int), (b : Int)⟩]).toArray → Arr (W.alloc (.cells cs 39)) W.heap.size 39 (evCells [⟨x.time, k, (a : Int), (b : Int)⟩]) := fun W cs h => Arr.new h rfl
  replace hN := Lib.hid hN
  go_enter Tryz.func66, Tryz.ntmps66
  go_wp2
  go_ret
  exact ⟨rfl, hN.out _ _ rfl, (Below.refl _ _).alloc (Nat.le_refl _) _⟩
end Go.Proofs.YtkgbknjpnhoadaaGreatDoor
