/-
  The contracts of the computer's operations with events, of the jumps, of taking a key.
-/
import Derived.Test.YtkgbknjpnhoadaaGreatDoorCq3
namespace Go.Proofs.YtkgbknjpnhoadaaGreatDoor
open Go.RowKit

theorem and1_all : ∀ a, a < 256 → bits .and .u8 ((a : Nat) : Int) 1 = ((a % 2 : Nat) : Int) := by decide +kernel
set_option maxHeartbeats 1000000 in
theorem ev12 : OpEv 93 12 := by
  intro w B x n m h hn hm
  have cA := h.a
  have hE := event_any w B x 1 (m % 80) x.a h (by omega) h.wf.a
  rw [show ((m % 80 : Nat) : Int) = (m : Int) % 80 from by omega] at hE
  replace hE := Lib.hid hE
  have hlt := h.lt
  go_enter Tryz.func93, Tryz.ntmps93
  go_wp2_with fail
  refine hE.out.mono ?_
  rintro e w1 ⟨rfl, hA, hb⟩
  go_wp2
  go_ret
  exact ⟨_, _, rfl, rfl, by omega, hA, h.below hb, BelowBut.of hb⟩
set_option maxHeartbeats 1000000 in
theorem ev13 : OpEv 94 13 := by
  intro w B x n m h hn hm
  have cA := h.a
  have hE := event_any w B x 2 m (x.a % 2) h hm (by omega)
  rw [← and1_all x.a h.wf.a] at hE
  have h1 := Lib.hid (and1_all x.a h.wf.a)
  replace hE := Lib.hid hE
  have hlt := h.lt
  go_enter Tryz.func94, Tryz.ntmps94
  go_wp2_with fail
  refine hE.out.mono ?_
  rintro e w1 ⟨rfl, hA, hb⟩
  rw [h1.out] at hA
  go_wp2
  go_ret
  exact ⟨_, _, rfl, rfl, by omega, hA, h.below hb, BelowBut.of hb⟩
set_option maxHeartbeats 1000000 in
theorem ev15 : OpEv 96 15 := by
  intro w B x n m h hn hm
  have cA := h.a
  have hm' : (m : Int) < 256 := by omega
  have cM := h.disk hm
  have fM := h.free (257 + m)
  have hs := (h.setDisk hm h.wf.a).drew
  have hB := ((BelowBut.refl w.heap.size B w).setCell (257 + m) (.int .u8 (x.a : Int))).drew
  have hlt := h.lt
  replace hs := Lib.hid hs
  generalize x.disk.getD m 0 = y at cM
  go_enter Tryz.func96, Tryz.ntmps96
  go_wp2
  go_region
  refine name_then ?_
  intro w2 hw2
  have hs2 : CpuAt w2 B { x with disk := x.disk.set m x.a } := by rw [hw2]; exact hs.out
  have hB2 : BelowBut w.heap.size B w w2 := by rw [hw2]; exact hB
  clear hw2 hs hB cA cM fM
  have cA := hs2.a
  have hE := event_any w2 B _ 3 m x.a hs2 hm h.wf.a
  replace hE := Lib.hid hE
  dsimp only at cA
  go_wp2_with fail
  refine hE.out.mono ?_
  rintro e w1 ⟨rfl, hA, hb⟩
  go_wp2
  go_ret
  have hz := hB2.size
  exact ⟨_, _, rfl, rfl, by omega, hA, hs2.below hb, hB2.trans (BelowBut.of (hb.mono (Nat.le_refl _))) hz⟩

/-- Whether a jump jumps. -/
def isAny (_ : Nat) : Bool := true
def isZero (a : Nat) : Bool := decide (a = 0)
def isNeg (a : Nat) : Bool := decide (128 ≤ a)
def IsCon (g : FuncId) (is : Nat → Bool) : Prop := ∀ (a : Nat) (w : World), a < 256 → Calls Tryz.prog g #[.int .u8 (a : Int)] w fun e w' => e = .returned (.bool (is a)) ∧ w' = w
set_option maxHeartbeats 400000 in
theorem is8 : IsCon 88 isAny := by
  intro a w ha
  go_enter Tryz.func88, Tryz.ntmps88
  go_wp2
  go_ret
  exact ⟨rfl, rfl⟩
set_option maxHeartbeats 400000 in
theorem is9 : IsCon 89 isZero := by
  intro a w ha
  have hv : Hid (((a : Int) == 0) = isZero a) := by
    show _ = _
    rw [Bool.eq_iff_iff]; simp [isZero]
  go_enter Tryz.func89, Tryz.ntmps89
  go_wp2
  go_ret
  exact ⟨by rw [← hv.out]; rfl, rfl⟩
set_option maxHeartbeats 400000 in
theorem is10 : IsCon 90 isNeg := by
  intro a w ha
  have hv : Hid (decide ((128 : Int) ≤ (a : Int)) = isNeg a) := by
    show _ = _
    rw [Bool.eq_iff_iff]; simp [isNeg]; omega
  go_enter Tryz.func90, Tryz.ntmps90
  go_wp2
  go_ret
  exact ⟨by rw [← hv.out]; first | rfl | simp, rfl⟩

set_option maxHeartbeats 1000000 in
theorem jump1_any (g : FuncId) (is : Nat → Bool) (hg : IsCon g is) (eg : ∀ (args : Array Value) (w : World), (callFunc g args).run Tryz.prog w = .ok (.enter g args) w)
    (w : World) (B : Nat) (x : Cpu) (n m b : Nat) (h : CpuAt w B x) (hn : n < 256) (hb : w.cell? ⟨b, 0, none⟩ = some (.func (.func g) #[] #[])) :
    Calls Tryz.prog 112 #[.pointer (some ⟨B, 0, none⟩), .int .u8 (n : Int), .int .u8 (m : Int), .pointer (some ⟨b, 0, none⟩)] w fun e w' => e = .returned (.tuple #[]) ∧ CpuAt w' B (if is x.a = true then { x with c := n } else x) ∧ BelowBut w.heap.size B w w' := by
  have cA := h.a
  have cC := h.c
  have fC := h.free 514
  have hxa := h.wf.a
  have hI := fun (W : World) => hg x.a W hxa
  have hs := Lib.hid (h.setC hn)
  cases hi : is x.a
  · rw [hi] at hI
    rw [if_neg (by simp)]
    clear hi
    replace hI := Lib.hid hI
    go_enter Tryz.func112, Tryz.ntmps112
    go_wp2
    go_quiet ((with_reducible refine Calls.quiet_of_same (hI.out _)))
    go_wp2
    go_end0
    exact ⟨rfl, h.drewN _, (BelowBut.refl _ _ _).drewN _⟩
  · rw [hi] at hI
    rw [if_pos rfl]
    clear hi
    replace hI := Lib.hid hI
    go_enter Tryz.func112, Tryz.ntmps112
    go_wp2
    go_quiet ((with_reducible refine Calls.quiet_of_same (hI.out _)))
    go_wp2
    go_end0
    exact ⟨rfl, hs.out.drewN _, ((BelowBut.refl _ _ _).setCell _ _).drewN _⟩
end Go.Proofs.YtkgbknjpnhoadaaGreatDoor
