/-
  The contracts of the computer's operations.
  The contracts of the computer's operations with events, of the jumps, of taking a key.
  The contracts of taking a key, of operation 11, of the functions that quiet makes.
  The contract of computer.operations: what the known functions do.
  A range over an iterator that keeps its state in the cells of one block (B): what the caller keeps must abide writes into B alone. The law, in the shape of the library's law for iterators that only read.
  The contract of the iterator that (*processor).run gives.
  The contracts of slices.AppendSeq and slices.Collect over the computer's events.
-/
import Derived.Test.YtocpnlifmeffkaaGreatDoorUA
import Derived.BigRegion
import Derived.Shelf.Abstract
import Derived.RangeFuncNested
import Derived.RangeFuncBound
import Derived.RangeFuncCalls
import Derived.RangeFuncLeaves
import Derived.RangeFuncBox
import Derived.Shelf.RegionOpen
import Derived.OwnWalkIn
import Derived.TacticsInMore
import Derived.LoopNIn
import Derived.LoopIn
import Derived.BigRegionIn
import Derived.StillTailTactics
import Derived.Maps.AppendAt
namespace Go.Proofs.YtocpnlifmeffkaaGreatDoor
open Go.RowKit

/-- What an operation without an event does. -/
def OpDo (f : FuncId) (o : Nat) : Prop := ∀ (w : World) (B : Nat) (x : Cpu) (n m : Nat), CpuAt w B x → n < 256 → m < 256 →
  Calls Tryz.prog f #[.pointer (some ⟨B, 0, none⟩), .int .u8 (n : Int), .int .u8 (m : Int)] w fun e w' => e = .returned (.tuple #[]) ∧ CpuAt w' B (x.op o n m).1 ∧ BelowBut w.heap.size B w w'
theorem u8n (n : Int) : IntKind.u8.wrap n = n % 256 := by simp [IntKind.wrap, IntKind.bits, IntKind.signed]

set_option maxHeartbeats 1000000 in
theorem do1 : OpDo 123 1 := by
  intro w B x n m h hn hm
  have cA := h.a
  have fA := h.free 513
  have hs := Lib.hid (h.setA hn)
  go_enter Tryz.func123, Tryz.ntmps123
  go_wp2
  go_end0
  exact ⟨rfl, hs.out, (BelowBut.refl _ _ _).setCell _ _⟩

set_option maxHeartbeats 1000000 in
theorem do2 : OpDo 124 2 := by
  intro w B x n m h hn hm
  have cA := h.a
  have fA := h.free 513
  have hs := Lib.hid (h.setA hm)
  go_enter Tryz.func124, Tryz.ntmps124
  go_wp2
  go_end0
  exact ⟨rfl, hs.out, (BelowBut.refl _ _ _).setCell _ _⟩

set_option maxHeartbeats 1000000 in
theorem do3 : OpDo 125 3 := by
  intro w B x n m h hn hm
  have cA := h.a
  have fA := h.free 513
  have hn' : (n : Int) < 256 := by omega
  have cM := h.mem hn
  have fM := h.free (1 + n)
  have hs := Lib.hid (h.setMem hn h.wf.a)
  generalize x.mem.getD n 0 = y at cM
  go_enter Tryz.func125, Tryz.ntmps125
  go_wp2
  go_region
  go_wp2
  go_end0
  exact ⟨rfl, hs.out.drew, ((BelowBut.refl _ _ _).setCell _ _).drew⟩

set_option maxHeartbeats 1000000 in
theorem do4 : OpDo 126 4 := by
  intro w B x n m h hn hm
  have cA := h.a
  have fA := h.free 513
  have hm' : (m : Int) < 256 := by omega
  have cM := h.mem hm
  have hs := Lib.hid (h.setA (getD_lt h.wf.memB m))
  generalize hy : x.mem.getD m 0 = y at cM hs
  replace hy := Lib.hid hy
  go_enter Tryz.func126, Tryz.ntmps126
  go_wp2
  go_end0
  exact ⟨rfl, by obtain rfl := hy.out; exact hs.out, (BelowBut.refl _ _ _).setCell _ _⟩

set_option maxHeartbeats 1000000 in
theorem do5 : OpDo 127 5 := by
  intro w B x n m h hn hm
  have cA := h.a
  have fA := h.free 513
  have hm' : (m : Int) < 256 := by omega
  have cM := h.mem hm
  have fM := h.free (1 + m)
  have hs := Lib.hid (h.setMem hm h.wf.a)
  generalize x.mem.getD m 0 = y at cM
  go_enter Tryz.func127, Tryz.ntmps127
  go_wp2
  go_region
  go_wp2
  go_end0
  exact ⟨rfl, hs.out.drew, ((BelowBut.refl _ _ _).setCell _ _).drew⟩

set_option maxHeartbeats 1000000 in
theorem do6 : OpDo 128 6 := by
  intro w B x n m h hn hm
  have cA := h.a
  have fA := h.free 513
  have hs := Lib.hid (h.setA (v := (x.a + m) % 256) (by omega))
  go_enter Tryz.func128, Tryz.ntmps128
  go_wp2
  go_end0
  exact ⟨rfl, hs.out, (BelowBut.refl _ _ _).setCell _ _⟩

set_option maxHeartbeats 1000000 in
theorem do7 : OpDo 129 7 := by
  intro w B x n m h hn hm
  have cA := h.a
  have fA := h.free 513
  have hxa := h.wf.a
  have hs := Lib.hid (show CpuAt (w.setCell ⟨B, 513, none⟩ (.int .u8 (((x.a : Int) - (m : Int)) % 256))) B { x with a := (x.a + 256 - m) % 256 } by rw [show ((x.a : Int) - (m : Int)) % 256 = (((x.a + 256 - m) % 256 : Nat) : Int) from by omega]; exact h.setA (by omega))
  go_enter Tryz.func129, Tryz.ntmps129
  go_wp2
  go_end0
  exact ⟨rfl, hs.out, (BelowBut.refl _ _ _).setCell _ _⟩

set_option maxHeartbeats 1000000 in
theorem do14 : OpDo 138 14 := by
  intro w B x n m h hn hm
  have cA := h.a
  have fA := h.free 513
  have hm' : (m : Int) < 256 := by omega
  have cM := h.disk hm
  have hs := Lib.hid (h.setA (getD_lt h.wf.diskB m))
  generalize hy : x.disk.getD m 0 = y at cM hs
  replace hy := Lib.hid hy
  go_enter Tryz.func138, Tryz.ntmps138
  go_wp2
  go_end0
  exact ⟨rfl, by obtain rfl := hy.out; exact hs.out, (BelowBut.refl _ _ _).setCell _ _⟩

set_option maxHeartbeats 1000000 in
theorem do16 : OpDo 140 16 := by
  intro w B x n m h hn hm
  have cA := h.a
  have fA := h.free 513
  have cT := h.time
  have hs := Lib.hid (h.setA (v := x.time % 256) (by omega))
  go_enter Tryz.func140, Tryz.ntmps140
  go_wp2
  go_end0
  exact ⟨rfl, hs.out, (BelowBut.refl _ _ _).setCell _ _⟩

/-- What an operation with an event does. -/
def OpEv (f : FuncId) (o : Nat) : Prop := ∀ (w : World) (B : Nat) (x : Cpu) (n m : Nat), CpuAt w B x → n < 256 → m < 256 →
  Calls Tryz.prog f #[.pointer (some ⟨B, 0, none⟩), .int .u8 (n : Int), .int .u8 (m : Int)] w fun e w' => ∃ b v, e = .returned (.pointer (some ⟨b, 0, none⟩)) ∧ (x.op o n m).2 = some v ∧ b ≠ B ∧ Arr w' b 60 (evCells [v]) ∧ CpuAt w' B (x.op o n m).1 ∧ BelowBut w.heap.size B w w'
set_option maxHeartbeats 1000000 in
theorem event_any (w : World) (B : Nat) (x : Cpu) (k : Int) (a b : Nat) (h : CpuAt w B x) (ha : a < 256) (hb : b < 256) :
    Calls Tryz.prog 63 #[.pointer (some ⟨B, 0, none⟩), .int .i64 k, .int .u8 (a : Int), .int .u8 (b : Int)] w fun e w' =>
      e = .returned (.pointer (some ⟨w.heap.size, 0, none⟩)) ∧ Arr w' w.heap.size 60 (evCells [⟨x.time, k, (a : Int), (b : Int)⟩]) ∧ Below w.heap.size w w' := by
  have cT := h.time
  have hN : ∀ (W : World) (cs : Array Value), cs = (evCells [⟨x.time, k, (a : Int), (b : Int)⟩]).toArray → Arr (W.alloc (.cells cs 60)) W.heap.size 60 (evCells [⟨x.time, k, (a : Int), (b : Int)⟩]) := fun W cs h => Arr.new h rfl
  replace hN := Lib.hid hN
  go_enter Tryz.func63, Tryz.ntmps63
  go_wp2
  go_ret
  exact ⟨rfl, hN.out _ _ rfl, (Below.refl _ _).alloc (Nat.le_refl _) _⟩
end Go.Proofs.YtocpnlifmeffkaaGreatDoor
namespace Go.Proofs.YtocpnlifmeffkaaGreatDoor
open Go.RowKit

theorem and1_all : ∀ a, a < 256 → bits .and .u8 ((a : Nat) : Int) 1 = ((a % 2 : Nat) : Int) := by decide +kernel
set_option maxHeartbeats 1000000 in
theorem ev12 : OpEv 136 12 := by
  intro w B x n m h hn hm
  have cA := h.a
  have hE := event_any w B x 1 (m % 80) x.a h (by omega) h.wf.a
  rw [show ((m % 80 : Nat) : Int) = (m : Int) % 80 from by omega] at hE
  replace hE := Lib.hid hE
  have hlt := h.lt
  go_enter Tryz.func136, Tryz.ntmps136
  go_wp2_with fail
  refine hE.out.mono ?_
  rintro e w1 ⟨rfl, hA, hb⟩
  go_wp2
  go_ret
  exact ⟨_, _, rfl, rfl, by omega, hA, h.below hb, BelowBut.of hb⟩
set_option maxHeartbeats 1000000 in
theorem ev13 : OpEv 137 13 := by
  intro w B x n m h hn hm
  have cA := h.a
  have hE := event_any w B x 2 m (x.a % 2) h hm (by omega)
  rw [← and1_all x.a h.wf.a] at hE
  have h1 := Lib.hid (and1_all x.a h.wf.a)
  replace hE := Lib.hid hE
  have hlt := h.lt
  go_enter Tryz.func137, Tryz.ntmps137
  go_wp2_with fail
  refine hE.out.mono ?_
  rintro e w1 ⟨rfl, hA, hb⟩
  rw [h1.out] at hA
  go_wp2
  go_ret
  exact ⟨_, _, rfl, rfl, by omega, hA, h.below hb, BelowBut.of hb⟩
set_option maxHeartbeats 1000000 in
theorem ev15 : OpEv 139 15 := by
  intro w B x n m h hn hm
  have cA := h.a
  have hm' : (m : Int) < 256 := by omega
  have cM := h.disk hm
  have fM := h.free (257 + m)
  have hs := (h.setDisk hm h.wf.a).drew
  have hB := ((BelowBut.refl w.heap.size B w).setCell (257 + m) (.int .u8 (x.a : Int))).drew
  have hlt := h.lt
  replace hs := Lib.hid hs
  generalize x.disk.getD m 0 = y at cM
  go_enter Tryz.func139, Tryz.ntmps139
  go_wp2
  go_region
  refine name_then ?_
  intro w2 hw2
  have hs2 : CpuAt w2 B { x with disk := x.disk.set m x.a } := by rw [hw2]; exact hs.out
  have hB2 : BelowBut w.heap.size B w w2 := by rw [hw2]; exact hB
  clear hw2 hs hB cA cM fM
  have cA := hs2.a
  have hE := event_any w2 B _ 3 m x.a hs2 hm h.wf.a
  replace hE := Lib.hid hE
  dsimp only at cA
  go_wp2_with fail
  refine hE.out.mono ?_
  rintro e w1 ⟨rfl, hA, hb⟩
  go_wp2
  go_ret
  have hz := hB2.size
  exact ⟨_, _, rfl, rfl, by omega, hA, hs2.below hb, hB2.trans (BelowBut.of (hb.mono (Nat.le_refl _))) hz⟩

/-- Whether a jump jumps. -/
def isAny (_ : Nat) : Bool := true
def isZero (a : Nat) : Bool := decide (a = 0)
def isNeg (a : Nat) : Bool := decide (128 ≤ a)
def IsCon (g : FuncId) (is : Nat → Bool) : Prop := ∀ (a : Nat) (w : World), a < 256 → Calls Tryz.prog g #[.int .u8 (a : Int)] w fun e w' => e = .returned (.bool (is a)) ∧ w' = w
set_option maxHeartbeats 400000 in
theorem is8 : IsCon 131 isAny := by
  intro a w ha
  go_enter Tryz.func131, Tryz.ntmps131
  go_wp2
  go_ret
  exact ⟨rfl, rfl⟩
set_option maxHeartbeats 400000 in
theorem is9 : IsCon 132 isZero := by
  intro a w ha
  have hv : Hid (((a : Int) == 0) = isZero a) := by
    show _ = _
    rw [Bool.eq_iff_iff]; simp [isZero]
  go_enter Tryz.func132, Tryz.ntmps132
  go_wp2
  go_ret
  exact ⟨by rw [← hv.out]; rfl, rfl⟩
set_option maxHeartbeats 400000 in
theorem is10 : IsCon 133 isNeg := by
  intro a w ha
  have hv : Hid (decide ((128 : Int) ≤ (a : Int)) = isNeg a) := by
    show _ = _
    rw [Bool.eq_iff_iff]; simp [isNeg]; omega
  go_enter Tryz.func133, Tryz.ntmps133
  go_wp2
  go_ret
  exact ⟨by rw [← hv.out]; first | rfl | simp, rfl⟩

set_option maxHeartbeats 1000000 in
theorem jump1_any (g : FuncId) (is : Nat → Bool) (hg : IsCon g is) (eg : ∀ (args : Array Value) (w : World), (callFunc g args).run Tryz.prog w = .ok (.enter g args) w)
    (w : World) (B : Nat) (x : Cpu) (n m b : Nat) (h : CpuAt w B x) (hn : n < 256) (hb : w.cell? ⟨b, 0, none⟩ = some (.func (.func g) #[] #[])) :
    Calls Tryz.prog 184 #[.pointer (some ⟨B, 0, none⟩), .int .u8 (n : Int), .int .u8 (m : Int), .pointer (some ⟨b, 0, none⟩)] w fun e w' => e = .returned (.tuple #[]) ∧ CpuAt w' B (if is x.a = true then { x with c := n } else x) ∧ BelowBut w.heap.size B w w' := by
  have cA := h.a
  have cC := h.c
  have fC := h.free 514
  have hxa := h.wf.a
  have hI := fun (W : World) => hg x.a W hxa
  have hs := Lib.hid (h.setC hn)
  cases hi : is x.a
  · rw [hi] at hI
    rw [if_neg (by simp)]
    clear hi
    replace hI := Lib.hid hI
    go_enter Tryz.func184, Tryz.ntmps184
    go_wp2
    go_quiet ((with_reducible refine Calls.quiet_of_same (hI.out _)))
    go_wp2
    go_end0
    exact ⟨rfl, h.drewN _, (BelowBut.refl _ _ _).drewN _⟩
  · rw [hi] at hI
    rw [if_pos rfl]
    clear hi
    replace hI := Lib.hid hI
    go_enter Tryz.func184, Tryz.ntmps184
    go_wp2
    go_quiet ((with_reducible refine Calls.quiet_of_same (hI.out _)))
    go_wp2
    go_end0
    exact ⟨rfl, hs.out.drewN _, ((BelowBut.refl _ _ _).setCell _ _).drewN _⟩
end Go.Proofs.YtocpnlifmeffkaaGreatDoor
namespace Go.Proofs.YtocpnlifmeffkaaGreatDoor
open Go.RowKit

def Cpu.takeV (x : Cpu) : Nat := match x.keys with
  | [] => 0
  | k :: _ => if (x.time : Int) < k.t then 0 else k.a.toNat
def Cpu.takeR (x : Cpu) : List Ev := match x.keys with
  | [] => []
  | k :: r => if (x.time : Int) < k.t then k :: r else r
theorem take_eq (x : Cpu) : x.take = { x with a := x.takeV, keys := x.takeR } := by
  obtain ⟨m, d, a, c, t, l⟩ := x
  cases l with
  | nil => rfl
  | cons k r =>
    simp only [Cpu.take, Cpu.takeV, Cpu.takeR]
    split <;> rfl
theorem cpuCells_keys (kv : Value) (x : Cpu) (l : List Ev) : cpuCells kv { x with keys := l } = cpuCells kv x := rfl
theorem takeV_lt {x : Cpu} (h : x.WF) : x.takeV < 256 := by
  unfold Cpu.takeV
  cases hk : x.keys with
  | nil => simp
  | cons k r =>
    dsimp only
    have h1 := keyOk_parts (h.keys k (by simp [hk]))
    split <;> omega

set_option maxHeartbeats 2000000 in
theorem take_any (w : World) (B : Nat) (x : Cpu) (h : CpuAt w B x) :
    Calls Tryz.prog 135 #[.pointer (some ⟨B, 0, none⟩), .int .i64 (x.time : Int)] w fun e w' => e = .returned (.int .u8 (x.takeV : Int)) ∧ CpuAt w' B { x with keys := x.takeR } ∧ BelowBut w.heap.size B w w' := by
  have f0 := h.free 0
  obtain ⟨hwf, kv, hA, a, cap, rfl, hc1, hc2, hK⟩ := h
  have c0 := hA.cell (j := 0) (v := .slice a x.keys.length cap) rfl
  have hNew : ∀ (v : Value) (l : List Ev), (∀ k, k ∈ l → keyOk k = true) → SliceAt (w.setCell ⟨B, 0, none⟩ v) B v l.length (evCells l) → CpuAt (w.setCell ⟨B, 0, none⟩ v) B { x with keys := l } := fun v l hl hs =>
    ⟨⟨hwf.mem, hwf.disk, hwf.memB, hwf.diskB, hwf.a, hwf.c, hl⟩, v, hA.set 0 v, hs⟩
  have hSame : CpuAt w B x := ⟨hwf, _, hA, a, cap, rfl, hc1, hc2, hK⟩
  unfold Cpu.takeV Cpu.takeR
  cases hk : x.keys with
  | nil =>
    rw [hk] at c0
    have hE : x = { x with keys := [] } := by rw [← hk]
    rw [hE] at hSame
    have hSame' : CpuAt w B { x with keys := [] } := hSame
    clear hNew hK hA hSame hE hk
    go_enter Tryz.func135, Tryz.ntmps135
    go_wp2
    go_ret
    exact ⟨rfl, hSame', BelowBut.refl _ _ _⟩
  | cons k r =>
    rw [hk] at c0 hK hc1
    have h1 := keyOk_parts (hwf.keys k (by simp [hk]))
    obtain ⟨p1, p2, p3, p4, p5, p6⟩ := h1
    obtain ⟨b, o, rfl, hbB, hcell⟩ := hK (by simp)
    have e0 := hcell 0 _ rfl
    rw [Nat.add_zero] at e0
    have e2 := hcell 2 _ rfl
    have hlen : (((k :: r).length : Nat) : Int) = (r.length : Int) + 1 := by simp
    have hl0 : (((r.length : Int) + 1) == 0) = false := by rw [beq_eq_false_iff_ne]; omega
    by_cases ht : (x.time : Int) < k.t
    · dsimp only
      rw [if_pos ht, if_pos ht]
      have hE : x = { x with keys := k :: r } := by rw [← hk]
      rw [hE] at hSame
      have hSame' : CpuAt w B { x with keys := k :: r } := hSame
      clear hNew hK hA hSame hE hk hcell p1 p6
      go_enter Tryz.func135, Tryz.ntmps135
      go_wp2
      go_ret
      exact ⟨rfl, hSame', BelowBut.refl _ _ _⟩
    · dsimp only
      rw [if_neg ht, if_neg ht]
      have hkl : ∀ q, q ∈ r → keyOk q = true := fun q hq => hwf.keys q (by simp [hk]; exact .inr hq)
      have hxs : ∀ j u, (evCells r)[j]? = some u → w.cell? ⟨b, o + 4 + j, none⟩ = some u := fun j u hu => by
        have := hcell (4 + j) u (by rw [evCells_cons, List.getElem?_append_right (by simp)]; simpa using hu)
        rw [Nat.add_assoc]; exact this
      have hv : Hid (((k.a.toNat : Nat) : Int) = k.a) := by show _ = _; omega
      rw [List.length_cons] at hc1 c0
      have hS : ∀ A : Option Addr, (0 < r.length → A = some ⟨b, o + 4, none⟩) → SliceAt (w.setCell ⟨B, 0, none⟩ (.slice A r.length (cap - 1))) B (.slice A r.length (cap - 1)) r.length (evCells r) := fun A hAd =>
        ⟨A, cap - 1, rfl, by omega, by omega, fun hn => ⟨b, o + 4, hAd hn, hbB, fun j u hu => by
          rw [World.cell?_setCell_other _ _ _ _ (by intro e; injection e with e; omega)]
          exact hxs j u hu⟩⟩
      have hFin : ∀ A : Option Addr, (0 < r.length → A = some ⟨b, o + 4, none⟩) → CpuAt (w.setCell ⟨B, 0, none⟩ (.slice A r.length (cap - 1))) B { x with keys := r } := fun A hAd => hNew _ r hkl (hS A hAd)
      clear hNew hS hK hA hSame hk hcell hxs hkl p1 p6 hlen
      replace hFin := Lib.hid hFin
      rw [hv.out]
      have hc3 : 1 ≤ cap := by omega
      unfold maxLen at hc2
      by_cases hcap : cap = 1
      · subst hcap
        have hr : r.length = 0 := by omega
        obtain rfl : r = [] := List.eq_nil_of_length_eq_zero hr
        have hF := hFin.out (some ⟨b, o, none⟩) (fun h => absurd h (by simp))
        replace hF := Lib.hid hF
        clear hFin hr hc1
        go_enter Tryz.func135, Tryz.ntmps135
        go_wp2
        go_ret
        exact ⟨rfl, hF.out, (BelowBut.refl _ _ _).setCell _ _⟩
      · have hF := hFin.out (some ⟨b, o + 4, none⟩) (fun _ => rfl)
        replace hF := Lib.hid hF
        clear hFin
        go_enter Tryz.func135, Tryz.ntmps135
        go_wp2
        go_ret
        exact ⟨rfl, hF.out, (BelowBut.refl _ _ _).setCell _ _⟩

set_option maxRecDepth 100000 in
set_option maxHeartbeats 2000000 in
theorem do11 : OpDo 134 11 := by
  intro w B x n m h hn hm
  have cT := h.time
  have hv := takeV_lt h.wf
  have hT := take_any w.drew B x h.drew
  have hcon : (x.op 11 n m).1 = { x with a := x.takeV, keys := x.takeR } := take_eq x
  rw [hcon]
  clear hcon
  generalize x.takeV = v at *
  generalize x.takeR = r at *
  replace hT := Lib.hid hT
  go_enter Tryz.func134, Tryz.ntmps134
  go_wp2
  refine wp_region_held_drew (S := fun w' => w'.cell? ⟨B, 515, none⟩ = some (.int .i64 (x.time : Int))) (by kernel_rfl) (by first | (dsimp only; go_keep) | go_keep) (fun hHeld => ?_)
  refine take_l (i := 0) (v := ?_) rfl (by kernel_rfl) (by kernel_rfl) (by kernel_rfl) (fun _ _ _ h => h) (Or.inl ⟨by kernel_rfl, ?_⟩) (by assumption) ?_
  rotate_left
  · intro w hSw; (try dsimp only at hSw); go_simp; (try with_reducible rfl)
  (try simp only [Act.put, List.setIfInBounds_toArray, List.set_cons_zero, List.set_cons_succ])
  refine take_l (i := 1) (v := ?_) rfl (by kernel_rfl) (by kernel_rfl) (by kernel_rfl) (fun _ _ _ h => h) (Or.inl ⟨by kernel_rfl, ?_⟩) (by assumption) ?_
  rotate_left
  · intro w hSw; (try dsimp only at hSw); go_simp; (try with_reducible rfl)
  (try simp only [Act.put, List.setIfInBounds_toArray, List.set_cons_zero, List.set_cons_succ])
  refine take_l (i := 2) (v := ?_) rfl (by kernel_rfl) (by kernel_rfl) (by kernel_rfl) (fun _ _ _ h => h) (Or.inl ⟨by kernel_rfl, ?_⟩) (by assumption) ?_
  rotate_left
  · intro w hSw; (try dsimp only at hSw); go_simp; (try with_reducible rfl)
  (try simp only [Act.put, List.setIfInBounds_toArray, List.set_cons_zero, List.set_cons_succ])
  refine take_l (i := 3) (v := ?_) rfl (by kernel_rfl) (by kernel_rfl) (by kernel_rfl) (fun _ _ _ h => h) (Or.inl ⟨by kernel_rfl, ?_⟩) (by assumption) ?_
  rotate_left
  · intro w hSw; (try dsimp only at hSw); go_simp; (try with_reducible rfl)
  (try simp only [Act.put, List.setIfInBounds_toArray, List.set_cons_zero, List.set_cons_succ])
  refine take_l (i := 4) (v := ?_) rfl (by kernel_rfl) (by kernel_rfl) (by kernel_rfl) (fun _ _ _ h => h) (Or.inl ⟨by kernel_rfl, ?_⟩) (by assumption) ?_
  rotate_left
  · intro w hSw; (try dsimp only at hSw); go_simp; (try with_reducible rfl)
  (try simp only [Act.put, List.setIfInBounds_toArray, List.set_cons_zero, List.set_cons_succ])
  refine take_l (i := 5) (v := ?_) rfl (by kernel_rfl) (by kernel_rfl) (by kernel_rfl) (fun _ _ _ h => h) (Or.inl ⟨by kernel_rfl, ?_⟩) (by assumption) ?_
  rotate_left
  · intro w hSw; (try dsimp only at hSw); go_simp; (try with_reducible rfl)
  (try simp only [Act.put, List.setIfInBounds_toArray, List.set_cons_zero, List.set_cons_succ])
  refine take_l (i := 6) (v := ?_) rfl (by kernel_rfl) (by kernel_rfl) (by kernel_rfl) (fun _ _ _ h => h) (Or.inl ⟨by kernel_rfl, ?_⟩) (by assumption) ?_
  rotate_left
  · intro w hSw; (try dsimp only at hSw); go_simp; (try with_reducible rfl)
  (try simp only [Act.put, List.setIfInBounds_toArray, List.set_cons_zero, List.set_cons_succ])
  refine take_l (i := 7) (v := ?_) rfl (by kernel_rfl) (by kernel_rfl) (by kernel_rfl) (fun _ _ _ h => h) (Or.inl ⟨by kernel_rfl, ?_⟩) (by assumption) ?_
  rotate_left
  · intro w hSw; (try dsimp only at hSw); go_simp; (try with_reducible rfl)
  (try simp only [Act.put, List.setIfInBounds_toArray, List.set_cons_zero, List.set_cons_succ])
  refine wpAnyH_ready (rs := [8]) (by kernel_rfl) (by simp) ?_
  refine ready_l rfl (fun K hK => ?_) AllReadyH.nil
  go_simp
  go_at_call 135
  refine hT.out.mono ?_
  rintro e w1 ⟨rfl, hC1, hb1⟩
  have cT1 := hC1.time
  have cA1 := hC1.a
  have fA1 := hC1.free 513
  have hs := Lib.hid (hC1.setA hv)
  (try simp only [Act.put, List.setIfInBounds_toArray, List.set_cons_zero, List.set_cons_succ])
  refine hK.out _ _ (by exact cT1) (fun hHeld => ?_)
  clear hK K
  (try simp only [Act.put, List.setIfInBounds_toArray, List.set_cons_zero, List.set_cons_succ])
  refine take_l (i := 9) (v := ?_) rfl (by kernel_rfl) (by kernel_rfl) (by kernel_rfl) (fun _ _ _ h => h) (Or.inl ⟨by kernel_rfl, ?_⟩) (by assumption) ?_
  rotate_left
  · intro w hSw; (try dsimp only at hSw); go_simp; (try with_reducible rfl)
  (try simp only [Act.put, List.setIfInBounds_toArray, List.set_cons_zero, List.set_cons_succ])
  refine take_l (i := 10) (v := ?_) rfl (by kernel_rfl) (by kernel_rfl) (by kernel_rfl) (fun _ _ _ h => h) (Or.inl ⟨by kernel_rfl, ?_⟩) (by assumption) ?_
  rotate_left
  · intro w hSw; (try dsimp only at hSw); go_simp; (try with_reducible rfl)
  (try simp only [Act.put, List.setIfInBounds_toArray, List.set_cons_zero, List.set_cons_succ])
  refine wpAnyH_ready (rs := [11]) (by kernel_rfl) (by simp) ?_
  refine ready_l rfl (fun K hK => ?_) AllReadyH.nil
  go_simp
  refine hK.out _ _ (by first | (exact hs.out.time) | (dsimp only; go_keep) | go_keep) (fun hHeld => ?_)
  clear hK K
  (try simp only [Act.put, List.setIfInBounds_toArray, List.set_cons_zero, List.set_cons_succ])
  refine wpAnyH_done (by kernel_rfl) ?_ _
  go_wp2
  go_end0
  exact ⟨rfl, hs.out, (BelowBut.trans ((BelowBut.refl w.heap.size B w).drew) hb1 (Nat.le_refl _)).setCell _ _⟩
set_option maxHeartbeats 1000000 in
theorem quiet1_any (g : FuncId) (eg : ∀ (args : Array Value) (w : World), (callFunc g args).run Tryz.prog w = .ok (.enter g args) w) (R : World → World → Prop)
    (w : World) (B : Nat) (n m b : Nat) (hb : w.cell? ⟨b, 0, none⟩ = some (.func (.func g) #[] #[]))
    (hdo : Calls Tryz.prog g #[.pointer (some ⟨B, 0, none⟩), .int .u8 (n : Int), .int .u8 (m : Int)] w fun e w' => e = .returned (.tuple #[]) ∧ R w w') :
    Calls Tryz.prog 183 #[.pointer (some ⟨B, 0, none⟩), .int .u8 (n : Int), .int .u8 (m : Int), .pointer (some ⟨b, 0, none⟩)] w fun e w' => e = .returned (.pointer none) ∧ R w w' := by
  replace hdo := Lib.hid hdo
  go_enter Tryz.func183, Tryz.ntmps183
  go_wp2_with fail
  refine hdo.out.mono ?_
  rintro e w1 ⟨rfl, hR⟩
  go_wp2
  go_ret
  exact ⟨rfl, hR⟩
theorem quiet1_cap (g : FuncId) (v : Value) (eg : ∀ (args : Array Value) (w : World), (callFunc g args).run Tryz.prog w = .ok (.enter g args) w) (R : World → World → Prop)
    (w : World) (B : Nat) (n m b : Nat) (hb : w.cell? ⟨b, 0, none⟩ = some (.func (.func g) #[] #[v]))
    (hdo : Calls Tryz.prog g #[.pointer (some ⟨B, 0, none⟩), .int .u8 (n : Int), .int .u8 (m : Int), v] w fun e w' => e = .returned (.tuple #[]) ∧ R w w') :
    Calls Tryz.prog 183 #[.pointer (some ⟨B, 0, none⟩), .int .u8 (n : Int), .int .u8 (m : Int), .pointer (some ⟨b, 0, none⟩)] w fun e w' => e = .returned (.pointer none) ∧ R w w' := by
  replace hdo := Lib.hid hdo
  go_enter Tryz.func183, Tryz.ntmps183
  go_wp2_with fail
  refine hdo.out.mono ?_
  rintro e w1 ⟨rfl, hR⟩
  go_wp2
  go_ret
  exact ⟨rfl, hR⟩
end Go.Proofs.YtocpnlifmeffkaaGreatDoor
namespace Go.Proofs.YtocpnlifmeffkaaGreatDoor
open Go.RowKit Go.Shelf

set_option maxHeartbeats 400000 in
theorem quiet_any (g : FuncId) (lb : Array Value) (w : World) :
    Calls Tryz.prog 122 #[.func (.func g) #[] lb] w fun e w' => e = .returned (.func (.func 183) #[] #[.pointer (some ⟨w.heap.size, 0, none⟩)]) ∧ Arr w' w.heap.size 189 [.func (.func g) #[] lb] ∧ Below w.heap.size w w' := by
  have hmf : ∀ (fn : Fn) (first cap : Array Value) (w : World), (Instr.makeFunc fn first cap).run Tryz.prog w = .ok (.func fn first cap) w := fun _ _ _ _ => rfl
  go_enter Tryz.func122, Tryz.ntmps122
  go_wp2
  go_ret
  exact ⟨rfl, Arr.new rfl rfl, (Below.refl _ _).alloc (Nat.le_refl _) _⟩

set_option maxHeartbeats 400000 in
theorem jump_any (g : FuncId) (w : World) :
    Calls Tryz.prog 130 #[.func (.func g) #[] #[]] w fun e w' => e = .returned (.func (.func 183) #[] #[.pointer (some ⟨w.heap.size + 1, 0, none⟩)]) ∧ Arr w' (w.heap.size + 1) 189 [.func (.func 184) #[] #[.pointer (some ⟨w.heap.size, 0, none⟩)]] ∧ Arr w' w.heap.size 191 [.func (.func g) #[] #[]] ∧ Below w.heap.size w w' := by
  have hmf : ∀ (fn : Fn) (first cap : Array Value) (w : World), (Instr.makeFunc fn first cap).run Tryz.prog w = .ok (.func fn first cap) w := fun _ _ _ _ => rfl
  go_enter Tryz.func130, Tryz.ntmps130
  go_wp2_with fail
  have hM : Arr (w.alloc (.cells #[.func (.func g) #[] #[]] 191)) w.heap.size 191 [.func (.func g) #[] #[]] := Arr.new rfl rfl
  have hB : Below w.heap.size w (w.alloc (.cells #[.func (.func g) #[] #[]] 191)) := (Below.refl _ _).alloc (Nat.le_refl _) _
  refine (quiet_any _ _ _).mono ?_
  rintro e w1 ⟨rfl, hm, hb⟩
  rw [World.size_alloc] at hm
  go_wp2
  go_ret
  exact ⟨by rfl, hm, hM.below hb, hB.trans (hb.mono (by simp))⟩

/-- The cells of whatever type lie as they lay, but events, lists of events, computers. -/
def KeepsT (W W' : World) : Prop := ∀ (k : Nat) (cs : Array Value) (T : TypeId) (fr : Nat × Nat), W.heap[k]? = some (Obj.cells cs T fr) → T ≠ 60 → T ≠ 25 → T ≠ 68 → W'.heap[k]? = W.heap[k]?
theorem KeepsT.refl (W : World) : KeepsT W W := fun _ _ _ _ _ _ _ _ => rfl
theorem KeepsT.trans {A B C : World} (h : KeepsT A B) (k : KeepsT B C) : KeepsT A C := fun j cs T fr hj h1 h2 h3 => by
  have := h j cs T fr hj h1 h2 h3
  exact (k j cs T fr (this.trans hj) h1 h2 h3).trans this
theorem KeepsT.of_but {W W' : World} {B : Nat} {x : Cpu} (hC : CpuAt W B x) (h : BelowBut W.heap.size B W W') : KeepsT W W' := fun k cs T fr hk _ _ h3 => by
  obtain ⟨_, kv, hA, _⟩ := hC
  refine h.block k (Array.getElem?_eq_some_iff.1 hk).1 (fun e => ?_)
  subst e
  rw [hA] at hk
  injection hk with hk
  injection hk with _ hT
  exact h3 hT.symm
theorem KeepsT.of_below {W W' : World} (h : Below W.heap.size W W') : KeepsT W W' := fun k _ _ _ hk _ _ _ => h.block k (Array.getElem?_eq_some_iff.1 hk).1
theorem KeepsT.cell {W W' : World} (h : KeepsT W W') {b o : Nat} {T : TypeId} {L : List Value} {v : Value} (hA : Arr W b T L) (hv : L[o]? = some v) (h1 : T ≠ 60) (h2 : T ≠ 25) (h3 : T ≠ 68) : W'.cell? ⟨b, o, none⟩ = some v :=
  (World.cell?_of_block (a := ⟨b, o, none⟩) (h b _ T _ hA h1 h2 h3)).trans (hA.cell hv)
/-- What comes of a step's function: the event, or nil. -/
def StepPost (w : World) (B : Nat) (r : Cpu × Option Ev) (e : Ending) (w' : World) : Prop :=
  ∃ p, e = .returned (.pointer p) ∧ (match r.2 with | none => p = none | some v => ∃ b, p = some ⟨b, 0, none⟩ ∧ b ≠ B ∧ Arr w' b 60 (evCells [v])) ∧ CpuAt w' B r.1 ∧ BelowBut w.heap.size B w w'
/-- The value is a function that carries out operation o, for the computer in block B, wherever the functions that lay in W0 lie. -/
def StepV (W0 : World) (B : Nat) (v : Value) (o : Nat) : Prop :=
  ∃ g lb, v = .func (.func g) #[] lb ∧ (∀ (args : Array Value) (w : World), (callFunc g args).run Tryz.prog w = .ok (.enter g args) w) ∧
    ∀ (w : World) (x : Cpu) (n m : Nat), KeepsT W0 w → CpuAt w B x → n < 256 → m < 256 → Calls Tryz.prog g (#[.pointer (some ⟨B, 0, none⟩), .int .u8 (n : Int), .int .u8 (m : Int)] ++ lb) w (StepPost w B (x.op o n m))
theorem stepV_ev {W0 : World} {B : Nat} {g : FuncId} {o : Nat} (eg : ∀ (args : Array Value) (w : World), (callFunc g args).run Tryz.prog w = .ok (.enter g args) w) (h : OpEv g o) : StepV W0 B (.func (.func g) #[] #[]) o := by
  refine ⟨g, #[], rfl, eg, fun w x n m _ hC hn hm => ?_⟩
  refine (h w B x n m hC hn hm).mono ?_
  rintro e w' ⟨b, v, rfl, hv, hne, hA, hC', hb⟩
  exact ⟨_, rfl, by rw [hv]; exact ⟨b, rfl, hne, hA⟩, hC', hb⟩
theorem op_none {x : Cpu} {o n m : Nat} (h : o ≠ 12 ∧ o ≠ 13 ∧ o ≠ 15) : (x.op o n m).2 = none := by
  unfold Cpu.op
  split <;> first | rfl | omega
theorem stepV_do {W0 : World} {B b : Nat} {g : FuncId} {o : Nat} (eg : ∀ (args : Array Value) (w : World), (callFunc g args).run Tryz.prog w = .ok (.enter g args) w) (h : OpDo g o) (ho : o ≠ 12 ∧ o ≠ 13 ∧ o ≠ 15)
    (hb : Arr W0 b 189 [.func (.func g) #[] #[]]) : StepV W0 B (.func (.func 183) #[] #[.pointer (some ⟨b, 0, none⟩)]) o := by
  refine ⟨183, _, rfl, enters_of Tryz.func183 (by kernel_rfl) rfl, fun w x n m hW hC hn hm => ?_⟩
  have hc : w.cell? ⟨b, 0, none⟩ = some (.func (.func g) #[] #[]) := hW.cell hb rfl (by decide) (by decide) (by decide)
  refine (quiet1_any g eg (fun w w' => CpuAt w' B (x.op o n m).1 ∧ BelowBut w.heap.size B w w') w B n m b hc (h w B x n m hC hn hm)).mono ?_
  rintro e w' ⟨rfl, h1, h2⟩
  exact ⟨none, rfl, by rw [op_none ho], h1, h2⟩
theorem stepV_jump {W0 : World} {B b b' : Nat} {g : FuncId} {o : Nat} (is : Nat → Bool) (eg : ∀ (args : Array Value) (w : World), (callFunc g args).run Tryz.prog w = .ok (.enter g args) w) (hg : IsCon g is)
    (ho : o ≠ 12 ∧ o ≠ 13 ∧ o ≠ 15) (hop : ∀ x n m, (Cpu.op x o n m).1 = if is x.a = true then { x with c := n } else x)
    (hb : Arr W0 b 189 [.func (.func 184) #[] #[.pointer (some ⟨b', 0, none⟩)]]) (hb' : Arr W0 b' 191 [.func (.func g) #[] #[]]) : StepV W0 B (.func (.func 183) #[] #[.pointer (some ⟨b, 0, none⟩)]) o := by
  refine ⟨183, _, rfl, enters_of Tryz.func183 (by kernel_rfl) rfl, fun w x n m hW hC hn hm => ?_⟩
  have hc : w.cell? ⟨b, 0, none⟩ = some (.func (.func 184) #[] #[.pointer (some ⟨b', 0, none⟩)]) := hW.cell hb rfl (by decide) (by decide) (by decide)
  have hc' : w.cell? ⟨b', 0, none⟩ = some (.func (.func g) #[] #[]) := hW.cell hb' rfl (by decide) (by decide) (by decide)
  refine (quiet1_cap 184 _ (enters_of Tryz.func184 (by kernel_rfl) rfl) (fun w w' => CpuAt w' B (x.op o n m).1 ∧ BelowBut w.heap.size B w w') w B n m b hc ?_).mono ?_
  · rw [hop]
    exact jump1_any g is hg eg w B x n m b' hC hn hc'
  · rintro e w' ⟨rfl, h1, h2⟩
    exact ⟨none, rfl, by rw [op_none ho], h1, h2⟩

set_option maxRecDepth 100000 in
set_option maxHeartbeats 2000000 in
theorem operations_any (B : Nat) (w : World) :
    Calls Tryz.prog 62 #[] w fun e w' => ∃ K, e = .returned (.slice (some ⟨K, 0, none⟩) 17 17) ∧ w.heap.size ≤ K ∧ K < w'.heap.size ∧ (∃ L, Arr w' K 149 L ∧ ∀ o, 1 ≤ o → o ≤ 16 → ∃ v, L[o]? = some v ∧ StepV w' B v o) ∧ Below w.heap.size w w' := by
  have hB : Below w.heap.size w w := Below.refl _ _
  go_enter Tryz.func62, Tryz.ntmps62
  go_wp2_with fail
  refine (quiet_any _ _ _).mono ?_
  rintro e w1 ⟨rfl, m1, hb1⟩
  replace hB := hB.trans (hb1.mono hB.size)
  have hb_w1 := hb1
  clear hb1
  clear hb_w1
  go_wp2_with fail
  refine (quiet_any _ _ _).mono ?_
  rintro e w2 ⟨rfl, m2, hb1⟩
  replace hB := hB.trans (hb1.mono hB.size)
  have hb_w2 := hb1
  clear hb1
  replace m1 := m1.below hb_w2
  clear hb_w2
  go_wp2_with fail
  refine (quiet_any _ _ _).mono ?_
  rintro e w3 ⟨rfl, m3, hb1⟩
  replace hB := hB.trans (hb1.mono hB.size)
  have hb_w3 := hb1
  clear hb1
  replace m1 := m1.below hb_w3
  replace m2 := m2.below hb_w3
  clear hb_w3
  go_wp2_with fail
  refine (quiet_any _ _ _).mono ?_
  rintro e w4 ⟨rfl, m4, hb1⟩
  replace hB := hB.trans (hb1.mono hB.size)
  have hb_w4 := hb1
  clear hb1
  replace m1 := m1.below hb_w4
  replace m2 := m2.below hb_w4
  replace m3 := m3.below hb_w4
  clear hb_w4
  go_wp2_with fail
  refine (quiet_any _ _ _).mono ?_
  rintro e w5 ⟨rfl, m5, hb1⟩
  replace hB := hB.trans (hb1.mono hB.size)
  have hb_w5 := hb1
  clear hb1
  replace m1 := m1.below hb_w5
  replace m2 := m2.below hb_w5
  replace m3 := m3.below hb_w5
  replace m4 := m4.below hb_w5
  clear hb_w5
  go_wp2_with fail
  refine (quiet_any _ _ _).mono ?_
  rintro e w6 ⟨rfl, m6, hb1⟩
  replace hB := hB.trans (hb1.mono hB.size)
  have hb_w6 := hb1
  clear hb1
  replace m1 := m1.below hb_w6
  replace m2 := m2.below hb_w6
  replace m3 := m3.below hb_w6
  replace m4 := m4.below hb_w6
  replace m5 := m5.below hb_w6
  clear hb_w6
  go_wp2_with fail
  refine (quiet_any _ _ _).mono ?_
  rintro e w7 ⟨rfl, m7, hb1⟩
  replace hB := hB.trans (hb1.mono hB.size)
  have hb_w7 := hb1
  clear hb1
  replace m1 := m1.below hb_w7
  replace m2 := m2.below hb_w7
  replace m3 := m3.below hb_w7
  replace m4 := m4.below hb_w7
  replace m5 := m5.below hb_w7
  replace m6 := m6.below hb_w7
  clear hb_w7
  go_wp2_with fail
  refine (jump_any _ _).mono ?_
  rintro e w8 ⟨rfl, m8, m108, hb1⟩
  replace hB := hB.trans (hb1.mono hB.size)
  have hb_w8 := hb1
  clear hb1
  replace m1 := m1.below hb_w8
  replace m2 := m2.below hb_w8
  replace m3 := m3.below hb_w8
  replace m4 := m4.below hb_w8
  replace m5 := m5.below hb_w8
  replace m6 := m6.below hb_w8
  replace m7 := m7.below hb_w8
  clear hb_w8
  go_wp2_with fail
  refine (jump_any _ _).mono ?_
  rintro e w9 ⟨rfl, m9, m109, hb1⟩
  replace hB := hB.trans (hb1.mono hB.size)
  have hb_w9 := hb1
  clear hb1
  replace m1 := m1.below hb_w9
  replace m2 := m2.below hb_w9
  replace m3 := m3.below hb_w9
  replace m4 := m4.below hb_w9
  replace m5 := m5.below hb_w9
  replace m6 := m6.below hb_w9
  replace m7 := m7.below hb_w9
  replace m8 := m8.below hb_w9
  replace m108 := m108.below hb_w9
  clear hb_w9
  go_wp2_with fail
  refine (jump_any _ _).mono ?_
  rintro e w10 ⟨rfl, m10, m110, hb1⟩
  replace hB := hB.trans (hb1.mono hB.size)
  have hb_w10 := hb1
  clear hb1
  replace m1 := m1.below hb_w10
  replace m2 := m2.below hb_w10
  replace m3 := m3.below hb_w10
  replace m4 := m4.below hb_w10
  replace m5 := m5.below hb_w10
  replace m6 := m6.below hb_w10
  replace m7 := m7.below hb_w10
  replace m8 := m8.below hb_w10
  replace m108 := m108.below hb_w10
  replace m9 := m9.below hb_w10
  replace m109 := m109.below hb_w10
  clear hb_w10
  go_wp2_with fail
  refine (quiet_any _ _ _).mono ?_
  rintro e w11 ⟨rfl, m11, hb1⟩
  replace hB := hB.trans (hb1.mono hB.size)
  have hb_w11 := hb1
  clear hb1
  replace m1 := m1.below hb_w11
  replace m2 := m2.below hb_w11
  replace m3 := m3.below hb_w11
  replace m4 := m4.below hb_w11
  replace m5 := m5.below hb_w11
  replace m6 := m6.below hb_w11
  replace m7 := m7.below hb_w11
  replace m8 := m8.below hb_w11
  replace m108 := m108.below hb_w11
  replace m9 := m9.below hb_w11
  replace m109 := m109.below hb_w11
  replace m10 := m10.below hb_w11
  replace m110 := m110.below hb_w11
  clear hb_w11
  go_wp2_with fail
  refine (quiet_any _ _ _).mono ?_
  rintro e w14 ⟨rfl, m14, hb1⟩
  replace hB := hB.trans (hb1.mono hB.size)
  have hb_w14 := hb1
  clear hb1
  replace m1 := m1.below hb_w14
  replace m2 := m2.below hb_w14
  replace m3 := m3.below hb_w14
  replace m4 := m4.below hb_w14
  replace m5 := m5.below hb_w14
  replace m6 := m6.below hb_w14
  replace m7 := m7.below hb_w14
  replace m8 := m8.below hb_w14
  replace m108 := m108.below hb_w14
  replace m9 := m9.below hb_w14
  replace m109 := m109.below hb_w14
  replace m10 := m10.below hb_w14
  replace m110 := m110.below hb_w14
  replace m11 := m11.below hb_w14
  clear hb_w14
  go_wp2_with fail
  refine (quiet_any _ _ _).mono ?_
  rintro e w16 ⟨rfl, m16, hb1⟩
  replace hB := hB.trans (hb1.mono hB.size)
  have hb_w16 := hb1
  clear hb1
  replace m1 := m1.below hb_w16
  replace m2 := m2.below hb_w16
  replace m3 := m3.below hb_w16
  replace m4 := m4.below hb_w16
  replace m5 := m5.below hb_w16
  replace m6 := m6.below hb_w16
  replace m7 := m7.below hb_w16
  replace m8 := m8.below hb_w16
  replace m108 := m108.below hb_w16
  replace m9 := m9.below hb_w16
  replace m109 := m109.below hb_w16
  replace m10 := m10.below hb_w16
  replace m110 := m110.below hb_w16
  replace m11 := m11.below hb_w16
  replace m14 := m14.below hb_w16
  clear hb_w16
  go_wp2
  go_ret
  refine ⟨w16.heap.size, rfl, hB.size, by simp, ⟨_, Arr.new rfl rfl, ?_⟩, hB.alloc hB.size _⟩
  intro o h1 h2
  rcases (show o = 1 ∨ o = 2 ∨ o = 3 ∨ o = 4 ∨ o = 5 ∨ o = 6 ∨ o = 7 ∨ o = 8 ∨ o = 9 ∨ o = 10 ∨ o = 11 ∨ o = 12 ∨ o = 13 ∨ o = 14 ∨ o = 15 ∨ o = 16 by omega) with rfl | rfl | rfl | rfl | rfl | rfl | rfl | rfl | rfl | rfl | rfl | rfl | rfl | rfl | rfl | rfl
  · exact ⟨_, rfl, stepV_do (enters_of Tryz.func123 (by kernel_rfl) rfl) do1 (by decide) (m1.alloc _)⟩
  · exact ⟨_, rfl, stepV_do (enters_of Tryz.func124 (by kernel_rfl) rfl) do2 (by decide) (m2.alloc _)⟩
  · exact ⟨_, rfl, stepV_do (enters_of Tryz.func125 (by kernel_rfl) rfl) do3 (by decide) (m3.alloc _)⟩
  · exact ⟨_, rfl, stepV_do (enters_of Tryz.func126 (by kernel_rfl) rfl) do4 (by decide) (m4.alloc _)⟩
  · exact ⟨_, rfl, stepV_do (enters_of Tryz.func127 (by kernel_rfl) rfl) do5 (by decide) (m5.alloc _)⟩
  · exact ⟨_, rfl, stepV_do (enters_of Tryz.func128 (by kernel_rfl) rfl) do6 (by decide) (m6.alloc _)⟩
  · exact ⟨_, rfl, stepV_do (enters_of Tryz.func129 (by kernel_rfl) rfl) do7 (by decide) (m7.alloc _)⟩
  · exact ⟨_, rfl, stepV_jump isAny (enters_of Tryz.func131 (by kernel_rfl) rfl) is8 (by decide) (fun x n m => rfl) (m8.alloc _) (m108.alloc _)⟩
  · exact ⟨_, rfl, stepV_jump isZero (enters_of Tryz.func132 (by kernel_rfl) rfl) is9 (by decide) (fun x n m => by simp [Cpu.op, isZero]) (m9.alloc _) (m109.alloc _)⟩
  · exact ⟨_, rfl, stepV_jump isNeg (enters_of Tryz.func133 (by kernel_rfl) rfl) is10 (by decide) (fun x n m => by simp [Cpu.op, isNeg]) (m10.alloc _) (m110.alloc _)⟩
  · exact ⟨_, rfl, stepV_do (enters_of Tryz.func134 (by kernel_rfl) rfl) do11 (by decide) (m11.alloc _)⟩
  · exact ⟨_, rfl, stepV_ev (enters_of Tryz.func136 (by kernel_rfl) rfl) ev12⟩
  · exact ⟨_, rfl, stepV_ev (enters_of Tryz.func137 (by kernel_rfl) rfl) ev13⟩
  · exact ⟨_, rfl, stepV_do (enters_of Tryz.func138 (by kernel_rfl) rfl) do14 (by decide) (m14.alloc _)⟩
  · exact ⟨_, rfl, stepV_ev (enters_of Tryz.func139 (by kernel_rfl) rfl) ev15⟩
  · exact ⟨_, rfl, stepV_do (enters_of Tryz.func140 (by kernel_rfl) rfl) do16 (by decide) (m16.alloc _)⟩
end Go.Proofs.YtocpnlifmeffkaaGreatDoor
namespace Go.Proofs.YtocpnlifmeffkaaGreatDoor
open Go.RowKit Go.Shelf

/-- What is said of a world abides writes into block B, new blocks, draws. -/
def AbidesBut {β : Type} (B : Nat) (J : β → World → Prop) : Prop := ∀ s W W', J s W → BelowBut W.heap.size B W W' → J s W'
/-- The iterator's contract. -/
def SeqStopsB {α : Type} (F : Fence) (n : Nat) (P : Program) (g : Nat) (lb : Array Value) (encs : α → Array Value) (Kp : World → World → Prop) (S Sp : List α → Prop) (N B : Nat) (w : World) : Prop :=
  ∀ (l : Nat) (J Jx : List α → World → Prop) (W : World), Below w.heap.size w W → AbidesBut B J → AbidesBut B Jx →
    (∀ pre x W1, J pre W1 → pre.length < N → YieldAt F (n - 1) P l (encs x) W1 fun e W' =>
      (e = .returned (.bool true) ∧ J (pre ++ [x]) W' ∧ Kp W1 W') ∨ (e = .returned (.bool false) ∧ Jx (pre ++ [x]) W')) →
    J [] W →
    CallsIn F n P g (#[.func (.yield l) #[] #[]] ++ lb) W fun e W' => (∃ v, e = .returned v) ∧ ((∃ xs, S xs ∧ J xs W') ∨ (∃ pre, Sp pre ∧ Jx pre W'))

variable {F : Fence} {n : Nat} {P : Program}
theorem wpIn_rangeFunc_but {α : Type} {g : Operand} {ps : Array Tmp} {assign body : Code} {Q : Exit → Act → World → Prop} {a : Act} {w : World}
    (hro : F.round = none) (h1 : 1 ≤ n) {gf : Nat} {lb : Array Value} (hg : a.eval g = .func (.func gf) #[] lb) (hFg : F.fn gf) (eg : ∀ args w, (callFunc gf args).run P w = .ok (.enter gf args) w)
    {encs : α → Array Value} {Kp : World → World → Prop} {S Sp : List α → Prop} {N B : Nat} {w0 : World} (hseq : SeqStopsB F (n - 1) P gf lb encs Kp S Sp N B w0) (hBw : B < w.heap.size)
    (hKt : ∀ {A B C : World}, Kp A B → Kp B C → Kp A C) (hKb : ∀ (W : World) (l : Nat) (o o' : Obj), w.heap.size ≤ l → W.heap[l]? = some o → o.isCells = false → o.isWalk = false → Kp W (W.putObj l o')) (hb0 : Below w0.heap.size w0 w) (hps : ∀ x, (encs x).size = ps.size)
    (I : List α → World → Prop) (Ix : Code → List α → World → Prop) (hI : OwnFrom w.heap.size I) (hIx : ∀ c, OwnFrom w.heap.size (Ix c)) (hIB : AbidesBut B I) (hIxB : ∀ c, AbidesBut B (Ix c)) (h0 : I [] w)
    (Ax : List α → α → Act → World → Prop) (hAx : ∀ pre x a' W l (o o' : Obj), Ax pre x a' W → w.heap.size ≤ l → W.heap[l]? = some o → o.isCells = false → Ax pre x a' (W.putObj l o'))
    (hassign : ∀ (l : Nat) (pre : List α) (x : α) (W : World) (K : Act → World → Prop), I pre W → (∀ a' W', KeepsOthers W W' → Kp W W' → Ax pre x a' W' → K a' W') →
      assign.wpIn (F.inRound l) (n - 1 - 1) P (Exit.then K (fun _ _ _ => False)) { tmps := (ps.zip (encs x)).foldl (fun t (p, v) => t.setIfInBounds p v) a.tmps, defers := [] } W)
    (hbody : ∀ (l : Nat) (pre : List α) (x : α) (a' : Act) (W : World), Ax pre x a' W → pre.length < N → body.wpIn (F.inRound l) (n - 1 - 1) P (ownPostK Kp I Ix (pre ++ [x]) W) a' W)
    (hdone : ∀ (D : Nat) (xs : List α) (W : World), w.heap.size ≤ D → S xs → I xs W → W.heap[D]? = some (.deferred (some [])) → Q .normal { a with defers := { target := .collected D, args := #[] } :: a.defers } W)
    (hstop : ∀ (D : Nat) (c : Code) (pre : List α) (W : World), w.heap.size ≤ D → Sp pre → Ix c pre W → W.heap[D]? = some (.deferred (some [])) → c.wpIn F n P Q { a with defers := { target := .collected D, args := #[] } :: a.defers } W) :
    (Code.rangeFunc g ps assign body).wpIn F n P Q a w := by
  refine wpIn_rangeFunc ?_
  intro fn hfn
  rw [hro]
  obtain ⟨rec, hrec⟩ : ∃ rec : LoopState → Option Code → Loop, rec = fun st pe => { state := st, pending := pe, fn, tmps := a.tmps, params := ps, assign, body, defers := w.heap.size } := ⟨_, rfl⟩
  obtain ⟨W1, hW1⟩ : ∃ W1, (w.alloc (.deferred (some []))).alloc (.loop (rec .ready none)) = W1 := ⟨_, rfl⟩
  have hL1 : W1.heap[w.heap.size + 1]? = some (.loop (rec .ready none)) := by
    rw [← hW1]; have := World.alloc_heap_new (w.alloc (.deferred (some []))) (.loop (rec .ready none)); rwa [World.size_alloc] at this
  have hK1 : W1.heap[w.heap.size]? = some (.deferred (some [])) := by
    rw [← hW1]; exact (Below.heap_alloc _ _ _ (by simp)).trans (World.alloc_heap_new w _)
  have hI1 : I [] W1 := by rw [← hW1]; exact hI.alloc _ (hI.alloc _ h0)
  have hb1 : Below w0.heap.size w0 W1 := by
    rw [← hW1]; exact hb0.trans ((((Below.refl _ w).alloc (Nat.le_refl _) _).alloc (by simp) _).mono hb0.size)
  have hkeep : ∀ {A A' : World} {j : Nat} {o : Obj}, BelowBut A.heap.size B A A' → w.heap.size ≤ j → A.heap[j]? = some o → A'.heap[j]? = some o := fun hb hj ho =>
    (hb.block _ (Array.getElem?_eq_some_iff.1 ho).1 (by omega)).trans ho
  refine ⟨w.heap.size + 1, [{ target := .collected w.heap.size, args := #[] }], W1, { target := .fn (.func gf) lb, args := #[.func (.yield (w.heap.size + 1)) #[] #[]] }, W1, gf,
    #[.func (.yield (w.heap.size + 1)) #[] #[]] ++ lb, W1, ?_, ?_, ?_, ?_, fun _ => h1, ?_⟩
  · rw [← hW1, hrec]; exact run_enterLoop_outer _ _ _ _ _
  · simp only [resolve, hg]
    simp [go_sem]
  · intro f' hf'; simp [Target.leads] at hf'; subst hf'; exact hFg
  · simp [invoke, go_sem, eg]
  · refine (hseq (w.heap.size + 1)
      (fun pre W => I pre W ∧ W.heap[w.heap.size + 1]? = some (.loop (rec .ready none)) ∧ W.heap[w.heap.size]? = some (.deferred (some [])))
      (fun pre W => ∃ c, Ix c pre W ∧ W.heap[w.heap.size + 1]? = some (.loop (rec .done (some c))) ∧ W.heap[w.heap.size]? = some (.deferred (some [])))
      W1 hb1
      (fun s A A' hs hb => ⟨hIB s A A' hs.1 hb, hkeep hb (by omega) hs.2.1, hkeep hb (by omega) hs.2.2⟩)
      (fun s A A' hs hb => by
        obtain ⟨c, hc, hl, hk⟩ := hs
        exact ⟨c, hIxB c s A A' hc hb, hkeep hb (by omega) hl, hkeep hb (by omega) hk⟩)
      ?_ ⟨hI1, hL1, hK1⟩).mono ?_
    · rintro pre x W ⟨hi, hl, hk⟩ hlen
      have hlt : w.heap.size + 1 < W.heap.size := (Array.getElem?_eq_some_iff.1 hl).1
      have hy := run_yield (P := P) (args := encs x) hl (by rw [hrec]; exact hps x)
      rw [hrec] at hy
      refine ⟨fn, _, assign, body, hy, roundIn_of_wpIn hfn (hassign _ pre x W _ hi (fun a' W2 hko hkp hax => ?_))⟩
      have hl' := hko.same _ _ hl rfl
      have hk' := hko.same _ _ hk rfl
      have hlt' : w.heap.size + 1 < W2.heap.size := (Array.getElem?_eq_some_iff.1 hl').1
      refine ⟨_, run_beginRound hl' (by rw [hrec]), ?_⟩
      have hl2 : (W2.putObj (w.heap.size + 1) (.loop { rec .ready none with state := .busy })).heap[w.heap.size + 1]? = some (.loop { rec .ready none with state := .busy }) := World.putObj_heap_same hlt'
      have hk2 : (W2.putObj (w.heap.size + 1) (.loop { rec .ready none with state := .busy })).heap[w.heap.size]? = some (.deferred (some [])) := (World.putObj_heap_other (by omega)).trans hk'
      have hw2 : Kp W2 (W2.putObj (w.heap.size + 1) (.loop { rec .ready none with state := .busy })) := hKb _ _ _ _ (by omega) hl' rfl rfl
      refine wpIn_mono (hbody _ pre x a' _ (hAx pre x a' W2 _ _ _ hax (by omega) hl' rfl) hlen) ?_
      have fin : ∀ (jump : Option Code) (W3 : World), KeepsOthers (W2.putObj (w.heap.size + 1) (.loop { rec .ready none with state := .busy })) W3 →
          (Instr.endRound (w.heap.size + 1) jump).run P W3 = .ok (.bool jump.isNone) (W3.putObj (w.heap.size + 1) (.loop (rec (if jump.isNone then .ready else .done) jump))) ∧
          W3.heap[w.heap.size + 1]? = some (.loop { rec .ready none with state := .busy }) ∧
          (W3.putObj (w.heap.size + 1) (.loop (rec (if jump.isNone then .ready else .done) jump))).heap[w.heap.size + 1]? = some (.loop (rec (if jump.isNone then .ready else .done) jump)) ∧
          (W3.putObj (w.heap.size + 1) (.loop (rec (if jump.isNone then .ready else .done) jump))).heap[w.heap.size]? = some (.deferred (some [])) := fun jump W3 hk3 => by
        have hl3 := hk3.same _ _ hl2 rfl
        have := run_endRound (P := P) jump hl3
        rw [hrec] at this ⊢
        exact ⟨this, by rw [hrec] at hl3; exact hl3, World.putObj_heap_same (Array.getElem?_eq_some_iff.1 hl3).1, (World.putObj_heap_other (by omega)).trans (hk3.same _ _ hk2 rfl)⟩
      rintro e a3 W3 hp
      cases e with
      | normal =>
        obtain ⟨hk3, hkp3, hi3⟩ := hp
        obtain ⟨hr, hl3, hl4, hk4⟩ := fin none W3 hk3
        exact ⟨_, _, hr, .inl ⟨rfl, ⟨hI.putObj _ hi3 (by omega) hl3 rfl, hl4, hk4⟩, hKt hkp (hKt (hKt hw2 hkp3) (hKb _ _ _ _ (by omega) hl3 rfl rfl))⟩⟩
      | ret =>
        obtain ⟨hk3, hi3⟩ := hp
        obtain ⟨hr, hl3, hl4, hk4⟩ := fin (some .ret) W3 hk3
        exact ⟨_, _, hr, .inr ⟨rfl, .ret, (hIx _).putObj _ hi3 (by omega) hl3 rfl, hl4, hk4⟩⟩
      | exit id =>
        obtain ⟨hk3, hi3⟩ := hp
        obtain ⟨hr, hl3, hl4, hk4⟩ := fin (some (.exit id)) W3 hk3
        exact ⟨_, _, hr, .inr ⟨rfl, .exit id, (hIx _).putObj _ hi3 (by omega) hl3 rfl, hl4, hk4⟩⟩
      | goto t =>
        obtain ⟨hk3, hi3⟩ := hp
        obtain ⟨hr, hl3, hl4, hk4⟩ := fin (some (.goto t)) W3 hk3
        exact ⟨_, _, hr, .inr ⟨rfl, .goto t, (hIx _).putObj _ hi3 (by omega) hl3 rfl, hl4, hk4⟩⟩
      | panic ch => exact hp.elim
      | outgrown => exact hp.elim
    · rintro e W2 ⟨⟨v, rfl⟩, (⟨xs, hS, hi, hl, hk⟩ | ⟨pre, hSp, c, hi, hl, hk⟩)⟩
      · exact ⟨none, _, by have := run_endLoop (P := P) hl (by rw [hrec]; simp); rw [hrec] at this; exact this, hdone _ xs _ (Nat.le_refl _) hS (hI.putObj _ hi (by omega) hl rfl) ((World.putObj_heap_other (by omega)).trans hk)⟩
      · exact ⟨some c, _, by have := run_endLoop (P := P) hl (by rw [hrec]; simp); rw [hrec] at this; exact this, hstop _ c pre _ (Nat.le_refl _) hSp ((hIx c).putObj _ hi (by omega) hl rfl) ((World.putObj_heap_other (by omega)).trans hk)⟩
end Go.Proofs.YtocpnlifmeffkaaGreatDoor
namespace Go.Proofs.YtocpnlifmeffkaaGreatDoor
open Go.RowKit Go.Shelf

attribute [local go_sem] Oper.semAt_some

def evAgg (e : Ev) : Value := .agg #[.int .i64 e.t, .int .i64 e.k, .int .i64 e.a, .int .i64 e.b]
theorem runs_len (f : Nat) (x : Cpu) : (runs f x).length ≤ f := by
  induction f generalizing x with
  | zero => simp [runs]
  | succ f ih =>
    rw [runs]
    split
    · simp
    · rw [List.length_append]
      have h1 := ih { (({ x with c := (x.c + 2) % 256 } : Cpu).op (x.mem.getD x.c 0) (x.mem.getD ((x.c + 1) % 256) 0) (x.mem.getD (x.mem.getD ((x.c + 1) % 256) 0) 0)).1 with time := x.time + 1 }
      have h2 : ∀ o : Option Ev, o.toList.length ≤ 1 := fun o => by cases o <;> simp
      have h3 := h2 (({ x with c := (x.c + 2) % 256 } : Cpu).op (x.mem.getD x.c 0) (x.mem.getD ((x.c + 1) % 256) 0) (x.mem.getD (x.mem.getD ((x.c + 1) % 256) 0) 0)).2
      omega
/-- The operation at the counter, its number, the byte of the memory there. -/
def Cpu.o (x : Cpu) : Nat := x.mem.getD x.c 0
def Cpu.n (x : Cpu) : Nat := x.mem.getD ((x.c + 1) % 256) 0
def Cpu.m (x : Cpu) : Nat := x.mem.getD x.n 0
def Cpu.next (x : Cpu) : Cpu := { x with c := (x.c + 2) % 256 }
def Cpu.go (x : Cpu) : Cpu × Option Ev := x.next.op x.o x.n x.m
theorem op_time (x : Cpu) (o n m : Nat) : (x.op o n m).1.time = x.time := by
  unfold Cpu.op
  split <;> first | rfl | (dsimp only; split <;> rfl) | (dsimp only; rw [take_eq])
theorem runs_halt {f : Nat} {x : Cpu} (h : x.o = 0 ∨ 17 ≤ x.o) : runs (f + 1) x = [⟨x.time, 4, x.o, x.n⟩] := by
  rw [runs]; exact if_pos h
theorem runs_go {f : Nat} {x : Cpu} (h : ¬ (x.o = 0 ∨ 17 ≤ x.o)) : runs (f + 1) x = x.go.2.toList ++ runs f { x.go.1 with time := x.time + 1 } := by
  rw [runs]; exact if_neg h
theorem CpuAt.load4 {w : World} {b : Nat} {e : Ev} (h : Arr w b 60 (evCells [e])) : w.cell? ⟨b, 0, none⟩ = some (.int .i64 e.t) ∧ w.cell? ⟨b, 1, none⟩ = some (.int .i64 e.k) ∧ w.cell? ⟨b, 2, none⟩ = some (.int .i64 e.a) ∧ w.cell? ⟨b, 3, none⟩ = some (.int .i64 e.b) :=
  ⟨h.cell (j := 0) rfl, h.cell (j := 1) rfl, h.cell (j := 2) rfl, h.cell (j := 3) rfl⟩
/-- The time in the computer's cell. -/
def timeOf (B : Nat) (w : World) : Nat := match w.cell? ⟨B, 515, none⟩ with | some (.int _ t) => t.toNat | _ => 0
theorem timeOf_eq {w : World} {B : Nat} {x : Cpu} (h : CpuAt w B x) : timeOf B w = x.time := by unfold timeOf; rw [h.time]; simp
/-- What a round keeps. -/
def KeepR (n₀ : Nat) (W W' : World) : Prop := Below n₀ W W' ∧ KeepsT W W'

set_option maxHeartbeats 400000 in
theorem run_any (B : Nat) (most : Int) (w : World) :
    Calls Tryz.prog 24 #[.pointer (some ⟨B, 0, none⟩), .int .i64 most] w fun e w' => e = .returned (.func (.func 61) #[] #[.pointer (some ⟨w.heap.size, 0, none⟩), .pointer (some ⟨w.heap.size + 1, 0, none⟩)]) ∧
      Arr w' w.heap.size 63 [.pointer (some ⟨B, 0, none⟩)] ∧ Arr w' (w.heap.size + 1) 3 [.int .i64 most] ∧ Below w.heap.size w w' := by
  have hmf : ∀ (fn : Fn) (first cap : Array Value) (w : World), (Instr.makeFunc fn first cap).run Tryz.prog w = .ok (.func fn first cap) w := fun _ _ _ _ => rfl
  go_enter Tryz.func24, Tryz.ntmps24
  go_wp2
  go_ret
  exact ⟨rfl, (Arr.new rfl rfl).alloc _, Arr.new rfl (by simp), ((Below.refl _ _).alloc (Nat.le_refl _) _).alloc (by simp) _⟩

set_option maxRecDepth 100000 in
set_option maxHeartbeats 4000000 in
theorem run1_stops (m B b1 b2 most : Nat) (x0 : Cpu) (w : World) (hmost : most ≤ 20000) (ht0 : x0.time ≤ most) (hC : CpuAt w B x0)
    (hb1 : Arr w b1 63 [.pointer (some ⟨B, 0, none⟩)]) (hb2 : Arr w b2 3 [.int .i64 (most : Int)]) :
    SeqStopsB Fence.wide m Tryz.prog 61 #[.pointer (some ⟨b1, 0, none⟩), .pointer (some ⟨b2, 0, none⟩)] (fun e : Ev => #[evAgg e]) (KeepR w.heap.size) (fun xs => xs = runs (most - x0.time) x0) (fun _ => True) (most - x0.time) B w := by
  intro l J Jx W hW hJa hJxa hY h0
  have hBn := hC.lt
  have hCW := hC.below hW
  have hb1W := hb1.below hW
  have hb2W := hb2.below hW
  clear hC hb1 hb2
  refine callsIn_of_wp Tryz.func61 rfl trivial ?_ rfl
  simp only [Tryz.ntmps61, List.size_toArray, List.length_cons, List.length_nil, Nat.reduceAdd, Nat.reduceSub, Array.replicate_succ, Array.replicate_zero, List.push_toArray, List.append_toArray, List.nil_append, List.cons_append]
  gi_wp2_with (fail)
  refine ⟨trivial, fun h => by simp [Fence.wide] at h, (callsIn_wide.2 (operations_any B W)).mono ?_⟩
  rintro e W1 ⟨K, rfl, hK1, hK2, ⟨L, hL, hst⟩, hbo⟩
  have hJ1 := hJa _ _ _ h0 (BelowBut.of hbo)
  have hC1 := hCW.below hbo
  have hb1' := hb1W.below hbo
  have hb2' := hb2W.below hbo
  clear h0 hCW hb1W hb2W hbo
  replace hst := Lib.hid hst
  have hln := runs_len (most - x0.time) x0
  gi_wp2_with (fail)
  gi_loopw [5] (fun _ wr => ∃ (pre : List Ev) (x : Cpu), CpuAt wr B x ∧ x.time ≤ most ∧ pre ++ runs (most - x.time) x = runs (most - x0.time) x0 ∧ J pre wr ∧ KeepsT W1 wr) (fun _ wr => most - timeOf B wr)
  case atStart => exact ⟨[], x0, hC1, ht0, rfl, hJ1, KeepsT.refl _⟩
  case round =>
    clear hC1 hJ1
    obtain ⟨pre, x, hC, htm, hpre, hJ, hT⟩ := hrel
    have htO := Lib.hid (timeOf_eq hC)
    have c1 := hT.cell (o := 0) hb1' rfl (by decide) (by decide) (by decide)
    have c2 := hT.cell (o := 0) hb2' rfl (by decide) (by decide) (by decide)
    have cT := hC.time
    by_cases hlt : x.time < most
    · have hd : decide ((x.time : Int) < (most : Int)) = true := by simp; omega
      gi_wp2_with (fail)
      refine wpIn_wide.2 ?_
      go_quiet (fail)
      refine name_then ?_
      intro w2 hw2
      replace hC : CpuAt w2 B x := by rw [hw2]; exact hC.drewN _
      replace hJ : J pre w2 := by rw [hw2]; exact hJa _ _ _ hJ ((BelowBut.refl _ _ _).drewN _)
      replace hT : KeepsT W1 w2 := by rw [hw2]; exact hT.trans (KeepsT.of_below (below_drewN (Below.refl _ _) _))
      clear hw2 c1 c2 cT hd
      have c1 := hT.cell (o := 0) hb1' rfl (by decide) (by decide) (by decide)
      have cC := hC.c
      have hxc := hC.wf.c
      have cO := hC.mem hC.wf.c
      have cN := hC.mem (show (x.c + 1) % 256 < 256 by omega)
      have hO := getD_lt hC.wf.memB x.c
      have hN := getD_lt hC.wf.memB ((x.c + 1) % 256)
      change _ = some (Value.int .u8 ((x.o : Nat) : Int)) at cO
      change _ = some (Value.int .u8 ((x.n : Nat) : Int)) at cN
      change x.o < 256 at hO
      change x.n < 256 at hN
      have s1 : IntKind.u8.wrap ((x.c : Int) + 1) = (((x.c + 1) % 256 : Nat) : Int) := by rw [u8n]; omega
      have hq : (x.c + 1) % 256 < 256 := by omega
      generalize (x.c + 1) % 256 = q at s1 cN hq
      have t1 : (x.c : Int) < 256 := by omega
      have t2 : (q : Int) < 256 := by omega
      gi_wp2_with (fail)
      refine wpIn_wide.2 ?_
      go_quiet (fail)
      refine name_then ?_
      intro w3 hw2
      replace hC : CpuAt w3 B x := by rw [hw2]; exact hC.drewN _
      replace hJ : J pre w3 := by rw [hw2]; exact hJa _ _ _ hJ ((BelowBut.refl _ _ _).drewN _)
      replace hT : KeepsT W1 w3 := by rw [hw2]; exact hT.trans (KeepsT.of_below (below_drewN (Below.refl _ _) _))
      clear hw2 c1 cC cO cN s1 hq t1 t2
      obtain ⟨f, hf⟩ : ∃ f, most - x.time = f + 1 := ⟨most - x.time - 1, by omega⟩
      rw [hf] at hpre
      have cC := hC.c
      have fC := hC.free 514
      have hs : CpuAt (w3.setCell ⟨B, 514, none⟩ (.int .u8 (((x.c : Int) + 2) % 256))) B x.next := hC.setC (v := (x.c + 2) % 256) (by omega)
      have hJ4 := hJa _ _ _ hJ ((BelowBut.refl w3.heap.size B w3).setCell 514 (.int .u8 (((x.c : Int) + 2) % 256)))
      have hT4 := hT.trans (KeepsT.of_but hC ((BelowBut.refl w3.heap.size B w3).setCell 514 (.int .u8 (((x.c : Int) + 2) % 256))))
      have c1 := hT.cell (o := 0) hb1' rfl (by decide) (by decide) (by decide)
      have c14 := hT4.cell (o := 0) hb1' rfl (by decide) (by decide) (by decide)
      replace hs := Lib.hid hs
      replace hf := Lib.hid hf
      by_cases hh : x.o = 0 ∨ 17 ≤ x.o
      · rw [runs_halt hh] at hpre
        have hlen : pre.length < most - x0.time := by
          have := congrArg List.length hpre
          rw [List.length_append, List.length_singleton] at this
          omega
        replace hpre := Lib.hid hpre
        have hor : ((x.o : Int) == 0) = true ∨ (((x.o : Int) == 0) = false ∧ decide ((17 : Int) ≤ (x.o : Int)) = true) := by
          rcases hh with h | h
          · exact .inl (by simp [h])
          · exact .inr ⟨by rw [beq_eq_false_iff_ne]; omega, by simp; omega⟩
        clear hh
        rcases hor with e1 | ⟨e1, e2⟩
        all_goals
          gi_wp2_with (fail)
          refine ⟨trivial, fun h => by simp [Fence.wide] at h, (callsIn_wide.2 (event_any _ B x.next 4 x.o x.n hs.out hO hN)).mono ?_⟩
          rintro e w5 ⟨rfl, hA, hb5⟩
          have hJ5 := hJa _ _ _ hJ4 (BelowBut.of hb5)
          rw [show (w3.setCell ⟨B, 514, none⟩ (.int .u8 (((x.c : Int) + 2) % 256))).heap.size = w3.heap.size by simp [World.setCell]] at hA
          obtain ⟨l0, l1, l2, l3⟩ := CpuAt.load4 hA
          dsimp only at l0 l1 l2 l3
          change w5.cell? _ = some (Value.int .i64 (x.time : Int)) at l0
          obtain ⟨fn, tmps, assign, body, hy, hR⟩ := hY pre ⟨x.time, 4, (x.o : Int), (x.n : Int)⟩ w5 hJ5 hlen
          dsimp only [evAgg] at hy
          gi_wp2_with (fail)
          refine ⟨fun h => by simp [Fence.wide] at h, hR.mono ?_⟩
          clear hR hy
          rintro e W3 (⟨rfl, hJ3, hk3⟩ | ⟨rfl, hJx3⟩)
          · gi_wp2
            refine bodyPost_ret (results_none rfl _ _ _) rfl ?_
            exact ⟨⟨_, rfl⟩, .inl ⟨_, hpre.out, hJ3⟩⟩
          · gi_wp2
            refine bodyPost_ret (results_none rfl _ _ _) rfl ?_
            exact ⟨⟨_, rfl⟩, .inr ⟨_, trivial, hJx3⟩⟩
      · rw [runs_go hh] at hpre
        have e1 : ((x.o : Int) == 0) = false := by rw [beq_eq_false_iff_ne]; omega
        have e2 : decide ((17 : Int) ≤ (x.o : Int)) = false := by simp; omega
        have e3 : (x.o : Int) < 17 := by omega
        have e4 : (0 : Int) ≤ (x.o : Int) := by omega
        obtain ⟨v, hv, hstep⟩ := hst.out x.o (by omega) (by omega)
        obtain ⟨g, lb, rfl, eg, hgo⟩ := hstep
        have cK := hT4.cell hL hv (by decide) (by decide) (by decide)
        have cM := hs.out.mem hN
        change _ = some (Value.int .u8 ((x.m : Nat) : Int)) at cM
        have hM : x.m < 256 := getD_lt hC.wf.memB x.n
        have t1 : (x.n : Int) < 256 := by omega
        replace hpre := Lib.hid hpre
        clear hh hv
        gi_wp2_with (fail)
        refine wpIn_wide.2 ?_
        refine name_wp ?_
        intro w4 hw4
        replace hs : CpuAt w4 B x.next := by rw [hw4]; exact hs.out
        replace hJ4 : J pre w4 := by rw [hw4]; exact hJ4
        replace hT4 : KeepsT W1 w4 := by rw [hw4]; exact hT4
        replace c14 : w4.cell? ⟨b1, 0, none⟩ = some (.pointer (some ⟨B, 0, none⟩)) := by rw [hw4]; exact c14
        replace cK : w4.cell? ⟨K, x.o, none⟩ = some (.func (.func g) #[] lb) := by rw [hw4]; exact cK
        replace cM : w4.cell? ⟨B, 1 + x.n, none⟩ = some (.int .u8 ((x.m : Nat) : Int)) := by rw [hw4]; exact cM
        clear hw4 cC fC c1 hC hJ hT e1 e2
        have t0 : (0 : Int) ≤ (x.n : Int) := by omega
        go_still_tail 12, (by kernel_rfl)
        change wpList _ _ _ _ _ w4.drew
        have hCd := hs.drew
        have hJd := hJa _ _ _ hJ4 (BelowBut.refl w4.heap.size B w4).drew
        have hTd : KeepsT W1 w4.drew := hT4
        clear hs hJ4 hT4 c14 cK cM
        generalize w4.drew = w4d at *
        go_wp2_with (fail)
        refine (hgo w4d x.next x.n x.m hTd hCd hN hM).mono ?_
        rintro e w5 ⟨p, rfl, hp, hC5, hb5⟩
        have hJ5 := hJa _ _ _ hJd hb5
        have hT5 := hTd.trans (KeepsT.of_but hCd hb5)
        have hti : (x.next.op x.o x.n x.m).1.time = x.time := op_time _ _ _ _
        change pre ++ (x.go.2.toList ++ runs f { x.go.1 with time := x.time + 1 }) = runs (most - x0.time) x0 at hpre
        change CpuAt w5 B x.go.1 at hC5
        change x.go.1.time = x.time at hti
        change (match x.go.2 with | none => p = none | some v => ∃ b, p = some ⟨b, 0, none⟩ ∧ b ≠ B ∧ Arr w5 b 60 (evCells [v])) at hp
        clear hCd hJd hTd hb5 hgo
        cases hev : x.go.2 with
        | none =>
          rw [hev] at hp hpre
          obtain rfl : p = none := hp
          simp only [Option.toList, List.nil_append] at hpre
          replace hpre := Lib.hid hpre
          clear hev
          generalize x.go.1 = y at *
          have c1 := hT5.cell (o := 0) hb1' rfl (by decide) (by decide) (by decide)
          have cT := hC5.time
          rw [hti] at cT
          have fT := hC5.free 515
          have hs6 := Lib.hid (hC5.setTime (x.time + 1))
          have hJ6 := hJa _ _ _ hJ5 ((BelowBut.refl w5.heap.size B w5).setCell 515 (.int .i64 ((x.time + 1 : Nat) : Int)))
          have hT6 := hT5.trans (KeepsT.of_but hC5 ((BelowBut.refl w5.heap.size B w5).setCell 515 (.int .i64 ((x.time + 1 : Nat) : Int))))
          replace hti := Lib.hid hti
          clear hC5 hJ5 hT5
          go_wp2_with (fail)
          gi_wp2_with (fail)
          refine ⟨(fun f h => (by cases h)), ?_⟩
          gi_wp2_with (fail)
          exact ⟨⟨pre, { y with time := x.time + 1 }, hs6.out, by show x.time + 1 ≤ most; omega, by rw [show most - ({ y with time := x.time + 1 } : Cpu).time = f by show most - (x.time + 1) = f; have := hf.out; omega]; exact hpre.out, hJ6, hT6⟩, by
            have e1 := timeOf_eq hs6.out
            change timeOf B _ = x.time + 1 at e1
            have e2 := htO.out
            show most - timeOf B (w5.setCell ⟨B, 515, none⟩ (.int .i64 ((x.time + 1 : Nat) : Int))) < most - timeOf B wr
            rw [e1, e2]; omega⟩
        | some ev =>
          rw [hev] at hp hpre
          obtain ⟨b, rfl, hbB, hA⟩ := hp
          obtain ⟨l0, l1, l2, l3⟩ := CpuAt.load4 hA
          simp only [Option.toList, List.singleton_append] at hpre
          have hlen : pre.length < most - x0.time := by
            have := congrArg List.length hpre
            rw [List.length_append, List.length_cons] at this
            omega
          replace hpre := Lib.hid hpre
          clear hev
          generalize x.go.1 = y at *
          replace hti := Lib.hid hti
          obtain ⟨fn, tmps, assign, body, hy, hR⟩ := hY pre ev w5 hJ5 hlen
          dsimp only [evAgg] at hy
          go_wp2_with (fail)
          gi_wp2_with (fail)
          refine ⟨fun h => by simp [Fence.wide] at h, hR.mono ?_⟩
          clear hR hy
          rintro e W3 (⟨rfl, hJ3, hk3⟩ | ⟨rfl, hJx3⟩)
          · have hC6 := hC5.belowAt hk3.1 hBn
            have hT6 := hT5.trans hk3.2
            have c1 := hT6.cell (o := 0) hb1' rfl (by decide) (by decide) (by decide)
            have cT := hC6.time
            rw [hti.out] at cT
            have fT := hC6.free 515
            have hs7 := Lib.hid (hC6.setTime (x.time + 1))
            have hJ7 := hJa _ _ _ hJ3 ((BelowBut.refl W3.heap.size B W3).setCell 515 (.int .i64 ((x.time + 1 : Nat) : Int)))
            have hT7 := hT6.trans (KeepsT.of_but hC6 ((BelowBut.refl W3.heap.size B W3).setCell 515 (.int .i64 ((x.time + 1 : Nat) : Int))))
            clear hC5 hC6 hJ5 hJ3 hT5 hT6 hk3 l0 l1 l2 l3
            gi_wp2_with (fail)
            exact ⟨⟨pre ++ [ev], { y with time := x.time + 1 }, hs7.out, by show x.time + 1 ≤ most; omega, by rw [show most - ({ y with time := x.time + 1 } : Cpu).time = f by show most - (x.time + 1) = f; have := hf.out; omega]; rw [List.append_assoc]; exact hpre.out, hJ7, hT7⟩, by
              have e1 := timeOf_eq hs7.out
              change timeOf B _ = x.time + 1 at e1
              have e2 := htO.out
              show most - timeOf B (W3.setCell ⟨B, 515, none⟩ (.int .i64 ((x.time + 1 : Nat) : Int))) < most - timeOf B wr
              rw [e1, e2]; omega⟩
          · gi_wp2
            refine bodyPost_ret (results_none rfl _ _ _) rfl ?_
            exact ⟨⟨_, rfl⟩, .inr ⟨_, trivial, hJx3⟩⟩
    · have hd : decide ((x.time : Int) < (most : Int)) = false := by simp; omega
      have hz : most - x.time = 0 := by omega
      rw [hz] at hpre
      simp only [runs, List.append_nil] at hpre
      replace hpre := Lib.hid hpre
      gi_wp2_with (fail)
      refine wpIn_wide.2 ?_
      go_quiet (fail)
      refine name_then ?_
      intro w2 hw2
      replace hJ : J pre w2 := by rw [hw2]; exact hJa _ _ _ hJ ((BelowBut.refl _ _ _).drewN _)
      clear hw2 hz
      gi_wp2
      go_end0
      exact ⟨⟨_, rfl⟩, .inl ⟨_, hpre.out, hJ⟩⟩
end Go.Proofs.YtocpnlifmeffkaaGreatDoor
namespace Go.Proofs.YtocpnlifmeffkaaGreatDoor
open Go.RowKit Go.Shelf

attribute [local go_sem] Oper.semAt_some

theorem Tryz.info_ev : (Tryz.prog.info? 60).map (fun i => (i.zero, i.size, i.bytes)) = some (some (.agg #[.int .i64 0, .int .i64 0, .int .i64 0, .int .i64 0]), 4, 32) := by kernel_rfl
theorem BelowBut.grown {C B : Nat} {a W W' : World} {row : Option Nat} (h : BelowBut C B a W) (hg : W.grownBy W' row) (hC : C ≤ W.heap.size) (hr : ∀ r, row = some r → C ≤ r ∨ r = B) : BelowBut C B a W' :=
  ⟨hg.os.trans h.os, hg.tape.trans h.tape, hg.output.trans h.output, Nat.le_trans h.size hg.size, fun k hk hne => (hg.block k (by omega) (fun e => by rcases hr k e.symm with h | h <;> omega)).trans (h.block k hk hne)⟩
theorem ownFrom_but {β : Type} {n₀ C B : Nat} {w₀ : World} (hn : n₀ ≤ w₀.heap.size) (hC : n₀ ≤ C) : OwnFrom C (fun (_ : β) W => BelowBut n₀ B w₀ W) :=
  fun _ _ _ _ hs hg hr => hs.grown hg (Nat.le_trans hn hs.size) (fun k e => .inl (Nat.le_trans hC (hr k e).1))
theorem own_but {w w' : World} {B C n s : Nat} {e : TypeId} {v : Value} {xs : List Value} (h : w.ownsRow C e s v n xs) (hb : BelowBut w.heap.size B w w') (hC : B < C) : w'.ownsRow C e s v n xs := by
  obtain ⟨hl, h⟩ := h
  refine ⟨hl, ?_⟩
  rcases h with h | ⟨g, cap, cur, hv, hB, hg, r⟩
  · exact .inl h
  · exact .inr ⟨g, cap, cur, hv, hB, (hb.block g (Array.getElem?_eq_some_iff.1 hg).1 (by omega)).trans hg, r⟩
/-- What is collected so far. -/
def ColI (w : World) (B : Nat) (pre : List Ev) (W : World) : Prop :=
  (∃ v, Boxed W w.heap.size 25 v ∧ W.ownsRow w.heap.size 60 4 v pre.length (evCells pre) ∧ True) ∧ BelowBut w.heap.size B w W
def ColAx (w : World) (B : Nat) (seq : Value) (pre : List Ev) (x : Ev) (a : Act) (W : World) : Prop :=
  ColI w B pre W ∧ ∃ b, Arr W b 60 (evCells [x]) ∧ a = { tmps := #[.slice none 0 0, seq, .pointer (some ⟨w.heap.size, 0, none⟩), undef, .slice none 0 0, .pointer (some ⟨b, 0, none⟩), seq, evAgg x, undef, undef, undef, undef, undef], defers := [] }
theorem colI_own (w : World) (B C : Nat) (hC : w.heap.size ≤ C) : OwnFrom C (ColI w B) :=
  OwnFrom.and (Own.from (holdsRow_own w.heap.size w.heap.size 25 60 4 (fun pre : List Ev => pre.length) evCells (fun _ _ => True)) _) (ownFrom_but (Nat.le_refl _) hC)
theorem colI_but (w : World) (B : Nat) (hB : B < w.heap.size) : AbidesBut B (ColI w B) := by
  rintro pre W W' ⟨⟨v, hv, hr, _⟩, hb⟩ hbb
  exact ⟨⟨v, (hbb.block _ hv.lt (by omega)).trans hv, own_but hr hbb hB, trivial⟩, hb.trans hbb hb.size⟩
theorem keepsT_grown {W W' : World} {v : Value} {n k s : Nat} {xs : List Value} (h : W.ownsRow n 60 s v k xs) (hg : W.grownBy W' v.ownBlock) : KeepsT W W' := fun j cs T fr hj h1 _ _ => by
  refine hg.block j (Array.getElem?_eq_some_iff.1 hj).1 (fun e => ?_)
  rcases h.2 with ⟨rfl, _⟩ | ⟨g, cap, cur, rfl, _, hgb, _⟩
  · cases e
  · have : j = g := by simpa [Value.ownBlock] using e
    subst this
    rw [hgb] at hj
    injection hj with hj
    injection hj with _ hT
    exact h1 hT.symm
theorem keepsT_box {W : World} {b : Nat} {v u : Value} (h : Boxed W b 25 v) : KeepsT W (W.setCell ⟨b, 0, none⟩ u) := fun j cs T fr hj _ h2 _ => by
  refine Below.heap_setCell W ⟨b, 0, none⟩ u j (fun e => ?_)
  have : j = b := by simpa using e
  subst this
  rw [show W.heap[j]? = _ from h] at hj
  injection hj with hj
  injection hj with _ hT
  exact h2 hT.symm

set_option maxRecDepth 100000 in
set_option maxHeartbeats 4000000 in
theorem AppendSeqE_in (B b1 b2 most : Nat) (x0 : Cpu) (w : World) (hmost : most ≤ 20000) (ht0 : x0.time = 0) (hC : CpuAt w B x0)
    (hb1 : Arr w b1 63 [.pointer (some ⟨B, 0, none⟩)]) (hb2 : Arr w b2 3 [.int .i64 (most : Int)]) :
    CallsIn Fence.wide 3 Tryz.prog 60 #[.slice none 0 0, .func (.func 61) #[] #[.pointer (some ⟨b1, 0, none⟩), .pointer (some ⟨b2, 0, none⟩)]] w fun e W' =>
      ∃ v, e = .returned v ∧ W'.ownsRow w.heap.size 60 4 v (runs most x0).length (evCells (runs most x0)) ∧ BelowBut w.heap.size B w W' := by
  obtain ⟨i0, hi, hz0, hz1, hz2⟩ := info_parts Tryz.info_ev
  have hBn := hC.lt
  have hln := runs_len most x0
  have hS := run1_stops 2 B b1 b2 most x0 w hmost (by omega) hC hb1 hb2
  rw [ht0, Nat.sub_zero] at hS
  refine callsIn_of_wp_marks Tryz.func60 rfl trivial ?_ rfl
  simp only [Tryz.ntmps60, List.size_toArray, List.length_cons, List.length_nil, Nat.reduceAdd, Nat.reduceSub, Array.replicate_succ, Array.replicate_zero, List.push_toArray, List.append_toArray, List.nil_append, List.cons_append]
  gi_wp2
  have bO := Boxed.new w 25 (.slice none 0 0)
  refine wpIn_rangeFunc_but rfl (by omega) (gf := 61) (lb := #[.pointer (some ⟨b1, 0, none⟩), .pointer (some ⟨b2, 0, none⟩)]) rfl trivial (enters_of Tryz.func61 (by kernel_rfl) rfl)
    hS (by simp; omega) (fun h k => ⟨h.1.trans k.1, h.2.trans k.2⟩) ?kb ((Below.refl _ _).alloc (Nat.le_refl _) _) (fun _ => rfl)
    (ColI w B) (fun _ _ _ => False) (colI_own w B _ (by simp)) (fun _ _ _ _ _ hs _ _ => hs) (colI_but w B hBn) (fun _ _ _ _ hs _ => hs)
    ⟨⟨_, bO, World.ownsRow_nil _ _ _ _, trivial⟩, BelowBut.of ((Below.refl _ _).alloc (Nat.le_refl _) _)⟩
    (ColAx w B (.func (.func 61) #[] #[.pointer (some ⟨b1, 0, none⟩), .pointer (some ⟨b2, 0, none⟩)])) ?ax ?assign ?body ?done ?stop
  case kb =>
    intro W l o o' hl ho hc hw
    refine ⟨belowK_b (w := w) (Nat.le_refl _) W l o o' (by simp at hl; omega) ho hc hw, fun k cs T fr hk _ _ _ => World.putObj_heap_other (fun e => ?_)⟩
    subst e
    rw [ho] at hk
    injection hk with hk
    subst hk
    cases hc
  case ax =>
    rintro pre x a' W l o o' ⟨hI, b, hA, rfl⟩ hl ho hc
    refine ⟨OwnFrom.putObj (colI_own w B w.heap.size (Nat.le_refl _)) o' hI (by simp at hl; omega) ho hc, b, ?_, rfl⟩
    refine (World.putObj_heap_other (fun e => ?_)).trans hA
    subst e
    rw [hA] at ho
    injection ho with ho
    subst ho
    cases hc
  case assign =>
    intro l pre x W K hI hK
    dsimp only [evAgg] at hK ⊢
    gi_wp2
    exact hK _ _ (KeepsOthers.alloc _ _) ⟨(Below.refl _ _).alloc hI.2.size _, KeepsT.of_below ((Below.refl _ _).alloc (Nat.le_refl _) _)⟩ ⟨(colI_own w B w.heap.size (Nat.le_refl _)).alloc _ hI, W.heap.size, Arr.new rfl rfl, rfl⟩
  case body =>
    rintro l pre x a' W ⟨⟨⟨v, hv, hrow, _⟩, hB⟩, b, hA, rfl⟩ hlt
    have hc := hv.cell
    have e0 := hA.cell (j := 0) (v := .int .i64 x.t) rfl
    have e1 := hA.cell (j := 1) (v := .int .i64 x.k) rfl
    have e2 := hA.cell (j := 2) (v := .int .i64 x.a) rfl
    have e3 := hA.cell (j := 3) (v := .int .i64 x.b) rfl
    dsimp only [evAgg]
    have hn0 : ∀ j u, (evCells [x])[j]? = some u → (W.alloc (.cells #[.int .i64 x.t, .int .i64 x.k, .int .i64 x.a, .int .i64 x.b] 60)).cell? ((⟨W.heap.size, 0, none⟩ : Addr).add j) = some u := fun j u hu => cells_new W (evCells [x]) 60 j u hu
    have hn1 : ∀ u ∈ evCells [x], u.oneCell' = true := by simp [evCells, Value.oneCell']
    have hn2 : pre.length + 1 ≤ maxLen := by unfold maxLen; omega
    have hn3 : (pre.length + 1) * 32 ≤ 140737488355328 := by omega
    have hn4 : w.heap.size ≤ W.heap.size + 1 := by have := hB.size; omega
    gi_wp2_with (gi_at_builtin; go_loud (refine wpListIn_append_own _ rfl _ _ 25 rfl w.heap.size 60 i0 (.agg #[.int .i64 0, .int .i64 0, .int .i64 0, .int .i64 0]) 4 32 Tryz.underlying25 hi hz0 hz1 hz2 rfl (by decide) v pre.length (evCells pre) rfl (hrow.alloc _) ⟨W.heap.size, 0, none⟩ 1 1 (evCells [x]) rfl rfl hn0 hn1 hn2 hn3 (by simpa using hn4) ?_; intro v' w1 hown' hgrow hnil; obtain ⟨g', cap', rfl⟩ := ownsRow_succ hown'; obtain ⟨hv1, hv2, hr2, hk2, hb2⟩ := hv.appended (by decide) hrow hB.size (Nat.le_refl _) hown' hgrow; have hkt : KeepsT W (w1.setCell ⟨w.heap.size, 0, none⟩ (.slice (some ⟨g', 0, none⟩) (pre.length + 1) cap')) := ((KeepsT.of_below ((Below.refl _ W).alloc (Nat.le_refl _) _)).trans (keepsT_grown (hrow.alloc _) hgrow)).trans (keepsT_box hv1); have hc1 := hv1.cell; have hf1 := hv1.frozen))
    exact ⟨hk2, ⟨hb2, hkt⟩, ⟨_, hv2, by simpa [evCells] using hr2, trivial⟩, hB.trans (BelowBut.of hb2) (Nat.le_refl _)⟩
  case done =>
    rintro D ys W hD hys ⟨⟨v, hv, hrow, _⟩, hB⟩ hK
    subst hys
    have hc := hv.cell
    gi_wp2
    refine ⟨by simp, .inl ⟨_, _, rfl, run_takeDeferred hK, ?_⟩⟩
    exact ⟨_, results_tmp rfl _ _ _, v, rfl, ownsRow_putObj hrow _ hK rfl, hB.trans (BelowBut.of (belowK_b (w := w) (Nat.le_refl _) W D _ _ (by simp at hD; omega) hK rfl rfl)) (Nat.le_refl _)⟩
  case stop =>
    rintro D c pre W _ _ h _
    exact h.elim
end Go.Proofs.YtocpnlifmeffkaaGreatDoor
