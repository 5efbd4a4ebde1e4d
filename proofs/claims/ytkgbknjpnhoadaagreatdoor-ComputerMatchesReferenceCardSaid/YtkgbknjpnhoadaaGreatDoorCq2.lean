/-
  The computer of chapter 12 in memory.
-/
import Derived.Test.YtkgbknjpnhoadaaGreatDoorCq1
import Derived.Test.YtkgbknjpnhoadaaGreatDoorRow0
namespace Go.Proofs.YtkgbknjpnhoadaaGreatDoor
open Go.RowKit

/-- Below B nothing has turned but block x. -/
structure BelowBut (B x : Nat) (w w' : World) : Prop where
  os : w'.os = w.os
  tape : w'.tape = w.tape
  output : w'.output = w.output
  size : w.heap.size ≤ w'.heap.size
  block : ∀ k, k < B → k ≠ x → w'.heap[k]? = w.heap[k]?
section
variable {B C x : Nat} {w w' w'' : World}
theorem BelowBut.of (h : Below B w w') : BelowBut B x w w' := ⟨h.os, h.tape, h.output, h.size, fun k hk _ => h.block k hk⟩
theorem BelowBut.refl (B x : Nat) (w : World) : BelowBut B x w w := BelowBut.of (Below.refl _ _)
theorem BelowBut.setCell (h : BelowBut B x w w') (o : Nat) (u : Value) : BelowBut B x w (w'.setCell ⟨x, o, none⟩ u) :=
  ⟨h.os, h.tape, h.output, by simpa [World.setCell] using h.size, fun k hk hne => (Below.heap_setCell w' ⟨x, o, none⟩ u k (by simpa using hne)).trans (h.block k hk hne)⟩
theorem BelowBut.drew (h : BelowBut B x w w') : BelowBut B x w w'.drew := ⟨h.os, h.tape, h.output, h.size, h.block⟩
theorem BelowBut.drewN (h : BelowBut B x w w') (n : Nat) : BelowBut B x w (w'.drewN n) := ⟨h.os, h.tape, h.output, h.size, h.block⟩
theorem BelowBut.alloc (h : BelowBut B x w w') (o : Obj) (hB : B ≤ w'.heap.size) : BelowBut B x w (w'.alloc o) :=
  ⟨h.os, h.tape, h.output, by simpa using Nat.le_succ_of_le h.size, fun k hk hne => (Below.heap_alloc w' o k (by omega)).trans (h.block k hk hne)⟩
theorem BelowBut.trans (h : BelowBut B x w w') (k : BelowBut C x w' w'') (hBC : B ≤ C) : BelowBut B x w w'' :=
  ⟨k.os.trans h.os, k.tape.trans h.tape, k.output.trans h.output, Nat.le_trans h.size k.size, fun j hj hne => (k.block j (by omega) hne).trans (h.block j hj hne)⟩
theorem BelowBut.below (h : BelowBut B x w w') (hx : C ≤ x) (hC : C ≤ B) : Below C w w' := ⟨h.os, h.tape, h.output, h.size, fun k hk => h.block k (by omega) (by omega)⟩
theorem BelowBut.cell (h : BelowBut B x w w') {b o : Nat} (hb : b < B) (hne : b ≠ x) : w'.cell? ⟨b, o, none⟩ = w.cell? ⟨b, o, none⟩ := World.cell?_of_block (a := ⟨b, o, none⟩) (h.block b hb hne)
theorem BelowBut.mine (h : BelowBut w.heap.size x w w') {b o : Nat} {v : Value} (hm : Mine w b o v) (hne : b ≠ x) : Mine w' b o v := by
  have hb := h.block b hm.lt hne
  refine ⟨(World.cell?_of_block (a := ⟨b, o, none⟩) hb).trans hm.cell, ?_, Nat.lt_of_lt_of_le hm.lt h.size⟩
  rw [← hm.free]
  simp only [World.frozen?, hb]
theorem BelowBut.arr (h : BelowBut w.heap.size x w w') {b : Nat} {T : TypeId} {L : List Value} (hm : Arr w b T L) (hne : b ≠ x) : Arr w' b T L := (h.block b hm.lt hne).trans hm
end

/-- The cells of events. -/
def evCells (l : List Ev) : List Value := l.flatMap fun e => [.int .i64 e.t, .int .i64 e.k, .int .i64 e.a, .int .i64 e.b]
theorem evCells_len (l : List Ev) : (evCells l).length = 4 * l.length := by
  induction l with
  | nil => rfl
  | cons e l ih => simp [evCells] at ih ⊢; omega
theorem evCells_cons (e : Ev) (l : List Ev) : evCells (e :: l) = [.int .i64 e.t, .int .i64 e.k, .int .i64 e.a, .int .i64 e.b] ++ evCells l := rfl
theorem evCells_app (l r : List Ev) : evCells (l ++ r) = evCells l ++ evCells r := by simp [evCells]
/-- A value that is a slice whose elements' cells are xs, in a block below B. -/
def SliceAt (w : World) (B : Nat) (v : Value) (n : Nat) (xs : List Value) : Prop :=
  ∃ a cap, v = .slice a n cap ∧ n ≤ cap ∧ cap ≤ maxLen ∧ (0 < n → ∃ b o, a = some ⟨b, o, none⟩ ∧ b < B ∧ ∀ j u, xs[j]? = some u → w.cell? ⟨b, o + j, none⟩ = some u)
theorem SliceAt.keep {w w' : World} {B : Nat} {v : Value} {n : Nat} {xs : List Value} (h : SliceAt w B v n xs) (hb : ∀ b, b < B → w'.heap[b]? = w.heap[b]?) : SliceAt w' B v n xs := by
  obtain ⟨a, cap, hv, h1, h2, hc⟩ := h
  refine ⟨a, cap, hv, h1, h2, fun hn => ?_⟩
  obtain ⟨b, o, ha, hlt, hx⟩ := hc hn
  exact ⟨b, o, ha, hlt, fun j u hu => (World.cell?_of_block (a := ⟨b, o + j, none⟩) (hb b hlt)).trans (hx j u hu)⟩
theorem SliceAt.but {w w' : World} {B C : Nat} {v : Value} {n : Nat} {xs : List Value} (h : SliceAt w B v n xs) (hb : BelowBut C B w w') (hC : B ≤ C) : SliceAt w' B v n xs :=
  h.keep fun b hlt => hb.block b (by omega) (by omega)
theorem SliceAt.below {w w' : World} {B C : Nat} {v : Value} {n : Nat} {xs : List Value} (h : SliceAt w B v n xs) (hb : Below C w w') (hC : B ≤ C) : SliceAt w' B v n xs :=
  h.keep fun b hlt => hb.block b (by omega)

def nums (l : List Nat) : List Value := l.map fun n : Nat => .int .u8 (n : Int)
theorem nums_len (l : List Nat) : (nums l).length = l.length := by simp [nums]
theorem nums_at {l : List Nat} {j : Nat} (h : j < l.length) : (nums l)[j]? = some (.int .u8 (l.getD j 0 : Nat)) := by
  simp [nums, List.getD_eq_getElem?_getD, h]
theorem nums_set (l : List Nat) (j u : Nat) : (nums l).set j (.int .u8 (u : Int)) = nums (l.set j u) := by simp [nums, List.map_set]
/-- The cells of the computer. -/
def cpuCells (kv : Value) (x : Cpu) : List Value := kv :: (nums x.mem ++ (nums x.disk ++ [.int .u8 (x.a : Int), .int .u8 (x.c : Int), .int .i64 (x.time : Int)]))
section
variable {kv : Value} {x : Cpu} (h : x.WF)
include h
theorem cpu_mem {j : Nat} (hj : j < 256) : (cpuCells kv x)[1 + j]? = some (.int .u8 (x.mem.getD j 0 : Nat)) := by
  have h1 := nums_len x.mem; have h2 := h.mem
  rw [cpuCells, Nat.add_comm, List.getElem?_cons_succ, List.getElem?_append_left (by omega), nums_at (by omega)]
theorem cpu_disk {j : Nat} (hj : j < 256) : (cpuCells kv x)[257 + j]? = some (.int .u8 (x.disk.getD j 0 : Nat)) := by
  have h1 := nums_len x.mem; have h2 := h.mem; have h3 := nums_len x.disk; have h4 := h.disk
  rw [cpuCells, show 257 + j = 256 + j + 1 from by omega, List.getElem?_cons_succ, List.getElem?_append_right (by omega), List.getElem?_append_left (by omega), h1, h2, show 256 + j - 256 = j from by omega, nums_at (by omega)]
theorem cpu_reg {i : Nat} (hi : i < 3) : (cpuCells kv x)[513 + i]? = [Value.int .u8 (x.a : Int), .int .u8 (x.c : Int), .int .i64 (x.time : Int)][i]? := by
  have h1 := nums_len x.mem; have h2 := h.mem; have h3 := nums_len x.disk; have h4 := h.disk
  rw [cpuCells, show 513 + i = 512 + i + 1 from by omega, List.getElem?_cons_succ, List.getElem?_append_right (by omega), List.getElem?_append_right (by omega), h1, h2, h3, h4, show 512 + i - 256 - 256 = i from by omega]
theorem cpu_setMem {j : Nat} (hj : j < 256) (u : Nat) : (cpuCells kv x).set (1 + j) (.int .u8 (u : Int)) = cpuCells kv { x with mem := x.mem.set j u } := by
  have h1 := nums_len x.mem; have h2 := h.mem
  rw [cpuCells, Nat.add_comm, List.set_cons_succ, List.set_append_left _ _ (by omega), nums_set]
  rfl
theorem cpu_setDisk {j : Nat} (hj : j < 256) (u : Nat) : (cpuCells kv x).set (257 + j) (.int .u8 (u : Int)) = cpuCells kv { x with disk := x.disk.set j u } := by
  have h1 := nums_len x.mem; have h2 := h.mem; have h3 := nums_len x.disk; have h4 := h.disk
  rw [cpuCells, show 257 + j = 256 + j + 1 from by omega, List.set_cons_succ, List.set_append_right _ _ (by omega), List.set_append_left _ _ (by omega), h1, h2, show 256 + j - 256 = j from by omega, nums_set]
  rfl
theorem cpu_setReg (i : Nat) (hi : i < 3) (u : Value) : (cpuCells kv x).set (513 + i) u = kv :: (nums x.mem ++ (nums x.disk ++ [Value.int .u8 (x.a : Int), .int .u8 (x.c : Int), .int .i64 (x.time : Int)].set i u)) := by
  have h1 := nums_len x.mem; have h2 := h.mem; have h3 := nums_len x.disk; have h4 := h.disk
  rw [cpuCells, show 513 + i = 512 + i + 1 from by omega, List.set_cons_succ, List.set_append_right _ _ (by omega), List.set_append_right _ _ (by omega), h1, h2, h3, h4, show 512 + i - 256 - 256 = i from by omega]
end

/-- The computer lies in block B. -/
structure CpuAt (w : World) (B : Nat) (x : Cpu) : Prop where
  wf : x.WF
  at_ : ∃ kv, Arr w B 77 (cpuCells kv x) ∧ SliceAt w B kv x.keys.length (evCells x.keys)
section
variable {w w' : World} {B : Nat} {x : Cpu}
theorem CpuAt.lt (h : CpuAt w B x) : B < w.heap.size := by obtain ⟨_, _, hA, _⟩ := h; exact hA.lt
theorem CpuAt.free (h : CpuAt w B x) (o : Nat) : w.frozen? ⟨B, o, none⟩ = false := by obtain ⟨_, _, hA, _⟩ := h; exact hA.free o
theorem CpuAt.mem (h : CpuAt w B x) {j : Nat} (hj : j < 256) : w.cell? ⟨B, 1 + j, none⟩ = some (.int .u8 (x.mem.getD j 0 : Nat)) := by obtain ⟨hw, _, hA, _⟩ := h; exact hA.cell (cpu_mem hw hj)
theorem CpuAt.disk (h : CpuAt w B x) {j : Nat} (hj : j < 256) : w.cell? ⟨B, 257 + j, none⟩ = some (.int .u8 (x.disk.getD j 0 : Nat)) := by obtain ⟨hw, _, hA, _⟩ := h; exact hA.cell (cpu_disk hw hj)
theorem CpuAt.a (h : CpuAt w B x) : w.cell? ⟨B, 513, none⟩ = some (.int .u8 (x.a : Int)) := by obtain ⟨hw, _, hA, _⟩ := h; exact hA.cell (cpu_reg hw (i := 0) (by omega))
theorem CpuAt.c (h : CpuAt w B x) : w.cell? ⟨B, 514, none⟩ = some (.int .u8 (x.c : Int)) := by obtain ⟨hw, _, hA, _⟩ := h; exact hA.cell (cpu_reg hw (i := 1) (by omega))
theorem CpuAt.time (h : CpuAt w B x) : w.cell? ⟨B, 515, none⟩ = some (.int .i64 (x.time : Int)) := by obtain ⟨hw, _, hA, _⟩ := h; exact hA.cell (cpu_reg hw (i := 2) (by omega))
theorem CpuAt.drew (h : CpuAt w B x) : CpuAt w.drew B x := ⟨h.wf, by obtain ⟨_, kv, hA, hK⟩ := h; exact ⟨kv, hA, hK⟩⟩
theorem CpuAt.drewN (h : CpuAt w B x) (n : Nat) : CpuAt (w.drewN n) B x := ⟨h.wf, by obtain ⟨_, kv, hA, hK⟩ := h; exact ⟨kv, hA, hK⟩⟩
theorem CpuAt.belowAt {C : Nat} (h : CpuAt w B x) (hb : Below C w w') (hC : B < C) : CpuAt w' B x := ⟨h.wf, by obtain ⟨_, kv, hA, hK⟩ := h; exact ⟨kv, hA.belowAt hb hC, hK.below hb (by omega)⟩⟩
theorem CpuAt.below (h : CpuAt w B x) (hb : Below w.heap.size w w') : CpuAt w' B x := h.belowAt hb h.lt
theorem CpuAt.alloc (h : CpuAt w B x) (o : Obj) : CpuAt (w.alloc o) B x := h.below ((Below.refl _ _).alloc (Nat.le_refl _) _)
theorem CpuAt.store (h : CpuAt w B x) {o : Nat} {u : Value} {y : Cpu} (hy : y.WF) (hk : y.keys = x.keys) (hs : ∀ kv, (cpuCells kv x).set o u = cpuCells kv y) : CpuAt (w.setCell ⟨B, o, none⟩ u) B y := by
  obtain ⟨_, kv, hA, hK⟩ := h
  refine ⟨hy, kv, by rw [← hs kv]; exact hA.set o u, ?_⟩
  rw [hk]
  exact hK.but ((BelowBut.refl B _ _).setCell o u) (Nat.le_refl _)
theorem CpuAt.setA (h : CpuAt w B x) {v : Nat} (hv : v < 256) : CpuAt (w.setCell ⟨B, 513, none⟩ (.int .u8 (v : Int))) B { x with a := v } :=
  h.store ⟨h.wf.mem, h.wf.disk, h.wf.memB, h.wf.diskB, hv, h.wf.c, h.wf.keys⟩ rfl (fun _ => by rw [cpu_setReg h.wf 0 (by omega)]; rfl)
theorem CpuAt.setC (h : CpuAt w B x) {v : Nat} (hv : v < 256) : CpuAt (w.setCell ⟨B, 514, none⟩ (.int .u8 (v : Int))) B { x with c := v } :=
  h.store ⟨h.wf.mem, h.wf.disk, h.wf.memB, h.wf.diskB, h.wf.a, hv, h.wf.keys⟩ rfl (fun _ => by rw [cpu_setReg h.wf 1 (by omega)]; rfl)
theorem CpuAt.setTime (h : CpuAt w B x) (v : Nat) : CpuAt (w.setCell ⟨B, 515, none⟩ (.int .i64 (v : Int))) B { x with time := v } :=
  h.store ⟨h.wf.mem, h.wf.disk, h.wf.memB, h.wf.diskB, h.wf.a, h.wf.c, h.wf.keys⟩ rfl (fun _ => by rw [cpu_setReg h.wf 2 (by omega)]; rfl)
theorem CpuAt.setMem (h : CpuAt w B x) {j v : Nat} (hj : j < 256) (hv : v < 256) : CpuAt (w.setCell ⟨B, 1 + j, none⟩ (.int .u8 (v : Int))) B { x with mem := x.mem.set j v } :=
  h.store ⟨by simp [h.wf.mem], h.wf.disk, set_lt h.wf.memB _ hv, h.wf.diskB, h.wf.a, h.wf.c, h.wf.keys⟩ rfl (fun _ => cpu_setMem h.wf hj v)
theorem CpuAt.setDisk (h : CpuAt w B x) {j v : Nat} (hj : j < 256) (hv : v < 256) : CpuAt (w.setCell ⟨B, 257 + j, none⟩ (.int .u8 (v : Int))) B { x with disk := x.disk.set j v } :=
  h.store ⟨h.wf.mem, by simp [h.wf.disk], h.wf.memB, set_lt h.wf.diskB _ hv, h.wf.a, h.wf.c, h.wf.keys⟩ rfl (fun _ => cpu_setDisk h.wf hj v)
end
end Go.Proofs.YtkgbknjpnhoadaaGreatDoor
