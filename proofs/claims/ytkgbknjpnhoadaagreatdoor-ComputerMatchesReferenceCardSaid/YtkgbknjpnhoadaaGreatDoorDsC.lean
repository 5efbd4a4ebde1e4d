/-
  The reference's machine in its block.
  The reference's event: a machine's events grow by one.
  The reference's machine and its events, as one condition on the world.
-/
import Derived.Test.YtkgbknjpnhoadaaGreatDoorDsB
namespace Go.Proofs.YtkgbknjpnhoadaaGreatDoor
open Go.RowKit Go.Shelf
/-- One event is appended to a row of the call's own: the run, ahead of the walk. -/
theorem append_one (ws : World) (base : Nat) (v : Value) (l : List Ev) (e : Ev) (hown : ws.ownsRow base 39 4 v l.length (evCells l)) (hl : l.length ≤ 1000000) (hb : base ≤ ws.heap.size) :
    ∃ v' w', (Builtin.append_ #[33, 33] 33 #[v, .slice (some ⟨ws.heap.size, 0, none⟩) 1 1]).run Tryz.prog (ws.alloc (.cells #[.int .i64 e.t, .int .i64 e.k, .int .i64 e.a, .int .i64 e.b] 39)) = .ok v' w' ∧
      w'.ownsRow base 39 4 v' (l ++ [e]).length (evCells (l ++ [e])) ∧ (ws.alloc (.cells #[.int .i64 e.t, .int .i64 e.k, .int .i64 e.a, .int .i64 e.b] 39)).grownBy w' v.ownBlock ∧ v' ≠ .slice none 0 0 ∧
      (v'.ownBlock = v.ownBlock ∨ v'.ownBlock = some (ws.heap.size + 1)) ∧ (∀ B u, B ≤ base → Below B u ws → Below B u w') := by
  obtain ⟨i0, hi, hz0, hz1, hz2⟩ := info_parts Tryz.info_ev
  have hown2 := own_below hown ((Below.refl ws.heap.size ws).alloc (Nat.le_refl _) (.cells #[.int .i64 e.t, .int .i64 e.k, .int .i64 e.a, .int .i64 e.b] 39))
  have hnew : Arr (ws.alloc (.cells #[.int .i64 e.t, .int .i64 e.k, .int .i64 e.a, .int .i64 e.b] 39)) ws.heap.size 39 (evCells [e]) := Arr.new rfl rfl
  obtain ⟨v', w', hrun, r1, r2, r3, r4⟩ := run_append_own_at (P := Tryz.prog) (ws.alloc (.cells #[.int .i64 e.t, .int .i64 e.k, .int .i64 e.a, .int .i64 e.b] 39)) base 33 33 39 i0 (.agg #[.int .i64 0, .int .i64 0, .int .i64 0, .int .i64 0]) 4 32 Tryz.underlying33 hi hz0 hz1 hz2 rfl (by decide) v l.length (evCells l) hown2 ⟨ws.heap.size, 0, none⟩ 1 1 (evCells [e]) rfl (fun j u hu => by rw [Addr.add_mid, Nat.zero_add]; exact hnew.cell hu)
    (by intro u hu; simp [evCells] at hu; rcases hu with rfl | rfl | rfl | rfl <;> rfl) (by unfold maxLen; omega) (by omega) (by simp; omega)
  refine ⟨v', w', hrun, by rw [List.length_append, evCells_app]; exact r1, r2, fun e => absurd (r3.1 e).2 (by decide), by simpa using r4, fun B u hB hu => ?_⟩
  exact (hu.alloc (by omega) _).grown r2 (by simp; omega) (fun j ej => Nat.le_trans hB (hown2.lt j ej).1)
end Go.Proofs.YtkgbknjpnhoadaaGreatDoor
namespace Go.Proofs.YtkgbknjpnhoadaaGreatDoor
open Go.RowKit Go.Shelf

def ints (l : List Nat) : List Value := l.map fun n : Nat => .int .i64 (n : Int)
theorem ints_len (l : List Nat) : (ints l).length = l.length := by simp [ints]
theorem ints_at {l : List Nat} {j : Nat} (h : j < l.length) : (ints l)[j]? = some (.int .i64 (l.getD j 0 : Nat)) := by
  simp [ints, List.getD_eq_getElem?_getD, h]
theorem ints_set (l : List Nat) (j u : Nat) : (ints l).set j (.int .i64 (u : Int)) = ints (l.set j u) := by simp [ints, List.map_set]
/-- The cells of the machine. -/
def machCells (x : Cpu) (tk : Nat) (hl : Bool) (ev : Value) : List Value := ints x.mem ++ (ints x.disk ++ [.int .i64 (x.a : Int), .int .i64 (x.c : Int), .int .i64 (x.time : Int), .int .i64 (tk : Int), .bool hl, ev])
section
variable {x : Cpu} {tk : Nat} {hl : Bool} {ev : Value} (h : x.WF)
include h
theorem mach_mem {j : Nat} (hj : j < 256) : (machCells x tk hl ev)[j]? = some (.int .i64 (x.mem.getD j 0 : Nat)) := by
  have h1 := ints_len x.mem; have h2 := h.mem
  rw [machCells, List.getElem?_append_left (by omega), ints_at (by omega)]
theorem mach_disk {j : Nat} (hj : j < 256) : (machCells x tk hl ev)[256 + j]? = some (.int .i64 (x.disk.getD j 0 : Nat)) := by
  have h1 := ints_len x.mem; have h2 := h.mem; have h3 := ints_len x.disk; have h4 := h.disk
  rw [machCells, List.getElem?_append_right (by omega), List.getElem?_append_left (by omega), h1, h2, show 256 + j - 256 = j from by omega, ints_at (by omega)]
theorem mach_reg (i : Nat) : (machCells x tk hl ev)[512 + i]? = [Value.int .i64 (x.a : Int), .int .i64 (x.c : Int), .int .i64 (x.time : Int), .int .i64 (tk : Int), .bool hl, ev][i]? := by
  have h1 := ints_len x.mem; have h2 := h.mem; have h3 := ints_len x.disk; have h4 := h.disk
  rw [machCells, List.getElem?_append_right (by omega), List.getElem?_append_right (by omega), h1, h2, h3, h4, show 512 + i - 256 - 256 = i from by omega]
theorem mach_setMem {j : Nat} (hj : j < 256) (u : Nat) : (machCells x tk hl ev).set j (.int .i64 (u : Int)) = machCells { x with mem := x.mem.set j u } tk hl ev := by
  have h1 := ints_len x.mem; have h2 := h.mem
  rw [machCells, List.set_append_left _ _ (by omega), ints_set]
  rfl
theorem mach_setDisk {j : Nat} (hj : j < 256) (u : Nat) : (machCells x tk hl ev).set (256 + j) (.int .i64 (u : Int)) = machCells { x with disk := x.disk.set j u } tk hl ev := by
  have h1 := ints_len x.mem; have h2 := h.mem; have h3 := ints_len x.disk; have h4 := h.disk
  rw [machCells, List.set_append_right _ _ (by omega), List.set_append_left _ _ (by omega), h1, h2, show 256 + j - 256 = j from by omega, ints_set]
  rfl
theorem mach_setReg (i : Nat) (u : Value) : (machCells x tk hl ev).set (512 + i) u = ints x.mem ++ (ints x.disk ++ [Value.int .i64 (x.a : Int), .int .i64 (x.c : Int), .int .i64 (x.time : Int), .int .i64 (tk : Int), .bool hl, ev].set i u) := by
  have h1 := ints_len x.mem; have h2 := h.mem; have h3 := ints_len x.disk; have h4 := h.disk
  rw [machCells, List.set_append_right _ _ (by omega), List.set_append_right _ _ (by omega), h1, h2, h3, h4, show 512 + i - 256 - 256 = i from by omega]
end
/-- The machine lies in block B. -/
structure MachAt (w : World) (B : Nat) (x : Cpu) (tk : Nat) (hl : Bool) (ev : Value) : Prop where
  wf : x.WF
  arr : Arr w B 88 (machCells x tk hl ev)
section
variable {w w' : World} {B : Nat} {x : Cpu} {tk : Nat} {hl : Bool} {ev : Value}
theorem MachAt.lt (h : MachAt w B x tk hl ev) : B < w.heap.size := h.arr.lt
theorem MachAt.free (h : MachAt w B x tk hl ev) (o : Nat) : w.frozen? ⟨B, o, none⟩ = false := h.arr.free o
theorem MachAt.mem (h : MachAt w B x tk hl ev) {j : Nat} (hj : j < 256) : w.cell? ⟨B, j, none⟩ = some (.int .i64 (x.mem.getD j 0 : Nat)) := h.arr.cell (mach_mem h.wf hj)
theorem MachAt.disk (h : MachAt w B x tk hl ev) {j : Nat} (hj : j < 256) : w.cell? ⟨B, 256 + j, none⟩ = some (.int .i64 (x.disk.getD j 0 : Nat)) := h.arr.cell (mach_disk h.wf hj)
theorem MachAt.a (h : MachAt w B x tk hl ev) : w.cell? ⟨B, 512, none⟩ = some (.int .i64 (x.a : Int)) := h.arr.cell (mach_reg h.wf 0)
theorem MachAt.c (h : MachAt w B x tk hl ev) : w.cell? ⟨B, 513, none⟩ = some (.int .i64 (x.c : Int)) := h.arr.cell (mach_reg h.wf 1)
theorem MachAt.time (h : MachAt w B x tk hl ev) : w.cell? ⟨B, 514, none⟩ = some (.int .i64 (x.time : Int)) := h.arr.cell (mach_reg h.wf 2)
theorem MachAt.taken (h : MachAt w B x tk hl ev) : w.cell? ⟨B, 515, none⟩ = some (.int .i64 (tk : Int)) := h.arr.cell (mach_reg h.wf 3)
theorem MachAt.halted (h : MachAt w B x tk hl ev) : w.cell? ⟨B, 516, none⟩ = some (.bool hl) := h.arr.cell (mach_reg h.wf 4)
theorem MachAt.events (h : MachAt w B x tk hl ev) : w.cell? ⟨B, 517, none⟩ = some ev := h.arr.cell (mach_reg h.wf 5)
theorem MachAt.drew (h : MachAt w B x tk hl ev) : MachAt w.drew B x tk hl ev := ⟨h.wf, h.arr⟩
theorem MachAt.drewN (h : MachAt w B x tk hl ev) (n : Nat) : MachAt (w.drewN n) B x tk hl ev := ⟨h.wf, h.arr⟩
theorem MachAt.belowAt {C : Nat} (h : MachAt w B x tk hl ev) (hb : Below C w w') (hC : B < C) : MachAt w' B x tk hl ev := ⟨h.wf, h.arr.belowAt hb hC⟩
theorem MachAt.block (h : MachAt w B x tk hl ev) (hb : w'.heap[B]? = w.heap[B]?) : MachAt w' B x tk hl ev := ⟨h.wf, hb.trans h.arr⟩
theorem MachAt.store (h : MachAt w B x tk hl ev) {o : Nat} {u : Value} {y : Cpu} {tk' : Nat} {hl' : Bool} {ev' : Value} (hy : y.WF) (hs : (machCells x tk hl ev).set o u = machCells y tk' hl' ev') : MachAt (w.setCell ⟨B, o, none⟩ u) B y tk' hl' ev' :=
  ⟨hy, by rw [← hs]; exact h.arr.set o u⟩
theorem MachAt.setA (h : MachAt w B x tk hl ev) {v : Nat} (hv : v < 256) : MachAt (w.setCell ⟨B, 512, none⟩ (.int .i64 (v : Int))) B { x with a := v } tk hl ev :=
  h.store ⟨h.wf.mem, h.wf.disk, h.wf.memB, h.wf.diskB, hv, h.wf.c, h.wf.keys⟩ (by rw [mach_setReg h.wf 0]; rfl)
theorem MachAt.setC (h : MachAt w B x tk hl ev) {v : Nat} (hv : v < 256) : MachAt (w.setCell ⟨B, 513, none⟩ (.int .i64 (v : Int))) B { x with c := v } tk hl ev :=
  h.store ⟨h.wf.mem, h.wf.disk, h.wf.memB, h.wf.diskB, h.wf.a, hv, h.wf.keys⟩ (by rw [mach_setReg h.wf 1]; rfl)
theorem MachAt.setTime (h : MachAt w B x tk hl ev) (v : Nat) : MachAt (w.setCell ⟨B, 514, none⟩ (.int .i64 (v : Int))) B { x with time := v } tk hl ev :=
  h.store ⟨h.wf.mem, h.wf.disk, h.wf.memB, h.wf.diskB, h.wf.a, h.wf.c, h.wf.keys⟩ (by rw [mach_setReg h.wf 2]; rfl)
theorem MachAt.setTaken (h : MachAt w B x tk hl ev) (v : Nat) (ks : List Ev) (hk : ∀ k ∈ ks, keyOk k = true) : MachAt (w.setCell ⟨B, 515, none⟩ (.int .i64 (v : Int))) B { x with keys := ks } v hl ev :=
  h.store ⟨h.wf.mem, h.wf.disk, h.wf.memB, h.wf.diskB, h.wf.a, h.wf.c, hk⟩ (by rw [mach_setReg h.wf 3]; rfl)
theorem MachAt.setHalted (h : MachAt w B x tk hl ev) (v : Bool) : MachAt (w.setCell ⟨B, 516, none⟩ (.bool v)) B x tk v ev :=
  h.store h.wf (by rw [mach_setReg h.wf 4]; rfl)
theorem MachAt.setEvents (h : MachAt w B x tk hl ev) (v : Value) : MachAt (w.setCell ⟨B, 517, none⟩ v) B x tk hl v :=
  h.store h.wf (by rw [mach_setReg h.wf 5]; rfl)
theorem MachAt.setMem (h : MachAt w B x tk hl ev) {j v : Nat} (hj : j < 256) (hv : v < 256) : MachAt (w.setCell ⟨B, j, none⟩ (.int .i64 (v : Int))) B { x with mem := x.mem.set j v } tk hl ev :=
  h.store ⟨by simp [h.wf.mem], h.wf.disk, set_lt h.wf.memB _ hv, h.wf.diskB, h.wf.a, h.wf.c, h.wf.keys⟩ (mach_setMem h.wf hj v)
theorem MachAt.setDisk (h : MachAt w B x tk hl ev) {j v : Nat} (hj : j < 256) (hv : v < 256) : MachAt (w.setCell ⟨B, 256 + j, none⟩ (.int .i64 (v : Int))) B { x with disk := x.disk.set j v } tk hl ev :=
  h.store ⟨h.wf.mem, by simp [h.wf.disk], h.wf.memB, set_lt h.wf.diskB _ hv, h.wf.a, h.wf.c, h.wf.keys⟩ (mach_setDisk h.wf hj v)
end
end Go.Proofs.YtkgbknjpnhoadaaGreatDoor
namespace Go.Proofs.YtkgbknjpnhoadaaGreatDoor
open Go.RowKit Go.Shelf

set_option maxRecDepth 100000 in
set_option maxHeartbeats 4000000 in
theorem mevent_any (w : World) (B base : Nat) (x : Cpu) (tk : Nat) (hl : Bool) (ev : Value) (L : List Ev) (k a b : Int) (h : MachAt w B x tk hl ev) (ho : w.ownsRow base 39 4 ev L.length (evCells L)) (hB : B < base) (hb : base ≤ w.heap.size) (hL : L.length ≤ 1000000) :
    Calls Tryz.prog 68 #[.pointer (some ⟨B, 0, none⟩), .int .i64 k, .int .i64 a, .int .i64 b] w fun e w' =>
      e = .returned (.tuple #[]) ∧ ∃ ev', MachAt w' B x tk hl ev' ∧ w'.ownsRow base 39 4 ev' (L ++ [(⟨x.time, k, a, b⟩ : Ev)]).length (evCells (L ++ [(⟨x.time, k, a, b⟩ : Ev)])) ∧ Below B w w' := by
  have cT := h.time
  have cE := h.events
  obtain ⟨ao, vc, rfl⟩ := own_val ho
  obtain ⟨v', w2, hrun, r1, r2, r3, r4, r5⟩ := append_one w.drew base _ L (⟨x.time, k, a, b⟩ : Ev) (own_below ho (Below.refl w.heap.size w).drew) hL hb
  obtain ⟨a2, c2, rfl⟩ := own_val r1
  obtain ⟨ln, hln⟩ : ∃ ln, ln = (L ++ [(⟨x.time, k, a, b⟩ : Ev)]).length := ⟨_, rfl⟩
  rw [← hln] at r1 hrun
  have hg : w2.heap[B]? = w.heap[B]? := (r5 base w.drew (Nat.le_refl _) (Below.refl _ _)).block B hB
  have hM2 := h.block hg
  have cT2 := hM2.time
  have cE2 := hM2.events
  have fE2 := hM2.free 517
  have hM3 := hM2.setEvents (.slice a2 ln c2)
  have cT3 := hM3.time
  have hB2 : Below B w w2 := (r5 B w (by omega) (Below.refl B w).drew)
  have hown : (w2.setCell ⟨B, 517, none⟩ (.slice a2 ln c2)).ownsRow base 39 4 (.slice a2 ln c2) ln (evCells (L ++ [(⟨x.time, k, a, b⟩ : Ev)])) := by
    refine ⟨r1.1, ?_⟩
    rcases r1.2 with hh | ⟨g, cap, cur, hv, hg1, hg2, r⟩
    · exact .inl hh
    · exact .inr ⟨g, cap, cur, hv, hg1, by rw [Below.heap_setCell _ _ _ _ (by simp; omega)]; exact hg2, r⟩
  have cT' : (w.alloc (.cells #[.int .i64 (x.time : Int), .int .i64 k, .int .i64 a, .int .i64 b] 39)).cell? ⟨B, 514, none⟩ = some (.int .i64 (x.time : Int)) := (h.belowAt ((Below.refl w.heap.size w).alloc (Nat.le_refl _) _) h.lt).time
  have cE' : (w.alloc (.cells #[.int .i64 (x.time : Int), .int .i64 k, .int .i64 a, .int .i64 b] 39)).cell? ⟨B, 517, none⟩ = some (.slice ao L.length vc) := (h.belowAt ((Below.refl w.heap.size w).alloc (Nat.le_refl _) _) h.lt).events
  replace hrun := Lib.hid hrun
  replace hown := Lib.hid hown
  replace hM3 := Lib.hid hM3
  replace hln := Lib.hid hln
  clear hg hM2 r1 r2 r3 r4 r5
  go_enter Tryz.func68, Tryz.ntmps68
  go_wp2_with fail
  refine wp_region_held_drew (S := fun w' => w'.cell? ⟨B, 514, none⟩ = some (.int .i64 (x.time : Int))) (by kernel_rfl) (by exact cT) (fun hHeld => ?_)
  refine take_l (i := 0) (v := ?_) rfl (by kernel_rfl) (by kernel_rfl) (by kernel_rfl) (fun _ _ _ h => h) (Or.inl ⟨by kernel_rfl, ?_⟩) (by assumption) ?_
  rotate_left
  · intro w hSw; (try dsimp only at hSw); go_simp; (try with_reducible rfl)
  (try simp only [Act.put, List.setIfInBounds_toArray, List.set_cons_zero, List.set_cons_succ])
  refine take_l (i := 1) (v := ?_) rfl (by kernel_rfl) (by kernel_rfl) (by kernel_rfl) (fun _ _ _ h => h) (Or.inl ⟨by kernel_rfl, ?_⟩) (by assumption) ?_
  rotate_left
  · intro w hSw; (try dsimp only at hSw); go_simp; (try with_reducible rfl)
  (try simp only [Act.put, List.setIfInBounds_toArray, List.set_cons_zero, List.set_cons_succ])
  refine take_l (i := 2) (v := ?_) rfl (by kernel_rfl) (by kernel_rfl) (by kernel_rfl) (fun _ _ _ h => h) (Or.inl ⟨by kernel_rfl, ?_⟩) (by assumption) ?_
  rotate_left
  · intro w hSw; (try dsimp only at hSw); go_simp; (try with_reducible rfl)
  (try simp only [Act.put, List.setIfInBounds_toArray, List.set_cons_zero, List.set_cons_succ])
  refine take_l (i := 3) (v := ?_) rfl (by kernel_rfl) (by kernel_rfl) (by kernel_rfl) (fun _ _ _ h => h) (Or.inl ⟨by kernel_rfl, ?_⟩) (by assumption) ?_
  rotate_left
  · intro w hSw; (try dsimp only at hSw); go_simp; (try with_reducible rfl)
  (try simp only [Act.put, List.setIfInBounds_toArray, List.set_cons_zero, List.set_cons_succ])
  refine take_l (i := 5) (v := ?_) rfl (by kernel_rfl) (by kernel_rfl) (by kernel_rfl) (fun _ _ _ h => h) (Or.inl ⟨by kernel_rfl, ?_⟩) (by assumption) ?_
  rotate_left
  · intro w hSw; (try dsimp only at hSw); go_simp; (try with_reducible rfl)
  (try simp only [Act.put, List.setIfInBounds_toArray, List.set_cons_zero, List.set_cons_succ])
  refine take_l (i := 6) (v := ?_) rfl (by kernel_rfl) (by kernel_rfl) (by kernel_rfl) (fun _ _ _ h => h) (Or.inl ⟨by kernel_rfl, ?_⟩) (by assumption) ?_
  rotate_left
  · intro w hSw; (try dsimp only at hSw); go_simp; (try with_reducible rfl)
  (try simp only [Act.put, List.setIfInBounds_toArray, List.set_cons_zero, List.set_cons_succ])
  refine take_l (i := 7) (v := ?_) rfl (by kernel_rfl) (by kernel_rfl) (by kernel_rfl) (fun _ _ _ h => h) (Or.inl ⟨by kernel_rfl, ?_⟩) (by assumption) ?_
  rotate_left
  · intro w hSw; (try dsimp only at hSw); go_simp; (try with_reducible rfl)
  (try simp only [Act.put, List.setIfInBounds_toArray, List.set_cons_zero, List.set_cons_succ])
  refine take_l (i := 8) (v := ?_) rfl (by kernel_rfl) (by kernel_rfl) (by kernel_rfl) (fun _ _ _ h => h) (Or.inl ⟨by kernel_rfl, ?_⟩) (by assumption) ?_
  rotate_left
  · intro w hSw; (try dsimp only at hSw); go_simp; (try with_reducible rfl)
  (try simp only [Act.put, List.setIfInBounds_toArray, List.set_cons_zero, List.set_cons_succ])
  refine take_l (i := 9) (v := ?_) rfl (by kernel_rfl) (by kernel_rfl) (by kernel_rfl) (fun _ _ _ h => h) (Or.inl ⟨by kernel_rfl, ?_⟩) (by assumption) ?_
  rotate_left
  · intro w hSw; (try dsimp only at hSw); go_simp; (try with_reducible rfl)
  (try simp only [Act.put, List.setIfInBounds_toArray, List.set_cons_zero, List.set_cons_succ])
  refine take_l (i := 10) (v := ?_) rfl (by kernel_rfl) (by kernel_rfl) (by kernel_rfl) (fun _ _ _ h => h) (Or.inl ⟨by kernel_rfl, ?_⟩) (by assumption) ?_
  rotate_left
  · intro w hSw; (try dsimp only at hSw); go_simp; (try with_reducible rfl)
  (try simp only [Act.put, List.setIfInBounds_toArray, List.set_cons_zero, List.set_cons_succ])
  refine take_l (i := 11) (v := ?_) rfl (by kernel_rfl) (by kernel_rfl) (by kernel_rfl) (fun _ _ _ h => h) (Or.inl ⟨by kernel_rfl, ?_⟩) (by assumption) ?_
  rotate_left
  · intro w hSw; (try dsimp only at hSw); go_simp; (try with_reducible rfl)
  (try simp only [Act.put, List.setIfInBounds_toArray, List.set_cons_zero, List.set_cons_succ])
  refine take_l (i := 12) (v := ?_) rfl (by kernel_rfl) (by kernel_rfl) (by kernel_rfl) (fun _ _ _ h => h) (Or.inl ⟨by kernel_rfl, ?_⟩) (by assumption) ?_
  rotate_left
  · intro w hSw; (try dsimp only at hSw); go_simp; (try with_reducible rfl)
  (try simp only [Act.put, List.setIfInBounds_toArray, List.set_cons_zero, List.set_cons_succ])
  refine wpAnyH_ready (rs := [4, 13]) (by kernel_rfl) (by simp) ?_
  refine ready_l rfl (fun K hK => ?_) (ready_l rfl (fun K hK => ?_) AllReadyH.nil)
  · go_simp
    refine hK.out _ _ cT (fun hHeld => ?_)
    clear hK K
    refine wpAnyH_ready (rs := [13]) (by kernel_rfl) (by simp) ?_
    refine ready_l rfl (fun K hK => ?_) AllReadyH.nil
    go_simp
    refine hK.out _ _ (by exact cT') (fun hHeld => ?_)
    clear hK K
    (try simp only [Act.put, List.setIfInBounds_toArray, List.set_cons_zero, List.set_cons_succ])
    refine wpAnyH_ready (rs := [14]) (by kernel_rfl) (by simp) ?_
    refine ready_l rfl (fun K hK => ?_) AllReadyH.nil
    refine step_append_known rfl _ _ _ _ rfl _ _ rfl rfl hrun.out ?_
    (try simp only [Act.put, List.setIfInBounds_toArray, List.set_cons_zero, List.set_cons_succ])
    refine hK.out _ _ (by exact cT2) (fun hHeld => ?_)
    clear hK K
    (try simp only [Act.put, List.setIfInBounds_toArray, List.set_cons_zero, List.set_cons_succ])
    refine take_l (i := 15) (v := ?_) rfl (by kernel_rfl) (by kernel_rfl) (by kernel_rfl) (fun _ _ _ h => h) (Or.inl ⟨by kernel_rfl, ?_⟩) (by assumption) ?_
    rotate_left
    · intro w hSw; (try dsimp only at hSw); go_simp; (try with_reducible rfl)
    (try simp only [Act.put, List.setIfInBounds_toArray, List.set_cons_zero, List.set_cons_succ])
    refine take_l (i := 16) (v := ?_) rfl (by kernel_rfl) (by kernel_rfl) (by kernel_rfl) (fun _ _ _ h => h) (Or.inl ⟨by kernel_rfl, ?_⟩) (by assumption) ?_
    rotate_left
    · intro w hSw; (try dsimp only at hSw); go_simp; (try with_reducible rfl)
    (try simp only [Act.put, List.setIfInBounds_toArray, List.set_cons_zero, List.set_cons_succ])
    refine wpAnyH_ready (rs := [17]) (by kernel_rfl) (by simp) ?_
    refine ready_l rfl (fun K hK => ?_) AllReadyH.nil
    go_simp
    refine hK.out _ _ (by exact cT3) (fun hHeld => ?_)
    clear hK K
    (try simp only [Act.put, List.setIfInBounds_toArray, List.set_cons_zero, List.set_cons_succ])
    refine wpAnyH_done (by kernel_rfl) ?_ _
    go_wp2_with fail
    go_end0
    exact ⟨rfl, _, hM3.out, by rw [← hln.out]; exact hown.out, hB2.setCell (Nat.le_refl _) _⟩
  · go_simp
    refine hK.out _ _ (by exact cT') (fun hHeld => ?_)
    clear hK K
    refine wpAnyH_ready (rs := [4]) (by kernel_rfl) (by simp) ?_
    refine ready_l rfl (fun K hK => ?_) AllReadyH.nil
    go_simp
    refine hK.out _ _ (by exact cT') (fun hHeld => ?_)
    clear hK K
    (try simp only [Act.put, List.setIfInBounds_toArray, List.set_cons_zero, List.set_cons_succ])
    refine wpAnyH_ready (rs := [14]) (by kernel_rfl) (by simp) ?_
    refine ready_l rfl (fun K hK => ?_) AllReadyH.nil
    refine step_append_known rfl _ _ _ _ rfl _ _ rfl rfl hrun.out ?_
    (try simp only [Act.put, List.setIfInBounds_toArray, List.set_cons_zero, List.set_cons_succ])
    refine hK.out _ _ (by exact cT2) (fun hHeld => ?_)
    clear hK K
    (try simp only [Act.put, List.setIfInBounds_toArray, List.set_cons_zero, List.set_cons_succ])
    refine take_l (i := 15) (v := ?_) rfl (by kernel_rfl) (by kernel_rfl) (by kernel_rfl) (fun _ _ _ h => h) (Or.inl ⟨by kernel_rfl, ?_⟩) (by assumption) ?_
    rotate_left
    · intro w hSw; (try dsimp only at hSw); go_simp; (try with_reducible rfl)
    (try simp only [Act.put, List.setIfInBounds_toArray, List.set_cons_zero, List.set_cons_succ])
    refine take_l (i := 16) (v := ?_) rfl (by kernel_rfl) (by kernel_rfl) (by kernel_rfl) (fun _ _ _ h => h) (Or.inl ⟨by kernel_rfl, ?_⟩) (by assumption) ?_
    rotate_left
    · intro w hSw; (try dsimp only at hSw); go_simp; (try with_reducible rfl)
    (try simp only [Act.put, List.setIfInBounds_toArray, List.set_cons_zero, List.set_cons_succ])
    refine wpAnyH_ready (rs := [17]) (by kernel_rfl) (by simp) ?_
    refine ready_l rfl (fun K hK => ?_) AllReadyH.nil
    go_simp
    refine hK.out _ _ (by exact cT3) (fun hHeld => ?_)
    clear hK K
    (try simp only [Act.put, List.setIfInBounds_toArray, List.set_cons_zero, List.set_cons_succ])
    refine wpAnyH_done (by kernel_rfl) ?_ _
    go_wp2_with fail
    go_end0
    exact ⟨rfl, _, hM3.out, by rw [← hln.out]; exact hown.out, hB2.setCell (Nat.le_refl _) _⟩
end Go.Proofs.YtkgbknjpnhoadaaGreatDoor
namespace Go.Proofs.YtkgbknjpnhoadaaGreatDoor
open Go.RowKit Go.Shelf

/-- The machine lies in block B, its events in a row of blocks from base on; below B nothing has turned since w0. -/
structure MS (w0 W : World) (B base : Nat) (x : Cpu) (tk : Nat) (hl : Bool) (ev : Value) (L : List Ev) : Prop where
  mach : MachAt W B x tk hl ev
  own : W.ownsRow base 39 4 ev L.length (evCells L)
  below : Below B w0 W
  lt : B < base
  le : base ≤ W.heap.size
section
variable {w0 W : World} {B base : Nat} {x : Cpu} {tk : Nat} {hl : Bool} {ev : Value} {L : List Ev}
theorem own_setB {n : Nat} {v : Value} {xs : List Value} (h : W.ownsRow base 39 4 v n xs) (hB : B < base) (o : Nat) (u : Value) : (W.setCell ⟨B, o, none⟩ u).ownsRow base 39 4 v n xs := by
  refine ⟨h.1, ?_⟩
  rcases h.2 with hh | ⟨g, cap, cur, hv, hg1, hg2, r⟩
  · exact .inl hh
  · exact .inr ⟨g, cap, cur, hv, hg1, by rw [Below.heap_setCell _ _ _ _ (by simp; omega)]; exact hg2, r⟩
theorem MS.drew (h : MS w0 W B base x tk hl ev L) : MS w0 W.drew B base x tk hl ev L := ⟨h.mach.drew, own_below h.own (Below.refl W.heap.size W).drew, h.below.drew, h.lt, h.le⟩
theorem MS.drewN (h : MS w0 W B base x tk hl ev L) (n : Nat) : MS w0 (W.drewN n) B base x tk hl ev L := ⟨h.mach.drewN n, own_below h.own (below_drewN (Below.refl W.heap.size W) n), below_drewN h.below n, h.lt, h.le⟩
theorem MS.set (h : MS w0 W B base x tk hl ev L) {o : Nat} {u : Value} {y : Cpu} {tk' : Nat} {hl' : Bool} (hm : MachAt (W.setCell ⟨B, o, none⟩ u) B y tk' hl' ev) : MS w0 (W.setCell ⟨B, o, none⟩ u) B base y tk' hl' ev L :=
  ⟨hm, own_setB h.own h.lt o u, h.below.setCell (Nat.le_refl _) _, h.lt, by have := h.le; simp [World.setCell]; exact this⟩
theorem MS.setA (h : MS w0 W B base x tk hl ev L) {v : Nat} (hv : v < 256) : MS w0 (W.setCell ⟨B, 512, none⟩ (.int .i64 (v : Int))) B base { x with a := v } tk hl ev L := h.set (h.mach.setA hv)
theorem MS.setC (h : MS w0 W B base x tk hl ev L) {v : Nat} (hv : v < 256) : MS w0 (W.setCell ⟨B, 513, none⟩ (.int .i64 (v : Int))) B base { x with c := v } tk hl ev L := h.set (h.mach.setC hv)
theorem MS.setTime (h : MS w0 W B base x tk hl ev L) (v : Nat) : MS w0 (W.setCell ⟨B, 514, none⟩ (.int .i64 (v : Int))) B base { x with time := v } tk hl ev L := h.set (h.mach.setTime v)
theorem MS.setTaken (h : MS w0 W B base x tk hl ev L) (v : Nat) (ks : List Ev) (hk : ∀ k ∈ ks, keyOk k = true) : MS w0 (W.setCell ⟨B, 515, none⟩ (.int .i64 (v : Int))) B base { x with keys := ks } v hl ev L := h.set (h.mach.setTaken v ks hk)
theorem MS.setHalted (h : MS w0 W B base x tk hl ev L) (v : Bool) : MS w0 (W.setCell ⟨B, 516, none⟩ (.bool v)) B base x tk v ev L := h.set (h.mach.setHalted v)
theorem MS.setMem (h : MS w0 W B base x tk hl ev L) {j v : Nat} (hj : j < 256) (hv : v < 256) : MS w0 (W.setCell ⟨B, j, none⟩ (.int .i64 (v : Int))) B base { x with mem := x.mem.set j v } tk hl ev L := h.set (h.mach.setMem hj hv)
theorem MS.setDisk (h : MS w0 W B base x tk hl ev L) {j v : Nat} (hj : j < 256) (hv : v < 256) : MS w0 (W.setCell ⟨B, 256 + j, none⟩ (.int .i64 (v : Int))) B base { x with disk := x.disk.set j v } tk hl ev L := h.set (h.mach.setDisk hj hv)
theorem MS.event (h : MS w0 W B base x tk hl ev L) (hL : L.length ≤ 1000000) (k a b : Int) :
    Calls Tryz.prog 68 #[.pointer (some ⟨B, 0, none⟩), .int .i64 k, .int .i64 a, .int .i64 b] W fun e w' =>
      e = .returned (.tuple #[]) ∧ ∃ ev', MS w0 w' B base x tk hl ev' (L ++ [⟨x.time, k, a, b⟩]) :=
  (mevent_any W B base x tk hl ev L k a b h.mach h.own h.lt h.le hL).mono fun _ _ ⟨he, ev', hm, ho, hb⟩ => ⟨he, ev', hm, ho, h.below.trans hb, h.lt, Nat.le_trans h.le hb.size⟩
end
/-- What a step leaves. -/
def MPost (w w' : World) (B base : Nat) (ks : List Ev) (x : Cpu) (L : List Ev) (hl : Bool) : Prop := ∃ tk ev, MS w w' B base x tk hl ev L ∧ x.keys = ks.drop tk ∧ tk ≤ ks.length
/-- What a step asks. -/
structure MPre (w : World) (B base : Nat) (ks : List Ev) (kv : Value) (x : Cpu) (tk : Nat) (ev : Value) (L : List Ev) : Prop where
  ms : MS w w B base x tk false ev L
  keys : SliceAt w B kv ks.length (evCells ks)
  rest : x.keys = ks.drop tk
  tk : tk ≤ ks.length
  ks : ks.length ≤ 1000
  len : L.length ≤ 100000
  time : x.time ≤ 100000
end Go.Proofs.YtkgbknjpnhoadaaGreatDoor
