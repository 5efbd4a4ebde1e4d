/-
  fit where what it calls panics with errMisfit: recovered, ErrRatio.
-/
import Derived.Test.YtfojgdlegojdgaaDoorBadOf
import Derived.Test.YtfojgdlegojdgaaDoorFit2
namespace Go.Proofs.YtfojgdlegojdgaaDoor
open Go.RowKit

theorem fit1TA (a : Addr) (w : World) : (Instr.typeAssert (.iface 129 (.pointer (some a))) 20 58 true).run Tryd.prog w = .ok (.tuple #[.iface 129 (.pointer (some a)), .bool true]) w := by kernel_rfl

theorem name_postS {P : Program} {fn : Func} {c₀ : Frame} {cs : List Frame} {R : Ending → FrameMode → World → Prop} {e : Exit} {a : Act} {F : List Frame} {W : World} (h : ∀ w', w' = W → bodyPostS P fn c₀ cs R e a F w') : bodyPostS P fn c₀ cs R e a F W := h W rfl
theorem act_is {P : Program} {c : Code} {Q : Exit → Act → World → Prop} {a b : Act} {w : World} (h : a = b) (hw : c.wp P Q b w) : c.wp P Q a w := h ▸ hw

set_option maxRecDepth 100000 in
set_option maxHeartbeats 1000000 in
/-- fit's deferred closure, where errMisfit has been panicked with. -/
theorem fit1_bad (a : Addr) (B1 B2 : Nat) (x1 x2 x3 : Int) (w : World) (hM : Mis w a) (m1 : Mine w B1 0 (.int .i64 x1)) (m2 : Mine w B1 1 (.int .i64 x2)) (m3 : Mine w B2 0 (.int .i64 x3)) (hne : B1 ≠ B2) :
    CallsD Tryd.prog 65 #[.pointer (some ⟨B1, 0, none⟩), .pointer (some ⟨B2, 0, none⟩)] (.panicking [{ v := misV a, recovered := false }]) w fun e u' w' => e = .returned (.tuple #[]) ∧ u' = .panicking [{ v := misV a, recovered := true }] ∧
      Mine w' B1 0 (.int .i64 0) ∧ Mine w' B1 1 (.int .i64 0) ∧ Mine w' B2 0 (.int .i64 30) ∧ ∀ s, s ≤ B1 → s ≤ B2 → s ≤ w.heap.size → Below s w w' := by
  have hTA := fit1TA a
  have hM2 : w.cell? ⟨0, 0, none⟩ = some (.iface 129 (.pointer (some a))) := hM
  refine callsD_of_wpS Tryd.func65 rfl fun c₀ cs hu => ?_
  apply wpS_seq
  apply wpS_region
  simp [wpOpsS, go_sem, hTA, recoverD, hu, Tryd.ntmps65, Exit.thenS, misV]
  refine wpS_of_wp ?_
  refine act_is (b := { tmps := #[.pointer (some ⟨B1, 0, none⟩), .pointer (some ⟨B2, 0, none⟩), misV a, .bool true, .tuple #[misV a, .bool true], misV a, .tuple #[misV a, .bool true], misV a, .bool true, undef, undef, undef, undef, undef, undef, undef], defers := [] }) (by kernel_rfl) ?_
  simp only [misV]
  have hB : Below w.heap.size w w := Below.refl _ _
  go_wp2_with fail
  refine (is_same a _).mono ?_
  rintro e wz ⟨rfl, hwz⟩
  replace hwz := hwz.symm
  subst hwz
  have c1 := m1.cell
  have f1 := m1.free
  have l1 := m1.lt
  have c2 := m2.cell
  have f2 := m2.free
  have l2 := m2.lt
  have c3 := m3.cell
  have f3 := m3.free
  have l3 := m3.lt
  go_wp2
  clear c1 f1 l1
  clear c2 f2 l2
  clear c3 f3 l3
  have hS : ∀ s, s ≤ B1 → s ≤ B2 → s ≤ w.heap.size → Below s w (((w.setCell { block := B1, off := 0 } (Value.int IntKind.i64 0)).setCell { block := B1, off := 1 } (Value.int IntKind.i64 0)).setCell { block := B2, off := 0 } (Value.int IntKind.i64 30)) := by
    intro s h1 h2 h3
    exact (by repeat first | with_reducible exact Below.refl _ _ | with_reducible assumption | with_reducible refine below_drewN ?_ _ | with_reducible refine Below.drew ?_ | with_reducible refine Below.setCell ?_ (by first | exact Nat.le_refl _ | (simp; done) | (simp; omega) | omega) _ | with_reducible refine Below.alloc ?_ (by first | exact Nat.le_refl _ | (simp; done) | (simp; omega) | omega) _ | exact Below.refl _ _ | assumption)
  clear hB
  refine name_postS ?_
  intro W hW
  replace m1 : Mine W B1 0 (.int .i64 0) := by rw [hW]; (repeat first | with_reducible assumption | with_reducible refine Mine.drew ?_ | with_reducible refine Mine.drewN ?_ _ | ((with_reducible refine Mine.new ?_); rfl) | ((with_reducible refine Mine.newAt ?_ ?_) <;> first | rfl | (simp; done) | (simp only [World.size_alloc]; rfl)) | ((with_reducible refine Mine.set ?_ _); repeat first | exact Mine.slot (by with_reducible assumption) | with_reducible refine MineS.drew ?_ | with_reducible refine MineS.drewN ?_ _ | ((with_reducible refine MineS.new ?_); decide) | ((with_reducible refine MineS.newAt ?_ ?_) <;> first | decide | (simp; done)) | with_reducible refine MineS.set ?_ _ _ _ | with_reducible refine MineS.alloc ?_ _) | with_reducible refine Mine.other ?_ _ (by first | (left; omega) | (right; omega) | (simp; done) | (simp; omega)) | with_reducible refine Mine.alloc ?_ _)
  replace m2 : Mine W B1 1 (.int .i64 0) := by rw [hW]; (repeat first | with_reducible assumption | with_reducible refine Mine.drew ?_ | with_reducible refine Mine.drewN ?_ _ | ((with_reducible refine Mine.new ?_); rfl) | ((with_reducible refine Mine.newAt ?_ ?_) <;> first | rfl | (simp; done) | (simp only [World.size_alloc]; rfl)) | ((with_reducible refine Mine.set ?_ _); repeat first | exact Mine.slot (by with_reducible assumption) | with_reducible refine MineS.drew ?_ | with_reducible refine MineS.drewN ?_ _ | ((with_reducible refine MineS.new ?_); decide) | ((with_reducible refine MineS.newAt ?_ ?_) <;> first | decide | (simp; done)) | with_reducible refine MineS.set ?_ _ _ _ | with_reducible refine MineS.alloc ?_ _) | with_reducible refine Mine.other ?_ _ (by first | (left; omega) | (right; omega) | (simp; done) | (simp; omega)) | with_reducible refine Mine.alloc ?_ _)
  replace m3 : Mine W B2 0 (.int .i64 30) := by rw [hW]; (repeat first | with_reducible assumption | with_reducible refine Mine.drew ?_ | with_reducible refine Mine.drewN ?_ _ | ((with_reducible refine Mine.new ?_); rfl) | ((with_reducible refine Mine.newAt ?_ ?_) <;> first | rfl | (simp; done) | (simp only [World.size_alloc]; rfl)) | ((with_reducible refine Mine.set ?_ _); repeat first | exact Mine.slot (by with_reducible assumption) | with_reducible refine MineS.drew ?_ | with_reducible refine MineS.drewN ?_ _ | ((with_reducible refine MineS.new ?_); decide) | ((with_reducible refine MineS.newAt ?_ ?_) <;> first | decide | (simp; done)) | with_reducible refine MineS.set ?_ _ _ _ | with_reducible refine MineS.alloc ?_ _) | with_reducible refine Mine.other ?_ _ (by first | (left; omega) | (right; omega) | (simp; done) | (simp; omega)) | with_reducible refine Mine.alloc ?_ _)
  rw [← hW] at hS
  clear hW
  exact ⟨rfl, _, rfl, .tuple #[], by simp [results, Tryd.results65, go_sem], rfl, rfl, m1, m2, m3, hS⟩

set_option maxRecDepth 100000 in
set_option maxHeartbeats 1000000 in
/-- fit, where what it calls panics with errMisfit. -/
theorem fit_bad (G : FuncId) (cap : Array Value) (p : Addr) (w : World) (hM : Mis w p)
    (hcf : ∀ (args : Array Value) (w : World), (callFunc G args).run Tryd.prog w = .ok (.enter G args) w)
    (H : ∀ w', Below w.heap.size w w' → Calls Tryd.prog G cap w' fun e w'' => e = misE p ∧ Below w'.heap.size w' w'') :
    Calls Tryd.prog 49 #[.func (.func G) #[] cap] w fun e w' => e = .returned (.tuple #[rv 0 0, .int .i64 30]) ∧ Below w.heap.size w w' := by
  have hB : Below w.heap.size w w := Below.refl _ _
  have hmf : ∀ (fn : Fn) (first cap : Array Value) (w : World), (Instr.makeFunc fn first cap).run Tryd.prog w = .ok (.func fn first cap) w := fun _ _ _ _ => rfl
  replace H := Lib.hid H
  have hlt := World.block_lt_of_cell? w _ hM
  go_enter_defers Tryd.func49, Tryd.ntmps49
  go_wp2_with fail
  refine name_calls ?_
  intro w1 hww1
  have mAll : Mine w1 w.heap.size 0 (.int .i64 0) ∧ Mine w1 w.heap.size 1 (.int .i64 0) ∧ Mine w1 (w.heap.size + 1) 0 (.int .i64 0) := by
    rw [hww1]
    refine ⟨?_, ?_, ?_⟩ <;> (repeat first | with_reducible assumption | with_reducible refine Mine.drew ?_ | with_reducible refine Mine.drewN ?_ _ | ((with_reducible refine Mine.new ?_); rfl) | ((with_reducible refine Mine.newAt ?_ ?_) <;> first | rfl | (simp; done) | (simp only [World.size_alloc]; rfl)) | ((with_reducible refine Mine.set ?_ _); repeat first | exact Mine.slot (by with_reducible assumption) | with_reducible refine MineS.drew ?_ | with_reducible refine MineS.drewN ?_ _ | ((with_reducible refine MineS.new ?_); decide) | ((with_reducible refine MineS.newAt ?_ ?_) <;> first | decide | (simp; done)) | with_reducible refine MineS.set ?_ _ _ _ | with_reducible refine MineS.alloc ?_ _) | with_reducible refine Mine.other ?_ _ (by first | (left; omega) | (right; omega) | (simp; done) | (simp; omega)) | with_reducible refine Mine.alloc ?_ _)
  obtain ⟨m1, m2, m3⟩ := mAll
  have hBzw1 := hB.size
  replace hB : Below w.heap.size w w1 := by rw [hww1]; exact (by repeat first | with_reducible exact Below.refl _ _ | with_reducible assumption | with_reducible refine below_drewN ?_ _ | with_reducible refine Below.drew ?_ | with_reducible refine Below.setCell ?_ (by first | exact Nat.le_refl _ | (simp; done) | (simp; omega) | omega) _ | with_reducible refine Below.alloc ?_ (by first | exact Nat.le_refl _ | (simp; done) | (simp; omega) | omega) _ | exact Below.refl _ _ | assumption)
  clear hww1 hBzw1
  refine (H.out _ hB).mono ?_
  rintro e w2 ⟨rfl, hb1⟩
  replace m1 := m1.below hb1
  replace m2 := m2.below hb1
  replace m3 := m3.below hb1
  replace hB := hB.trans (hb1.mono hB.size)
  have hb_w2 := hb1
  clear hb1
  unfold misE
  go_wp2
  have hsz := hB.size
  refine leaves_cons (f := 65) (args := #[.pointer (some ⟨w.heap.size, 0, none⟩), .pointer (some ⟨w.heap.size + 1, 0, none⟩)]) (by simp) (by simp [go_sem]) ?_
  refine (fit1_bad p w.heap.size (w.heap.size + 1) 0 0 0 w2 (hM.below hB) m1 m2 m3 (by omega)).mono ?_
  rintro e u' w5 ⟨rfl, rfl, n1, n2, n3, hS⟩
  have e1 := n1.cell
  have e2 := n2.cell
  have e3 := n3.cell
  have hB5 : Below w.heap.size w w5 := hB.trans (hS _ (by omega) (by omega) hsz)
  simp [Leaves, settle, results, Tryd.results49, go_sem, e1, e2, e3, hB5]
end Go.Proofs.YtfojgdlegojdgaaDoor
