/-
  ratio.Mul, Add, Div, Sub, Round where a fraction is not valid. (Printed by genopb.py.)
-/
import Derived.Test.YtfojgdlegojdgaaDoorBad
import Derived.Test.YtfojgdlegojdgaaDoorFitB
import Derived.Test.YtfojgdlegojdgaaDoorFit3
namespace Go.Proofs.YtfojgdlegojdgaaDoor
open Go.RowKit

set_option maxRecDepth 100000 in
set_option maxHeartbeats 1000000 in
theorem Mul_bad (a b c d : Int) (w : World) (ia : I64 a) (ib : I64 b) (ic : I64 c) (id : I64 d) (h : ¬ (vld a b = true ∧ vld c d = true)) (p : Addr) (hP : Mis w p) :
    Calls Tryd.prog 27 #[rv a b, rv c d] w fun e w' => e = .returned (.tuple #[rv 0 0, .int .i64 30]) ∧ Below w.heap.size w w' := by
  have hB : Below w.heap.size w w := Below.refl _ _
  have hmf : ∀ (fn : Fn) (first cap : Array Value) (w : World), (Instr.makeFunc fn first cap).run Tryd.prog w = .ok (.func fn first cap) w := fun _ _ _ _ => rfl
  have hcf : ∀ (args : Array Value) (w : World), (callFunc 53 args).run Tryd.prog w = .ok (.enter 53 args) w := fun _ _ => by simp [go_sem]
  have hF := Lib.hid (fit_bad 53 #[.pointer (some ⟨w.heap.size, 0, none⟩), .pointer (some ⟨w.heap.size + 1, 0, none⟩)] p)
  have hM : ∀ B1 B2 w', Mis w' p → Mine w' B1 0 (.int .i64 a) → Mine w' B1 1 (.int .i64 b) → Mine w' B2 0 (.int .i64 c) → Mine w' B2 1 (.int .i64 d) → Calls Tryd.prog 53 #[.pointer (some ⟨B1, 0, none⟩), .pointer (some ⟨B2, 0, none⟩)] w' fun e w'' => e = misE p ∧ Below w'.heap.size w' w'' := by
    intro B1 B2 w' h0 m1 m2 m3 m4
    by_cases h1 : vld a b = true
    · exact Mul1_badb a b c d B1 B2 w' ic id h1 (by cases h2 : vld c d; rfl; exact absurd ⟨h1, h2⟩ h) p h0 m1 m2 m3 m4
    · exact Mul1_bada a b c d B1 B2 w' ia ib (by simpa using h1) p h0 m1 m2 m3 m4
  replace hM := Lib.hid hM
  have hPp := Lib.hid (fun W (hW : Below w.heap.size w W) => hP.below hW)
  clear h hP
  go_enter Tryd.func27, Tryd.ntmps27
  go_wp2_with fail
  refine name_calls ?_
  intro w1 hww1
  have mAll : Mine w1 w.heap.size 0 (.int .i64 a) ∧ Mine w1 w.heap.size 1 (.int .i64 b) ∧ Mine w1 (w.heap.size + 1) 0 (.int .i64 c) ∧ Mine w1 (w.heap.size + 1) 1 (.int .i64 d) ∧ Mine w1 (w.heap.size + 2) 0 (.int .i64 0) ∧ Mine w1 (w.heap.size + 2) 1 (.int .i64 0) := by
    rw [hww1]
    refine ⟨?_, ?_, ?_, ?_, ?_, ?_⟩ <;> (repeat first | with_reducible assumption | with_reducible refine Mine.drew ?_ | with_reducible refine Mine.drewN ?_ _ | ((with_reducible refine Mine.new ?_); rfl) | ((with_reducible refine Mine.newAt ?_ ?_) <;> first | rfl | (simp; done) | (simp only [World.size_alloc]; rfl)) | ((with_reducible refine Mine.set ?_ _); repeat first | exact Mine.slot (by with_reducible assumption) | with_reducible refine MineS.drew ?_ | with_reducible refine MineS.drewN ?_ _ | ((with_reducible refine MineS.new ?_); decide) | ((with_reducible refine MineS.newAt ?_ ?_) <;> first | decide | (simp; done)) | with_reducible refine MineS.set ?_ _ _ _ | with_reducible refine MineS.alloc ?_ _) | with_reducible refine Mine.other ?_ _ (by first | (left; omega) | (right; omega) | (simp; done) | (simp; omega)) | with_reducible refine Mine.alloc ?_ _)
  obtain ⟨m1, m2, m3, m4, m5, m6⟩ := mAll
  have hBzw1 := hB.size
  replace hB : Below w.heap.size w w1 := by rw [hww1]; exact (by repeat first | with_reducible exact Below.refl _ _ | with_reducible assumption | with_reducible refine below_drewN ?_ _ | with_reducible refine Below.drew ?_ | with_reducible refine Below.setCell ?_ (by first | exact Nat.le_refl _ | (simp; done) | (simp; omega) | omega) _ | with_reducible refine Below.alloc ?_ (by first | exact Nat.le_refl _ | (simp; done) | (simp; omega) | omega) _ | exact Below.refl _ _ | assumption)
  clear hww1 hBzw1
  refine (hF.out _ (hPp.out _ hB) hcf (fun w' hb => hM.out _ _ w' (Mis.below (hPp.out _ hB) hb) (m1.below hb) (m2.below hb) (m3.below hb) (m4.below hb))).mono ?_
  rintro e wc1 ⟨rfl, hb1⟩
  replace m1 := m1.below hb1
  replace m2 := m2.below hb1
  replace m3 := m3.below hb1
  replace m4 := m4.below hb1
  replace m5 := m5.below hb1
  replace m6 := m6.below hb1
  replace hB := hB.trans (hb1.mono hB.size)
  have hb_wc1 := hb1
  clear hb1
  have c5 := m5.cell
  have f5 := m5.free
  have l5 := m5.lt
  have c6 := m6.cell
  have f6 := m6.free
  have l6 := m6.lt
  go_wp2
  clear c5 f5 l5
  clear c6 f6 l6
  refine name_post ?_
  intro w4 hww4
  have mAll : Mine w4 w.heap.size 0 (.int .i64 a) ∧ Mine w4 w.heap.size 1 (.int .i64 b) ∧ Mine w4 (w.heap.size + 1) 0 (.int .i64 c) ∧ Mine w4 (w.heap.size + 1) 1 (.int .i64 d) ∧ Mine w4 (w.heap.size + 2) 0 (.int .i64 0) ∧ Mine w4 (w.heap.size + 2) 1 (.int .i64 0) := by
    rw [hww4]
    refine ⟨?_, ?_, ?_, ?_, ?_, ?_⟩ <;> (repeat first | with_reducible assumption | with_reducible refine Mine.drew ?_ | with_reducible refine Mine.drewN ?_ _ | ((with_reducible refine Mine.new ?_); rfl) | ((with_reducible refine Mine.newAt ?_ ?_) <;> first | rfl | (simp; done) | (simp only [World.size_alloc]; rfl)) | ((with_reducible refine Mine.set ?_ _); repeat first | exact Mine.slot (by with_reducible assumption) | with_reducible refine MineS.drew ?_ | with_reducible refine MineS.drewN ?_ _ | ((with_reducible refine MineS.new ?_); decide) | ((with_reducible refine MineS.newAt ?_ ?_) <;> first | decide | (simp; done)) | with_reducible refine MineS.set ?_ _ _ _ | with_reducible refine MineS.alloc ?_ _) | with_reducible refine Mine.other ?_ _ (by first | (left; omega) | (right; omega) | (simp; done) | (simp; omega)) | with_reducible refine Mine.alloc ?_ _)
  clear m1 m2 m3 m4 m5 m6
  obtain ⟨m1, m2, m3, m4, m5, m6⟩ := mAll
  have hBzw4 := hB.size
  replace hB : Below w.heap.size w w4 := by rw [hww4]; exact (by repeat first | with_reducible exact Below.refl _ _ | with_reducible assumption | with_reducible refine below_drewN ?_ _ | with_reducible refine Below.drew ?_ | with_reducible refine Below.setCell ?_ (by first | exact Nat.le_refl _ | (simp; done) | (simp; omega) | omega) _ | with_reducible refine Below.alloc ?_ (by first | exact Nat.le_refl _ | (simp; done) | (simp; omega) | omega) _ | exact Below.refl _ _ | assumption)
  clear hww4 hBzw4
  have e1 := m5.cell
  have e2 := m6.cell
  exact bodyPost_ret (v := .tuple #[rv 0 0, .int .i64 30]) (by simp [results, Tryd.results27, go_sem, e1, e2]) rfl ⟨rfl, hB⟩

set_option maxRecDepth 100000 in
set_option maxHeartbeats 1000000 in
theorem Add_bad (a b c d : Int) (w : World) (ia : I64 a) (ib : I64 b) (ic : I64 c) (id : I64 d) (h : ¬ (vld a b = true ∧ vld c d = true)) (p : Addr) (hP : Mis w p) :
    Calls Tryd.prog 26 #[rv a b, rv c d] w fun e w' => e = .returned (.tuple #[rv 0 0, .int .i64 30]) ∧ Below w.heap.size w w' := by
  have hB : Below w.heap.size w w := Below.refl _ _
  have hmf : ∀ (fn : Fn) (first cap : Array Value) (w : World), (Instr.makeFunc fn first cap).run Tryd.prog w = .ok (.func fn first cap) w := fun _ _ _ _ => rfl
  have hcf : ∀ (args : Array Value) (w : World), (callFunc 52 args).run Tryd.prog w = .ok (.enter 52 args) w := fun _ _ => by simp [go_sem]
  have hF := Lib.hid (fit_bad 52 #[.pointer (some ⟨w.heap.size, 0, none⟩), .pointer (some ⟨w.heap.size + 1, 0, none⟩)] p)
  have hM : ∀ B1 B2 w', Mis w' p → Mine w' B1 0 (.int .i64 a) → Mine w' B1 1 (.int .i64 b) → Mine w' B2 0 (.int .i64 c) → Mine w' B2 1 (.int .i64 d) → Calls Tryd.prog 52 #[.pointer (some ⟨B1, 0, none⟩), .pointer (some ⟨B2, 0, none⟩)] w' fun e w'' => e = misE p ∧ Below w'.heap.size w' w'' := by
    intro B1 B2 w' h0 m1 m2 m3 m4
    by_cases h1 : vld a b = true
    · exact Add1_badb a b c d B1 B2 w' ic id h1 (by cases h2 : vld c d; rfl; exact absurd ⟨h1, h2⟩ h) p h0 m1 m2 m3 m4
    · exact Add1_bada a b c d B1 B2 w' ia ib (by simpa using h1) p h0 m1 m2 m3 m4
  replace hM := Lib.hid hM
  have hPp := Lib.hid (fun W (hW : Below w.heap.size w W) => hP.below hW)
  clear h hP
  go_enter Tryd.func26, Tryd.ntmps26
  go_wp2_with fail
  refine name_calls ?_
  intro w1 hww1
  have mAll : Mine w1 w.heap.size 0 (.int .i64 a) ∧ Mine w1 w.heap.size 1 (.int .i64 b) ∧ Mine w1 (w.heap.size + 1) 0 (.int .i64 c) ∧ Mine w1 (w.heap.size + 1) 1 (.int .i64 d) ∧ Mine w1 (w.heap.size + 2) 0 (.int .i64 0) ∧ Mine w1 (w.heap.size + 2) 1 (.int .i64 0) := by
    rw [hww1]
    refine ⟨?_, ?_, ?_, ?_, ?_, ?_⟩ <;> (repeat first | with_reducible assumption | with_reducible refine Mine.drew ?_ | with_reducible refine Mine.drewN ?_ _ | ((with_reducible refine Mine.new ?_); rfl) | ((with_reducible refine Mine.newAt ?_ ?_) <;> first | rfl | (simp; done) | (simp only [World.size_alloc]; rfl)) | ((with_reducible refine Mine.set ?_ _); repeat first | exact Mine.slot (by with_reducible assumption) | with_reducible refine MineS.drew ?_ | with_reducible refine MineS.drewN ?_ _ | ((with_reducible refine MineS.new ?_); decide) | ((with_reducible refine MineS.newAt ?_ ?_) <;> first | decide | (simp; done)) | with_reducible refine MineS.set ?_ _ _ _ | with_reducible refine MineS.alloc ?_ _) | with_reducible refine Mine.other ?_ _ (by first | (left; omega) | (right; omega) | (simp; done) | (simp; omega)) | with_reducible refine Mine.alloc ?_ _)
  obtain ⟨m1, m2, m3, m4, m5, m6⟩ := mAll
  have hBzw1 := hB.size
  replace hB : Below w.heap.size w w1 := by rw [hww1]; exact (by repeat first | with_reducible exact Below.refl _ _ | with_reducible assumption | with_reducible refine below_drewN ?_ _ | with_reducible refine Below.drew ?_ | with_reducible refine Below.setCell ?_ (by first | exact Nat.le_refl _ | (simp; done) | (simp; omega) | omega) _ | with_reducible refine Below.alloc ?_ (by first | exact Nat.le_refl _ | (simp; done) | (simp; omega) | omega) _ | exact Below.refl _ _ | assumption)
  clear hww1 hBzw1
  refine (hF.out _ (hPp.out _ hB) hcf (fun w' hb => hM.out _ _ w' (Mis.below (hPp.out _ hB) hb) (m1.below hb) (m2.below hb) (m3.below hb) (m4.below hb))).mono ?_
  rintro e wc2 ⟨rfl, hb1⟩
  replace m1 := m1.below hb1
  replace m2 := m2.below hb1
  replace m3 := m3.below hb1
  replace m4 := m4.below hb1
  replace m5 := m5.below hb1
  replace m6 := m6.below hb1
  replace hB := hB.trans (hb1.mono hB.size)
  have hb_wc2 := hb1
  clear hb1
  have c5 := m5.cell
  have f5 := m5.free
  have l5 := m5.lt
  have c6 := m6.cell
  have f6 := m6.free
  have l6 := m6.lt
  go_wp2
  clear c5 f5 l5
  clear c6 f6 l6
  refine name_post ?_
  intro w4 hww4
  have mAll : Mine w4 w.heap.size 0 (.int .i64 a) ∧ Mine w4 w.heap.size 1 (.int .i64 b) ∧ Mine w4 (w.heap.size + 1) 0 (.int .i64 c) ∧ Mine w4 (w.heap.size + 1) 1 (.int .i64 d) ∧ Mine w4 (w.heap.size + 2) 0 (.int .i64 0) ∧ Mine w4 (w.heap.size + 2) 1 (.int .i64 0) := by
    rw [hww4]
    refine ⟨?_, ?_, ?_, ?_, ?_, ?_⟩ <;> (repeat first | with_reducible assumption | with_reducible refine Mine.drew ?_ | with_reducible refine Mine.drewN ?_ _ | ((with_reducible refine Mine.new ?_); rfl) | ((with_reducible refine Mine.newAt ?_ ?_) <;> first | rfl | (simp; done) | (simp only [World.size_alloc]; rfl)) | ((with_reducible refine Mine.set ?_ _); repeat first | exact Mine.slot (by with_reducible assumption) | with_reducible refine MineS.drew ?_ | with_reducible refine MineS.drewN ?_ _ | ((with_reducible refine MineS.new ?_); decide) | ((with_reducible refine MineS.newAt ?_ ?_) <;> first | decide | (simp; done)) | with_reducible refine MineS.set ?_ _ _ _ | with_reducible refine MineS.alloc ?_ _) | with_reducible refine Mine.other ?_ _ (by first | (left; omega) | (right; omega) | (simp; done) | (simp; omega)) | with_reducible refine Mine.alloc ?_ _)
  clear m1 m2 m3 m4 m5 m6
  obtain ⟨m1, m2, m3, m4, m5, m6⟩ := mAll
  have hBzw4 := hB.size
  replace hB : Below w.heap.size w w4 := by rw [hww4]; exact (by repeat first | with_reducible exact Below.refl _ _ | with_reducible assumption | with_reducible refine below_drewN ?_ _ | with_reducible refine Below.drew ?_ | with_reducible refine Below.setCell ?_ (by first | exact Nat.le_refl _ | (simp; done) | (simp; omega) | omega) _ | with_reducible refine Below.alloc ?_ (by first | exact Nat.le_refl _ | (simp; done) | (simp; omega) | omega) _ | exact Below.refl _ _ | assumption)
  clear hww4 hBzw4
  have e1 := m5.cell
  have e2 := m6.cell
  exact bodyPost_ret (v := .tuple #[rv 0 0, .int .i64 30]) (by simp [results, Tryd.results26, go_sem, e1, e2]) rfl ⟨rfl, hB⟩

set_option maxRecDepth 100000 in
set_option maxHeartbeats 1000000 in
theorem Div_bad (a b c d : Int) (w : World) (ia : I64 a) (ib : I64 b) (ic : I64 c) (id : I64 d) (h : ¬ (vld a b = true ∧ vld c d = true)) (p : Addr) (hP : Mis w p) :
    Calls Tryd.prog 32 #[rv a b, rv c d] w fun e w' => e = .returned (.tuple #[rv 0 0, .int .i64 30]) ∧ Below w.heap.size w w' := by
  have hB : Below w.heap.size w w := Below.refl _ _
  have hmf : ∀ (fn : Fn) (first cap : Array Value) (w : World), (Instr.makeFunc fn first cap).run Tryd.prog w = .ok (.func fn first cap) w := fun _ _ _ _ => rfl
  have hcf : ∀ (args : Array Value) (w : World), (callFunc 57 args).run Tryd.prog w = .ok (.enter 57 args) w := fun _ _ => by simp [go_sem]
  have hF := Lib.hid (fit_bad 57 #[.pointer (some ⟨w.heap.size, 0, none⟩), .pointer (some ⟨w.heap.size + 1, 0, none⟩)] p)
  have hM : ∀ B1 B2 w', Mis w' p → Mine w' B1 0 (.int .i64 a) → Mine w' B1 1 (.int .i64 b) → Mine w' B2 0 (.int .i64 c) → Mine w' B2 1 (.int .i64 d) → Calls Tryd.prog 57 #[.pointer (some ⟨B1, 0, none⟩), .pointer (some ⟨B2, 0, none⟩)] w' fun e w'' => e = misE p ∧ Below w'.heap.size w' w'' := by
    intro B1 B2 w' h0 m1 m2 m3 m4
    by_cases h1 : vld a b = true
    · exact Div1_badb a b c d B1 B2 w' ic id h1 (by cases h2 : vld c d; rfl; exact absurd ⟨h1, h2⟩ h) p h0 m1 m2 m3 m4
    · exact Div1_bada a b c d B1 B2 w' ia ib (by simpa using h1) p h0 m1 m2 m3 m4
  replace hM := Lib.hid hM
  have hPp := Lib.hid (fun W (hW : Below w.heap.size w W) => hP.below hW)
  clear h hP
  go_enter Tryd.func32, Tryd.ntmps32
  go_wp2_with fail
  refine name_calls ?_
  intro w1 hww1
  have mAll : Mine w1 w.heap.size 0 (.int .i64 a) ∧ Mine w1 w.heap.size 1 (.int .i64 b) ∧ Mine w1 (w.heap.size + 1) 0 (.int .i64 c) ∧ Mine w1 (w.heap.size + 1) 1 (.int .i64 d) ∧ Mine w1 (w.heap.size + 2) 0 (.int .i64 0) ∧ Mine w1 (w.heap.size + 2) 1 (.int .i64 0) := by
    rw [hww1]
    refine ⟨?_, ?_, ?_, ?_, ?_, ?_⟩ <;> (repeat first | with_reducible assumption | with_reducible refine Mine.drew ?_ | with_reducible refine Mine.drewN ?_ _ | ((with_reducible refine Mine.new ?_); rfl) | ((with_reducible refine Mine.newAt ?_ ?_) <;> first | rfl | (simp; done) | (simp only [World.size_alloc]; rfl)) | ((with_reducible refine Mine.set ?_ _); repeat first | exact Mine.slot (by with_reducible assumption) | with_reducible refine MineS.drew ?_ | with_reducible refine MineS.drewN ?_ _ | ((with_reducible refine MineS.new ?_); decide) | ((with_reducible refine MineS.newAt ?_ ?_) <;> first | decide | (simp; done)) | with_reducible refine MineS.set ?_ _ _ _ | with_reducible refine MineS.alloc ?_ _) | with_reducible refine Mine.other ?_ _ (by first | (left; omega) | (right; omega) | (simp; done) | (simp; omega)) | with_reducible refine Mine.alloc ?_ _)
  obtain ⟨m1, m2, m3, m4, m5, m6⟩ := mAll
  have hBzw1 := hB.size
  replace hB : Below w.heap.size w w1 := by rw [hww1]; exact (by repeat first | with_reducible exact Below.refl _ _ | with_reducible assumption | with_reducible refine below_drewN ?_ _ | with_reducible refine Below.drew ?_ | with_reducible refine Below.setCell ?_ (by first | exact Nat.le_refl _ | (simp; done) | (simp; omega) | omega) _ | with_reducible refine Below.alloc ?_ (by first | exact Nat.le_refl _ | (simp; done) | (simp; omega) | omega) _ | exact Below.refl _ _ | assumption)
  clear hww1 hBzw1
  refine (hF.out _ (hPp.out _ hB) hcf (fun w' hb => hM.out _ _ w' (Mis.below (hPp.out _ hB) hb) (m1.below hb) (m2.below hb) (m3.below hb) (m4.below hb))).mono ?_
  rintro e wc3 ⟨rfl, hb1⟩
  replace m1 := m1.below hb1
  replace m2 := m2.below hb1
  replace m3 := m3.below hb1
  replace m4 := m4.below hb1
  replace m5 := m5.below hb1
  replace m6 := m6.below hb1
  replace hB := hB.trans (hb1.mono hB.size)
  have hb_wc3 := hb1
  clear hb1
  have c5 := m5.cell
  have f5 := m5.free
  have l5 := m5.lt
  have c6 := m6.cell
  have f6 := m6.free
  have l6 := m6.lt
  go_wp2
  clear c5 f5 l5
  clear c6 f6 l6
  refine name_post ?_
  intro w4 hww4
  have mAll : Mine w4 w.heap.size 0 (.int .i64 a) ∧ Mine w4 w.heap.size 1 (.int .i64 b) ∧ Mine w4 (w.heap.size + 1) 0 (.int .i64 c) ∧ Mine w4 (w.heap.size + 1) 1 (.int .i64 d) ∧ Mine w4 (w.heap.size + 2) 0 (.int .i64 0) ∧ Mine w4 (w.heap.size + 2) 1 (.int .i64 0) := by
    rw [hww4]
    refine ⟨?_, ?_, ?_, ?_, ?_, ?_⟩ <;> (repeat first | with_reducible assumption | with_reducible refine Mine.drew ?_ | with_reducible refine Mine.drewN ?_ _ | ((with_reducible refine Mine.new ?_); rfl) | ((with_reducible refine Mine.newAt ?_ ?_) <;> first | rfl | (simp; done) | (simp only [World.size_alloc]; rfl)) | ((with_reducible refine Mine.set ?_ _); repeat first | exact Mine.slot (by with_reducible assumption) | with_reducible refine MineS.drew ?_ | with_reducible refine MineS.drewN ?_ _ | ((with_reducible refine MineS.new ?_); decide) | ((with_reducible refine MineS.newAt ?_ ?_) <;> first | decide | (simp; done)) | with_reducible refine MineS.set ?_ _ _ _ | with_reducible refine MineS.alloc ?_ _) | with_reducible refine Mine.other ?_ _ (by first | (left; omega) | (right; omega) | (simp; done) | (simp; omega)) | with_reducible refine Mine.alloc ?_ _)
  clear m1 m2 m3 m4 m5 m6
  obtain ⟨m1, m2, m3, m4, m5, m6⟩ := mAll
  have hBzw4 := hB.size
  replace hB : Below w.heap.size w w4 := by rw [hww4]; exact (by repeat first | with_reducible exact Below.refl _ _ | with_reducible assumption | with_reducible refine below_drewN ?_ _ | with_reducible refine Below.drew ?_ | with_reducible refine Below.setCell ?_ (by first | exact Nat.le_refl _ | (simp; done) | (simp; omega) | omega) _ | with_reducible refine Below.alloc ?_ (by first | exact Nat.le_refl _ | (simp; done) | (simp; omega) | omega) _ | exact Below.refl _ _ | assumption)
  clear hww4 hBzw4
  have e1 := m5.cell
  have e2 := m6.cell
  exact bodyPost_ret (v := .tuple #[rv 0 0, .int .i64 30]) (by simp [results, Tryd.results32, go_sem, e1, e2]) rfl ⟨rfl, hB⟩

theorem vld_neg_wrap {c d : Int} (hc : I64 c) : vld (wrap64 (-c)) d = vld c d := by
  by_cases h : c = -9223372036854775808
  · subst h; simp [vld, wrap64]
  · have : wrap64 (-c) = -c := by have := hc.1; have := hc.2; simp [wrap64]; omega
    rw [this]; simp [vld]

set_option maxRecDepth 100000 in
set_option maxHeartbeats 1000000 in
theorem Sub_bad (a b c d : Int) (w : World) (ia : I64 a) (ib : I64 b) (ic : I64 c) (id : I64 d) (h : ¬ (vld a b = true ∧ vld c d = true)) (p : Addr) (hP : Mis w p) :
    Calls Tryd.prog 25 #[rv a b, rv c d] w fun e w' => e = .returned (.tuple #[rv 0 0, .int .i64 30]) ∧ Below w.heap.size w w' := by
  have hB : Below w.heap.size w w := Below.refl _ _
  rw [← vld_neg_wrap ic] at h
  have hA := Lib.hid (fun w => Add_bad a b (wrap64 (-c)) d w ia ib ⟨by simp only [wrap64]; omega, by simp only [wrap64]; omega⟩ id h p)
  have hPp := Lib.hid (fun W (hW : Below w.heap.size w W) => hP.below hW)
  clear h hP
  go_enter Tryd.func25, Tryd.ntmps25
  go_wp2_with fail
  refine name_calls ?_
  intro w1 hww1
  have mAll : Mine w1 (w.heap.size + 1 + 1) 0 (.int .i64 0) ∧ Mine w1 (w.heap.size + 1 + 1) 1 (.int .i64 0) := by
    rw [hww1]
    refine ⟨?_, ?_⟩ <;> (repeat first | with_reducible assumption | with_reducible refine Mine.drew ?_ | with_reducible refine Mine.drewN ?_ _ | ((with_reducible refine Mine.new ?_); rfl) | ((with_reducible refine Mine.newAt ?_ ?_) <;> first | rfl | (simp; done) | (simp only [World.size_alloc]; rfl)) | ((with_reducible refine Mine.set ?_ _); repeat first | exact Mine.slot (by with_reducible assumption) | with_reducible refine MineS.drew ?_ | with_reducible refine MineS.drewN ?_ _ | ((with_reducible refine MineS.new ?_); decide) | ((with_reducible refine MineS.newAt ?_ ?_) <;> first | decide | (simp; done)) | with_reducible refine MineS.set ?_ _ _ _ | with_reducible refine MineS.alloc ?_ _) | with_reducible refine Mine.other ?_ _ (by first | (left; omega) | (right; omega) | (simp; done) | (simp; omega)) | with_reducible refine Mine.alloc ?_ _)
  obtain ⟨m1, m2⟩ := mAll
  have hBzw1 := hB.size
  replace hB : Below w.heap.size w w1 := by rw [hww1]; exact (by repeat first | with_reducible exact Below.refl _ _ | with_reducible assumption | with_reducible refine below_drewN ?_ _ | with_reducible refine Below.drew ?_ | with_reducible refine Below.setCell ?_ (by first | exact Nat.le_refl _ | (simp; done) | (simp; omega) | omega) _ | with_reducible refine Below.alloc ?_ (by first | exact Nat.le_refl _ | (simp; done) | (simp; omega) | omega) _ | exact Below.refl _ _ | assumption)
  clear hww1 hBzw1
  refine (hA.out _ (hPp.out _ hB)).mono ?_
  rintro e wc4 ⟨rfl, hb1⟩
  replace m1 := m1.below hb1
  replace m2 := m2.below hb1
  replace hB := hB.trans (hb1.mono hB.size)
  have hb_wc4 := hb1
  clear hb1
  have c1 := m1.cell
  have f1 := m1.free
  have l1 := m1.lt
  have c2 := m2.cell
  have f2 := m2.free
  have l2 := m2.lt
  go_wp2
  clear c1 f1 l1
  clear c2 f2 l2
  refine name_post ?_
  intro w4 hww4
  have mAll : Mine w4 (w.heap.size + 1 + 1) 0 (.int .i64 0) ∧ Mine w4 (w.heap.size + 1 + 1) 1 (.int .i64 0) := by
    rw [hww4]
    refine ⟨?_, ?_⟩ <;> (repeat first | with_reducible assumption | with_reducible refine Mine.drew ?_ | with_reducible refine Mine.drewN ?_ _ | ((with_reducible refine Mine.new ?_); rfl) | ((with_reducible refine Mine.newAt ?_ ?_) <;> first | rfl | (simp; done) | (simp only [World.size_alloc]; rfl)) | ((with_reducible refine Mine.set ?_ _); repeat first | exact Mine.slot (by with_reducible assumption) | with_reducible refine MineS.drew ?_ | with_reducible refine MineS.drewN ?_ _ | ((with_reducible refine MineS.new ?_); decide) | ((with_reducible refine MineS.newAt ?_ ?_) <;> first | decide | (simp; done)) | with_reducible refine MineS.set ?_ _ _ _ | with_reducible refine MineS.alloc ?_ _) | with_reducible refine Mine.other ?_ _ (by first | (left; omega) | (right; omega) | (simp; done) | (simp; omega)) | with_reducible refine Mine.alloc ?_ _)
  clear m1 m2
  obtain ⟨m1, m2⟩ := mAll
  have hBzw4 := hB.size
  replace hB : Below w.heap.size w w4 := by rw [hww4]; exact (by repeat first | with_reducible exact Below.refl _ _ | with_reducible assumption | with_reducible refine below_drewN ?_ _ | with_reducible refine Below.drew ?_ | with_reducible refine Below.setCell ?_ (by first | exact Nat.le_refl _ | (simp; done) | (simp; omega) | omega) _ | with_reducible refine Below.alloc ?_ (by first | exact Nat.le_refl _ | (simp; done) | (simp; omega) | omega) _ | exact Below.refl _ _ | assumption)
  clear hww4 hBzw4
  have e1 := m1.cell
  have e2 := m2.cell
  exact bodyPost_ret (v := .tuple #[rv 0 0, .int .i64 30]) (by simp [results, Tryd.results25, go_sem, e1, e2]) rfl ⟨rfl, hB⟩

set_option maxRecDepth 100000 in
set_option maxHeartbeats 1000000 in
theorem Round1_bad (a b k : Int) (B1 B2 : Nat) (w : World) (ia : I64 a) (ib : I64 b) (h : vld a b = false) (p : Addr) (hP : Mis w p)
    (m1 : Mine w B1 0 (.int .i64 a)) (m2 : Mine w B1 1 (.int .i64 b)) (m3 : Mine w B2 0 (.int .i64 k)) :
    Calls Tryd.prog 50 #[.pointer (some ⟨B1, 0, none⟩), .pointer (some ⟨B2, 0, none⟩)] w fun e w' => e = misE p ∧ Below w.heap.size w w' := by
  have hB : Below w.heap.size w w := Below.refl _ _
  have ho := Lib.hid (of_bad a b w ia ib h p hP)
  clear hP h
  go_enter Tryd.func50, Tryd.ntmps50
  have c1 := m1.cell
  have f1 := m1.free
  have l1 := m1.lt
  have c2 := m2.cell
  have f2 := m2.free
  have l2 := m2.lt
  have c3 := m3.cell
  have f3 := m3.free
  have l3 := m3.lt
  go_wp2_with fail
  clear c1 f1 l1
  clear c2 f2 l2
  clear c3 f3 l3
  refine (ho.out).mono ?_
  rintro e v1 ⟨rfl, hb1⟩
  replace m1 := m1.below hb1
  replace m2 := m2.below hb1
  replace m3 := m3.below hb1
  replace hB := hB.trans (hb1.mono hB.size)
  have hb_v1 := hb1
  clear hb1
  unfold misE
  go_wp2
  exact ⟨rfl, rfl, hB⟩

set_option maxRecDepth 100000 in
set_option maxHeartbeats 1000000 in
theorem Round_bad (a b k : Int) (w : World) (ia : I64 a) (ib : I64 b) (h : vld a b = false) (hk1 : 1 ≤ k) (hk2 : k ≤ 1000000000) (p : Addr) (hP : Mis w p) :
    Calls Tryd.prog 22 #[rv a b, .int .i64 k] w fun e w' => e = .returned (.tuple #[rv 0 0, .int .i64 30]) ∧ Below w.heap.size w w' := by
  have hB : Below w.heap.size w w := Below.refl _ _
  have hmf : ∀ (fn : Fn) (first cap : Array Value) (w : World), (Instr.makeFunc fn first cap).run Tryd.prog w = .ok (.func fn first cap) w := fun _ _ _ _ => rfl
  have hcf : ∀ (args : Array Value) (w : World), (callFunc 50 args).run Tryd.prog w = .ok (.enter 50 args) w := fun _ _ => by simp [go_sem]
  have d1 : decide (k < 1) = false := by simp; omega
  have d2 : decide (1000000000 < k) = false := by simp; omega
  have hF := Lib.hid (fit_bad 50 #[.pointer (some ⟨w.heap.size, 0, none⟩), .pointer (some ⟨w.heap.size + 1, 0, none⟩)] p)
  have hM := Lib.hid (fun B1 B2 w' (h0 : Mis w' p) (m1 : Mine w' B1 0 (.int .i64 a)) (m2 : Mine w' B1 1 (.int .i64 b)) (m3 : Mine w' B2 0 (.int .i64 k)) => Round1_bad a b k B1 B2 w' ia ib h p h0 m1 m2 m3)
  have hPp := Lib.hid (fun W (hW : Below w.heap.size w W) => hP.below hW)
  clear h hP
  go_enter Tryd.func22, Tryd.ntmps22
  go_wp2_with fail
  refine name_calls ?_
  intro w1 hww1
  have mAll : Mine w1 w.heap.size 0 (.int .i64 a) ∧ Mine w1 w.heap.size 1 (.int .i64 b) ∧ Mine w1 (w.heap.size + 1) 0 (.int .i64 k) ∧ Mine w1 (w.heap.size + 1 + 1) 0 (.int .i64 0) ∧ Mine w1 (w.heap.size + 1 + 1) 1 (.int .i64 0) := by
    rw [hww1]
    refine ⟨?_, ?_, ?_, ?_, ?_⟩ <;> (repeat first | with_reducible assumption | with_reducible refine Mine.drew ?_ | with_reducible refine Mine.drewN ?_ _ | ((with_reducible refine Mine.new ?_); rfl) | ((with_reducible refine Mine.newAt ?_ ?_) <;> first | rfl | (simp; done) | (simp only [World.size_alloc]; rfl)) | ((with_reducible refine Mine.set ?_ _); repeat first | exact Mine.slot (by with_reducible assumption) | with_reducible refine MineS.drew ?_ | with_reducible refine MineS.drewN ?_ _ | ((with_reducible refine MineS.new ?_); decide) | ((with_reducible refine MineS.newAt ?_ ?_) <;> first | decide | (simp; done)) | with_reducible refine MineS.set ?_ _ _ _ | with_reducible refine MineS.alloc ?_ _) | with_reducible refine Mine.other ?_ _ (by first | (left; omega) | (right; omega) | (simp; done) | (simp; omega)) | with_reducible refine Mine.alloc ?_ _)
  obtain ⟨m1, m2, m3, m5, m6⟩ := mAll
  have hBzw1 := hB.size
  replace hB : Below w.heap.size w w1 := by rw [hww1]; exact (by repeat first | with_reducible exact Below.refl _ _ | with_reducible assumption | with_reducible refine below_drewN ?_ _ | with_reducible refine Below.drew ?_ | with_reducible refine Below.setCell ?_ (by first | exact Nat.le_refl _ | (simp; done) | (simp; omega) | omega) _ | with_reducible refine Below.alloc ?_ (by first | exact Nat.le_refl _ | (simp; done) | (simp; omega) | omega) _ | exact Below.refl _ _ | assumption)
  clear hww1 hBzw1
  refine (hF.out _ (hPp.out _ hB) hcf (fun w' hb => hM.out _ _ w' (Mis.below (hPp.out _ hB) hb) (m1.below hb) (m2.below hb) (m3.below hb))).mono ?_
  rintro e wc5 ⟨rfl, hb1⟩
  replace m1 := m1.below hb1
  replace m2 := m2.below hb1
  replace m3 := m3.below hb1
  replace m5 := m5.below hb1
  replace m6 := m6.below hb1
  replace hB := hB.trans (hb1.mono hB.size)
  have hb_wc5 := hb1
  clear hb1
  have c5 := m5.cell
  have f5 := m5.free
  have l5 := m5.lt
  have c6 := m6.cell
  have f6 := m6.free
  have l6 := m6.lt
  go_wp2
  clear c5 f5 l5
  clear c6 f6 l6
  refine name_post ?_
  intro w4 hww4
  have mAll : Mine w4 w.heap.size 0 (.int .i64 a) ∧ Mine w4 w.heap.size 1 (.int .i64 b) ∧ Mine w4 (w.heap.size + 1) 0 (.int .i64 k) ∧ Mine w4 (w.heap.size + 1 + 1) 0 (.int .i64 0) ∧ Mine w4 (w.heap.size + 1 + 1) 1 (.int .i64 0) := by
    rw [hww4]
    refine ⟨?_, ?_, ?_, ?_, ?_⟩ <;> (repeat first | with_reducible assumption | with_reducible refine Mine.drew ?_ | with_reducible refine Mine.drewN ?_ _ | ((with_reducible refine Mine.new ?_); rfl) | ((with_reducible refine Mine.newAt ?_ ?_) <;> first | rfl | (simp; done) | (simp only [World.size_alloc]; rfl)) | ((with_reducible refine Mine.set ?_ _); repeat first | exact Mine.slot (by with_reducible assumption) | with_reducible refine MineS.drew ?_ | with_reducible refine MineS.drewN ?_ _ | ((with_reducible refine MineS.new ?_); decide) | ((with_reducible refine MineS.newAt ?_ ?_) <;> first | decide | (simp; done)) | with_reducible refine MineS.set ?_ _ _ _ | with_reducible refine MineS.alloc ?_ _) | with_reducible refine Mine.other ?_ _ (by first | (left; omega) | (right; omega) | (simp; done) | (simp; omega)) | with_reducible refine Mine.alloc ?_ _)
  clear m1 m2 m3 m5 m6
  obtain ⟨m1, m2, m3, m5, m6⟩ := mAll
  have hBzw4 := hB.size
  replace hB : Below w.heap.size w w4 := by rw [hww4]; exact (by repeat first | with_reducible exact Below.refl _ _ | with_reducible assumption | with_reducible refine below_drewN ?_ _ | with_reducible refine Below.drew ?_ | with_reducible refine Below.setCell ?_ (by first | exact Nat.le_refl _ | (simp; done) | (simp; omega) | omega) _ | with_reducible refine Below.alloc ?_ (by first | exact Nat.le_refl _ | (simp; done) | (simp; omega) | omega) _ | exact Below.refl _ _ | assumption)
  clear hww4 hBzw4
  have e1 := m5.cell
  have e2 := m6.cell
  exact bodyPost_ret (v := .tuple #[rv 0 0, .int .i64 30]) (by simp [results, Tryd.results22, go_sem, e1, e2]) rfl ⟨rfl, hB⟩

set_option maxHeartbeats 1000000 in
theorem Round_out (a b k : Int) (w : World) (h : k < 1 ∨ 1000000000 < k) :
    Calls Tryd.prog 22 #[rv a b, .int .i64 k] w fun e w' => e = .returned (.tuple #[rv 0 0, .int .i64 30]) ∧ Below w.heap.size w w' := by
  have hB : Below w.heap.size w w := Below.refl _ _
  by_cases h1 : k < 1
  · have d1 : decide (k < 1) = true := by simpa using h1
    go_enter Tryd.func22, Tryd.ntmps22
    go_wp2
    refine name_post ?_
    intro w4 hww4
    have mAll : Mine w4 (w.heap.size + 1 + 1) 0 (.int .i64 0) ∧ Mine w4 (w.heap.size + 1 + 1) 1 (.int .i64 0) := by
      rw [hww4]
      refine ⟨?_, ?_⟩ <;> (repeat first | with_reducible assumption | with_reducible refine Mine.drew ?_ | with_reducible refine Mine.drewN ?_ _ | ((with_reducible refine Mine.new ?_); rfl) | ((with_reducible refine Mine.newAt ?_ ?_) <;> first | rfl | (simp; done) | (simp only [World.size_alloc]; rfl)) | ((with_reducible refine Mine.set ?_ _); repeat first | exact Mine.slot (by with_reducible assumption) | with_reducible refine MineS.drew ?_ | with_reducible refine MineS.drewN ?_ _ | ((with_reducible refine MineS.new ?_); decide) | ((with_reducible refine MineS.newAt ?_ ?_) <;> first | decide | (simp; done)) | with_reducible refine MineS.set ?_ _ _ _ | with_reducible refine MineS.alloc ?_ _) | with_reducible refine Mine.other ?_ _ (by first | (left; omega) | (right; omega) | (simp; done) | (simp; omega)) | with_reducible refine Mine.alloc ?_ _)
    obtain ⟨m5, m6⟩ := mAll
    have hBzw4 := hB.size
    replace hB : Below w.heap.size w w4 := by rw [hww4]; exact (by repeat first | with_reducible exact Below.refl _ _ | with_reducible assumption | with_reducible refine below_drewN ?_ _ | with_reducible refine Below.drew ?_ | with_reducible refine Below.setCell ?_ (by first | exact Nat.le_refl _ | (simp; done) | (simp; omega) | omega) _ | with_reducible refine Below.alloc ?_ (by first | exact Nat.le_refl _ | (simp; done) | (simp; omega) | omega) _ | exact Below.refl _ _ | assumption)
    clear hww4 hBzw4
    have e1 := m5.cell
    have e2 := m6.cell
    exact bodyPost_ret (v := .tuple #[rv 0 0, .int .i64 30]) (by simp [results, Tryd.results22, go_sem, e1, e2]) rfl ⟨rfl, hB⟩
  · have d1 : decide (k < 1) = false := by simpa using h1
    have d2 : decide (1000000000 < k) = true := by simp; omega
    go_enter Tryd.func22, Tryd.ntmps22
    go_wp2
    refine name_post ?_
    intro w4 hww4
    have mAll : Mine w4 (w.heap.size + 1 + 1) 0 (.int .i64 0) ∧ Mine w4 (w.heap.size + 1 + 1) 1 (.int .i64 0) := by
      rw [hww4]
      refine ⟨?_, ?_⟩ <;> (repeat first | with_reducible assumption | with_reducible refine Mine.drew ?_ | with_reducible refine Mine.drewN ?_ _ | ((with_reducible refine Mine.new ?_); rfl) | ((with_reducible refine Mine.newAt ?_ ?_) <;> first | rfl | (simp; done) | (simp only [World.size_alloc]; rfl)) | ((with_reducible refine Mine.set ?_ _); repeat first | exact Mine.slot (by with_reducible assumption) | with_reducible refine MineS.drew ?_ | with_reducible refine MineS.drewN ?_ _ | ((with_reducible refine MineS.new ?_); decide) | ((with_reducible refine MineS.newAt ?_ ?_) <;> first | decide | (simp; done)) | with_reducible refine MineS.set ?_ _ _ _ | with_reducible refine MineS.alloc ?_ _) | with_reducible refine Mine.other ?_ _ (by first | (left; omega) | (right; omega) | (simp; done) | (simp; omega)) | with_reducible refine Mine.alloc ?_ _)
    obtain ⟨m5, m6⟩ := mAll
    have hBzw4 := hB.size
    replace hB : Below w.heap.size w w4 := by rw [hww4]; exact (by repeat first | with_reducible exact Below.refl _ _ | with_reducible assumption | with_reducible refine below_drewN ?_ _ | with_reducible refine Below.drew ?_ | with_reducible refine Below.setCell ?_ (by first | exact Nat.le_refl _ | (simp; done) | (simp; omega) | omega) _ | with_reducible refine Below.alloc ?_ (by first | exact Nat.le_refl _ | (simp; done) | (simp; omega) | omega) _ | exact Below.refl _ _ | assumption)
    clear hww4 hBzw4
    have e1 := m5.cell
    have e2 := m6.cell
    exact bodyPost_ret (v := .tuple #[rv 0 0, .int .i64 30]) (by simp [results, Tryd.results22, go_sem, e1, e2]) rfl ⟨rfl, hB⟩
end Go.Proofs.YtfojgdlegojdgaaDoor
