/-
  The contracts of ratio.fit, Mul, Add, where all fractions are valid.
-/
import Derived.Test.YtfojgdlegojdgaaDoorFitA
namespace Go.Proofs.YtfojgdlegojdgaaDoor
open Go.RowKit

theorem name_postD {P : Program} {fn : Func} {R : Ending → World → Prop} {e : Exit} {a : Act} {W : World} (h : ∀ w', w' = W → bodyPostD P fn R e a w') : bodyPostD P fn R e a W := h W rfl
theorem prod_le {a b c d : Int} (h1 : vld a b = true) (h2 : vld c d = true) : (a * c).natAbs ≤ 1000000000000000000 ∧ (b * d).natAbs ≤ 1000000000000000000 ∧ (a * d).natAbs ≤ 1000000000000000000 ∧ (c * b).natAbs ≤ 1000000000000000000 := by
  have h3 := I64.of_vld_num h1
  have h4 := I64.of_vld_num h2
  have h3' := I64.of_vld_den h1
  have h4' := I64.of_vld_den h2
  refine ⟨?_, ?_, ?_, ?_⟩ <;> (rw [Int.natAbs_mul]; exact Nat.le_trans (Nat.mul_le_mul (by omega : _ ≤ 1000000000) (by omega : _ ≤ 1000000000)) (Nat.le_of_ble_eq_true rfl))

set_option maxRecDepth 100000 in
set_option maxHeartbeats 1000000 in
/-- fit, where what it calls does not panic. -/
theorem fit_calls (G : FuncId) (cap : Array Value) (n d : Int) (w : World) (hn : I64 n) (hd : I64 d)
    (hcf : ∀ (args : Array Value) (w : World), (callFunc G args).run Tryd.prog w = .ok (.enter G args) w)
    (H : ∀ w', Below w.heap.size w w' → Calls Tryd.prog G cap w' fun e w'' => e = .returned (.tuple #[.int .i64 n, .int .i64 d]) ∧ Below w'.heap.size w' w'') :
    Calls Tryd.prog 49 #[.func (.func G) #[] cap] w fun e w' => e = .returned (.tuple #[rv (mk n d).1 (mk n d).2.1, .int .i64 (mk n d).2.2]) ∧ Below w.heap.size w w' := by
  have hB : Below w.heap.size w w := Below.refl _ _
  have hmf : ∀ (fn : Fn) (first cap : Array Value) (w : World), (Instr.makeFunc fn first cap).run Tryd.prog w = .ok (.func fn first cap) w := fun _ _ _ _ => rfl
  replace H := Lib.hid H
  go_enter_defers Tryd.func49, Tryd.ntmps49
  go_wp2_with fail
  refine name_calls ?_
  intro w1 hww1
  have mAll : Mine w1 w.heap.size 0 (.int .i64 0) ∧ Mine w1 w.heap.size 1 (.int .i64 0) ∧ Mine w1 (w.heap.size + 1) 0 (.int .i64 0) := by
    rw [hww1]
    refine ⟨?_, ?_, ?_⟩ <;> (repeat first | with_reducible assumption | with_reducible refine Mine.drew ?_ | with_reducible refine Mine.drewN ?_ _ | ((with_reducible refine Mine.new ?_); rfl) | ((with_reducible refine Mine.newAt ?_ ?_) <;> first | rfl | (simp; done) | (simp only [World.size_alloc]; rfl)) | ((with_reducible refine Mine.set ?_ _); repeat first | exact Mine.slot (by with_reducible assumption) | with_reducible refine MineS.drew ?_ | with_reducible refine MineS.drewN ?_ _ | ((with_reducible refine MineS.new ?_); decide) | ((with_reducible refine MineS.newAt ?_ ?_) <;> first | decide | (simp; done)) | with_reducible refine MineS.set ?_ _ _ _ | with_reducible refine MineS.alloc ?_ _) | with_reducible refine Mine.other ?_ _ (by first | (left; omega) | (right; omega) | (simp; done) | (simp; omega)) | with_reducible refine Mine.alloc ?_ _)
  obtain ⟨m1, m2, m3⟩ := mAll
  have hBzw1 := hB.size
  replace hB : Below w.heap.size w w1 := by rw [hww1]; exact (by repeat first | with_reducible exact Below.refl _ _ | with_reducible assumption | with_reducible refine below_drewN ?_ _ | with_reducible refine Below.drew ?_ | with_reducible refine Below.setCell ?_ (by first | exact Nat.le_refl _ | (simp; done) | (simp; omega) | omega) _ | with_reducible refine Below.alloc ?_ (by first | exact Nat.le_refl _ | (simp; done) | (simp; omega) | omega) _ | exact Below.refl _ _ | assumption)
  clear hww1 hBzw1
  refine (H.out _ hB).mono ?_
  rintro e wc1 ⟨rfl, hb1⟩
  replace m1 := m1.below hb1
  replace m2 := m2.below hb1
  replace m3 := m3.below hb1
  replace hB := hB.trans (hb1.mono hB.size)
  have hb_wc1 := hb1
  clear hb1
  go_wp2_with fail
  refine (Make_all n d _ hn hd).mono ?_
  rintro e wc2 ⟨rfl, hb1⟩
  replace m1 := m1.below hb1
  replace m2 := m2.below hb1
  replace m3 := m3.below hb1
  replace hB := hB.trans (hb1.mono hB.size)
  have hb_wc2 := hb1
  clear hb1
  obtain ⟨r, hr⟩ : ∃ r, r = mk n d := ⟨_, rfl⟩
  have Hr := Lib.hid hr
  rw [← hr]
  clear hr
  have c1 := m1.cell
  have f1 := m1.free
  have l1 := m1.lt
  have c2 := m2.cell
  have f2 := m2.free
  have l2 := m2.lt
  have c3 := m3.cell
  have f3 := m3.free
  have l3 := m3.lt
  go_wp2
  clear c1 f1 l1
  clear c2 f2 l2
  clear c3 f3 l3
  refine name_postD ?_
  intro w4 hww4
  have mAll : Mine w4 w.heap.size 0 (.int .i64 r.1) ∧ Mine w4 w.heap.size 1 (.int .i64 r.2.1) ∧ Mine w4 (w.heap.size + 1) 0 (.int .i64 r.2.2) := by
    rw [hww4]
    refine ⟨?_, ?_, ?_⟩ <;> (repeat first | with_reducible assumption | with_reducible refine Mine.drew ?_ | with_reducible refine Mine.drewN ?_ _ | ((with_reducible refine Mine.new ?_); rfl) | ((with_reducible refine Mine.newAt ?_ ?_) <;> first | rfl | (simp; done) | (simp only [World.size_alloc]; rfl)) | ((with_reducible refine Mine.set ?_ _); repeat first | exact Mine.slot (by with_reducible assumption) | with_reducible refine MineS.drew ?_ | with_reducible refine MineS.drewN ?_ _ | ((with_reducible refine MineS.new ?_); decide) | ((with_reducible refine MineS.newAt ?_ ?_) <;> first | decide | (simp; done)) | with_reducible refine MineS.set ?_ _ _ _ | with_reducible refine MineS.alloc ?_ _) | with_reducible refine Mine.other ?_ _ (by first | (left; omega) | (right; omega) | (simp; done) | (simp; omega)) | with_reducible refine Mine.alloc ?_ _)
  clear m1 m2 m3
  obtain ⟨m1, m2, m3⟩ := mAll
  have hBzw4 := hB.size
  replace hB : Below w.heap.size w w4 := by rw [hww4]; exact (by repeat first | with_reducible exact Below.refl _ _ | with_reducible assumption | with_reducible refine below_drewN ?_ _ | with_reducible refine Below.drew ?_ | with_reducible refine Below.setCell ?_ (by first | exact Nat.le_refl _ | (simp; done) | (simp; omega) | omega) _ | with_reducible refine Below.alloc ?_ (by first | exact Nat.le_refl _ | (simp; done) | (simp; omega) | omega) _ | exact Below.refl _ _ | assumption)
  clear hww4 hBzw4
  refine leaves_cons (f := 65) (args := #[.pointer (some ⟨w.heap.size, 0, none⟩), .pointer (some ⟨w.heap.size + 1, 0, none⟩)]) (by simp) (by simp [go_sem]) ?_
  refine (fit1_idle _ _ _).mono ?_
  rintro e u' w5 ⟨rfl, rfl, rfl⟩
  have e1 := m1.cell
  have e2 := m2.cell
  have e3 := m3.cell
  simp only [Leaves, settle, results, Tryd.results49]
  refine ⟨.tuple #[rv r.1 r.2.1, .int .i64 r.2.2], by simp [go_sem, e1, e2, e3], ?_, hB⟩
  rw [Hr.out]

set_option maxRecDepth 100000 in
set_option maxHeartbeats 1000000 in
theorem Mul_valid (a b c d : Int) (w : World) (h1 : vld a b = true) (h2 : vld c d = true) :
    Calls Tryd.prog 27 #[rv a b, rv c d] w fun e w' => e = .returned (.tuple #[rv (mk (a * c) (b * d)).1 (mk (a * c) (b * d)).2.1, .int .i64 (mk (a * c) (b * d)).2.2]) ∧ Below w.heap.size w w' := by
  have hB : Below w.heap.size w w := Below.refl _ _
  have hmf : ∀ (fn : Fn) (first cap : Array Value) (w : World), (Instr.makeFunc fn first cap).run Tryd.prog w = .ok (.func fn first cap) w := fun _ _ _ _ => rfl
  have hcf : ∀ (args : Array Value) (w : World), (callFunc 53 args).run Tryd.prog w = .ok (.enter 53 args) w := fun _ _ => by simp [go_sem]
  have i1 : I64 (a * c) := ⟨by have := prod_le h1 h2; omega, by have := prod_le h1 h2; omega⟩
  have i2 : I64 (b * d) := ⟨by have := prod_le h1 h2; omega, by have := prod_le h1 h2; omega⟩
  obtain ⟨r, hr⟩ : ∃ r, r = mk (a * c) (b * d) := ⟨_, rfl⟩
  rw [← hr]
  have hF := fit_calls 53 #[.pointer (some ⟨w.heap.size, 0, none⟩), .pointer (some ⟨w.heap.size + 1, 0, none⟩)] (a * c) (b * d)
  rw [← hr] at hF
  replace hF := Lib.hid hF
  have hM := Lib.hid (fun B1 B2 w' (m1 : Mine w' B1 0 (.int .i64 a)) (m2 : Mine w' B1 1 (.int .i64 b)) (m3 : Mine w' B2 0 (.int .i64 c)) (m4 : Mine w' B2 1 (.int .i64 d)) => Mul1_valid a b c d B1 B2 w' h1 h2 m1 m2 m3 m4)
  clear hr h1 h2
  go_enter Tryd.func27, Tryd.ntmps27
  go_wp2_with fail
  refine name_calls ?_
  intro w1 hww1
  have mAll : Mine w1 w.heap.size 0 (.int .i64 a) ∧ Mine w1 w.heap.size 1 (.int .i64 b) ∧ Mine w1 (w.heap.size + 1) 0 (.int .i64 c) ∧ Mine w1 (w.heap.size + 1) 1 (.int .i64 d) ∧ Mine w1 (w.heap.size + 2) 0 (.int .i64 0) ∧ Mine w1 (w.heap.size + 2) 1 (.int .i64 0) := by
    rw [hww1]
    refine ⟨?_, ?_, ?_, ?_, ?_, ?_⟩ <;> (repeat first | with_reducible assumption | with_reducible refine Mine.drew ?_ | with_reducible refine Mine.drewN ?_ _ | ((with_reducible refine Mine.new ?_); rfl) | ((with_reducible refine Mine.newAt ?_ ?_) <;> first | rfl | (simp; done) | (simp only [World.size_alloc]; rfl)) | ((with_reducible refine Mine.set ?_ _); repeat first | exact Mine.slot (by with_reducible assumption) | with_reducible refine MineS.drew ?_ | with_reducible refine MineS.drewN ?_ _ | ((with_reducible refine MineS.new ?_); decide) | ((with_reducible refine MineS.newAt ?_ ?_) <;> first | decide | (simp; done)) | with_reducible refine MineS.set ?_ _ _ _ | with_reducible refine MineS.alloc ?_ _) | with_reducible refine Mine.other ?_ _ (by first | (left; omega) | (right; omega) | (simp; done) | (simp; omega)) | with_reducible refine Mine.alloc ?_ _)
  obtain ⟨m1, m2, m3, m4, m5, m6⟩ := mAll
  have hBzw1 := hB.size
  replace hB : Below w.heap.size w w1 := by rw [hww1]; exact (by repeat first | with_reducible exact Below.refl _ _ | with_reducible assumption | with_reducible refine below_drewN ?_ _ | with_reducible refine Below.drew ?_ | with_reducible refine Below.setCell ?_ (by first | exact Nat.le_refl _ | (simp; done) | (simp; omega) | omega) _ | with_reducible refine Below.alloc ?_ (by first | exact Nat.le_refl _ | (simp; done) | (simp; omega) | omega) _ | exact Below.refl _ _ | assumption)
  clear hww1 hBzw1
  refine (hF.out _ i1 i2 hcf (fun w' hb => hM.out _ _ w' (m1.below hb) (m2.below hb) (m3.below hb) (m4.below hb))).mono ?_
  rintro e wc3 ⟨rfl, hb1⟩
  replace m1 := m1.below hb1
  replace m2 := m2.below hb1
  replace m3 := m3.below hb1
  replace m4 := m4.below hb1
  replace m5 := m5.below hb1
  replace m6 := m6.below hb1
  replace hB := hB.trans (hb1.mono hB.size)
  have hb_wc3 := hb1
  clear hb1
  have c5 := m5.cell
  have f5 := m5.free
  have l5 := m5.lt
  have c6 := m6.cell
  have f6 := m6.free
  have l6 := m6.lt
  go_wp2
  clear c5 f5 l5
  clear c6 f6 l6
  refine name_post ?_
  intro w4 hww4
  have mAll : Mine w4 w.heap.size 0 (.int .i64 a) ∧ Mine w4 w.heap.size 1 (.int .i64 b) ∧ Mine w4 (w.heap.size + 1) 0 (.int .i64 c) ∧ Mine w4 (w.heap.size + 1) 1 (.int .i64 d) ∧ Mine w4 (w.heap.size + 2) 0 (.int .i64 r.1) ∧ Mine w4 (w.heap.size + 2) 1 (.int .i64 r.2.1) := by
    rw [hww4]
    refine ⟨?_, ?_, ?_, ?_, ?_, ?_⟩ <;> (repeat first | with_reducible assumption | with_reducible refine Mine.drew ?_ | with_reducible refine Mine.drewN ?_ _ | ((with_reducible refine Mine.new ?_); rfl) | ((with_reducible refine Mine.newAt ?_ ?_) <;> first | rfl | (simp; done) | (simp only [World.size_alloc]; rfl)) | ((with_reducible refine Mine.set ?_ _); repeat first | exact Mine.slot (by with_reducible assumption) | with_reducible refine MineS.drew ?_ | with_reducible refine MineS.drewN ?_ _ | ((with_reducible refine MineS.new ?_); decide) | ((with_reducible refine MineS.newAt ?_ ?_) <;> first | decide | (simp; done)) | with_reducible refine MineS.set ?_ _ _ _ | with_reducible refine MineS.alloc ?_ _) | with_reducible refine Mine.other ?_ _ (by first | (left; omega) | (right; omega) | (simp; done) | (simp; omega)) | with_reducible refine Mine.alloc ?_ _)
  clear m1 m2 m3 m4 m5 m6
  obtain ⟨m1, m2, m3, m4, m5, m6⟩ := mAll
  have hBzw4 := hB.size
  replace hB : Below w.heap.size w w4 := by rw [hww4]; exact (by repeat first | with_reducible exact Below.refl _ _ | with_reducible assumption | with_reducible refine below_drewN ?_ _ | with_reducible refine Below.drew ?_ | with_reducible refine Below.setCell ?_ (by first | exact Nat.le_refl _ | (simp; done) | (simp; omega) | omega) _ | with_reducible refine Below.alloc ?_ (by first | exact Nat.le_refl _ | (simp; done) | (simp; omega) | omega) _ | exact Below.refl _ _ | assumption)
  clear hww4 hBzw4
  have e1 := m5.cell
  have e2 := m6.cell
  exact bodyPost_ret (v := .tuple #[rv r.1 r.2.1, .int .i64 r.2.2]) (by simp [results, Tryd.results27, go_sem, e1, e2]) rfl ⟨rfl, hB⟩
set_option maxRecDepth 100000 in
set_option maxHeartbeats 1000000 in
theorem Add_valid (a b c d : Int) (w : World) (h1 : vld a b = true) (h2 : vld c d = true) :
    Calls Tryd.prog 26 #[rv a b, rv c d] w fun e w' => e = .returned (.tuple #[rv (mk (a * d + c * b) (b * d)).1 (mk (a * d + c * b) (b * d)).2.1, .int .i64 (mk (a * d + c * b) (b * d)).2.2]) ∧ Below w.heap.size w w' := by
  have hB : Below w.heap.size w w := Below.refl _ _
  have hmf : ∀ (fn : Fn) (first cap : Array Value) (w : World), (Instr.makeFunc fn first cap).run Tryd.prog w = .ok (.func fn first cap) w := fun _ _ _ _ => rfl
  have hcf : ∀ (args : Array Value) (w : World), (callFunc 52 args).run Tryd.prog w = .ok (.enter 52 args) w := fun _ _ => by simp [go_sem]
  have i1 : I64 (a * d + c * b) := ⟨by have := prod_le h1 h2; omega, by have := prod_le h1 h2; omega⟩
  have i2 : I64 (b * d) := ⟨by have := prod_le h1 h2; omega, by have := prod_le h1 h2; omega⟩
  obtain ⟨r, hr⟩ : ∃ r, r = mk (a * d + c * b) (b * d) := ⟨_, rfl⟩
  rw [← hr]
  have hF := fit_calls 52 #[.pointer (some ⟨w.heap.size, 0, none⟩), .pointer (some ⟨w.heap.size + 1, 0, none⟩)] (a * d + c * b) (b * d)
  rw [← hr] at hF
  replace hF := Lib.hid hF
  have hM := Lib.hid (fun B1 B2 w' (m1 : Mine w' B1 0 (.int .i64 a)) (m2 : Mine w' B1 1 (.int .i64 b)) (m3 : Mine w' B2 0 (.int .i64 c)) (m4 : Mine w' B2 1 (.int .i64 d)) => Add1_valid a b c d B1 B2 w' h1 h2 m1 m2 m3 m4)
  clear hr h1 h2
  go_enter Tryd.func26, Tryd.ntmps26
  go_wp2_with fail
  refine name_calls ?_
  intro w1 hww1
  have mAll : Mine w1 w.heap.size 0 (.int .i64 a) ∧ Mine w1 w.heap.size 1 (.int .i64 b) ∧ Mine w1 (w.heap.size + 1) 0 (.int .i64 c) ∧ Mine w1 (w.heap.size + 1) 1 (.int .i64 d) ∧ Mine w1 (w.heap.size + 2) 0 (.int .i64 0) ∧ Mine w1 (w.heap.size + 2) 1 (.int .i64 0) := by
    rw [hww1]
    refine ⟨?_, ?_, ?_, ?_, ?_, ?_⟩ <;> (repeat first | with_reducible assumption | with_reducible refine Mine.drew ?_ | with_reducible refine Mine.drewN ?_ _ | ((with_reducible refine Mine.new ?_); rfl) | ((with_reducible refine Mine.newAt ?_ ?_) <;> first | rfl | (simp; done) | (simp only [World.size_alloc]; rfl)) | ((with_reducible refine Mine.set ?_ _); repeat first | exact Mine.slot (by with_reducible assumption) | with_reducible refine MineS.drew ?_ | with_reducible refine MineS.drewN ?_ _ | ((with_reducible refine MineS.new ?_); decide) | ((with_reducible refine MineS.newAt ?_ ?_) <;> first | decide | (simp; done)) | with_reducible refine MineS.set ?_ _ _ _ | with_reducible refine MineS.alloc ?_ _) | with_reducible refine Mine.other ?_ _ (by first | (left; omega) | (right; omega) | (simp; done) | (simp; omega)) | with_reducible refine Mine.alloc ?_ _)
  obtain ⟨m1, m2, m3, m4, m5, m6⟩ := mAll
  have hBzw1 := hB.size
  replace hB : Below w.heap.size w w1 := by rw [hww1]; exact (by repeat first | with_reducible exact Below.refl _ _ | with_reducible assumption | with_reducible refine below_drewN ?_ _ | with_reducible refine Below.drew ?_ | with_reducible refine Below.setCell ?_ (by first | exact Nat.le_refl _ | (simp; done) | (simp; omega) | omega) _ | with_reducible refine Below.alloc ?_ (by first | exact Nat.le_refl _ | (simp; done) | (simp; omega) | omega) _ | exact Below.refl _ _ | assumption)
  clear hww1 hBzw1
  refine (hF.out _ i1 i2 hcf (fun w' hb => hM.out _ _ w' (m1.below hb) (m2.below hb) (m3.below hb) (m4.below hb))).mono ?_
  rintro e wc4 ⟨rfl, hb1⟩
  replace m1 := m1.below hb1
  replace m2 := m2.below hb1
  replace m3 := m3.below hb1
  replace m4 := m4.below hb1
  replace m5 := m5.below hb1
  replace m6 := m6.below hb1
  replace hB := hB.trans (hb1.mono hB.size)
  have hb_wc4 := hb1
  clear hb1
  have c5 := m5.cell
  have f5 := m5.free
  have l5 := m5.lt
  have c6 := m6.cell
  have f6 := m6.free
  have l6 := m6.lt
  go_wp2
  clear c5 f5 l5
  clear c6 f6 l6
  refine name_post ?_
  intro w4 hww4
  have mAll : Mine w4 w.heap.size 0 (.int .i64 a) ∧ Mine w4 w.heap.size 1 (.int .i64 b) ∧ Mine w4 (w.heap.size + 1) 0 (.int .i64 c) ∧ Mine w4 (w.heap.size + 1) 1 (.int .i64 d) ∧ Mine w4 (w.heap.size + 2) 0 (.int .i64 r.1) ∧ Mine w4 (w.heap.size + 2) 1 (.int .i64 r.2.1) := by
    rw [hww4]
    refine ⟨?_, ?_, ?_, ?_, ?_, ?_⟩ <;> (repeat first | with_reducible assumption | with_reducible refine Mine.drew ?_ | with_reducible refine Mine.drewN ?_ _ | ((with_reducible refine Mine.new ?_); rfl) | ((with_reducible refine Mine.newAt ?_ ?_) <;> first | rfl | (simp; done) | (simp only [World.size_alloc]; rfl)) | ((with_reducible refine Mine.set ?_ _); repeat first | exact Mine.slot (by with_reducible assumption) | with_reducible refine MineS.drew ?_ | with_reducible refine MineS.drewN ?_ _ | ((with_reducible refine MineS.new ?_); decide) | ((with_reducible refine MineS.newAt ?_ ?_) <;> first | decide | (simp; done)) | with_reducible refine MineS.set ?_ _ _ _ | with_reducible refine MineS.alloc ?_ _) | with_reducible refine Mine.other ?_ _ (by first | (left; omega) | (right; omega) | (simp; done) | (simp; omega)) | with_reducible refine Mine.alloc ?_ _)
  clear m1 m2 m3 m4 m5 m6
  obtain ⟨m1, m2, m3, m4, m5, m6⟩ := mAll
  have hBzw4 := hB.size
  replace hB : Below w.heap.size w w4 := by rw [hww4]; exact (by repeat first | with_reducible exact Below.refl _ _ | with_reducible assumption | with_reducible refine below_drewN ?_ _ | with_reducible refine Below.drew ?_ | with_reducible refine Below.setCell ?_ (by first | exact Nat.le_refl _ | (simp; done) | (simp; omega) | omega) _ | with_reducible refine Below.alloc ?_ (by first | exact Nat.le_refl _ | (simp; done) | (simp; omega) | omega) _ | exact Below.refl _ _ | assumption)
  clear hww4 hBzw4
  have e1 := m5.cell
  have e2 := m6.cell
  exact bodyPost_ret (v := .tuple #[rv r.1 r.2.1, .int .i64 r.2.2]) (by simp [results, Tryd.results26, go_sem, e1, e2]) rfl ⟨rfl, hB⟩
end Go.Proofs.YtfojgdlegojdgaaDoor
