/-
  The references of layer 3: Add, Sub, Mul, Div, floor, Floor, Round. (Printed by genrefo.py.)
-/
import Derived.Test.YtfojgdlegojdgaaDoorRefV
import Derived.Test.YtfojgdlegojdgaaDoorFit3
namespace Go.Proofs.YtfojgdlegojdgaaDoor
open Go.RowKit

/-- The calculations at all fractions. -/
def mulA (a b c d : Int) : Int × Int × Int := if vld a b && vld c d then mk (a * c) (b * d) else (0, 0, 30)
def addA (a b c d : Int) : Int × Int × Int := if vld a b && vld c d then mk (a * d + c * b) (b * d) else (0, 0, 30)
def subA (a b c d : Int) : Int × Int × Int := if vld a b && vld c d then mk (a * d - c * b) (b * d) else (0, 0, 30)
def divA (a b c d : Int) : Int × Int × Int := if vld a b && vld c d then mk (a * d) (b * c) else (0, 0, 30)
def roundA (a b k : Int) : Int × Int × Int := if vld a b && decide (1 ≤ k) && decide (k ≤ 1000000000) then mk (rkv a b k) k else (0, 0, 30)

set_option maxRecDepth 100000 in
set_option maxHeartbeats 1000000 in
theorem refMul_any (a b c d : Int) (w : World) (ha : I64 a) (hb : I64 b) (hc : I64 c) (hd : I64 d) :
    Calls Tryd.prog 31 #[rv a b, rv c d] w fun e w' => e = .returned (.tuple #[rv (mulA a b c d).1 (mulA a b c d).2.1, .int .i64 (mulA a b c d).2.2]) ∧ Below w.heap.size w w' := by
  have hB : Below w.heap.size w w := Below.refl _ _
  have v1 := fun w => both_any a b c d w ha hb hc hd
  cases h : (vld a b && vld c d) with
  | false =>
    have hv : Hid (mulA a b c d = (0, 0, 30)) := by show _ = _; simp [mulA, h]
    simp only [h] at v1
    replace v1 := Lib.hid v1
    generalize mulA a b c d = r at *
    go_enter Tryd.func31, Tryd.ntmps31
    go_wp2_with fail
    refine name_calls ?_
    intro w1 hww1
    have mAll : Mine w1 w.heap.size 0 (.int .i64 a) ∧ Mine w1 w.heap.size 1 (.int .i64 b) ∧ Mine w1 (w.heap.size + 1) 0 (.int .i64 c) ∧ Mine w1 (w.heap.size + 1) 1 (.int .i64 d) ∧ Mine w1 (w.heap.size + 1 + 1) 0 (.int .i64 0) ∧ Mine w1 (w.heap.size + 1 + 1) 1 (.int .i64 0) := by
      rw [hww1]
      refine ⟨?_, ?_, ?_, ?_, ?_, ?_⟩ <;> (repeat first | with_reducible assumption | with_reducible refine Mine.drew ?_ | with_reducible refine Mine.drewN ?_ _ | ((with_reducible refine Mine.new ?_); rfl) | ((with_reducible refine Mine.newAt ?_ ?_) <;> first | rfl | (simp; done) | (simp only [World.size_alloc]; rfl)) | ((with_reducible refine Mine.set ?_ _); repeat first | exact Mine.slot (by with_reducible assumption) | with_reducible refine MineS.drew ?_ | with_reducible refine MineS.drewN ?_ _ | ((with_reducible refine MineS.new ?_); decide) | ((with_reducible refine MineS.newAt ?_ ?_) <;> first | decide | (simp; done)) | with_reducible refine MineS.set ?_ _ _ _ | with_reducible refine MineS.alloc ?_ _) | with_reducible refine Mine.other ?_ _ (by first | (left; omega) | (right; omega) | (simp; done) | (simp; omega)) | with_reducible refine Mine.alloc ?_ _)
    obtain ⟨m1, m2, m3, m4, m5, m6⟩ := mAll
    have hBzw1 := hB.size
    replace hB : Below w.heap.size w w1 := by rw [hww1]; exact (by repeat first | with_reducible exact Below.refl _ _ | with_reducible assumption | with_reducible refine below_drewN ?_ _ | with_reducible refine Below.drew ?_ | with_reducible refine Below.setCell ?_ (by first | exact Nat.le_refl _ | (simp; done) | (simp; omega) | omega) _ | with_reducible refine Below.alloc ?_ (by first | exact Nat.le_refl _ | (simp; done) | (simp; omega) | omega) _ | exact Below.refl _ _ | assumption)
    clear hww1 hBzw1
    refine (v1.out _).mono ?_
    rintro e w2 ⟨rfl, hb1⟩
    replace m1 := m1.below hb1
    replace m2 := m2.below hb1
    replace m3 := m3.below hb1
    replace m4 := m4.below hb1
    replace m5 := m5.below hb1
    replace m6 := m6.below hb1
    replace hB := hB.trans (hb1.mono hB.size)
    have hb_w2 := hb1
    clear hb1
    have c1 := m1.cell
    have f1 := m1.free
    have l1 := m1.lt
    have c2 := m2.cell
    have f2 := m2.free
    have l2 := m2.lt
    have c3 := m3.cell
    have f3 := m3.free
    have l3 := m3.lt
    have c4 := m4.cell
    have f4 := m4.free
    have l4 := m4.lt
    have c5 := m5.cell
    have f5 := m5.free
    have l5 := m5.lt
    have c6 := m6.cell
    have f6 := m6.free
    have l6 := m6.lt
    go_wp2
    clear c1 f1 l1
    clear c2 f2 l2
    clear c3 f3 l3
    clear c4 f4 l4
    clear c5 f5 l5
    clear c6 f6 l6
    refine name_post ?_
    intro w4 hww4
    have mAll : Mine w4 w.heap.size 0 (.int .i64 a) ∧ Mine w4 w.heap.size 1 (.int .i64 b) ∧ Mine w4 (w.heap.size + 1) 0 (.int .i64 c) ∧ Mine w4 (w.heap.size + 1) 1 (.int .i64 d) ∧ Mine w4 (w.heap.size + 1 + 1) 0 (.int .i64 0) ∧ Mine w4 (w.heap.size + 1 + 1) 1 (.int .i64 0) := by
      rw [hww4]
      refine ⟨?_, ?_, ?_, ?_, ?_, ?_⟩ <;> (repeat first | with_reducible assumption | with_reducible refine Mine.drew ?_ | with_reducible refine Mine.drewN ?_ _ | ((with_reducible refine Mine.new ?_); rfl) | ((with_reducible refine Mine.newAt ?_ ?_) <;> first | rfl | (simp; done) | (simp only [World.size_alloc]; rfl)) | ((with_reducible refine Mine.set ?_ _); repeat first | exact Mine.slot (by with_reducible assumption) | with_reducible refine MineS.drew ?_ | with_reducible refine MineS.drewN ?_ _ | ((with_reducible refine MineS.new ?_); decide) | ((with_reducible refine MineS.newAt ?_ ?_) <;> first | decide | (simp; done)) | with_reducible refine MineS.set ?_ _ _ _ | with_reducible refine MineS.alloc ?_ _) | with_reducible refine Mine.other ?_ _ (by first | (left; omega) | (right; omega) | (simp; done) | (simp; omega)) | with_reducible refine Mine.alloc ?_ _)
    clear m1 m2 m3 m4 m5 m6
    obtain ⟨m1, m2, m3, m4, m5, m6⟩ := mAll
    have hBzw4 := hB.size
    replace hB : Below w.heap.size w w4 := by rw [hww4]; exact (by repeat first | with_reducible exact Below.refl _ _ | with_reducible assumption | with_reducible refine below_drewN ?_ _ | with_reducible refine Below.drew ?_ | with_reducible refine Below.setCell ?_ (by first | exact Nat.le_refl _ | (simp; done) | (simp; omega) | omega) _ | with_reducible refine Below.alloc ?_ (by first | exact Nat.le_refl _ | (simp; done) | (simp; omega) | omega) _ | exact Below.refl _ _ | assumption)
    clear hww4 hBzw4
    have e1 := m5.cell
    have e2 := m6.cell
    exact bodyPost_ret (v := .tuple #[rv 0 0, .int .i64 30]) (by simp [results, Tryd.results31, go_sem, e1, e2]) rfl ⟨by rw [hv.out], hB⟩
  | true =>
    have h12 : vld a b = true ∧ vld c d = true := by simpa using h
    have hv : mulA a b c d = mk (a * c) (b * d) := by simp [mulA, h]
    have i1 : I64 (a * c) := ⟨by have := prod_le h12.1 h12.2; omega, by have := prod_le h12.1 h12.2; omega⟩
    have i2 : I64 (b * d) := ⟨by have := prod_le h12.1 h12.2; omega, by have := prod_le h12.1 h12.2; omega⟩
    have hK := fun w => refMake_all (a * c) (b * d) w i1 i2
    rw [← hv] at hK
    simp only [h] at v1
    replace v1 := Lib.hid v1
    replace hK := Lib.hid hK
    have p1 := prod_wrap h12.1 h12.2
    have p2 := prod_wrap_den h12.1 h12.2
    have p3 := (sum_wrap h12.1 h12.2).1
    have p4 := (sum_wrap h12.1 h12.2).2.1
    clear hv i1 i2 h h12
    generalize mulA a b c d = r at *
    go_enter Tryd.func31, Tryd.ntmps31
    go_wp2_with fail
    refine name_calls ?_
    intro w1 hww1
    have mAll : Mine w1 w.heap.size 0 (.int .i64 a) ∧ Mine w1 w.heap.size 1 (.int .i64 b) ∧ Mine w1 (w.heap.size + 1) 0 (.int .i64 c) ∧ Mine w1 (w.heap.size + 1) 1 (.int .i64 d) ∧ Mine w1 (w.heap.size + 1 + 1) 0 (.int .i64 0) ∧ Mine w1 (w.heap.size + 1 + 1) 1 (.int .i64 0) := by
      rw [hww1]
      refine ⟨?_, ?_, ?_, ?_, ?_, ?_⟩ <;> (repeat first | with_reducible assumption | with_reducible refine Mine.drew ?_ | with_reducible refine Mine.drewN ?_ _ | ((with_reducible refine Mine.new ?_); rfl) | ((with_reducible refine Mine.newAt ?_ ?_) <;> first | rfl | (simp; done) | (simp only [World.size_alloc]; rfl)) | ((with_reducible refine Mine.set ?_ _); repeat first | exact Mine.slot (by with_reducible assumption) | with_reducible refine MineS.drew ?_ | with_reducible refine MineS.drewN ?_ _ | ((with_reducible refine MineS.new ?_); decide) | ((with_reducible refine MineS.newAt ?_ ?_) <;> first | decide | (simp; done)) | with_reducible refine MineS.set ?_ _ _ _ | with_reducible refine MineS.alloc ?_ _) | with_reducible refine Mine.other ?_ _ (by first | (left; omega) | (right; omega) | (simp; done) | (simp; omega)) | with_reducible refine Mine.alloc ?_ _)
    obtain ⟨m1, m2, m3, m4, m5, m6⟩ := mAll
    have hBzw1 := hB.size
    replace hB : Below w.heap.size w w1 := by rw [hww1]; exact (by repeat first | with_reducible exact Below.refl _ _ | with_reducible assumption | with_reducible refine below_drewN ?_ _ | with_reducible refine Below.drew ?_ | with_reducible refine Below.setCell ?_ (by first | exact Nat.le_refl _ | (simp; done) | (simp; omega) | omega) _ | with_reducible refine Below.alloc ?_ (by first | exact Nat.le_refl _ | (simp; done) | (simp; omega) | omega) _ | exact Below.refl _ _ | assumption)
    clear hww1 hBzw1
    refine (v1.out _).mono ?_
    rintro e w2 ⟨rfl, hb1⟩
    replace m1 := m1.below hb1
    replace m2 := m2.below hb1
    replace m3 := m3.below hb1
    replace m4 := m4.below hb1
    replace m5 := m5.below hb1
    replace m6 := m6.below hb1
    replace hB := hB.trans (hb1.mono hB.size)
    have hb_w2 := hb1
    clear hb1
    have c1 := m1.cell
    have f1 := m1.free
    have l1 := m1.lt
    have c2 := m2.cell
    have f2 := m2.free
    have l2 := m2.lt
    have c3 := m3.cell
    have f3 := m3.free
    have l3 := m3.lt
    have c4 := m4.cell
    have f4 := m4.free
    have l4 := m4.lt
    have c5 := m5.cell
    have f5 := m5.free
    have l5 := m5.lt
    have c6 := m6.cell
    have f6 := m6.free
    have l6 := m6.lt
    go_wp2_with fail
    clear c1 f1 l1
    clear c2 f2 l2
    clear c3 f3 l3
    clear c4 f4 l4
    clear c5 f5 l5
    clear c6 f6 l6
    refine (hK.out _).mono ?_
    rintro e w3 ⟨rfl, hb1⟩
    replace m1 := m1.below hb1
    replace m2 := m2.below hb1
    replace m3 := m3.below hb1
    replace m4 := m4.below hb1
    replace m5 := m5.below hb1
    replace m6 := m6.below hb1
    replace hB := hB.trans (hb1.mono hB.size)
    have hb_w3 := hb1
    clear hb1
    have c5 := m5.cell
    have f5 := m5.free
    have l5 := m5.lt
    have c6 := m6.cell
    have f6 := m6.free
    have l6 := m6.lt
    go_wp2
    clear c5 f5 l5
    clear c6 f6 l6
    refine name_post ?_
    intro w4 hww4
    have mAll : Mine w4 w.heap.size 0 (.int .i64 a) ∧ Mine w4 w.heap.size 1 (.int .i64 b) ∧ Mine w4 (w.heap.size + 1) 0 (.int .i64 c) ∧ Mine w4 (w.heap.size + 1) 1 (.int .i64 d) ∧ Mine w4 (w.heap.size + 1 + 1) 0 (.int .i64 r.1) ∧ Mine w4 (w.heap.size + 1 + 1) 1 (.int .i64 r.2.1) := by
      rw [hww4]
      refine ⟨?_, ?_, ?_, ?_, ?_, ?_⟩ <;> (repeat first | with_reducible assumption | with_reducible refine Mine.drew ?_ | with_reducible refine Mine.drewN ?_ _ | ((with_reducible refine Mine.new ?_); rfl) | ((with_reducible refine Mine.newAt ?_ ?_) <;> first | rfl | (simp; done) | (simp only [World.size_alloc]; rfl)) | ((with_reducible refine Mine.set ?_ _); repeat first | exact Mine.slot (by with_reducible assumption) | with_reducible refine MineS.drew ?_ | with_reducible refine MineS.drewN ?_ _ | ((with_reducible refine MineS.new ?_); decide) | ((with_reducible refine MineS.newAt ?_ ?_) <;> first | decide | (simp; done)) | with_reducible refine MineS.set ?_ _ _ _ | with_reducible refine MineS.alloc ?_ _) | with_reducible refine Mine.other ?_ _ (by first | (left; omega) | (right; omega) | (simp; done) | (simp; omega)) | with_reducible refine Mine.alloc ?_ _)
    clear m1 m2 m3 m4 m5 m6
    obtain ⟨m1, m2, m3, m4, m5, m6⟩ := mAll
    have hBzw4 := hB.size
    replace hB : Below w.heap.size w w4 := by rw [hww4]; exact (by repeat first | with_reducible exact Below.refl _ _ | with_reducible assumption | with_reducible refine below_drewN ?_ _ | with_reducible refine Below.drew ?_ | with_reducible refine Below.setCell ?_ (by first | exact Nat.le_refl _ | (simp; done) | (simp; omega) | omega) _ | with_reducible refine Below.alloc ?_ (by first | exact Nat.le_refl _ | (simp; done) | (simp; omega) | omega) _ | exact Below.refl _ _ | assumption)
    clear hww4 hBzw4
    have e1 := m5.cell
    have e2 := m6.cell
    exact bodyPost_ret (v := .tuple #[rv r.1 r.2.1, .int .i64 r.2.2]) (by simp [results, Tryd.results31, go_sem, e1, e2]) rfl ⟨rfl, hB⟩

set_option maxRecDepth 100000 in
set_option maxHeartbeats 1000000 in
theorem refAdd_any (a b c d : Int) (w : World) (ha : I64 a) (hb : I64 b) (hc : I64 c) (hd : I64 d) :
    Calls Tryd.prog 29 #[rv a b, rv c d] w fun e w' => e = .returned (.tuple #[rv (addA a b c d).1 (addA a b c d).2.1, .int .i64 (addA a b c d).2.2]) ∧ Below w.heap.size w w' := by
  have hB : Below w.heap.size w w := Below.refl _ _
  have v1 := fun w => both_any a b c d w ha hb hc hd
  cases h : (vld a b && vld c d) with
  | false =>
    have hv : Hid (addA a b c d = (0, 0, 30)) := by show _ = _; simp [addA, h]
    simp only [h] at v1
    replace v1 := Lib.hid v1
    generalize addA a b c d = r at *
    go_enter Tryd.func29, Tryd.ntmps29
    go_wp2_with fail
    refine name_calls ?_
    intro w1 hww1
    have mAll : Mine w1 w.heap.size 0 (.int .i64 a) ∧ Mine w1 w.heap.size 1 (.int .i64 b) ∧ Mine w1 (w.heap.size + 1) 0 (.int .i64 c) ∧ Mine w1 (w.heap.size + 1) 1 (.int .i64 d) ∧ Mine w1 (w.heap.size + 1 + 1) 0 (.int .i64 0) ∧ Mine w1 (w.heap.size + 1 + 1) 1 (.int .i64 0) := by
      rw [hww1]
      refine ⟨?_, ?_, ?_, ?_, ?_, ?_⟩ <;> (repeat first | with_reducible assumption | with_reducible refine Mine.drew ?_ | with_reducible refine Mine.drewN ?_ _ | ((with_reducible refine Mine.new ?_); rfl) | ((with_reducible refine Mine.newAt ?_ ?_) <;> first | rfl | (simp; done) | (simp only [World.size_alloc]; rfl)) | ((with_reducible refine Mine.set ?_ _); repeat first | exact Mine.slot (by with_reducible assumption) | with_reducible refine MineS.drew ?_ | with_reducible refine MineS.drewN ?_ _ | ((with_reducible refine MineS.new ?_); decide) | ((with_reducible refine MineS.newAt ?_ ?_) <;> first | decide | (simp; done)) | with_reducible refine MineS.set ?_ _ _ _ | with_reducible refine MineS.alloc ?_ _) | with_reducible refine Mine.other ?_ _ (by first | (left; omega) | (right; omega) | (simp; done) | (simp; omega)) | with_reducible refine Mine.alloc ?_ _)
    obtain ⟨m1, m2, m3, m4, m5, m6⟩ := mAll
    have hBzw1 := hB.size
    replace hB : Below w.heap.size w w1 := by rw [hww1]; exact (by repeat first | with_reducible exact Below.refl _ _ | with_reducible assumption | with_reducible refine below_drewN ?_ _ | with_reducible refine Below.drew ?_ | with_reducible refine Below.setCell ?_ (by first | exact Nat.le_refl _ | (simp; done) | (simp; omega) | omega) _ | with_reducible refine Below.alloc ?_ (by first | exact Nat.le_refl _ | (simp; done) | (simp; omega) | omega) _ | exact Below.refl _ _ | assumption)
    clear hww1 hBzw1
    refine (v1.out _).mono ?_
    rintro e w2 ⟨rfl, hb1⟩
    replace m1 := m1.below hb1
    replace m2 := m2.below hb1
    replace m3 := m3.below hb1
    replace m4 := m4.below hb1
    replace m5 := m5.below hb1
    replace m6 := m6.below hb1
    replace hB := hB.trans (hb1.mono hB.size)
    have hb_w2 := hb1
    clear hb1
    have c1 := m1.cell
    have f1 := m1.free
    have l1 := m1.lt
    have c2 := m2.cell
    have f2 := m2.free
    have l2 := m2.lt
    have c3 := m3.cell
    have f3 := m3.free
    have l3 := m3.lt
    have c4 := m4.cell
    have f4 := m4.free
    have l4 := m4.lt
    have c5 := m5.cell
    have f5 := m5.free
    have l5 := m5.lt
    have c6 := m6.cell
    have f6 := m6.free
    have l6 := m6.lt
    go_wp2
    clear c1 f1 l1
    clear c2 f2 l2
    clear c3 f3 l3
    clear c4 f4 l4
    clear c5 f5 l5
    clear c6 f6 l6
    refine name_post ?_
    intro w4 hww4
    have mAll : Mine w4 w.heap.size 0 (.int .i64 a) ∧ Mine w4 w.heap.size 1 (.int .i64 b) ∧ Mine w4 (w.heap.size + 1) 0 (.int .i64 c) ∧ Mine w4 (w.heap.size + 1) 1 (.int .i64 d) ∧ Mine w4 (w.heap.size + 1 + 1) 0 (.int .i64 0) ∧ Mine w4 (w.heap.size + 1 + 1) 1 (.int .i64 0) := by
      rw [hww4]
      refine ⟨?_, ?_, ?_, ?_, ?_, ?_⟩ <;> (repeat first | with_reducible assumption | with_reducible refine Mine.drew ?_ | with_reducible refine Mine.drewN ?_ _ | ((with_reducible refine Mine.new ?_); rfl) | ((with_reducible refine Mine.newAt ?_ ?_) <;> first | rfl | (simp; done) | (simp only [World.size_alloc]; rfl)) | ((with_reducible refine Mine.set ?_ _); repeat first | exact Mine.slot (by with_reducible assumption) | with_reducible refine MineS.drew ?_ | with_reducible refine MineS.drewN ?_ _ | ((with_reducible refine MineS.new ?_); decide) | ((with_reducible refine MineS.newAt ?_ ?_) <;> first | decide | (simp; done)) | with_reducible refine MineS.set ?_ _ _ _ | with_reducible refine MineS.alloc ?_ _) | with_reducible refine Mine.other ?_ _ (by first | (left; omega) | (right; omega) | (simp; done) | (simp; omega)) | with_reducible refine Mine.alloc ?_ _)
    clear m1 m2 m3 m4 m5 m6
    obtain ⟨m1, m2, m3, m4, m5, m6⟩ := mAll
    have hBzw4 := hB.size
    replace hB : Below w.heap.size w w4 := by rw [hww4]; exact (by repeat first | with_reducible exact Below.refl _ _ | with_reducible assumption | with_reducible refine below_drewN ?_ _ | with_reducible refine Below.drew ?_ | with_reducible refine Below.setCell ?_ (by first | exact Nat.le_refl _ | (simp; done) | (simp; omega) | omega) _ | with_reducible refine Below.alloc ?_ (by first | exact Nat.le_refl _ | (simp; done) | (simp; omega) | omega) _ | exact Below.refl _ _ | assumption)
    clear hww4 hBzw4
    have e1 := m5.cell
    have e2 := m6.cell
    exact bodyPost_ret (v := .tuple #[rv 0 0, .int .i64 30]) (by simp [results, Tryd.results29, go_sem, e1, e2]) rfl ⟨by rw [hv.out], hB⟩
  | true =>
    have h12 : vld a b = true ∧ vld c d = true := by simpa using h
    have hv : addA a b c d = mk (a * d + c * b) (b * d) := by simp [addA, h]
    have i1 : I64 (a * d + c * b) := ⟨by have := prod_le h12.1 h12.2; omega, by have := prod_le h12.1 h12.2; omega⟩
    have i2 : I64 (b * d) := ⟨by have := prod_le h12.1 h12.2; omega, by have := prod_le h12.1 h12.2; omega⟩
    have hK := fun w => refMake_all (a * d + c * b) (b * d) w i1 i2
    rw [← hv] at hK
    simp only [h] at v1
    replace v1 := Lib.hid v1
    replace hK := Lib.hid hK
    have p1 := prod_wrap h12.1 h12.2
    have p2 := prod_wrap_den h12.1 h12.2
    have p3 := (sum_wrap h12.1 h12.2).1
    have p4 := (sum_wrap h12.1 h12.2).2.1
    have p5 := (sum_wrap h12.1 h12.2).2.2
    clear hv i1 i2 h h12
    generalize addA a b c d = r at *
    go_enter Tryd.func29, Tryd.ntmps29
    go_wp2_with fail
    refine name_calls ?_
    intro w1 hww1
    have mAll : Mine w1 w.heap.size 0 (.int .i64 a) ∧ Mine w1 w.heap.size 1 (.int .i64 b) ∧ Mine w1 (w.heap.size + 1) 0 (.int .i64 c) ∧ Mine w1 (w.heap.size + 1) 1 (.int .i64 d) ∧ Mine w1 (w.heap.size + 1 + 1) 0 (.int .i64 0) ∧ Mine w1 (w.heap.size + 1 + 1) 1 (.int .i64 0) := by
      rw [hww1]
      refine ⟨?_, ?_, ?_, ?_, ?_, ?_⟩ <;> (repeat first | with_reducible assumption | with_reducible refine Mine.drew ?_ | with_reducible refine Mine.drewN ?_ _ | ((with_reducible refine Mine.new ?_); rfl) | ((with_reducible refine Mine.newAt ?_ ?_) <;> first | rfl | (simp; done) | (simp only [World.size_alloc]; rfl)) | ((with_reducible refine Mine.set ?_ _); repeat first | exact Mine.slot (by with_reducible assumption) | with_reducible refine MineS.drew ?_ | with_reducible refine MineS.drewN ?_ _ | ((with_reducible refine MineS.new ?_); decide) | ((with_reducible refine MineS.newAt ?_ ?_) <;> first | decide | (simp; done)) | with_reducible refine MineS.set ?_ _ _ _ | with_reducible refine MineS.alloc ?_ _) | with_reducible refine Mine.other ?_ _ (by first | (left; omega) | (right; omega) | (simp; done) | (simp; omega)) | with_reducible refine Mine.alloc ?_ _)
    obtain ⟨m1, m2, m3, m4, m5, m6⟩ := mAll
    have hBzw1 := hB.size
    replace hB : Below w.heap.size w w1 := by rw [hww1]; exact (by repeat first | with_reducible exact Below.refl _ _ | with_reducible assumption | with_reducible refine below_drewN ?_ _ | with_reducible refine Below.drew ?_ | with_reducible refine Below.setCell ?_ (by first | exact Nat.le_refl _ | (simp; done) | (simp; omega) | omega) _ | with_reducible refine Below.alloc ?_ (by first | exact Nat.le_refl _ | (simp; done) | (simp; omega) | omega) _ | exact Below.refl _ _ | assumption)
    clear hww1 hBzw1
    refine (v1.out _).mono ?_
    rintro e w2 ⟨rfl, hb1⟩
    replace m1 := m1.below hb1
    replace m2 := m2.below hb1
    replace m3 := m3.below hb1
    replace m4 := m4.below hb1
    replace m5 := m5.below hb1
    replace m6 := m6.below hb1
    replace hB := hB.trans (hb1.mono hB.size)
    have hb_w2 := hb1
    clear hb1
    have c1 := m1.cell
    have f1 := m1.free
    have l1 := m1.lt
    have c2 := m2.cell
    have f2 := m2.free
    have l2 := m2.lt
    have c3 := m3.cell
    have f3 := m3.free
    have l3 := m3.lt
    have c4 := m4.cell
    have f4 := m4.free
    have l4 := m4.lt
    have c5 := m5.cell
    have f5 := m5.free
    have l5 := m5.lt
    have c6 := m6.cell
    have f6 := m6.free
    have l6 := m6.lt
    go_wp2_with fail
    clear c1 f1 l1
    clear c2 f2 l2
    clear c3 f3 l3
    clear c4 f4 l4
    clear c5 f5 l5
    clear c6 f6 l6
    refine (hK.out _).mono ?_
    rintro e w3 ⟨rfl, hb1⟩
    replace m1 := m1.below hb1
    replace m2 := m2.below hb1
    replace m3 := m3.below hb1
    replace m4 := m4.below hb1
    replace m5 := m5.below hb1
    replace m6 := m6.below hb1
    replace hB := hB.trans (hb1.mono hB.size)
    have hb_w3 := hb1
    clear hb1
    have c5 := m5.cell
    have f5 := m5.free
    have l5 := m5.lt
    have c6 := m6.cell
    have f6 := m6.free
    have l6 := m6.lt
    go_wp2
    clear c5 f5 l5
    clear c6 f6 l6
    refine name_post ?_
    intro w4 hww4
    have mAll : Mine w4 w.heap.size 0 (.int .i64 a) ∧ Mine w4 w.heap.size 1 (.int .i64 b) ∧ Mine w4 (w.heap.size + 1) 0 (.int .i64 c) ∧ Mine w4 (w.heap.size + 1) 1 (.int .i64 d) ∧ Mine w4 (w.heap.size + 1 + 1) 0 (.int .i64 r.1) ∧ Mine w4 (w.heap.size + 1 + 1) 1 (.int .i64 r.2.1) := by
      rw [hww4]
      refine ⟨?_, ?_, ?_, ?_, ?_, ?_⟩ <;> (repeat first | with_reducible assumption | with_reducible refine Mine.drew ?_ | with_reducible refine Mine.drewN ?_ _ | ((with_reducible refine Mine.new ?_); rfl) | ((with_reducible refine Mine.newAt ?_ ?_) <;> first | rfl | (simp; done) | (simp only [World.size_alloc]; rfl)) | ((with_reducible refine Mine.set ?_ _); repeat first | exact Mine.slot (by with_reducible assumption) | with_reducible refine MineS.drew ?_ | with_reducible refine MineS.drewN ?_ _ | ((with_reducible refine MineS.new ?_); decide) | ((with_reducible refine MineS.newAt ?_ ?_) <;> first | decide | (simp; done)) | with_reducible refine MineS.set ?_ _ _ _ | with_reducible refine MineS.alloc ?_ _) | with_reducible refine Mine.other ?_ _ (by first | (left; omega) | (right; omega) | (simp; done) | (simp; omega)) | with_reducible refine Mine.alloc ?_ _)
    clear m1 m2 m3 m4 m5 m6
    obtain ⟨m1, m2, m3, m4, m5, m6⟩ := mAll
    have hBzw4 := hB.size
    replace hB : Below w.heap.size w w4 := by rw [hww4]; exact (by repeat first | with_reducible exact Below.refl _ _ | with_reducible assumption | with_reducible refine below_drewN ?_ _ | with_reducible refine Below.drew ?_ | with_reducible refine Below.setCell ?_ (by first | exact Nat.le_refl _ | (simp; done) | (simp; omega) | omega) _ | with_reducible refine Below.alloc ?_ (by first | exact Nat.le_refl _ | (simp; done) | (simp; omega) | omega) _ | exact Below.refl _ _ | assumption)
    clear hww4 hBzw4
    have e1 := m5.cell
    have e2 := m6.cell
    exact bodyPost_ret (v := .tuple #[rv r.1 r.2.1, .int .i64 r.2.2]) (by simp [results, Tryd.results29, go_sem, e1, e2]) rfl ⟨rfl, hB⟩

set_option maxRecDepth 100000 in
set_option maxHeartbeats 1000000 in
theorem refSub_any (a b c d : Int) (w : World) (ha : I64 a) (hb : I64 b) (hc : I64 c) (hd : I64 d) :
    Calls Tryd.prog 30 #[rv a b, rv c d] w fun e w' => e = .returned (.tuple #[rv (subA a b c d).1 (subA a b c d).2.1, .int .i64 (subA a b c d).2.2]) ∧ Below w.heap.size w w' := by
  have hB : Below w.heap.size w w := Below.refl _ _
  have v1 := fun w => both_any a b c d w ha hb hc hd
  cases h : (vld a b && vld c d) with
  | false =>
    have hv : Hid (subA a b c d = (0, 0, 30)) := by show _ = _; simp [subA, h]
    simp only [h] at v1
    replace v1 := Lib.hid v1
    generalize subA a b c d = r at *
    go_enter Tryd.func30, Tryd.ntmps30
    go_wp2_with fail
    refine name_calls ?_
    intro w1 hww1
    have mAll : Mine w1 w.heap.size 0 (.int .i64 a) ∧ Mine w1 w.heap.size 1 (.int .i64 b) ∧ Mine w1 (w.heap.size + 1) 0 (.int .i64 c) ∧ Mine w1 (w.heap.size + 1) 1 (.int .i64 d) ∧ Mine w1 (w.heap.size + 1 + 1) 0 (.int .i64 0) ∧ Mine w1 (w.heap.size + 1 + 1) 1 (.int .i64 0) := by
      rw [hww1]
      refine ⟨?_, ?_, ?_, ?_, ?_, ?_⟩ <;> (repeat first | with_reducible assumption | with_reducible refine Mine.drew ?_ | with_reducible refine Mine.drewN ?_ _ | ((with_reducible refine Mine.new ?_); rfl) | ((with_reducible refine Mine.newAt ?_ ?_) <;> first | rfl | (simp; done) | (simp only [World.size_alloc]; rfl)) | ((with_reducible refine Mine.set ?_ _); repeat first | exact Mine.slot (by with_reducible assumption) | with_reducible refine MineS.drew ?_ | with_reducible refine MineS.drewN ?_ _ | ((with_reducible refine MineS.new ?_); decide) | ((with_reducible refine MineS.newAt ?_ ?_) <;> first | decide | (simp; done)) | with_reducible refine MineS.set ?_ _ _ _ | with_reducible refine MineS.alloc ?_ _) | with_reducible refine Mine.other ?_ _ (by first | (left; omega) | (right; omega) | (simp; done) | (simp; omega)) | with_reducible refine Mine.alloc ?_ _)
    obtain ⟨m1, m2, m3, m4, m5, m6⟩ := mAll
    have hBzw1 := hB.size
    replace hB : Below w.heap.size w w1 := by rw [hww1]; exact (by repeat first | with_reducible exact Below.refl _ _ | with_reducible assumption | with_reducible refine below_drewN ?_ _ | with_reducible refine Below.drew ?_ | with_reducible refine Below.setCell ?_ (by first | exact Nat.le_refl _ | (simp; done) | (simp; omega) | omega) _ | with_reducible refine Below.alloc ?_ (by first | exact Nat.le_refl _ | (simp; done) | (simp; omega) | omega) _ | exact Below.refl _ _ | assumption)
    clear hww1 hBzw1
    refine (v1.out _).mono ?_
    rintro e w2 ⟨rfl, hb1⟩
    replace m1 := m1.below hb1
    replace m2 := m2.below hb1
    replace m3 := m3.below hb1
    replace m4 := m4.below hb1
    replace m5 := m5.below hb1
    replace m6 := m6.below hb1
    replace hB := hB.trans (hb1.mono hB.size)
    have hb_w2 := hb1
    clear hb1
    have c1 := m1.cell
    have f1 := m1.free
    have l1 := m1.lt
    have c2 := m2.cell
    have f2 := m2.free
    have l2 := m2.lt
    have c3 := m3.cell
    have f3 := m3.free
    have l3 := m3.lt
    have c4 := m4.cell
    have f4 := m4.free
    have l4 := m4.lt
    have c5 := m5.cell
    have f5 := m5.free
    have l5 := m5.lt
    have c6 := m6.cell
    have f6 := m6.free
    have l6 := m6.lt
    go_wp2
    clear c1 f1 l1
    clear c2 f2 l2
    clear c3 f3 l3
    clear c4 f4 l4
    clear c5 f5 l5
    clear c6 f6 l6
    refine name_post ?_
    intro w4 hww4
    have mAll : Mine w4 w.heap.size 0 (.int .i64 a) ∧ Mine w4 w.heap.size 1 (.int .i64 b) ∧ Mine w4 (w.heap.size + 1) 0 (.int .i64 c) ∧ Mine w4 (w.heap.size + 1) 1 (.int .i64 d) ∧ Mine w4 (w.heap.size + 1 + 1) 0 (.int .i64 0) ∧ Mine w4 (w.heap.size + 1 + 1) 1 (.int .i64 0) := by
      rw [hww4]
      refine ⟨?_, ?_, ?_, ?_, ?_, ?_⟩ <;> (repeat first | with_reducible assumption | with_reducible refine Mine.drew ?_ | with_reducible refine Mine.drewN ?_ _ | ((with_reducible refine Mine.new ?_); rfl) | ((with_reducible refine Mine.newAt ?_ ?_) <;> first | rfl | (simp; done) | (simp only [World.size_alloc]; rfl)) | ((with_reducible refine Mine.set ?_ _); repeat first | exact Mine.slot (by with_reducible assumption) | with_reducible refine MineS.drew ?_ | with_reducible refine MineS.drewN ?_ _ | ((with_reducible refine MineS.new ?_); decide) | ((with_reducible refine MineS.newAt ?_ ?_) <;> first | decide | (simp; done)) | with_reducible refine MineS.set ?_ _ _ _ | with_reducible refine MineS.alloc ?_ _) | with_reducible refine Mine.other ?_ _ (by first | (left; omega) | (right; omega) | (simp; done) | (simp; omega)) | with_reducible refine Mine.alloc ?_ _)
    clear m1 m2 m3 m4 m5 m6
    obtain ⟨m1, m2, m3, m4, m5, m6⟩ := mAll
    have hBzw4 := hB.size
    replace hB : Below w.heap.size w w4 := by rw [hww4]; exact (by repeat first | with_reducible exact Below.refl _ _ | with_reducible assumption | with_reducible refine below_drewN ?_ _ | with_reducible refine Below.drew ?_ | with_reducible refine Below.setCell ?_ (by first | exact Nat.le_refl _ | (simp; done) | (simp; omega) | omega) _ | with_reducible refine Below.alloc ?_ (by first | exact Nat.le_refl _ | (simp; done) | (simp; omega) | omega) _ | exact Below.refl _ _ | assumption)
    clear hww4 hBzw4
    have e1 := m5.cell
    have e2 := m6.cell
    exact bodyPost_ret (v := .tuple #[rv 0 0, .int .i64 30]) (by simp [results, Tryd.results30, go_sem, e1, e2]) rfl ⟨by rw [hv.out], hB⟩
  | true =>
    have h12 : vld a b = true ∧ vld c d = true := by simpa using h
    have hv : subA a b c d = mk (a * d - c * b) (b * d) := by simp [subA, h]
    have i1 : I64 (a * d - c * b) := ⟨by have := prod_le h12.1 h12.2; omega, by have := prod_le h12.1 h12.2; omega⟩
    have i2 : I64 (b * d) := ⟨by have := prod_le h12.1 h12.2; omega, by have := prod_le h12.1 h12.2; omega⟩
    have hK := fun w => refMake_all (a * d - c * b) (b * d) w i1 i2
    rw [← hv] at hK
    simp only [h] at v1
    replace v1 := Lib.hid v1
    replace hK := Lib.hid hK
    have p1 := prod_wrap h12.1 h12.2
    have p2 := prod_wrap_den h12.1 h12.2
    have p3 := (sum_wrap h12.1 h12.2).1
    have p4 := (sum_wrap h12.1 h12.2).2.1
    have p5 : wrap64 (a * d - c * b) = a * d - c * b := by have := prod_le h12.1 h12.2; simp only [wrap64]; omega
    clear hv i1 i2 h h12
    generalize subA a b c d = r at *
    go_enter Tryd.func30, Tryd.ntmps30
    go_wp2_with fail
    refine name_calls ?_
    intro w1 hww1
    have mAll : Mine w1 w.heap.size 0 (.int .i64 a) ∧ Mine w1 w.heap.size 1 (.int .i64 b) ∧ Mine w1 (w.heap.size + 1) 0 (.int .i64 c) ∧ Mine w1 (w.heap.size + 1) 1 (.int .i64 d) ∧ Mine w1 (w.heap.size + 1 + 1) 0 (.int .i64 0) ∧ Mine w1 (w.heap.size + 1 + 1) 1 (.int .i64 0) := by
      rw [hww1]
      refine ⟨?_, ?_, ?_, ?_, ?_, ?_⟩ <;> (repeat first | with_reducible assumption | with_reducible refine Mine.drew ?_ | with_reducible refine Mine.drewN ?_ _ | ((with_reducible refine Mine.new ?_); rfl) | ((with_reducible refine Mine.newAt ?_ ?_) <;> first | rfl | (simp; done) | (simp only [World.size_alloc]; rfl)) | ((with_reducible refine Mine.set ?_ _); repeat first | exact Mine.slot (by with_reducible assumption) | with_reducible refine MineS.drew ?_ | with_reducible refine MineS.drewN ?_ _ | ((with_reducible refine MineS.new ?_); decide) | ((with_reducible refine MineS.newAt ?_ ?_) <;> first | decide | (simp; done)) | with_reducible refine MineS.set ?_ _ _ _ | with_reducible refine MineS.alloc ?_ _) | with_reducible refine Mine.other ?_ _ (by first | (left; omega) | (right; omega) | (simp; done) | (simp; omega)) | with_reducible refine Mine.alloc ?_ _)
    obtain ⟨m1, m2, m3, m4, m5, m6⟩ := mAll
    have hBzw1 := hB.size
    replace hB : Below w.heap.size w w1 := by rw [hww1]; exact (by repeat first | with_reducible exact Below.refl _ _ | with_reducible assumption | with_reducible refine below_drewN ?_ _ | with_reducible refine Below.drew ?_ | with_reducible refine Below.setCell ?_ (by first | exact Nat.le_refl _ | (simp; done) | (simp; omega) | omega) _ | with_reducible refine Below.alloc ?_ (by first | exact Nat.le_refl _ | (simp; done) | (simp; omega) | omega) _ | exact Below.refl _ _ | assumption)
    clear hww1 hBzw1
    refine (v1.out _).mono ?_
    rintro e w2 ⟨rfl, hb1⟩
    replace m1 := m1.below hb1
    replace m2 := m2.below hb1
    replace m3 := m3.below hb1
    replace m4 := m4.below hb1
    replace m5 := m5.below hb1
    replace m6 := m6.below hb1
    replace hB := hB.trans (hb1.mono hB.size)
    have hb_w2 := hb1
    clear hb1
    have c1 := m1.cell
    have f1 := m1.free
    have l1 := m1.lt
    have c2 := m2.cell
    have f2 := m2.free
    have l2 := m2.lt
    have c3 := m3.cell
    have f3 := m3.free
    have l3 := m3.lt
    have c4 := m4.cell
    have f4 := m4.free
    have l4 := m4.lt
    have c5 := m5.cell
    have f5 := m5.free
    have l5 := m5.lt
    have c6 := m6.cell
    have f6 := m6.free
    have l6 := m6.lt
    go_wp2_with fail
    clear c1 f1 l1
    clear c2 f2 l2
    clear c3 f3 l3
    clear c4 f4 l4
    clear c5 f5 l5
    clear c6 f6 l6
    refine (hK.out _).mono ?_
    rintro e w3 ⟨rfl, hb1⟩
    replace m1 := m1.below hb1
    replace m2 := m2.below hb1
    replace m3 := m3.below hb1
    replace m4 := m4.below hb1
    replace m5 := m5.below hb1
    replace m6 := m6.below hb1
    replace hB := hB.trans (hb1.mono hB.size)
    have hb_w3 := hb1
    clear hb1
    have c5 := m5.cell
    have f5 := m5.free
    have l5 := m5.lt
    have c6 := m6.cell
    have f6 := m6.free
    have l6 := m6.lt
    go_wp2
    clear c5 f5 l5
    clear c6 f6 l6
    refine name_post ?_
    intro w4 hww4
    have mAll : Mine w4 w.heap.size 0 (.int .i64 a) ∧ Mine w4 w.heap.size 1 (.int .i64 b) ∧ Mine w4 (w.heap.size + 1) 0 (.int .i64 c) ∧ Mine w4 (w.heap.size + 1) 1 (.int .i64 d) ∧ Mine w4 (w.heap.size + 1 + 1) 0 (.int .i64 r.1) ∧ Mine w4 (w.heap.size + 1 + 1) 1 (.int .i64 r.2.1) := by
      rw [hww4]
      refine ⟨?_, ?_, ?_, ?_, ?_, ?_⟩ <;> (repeat first | with_reducible assumption | with_reducible refine Mine.drew ?_ | with_reducible refine Mine.drewN ?_ _ | ((with_reducible refine Mine.new ?_); rfl) | ((with_reducible refine Mine.newAt ?_ ?_) <;> first | rfl | (simp; done) | (simp only [World.size_alloc]; rfl)) | ((with_reducible refine Mine.set ?_ _); repeat first | exact Mine.slot (by with_reducible assumption) | with_reducible refine MineS.drew ?_ | with_reducible refine MineS.drewN ?_ _ | ((with_reducible refine MineS.new ?_); decide) | ((with_reducible refine MineS.newAt ?_ ?_) <;> first | decide | (simp; done)) | with_reducible refine MineS.set ?_ _ _ _ | with_reducible refine MineS.alloc ?_ _) | with_reducible refine Mine.other ?_ _ (by first | (left; omega) | (right; omega) | (simp; done) | (simp; omega)) | with_reducible refine Mine.alloc ?_ _)
    clear m1 m2 m3 m4 m5 m6
    obtain ⟨m1, m2, m3, m4, m5, m6⟩ := mAll
    have hBzw4 := hB.size
    replace hB : Below w.heap.size w w4 := by rw [hww4]; exact (by repeat first | with_reducible exact Below.refl _ _ | with_reducible assumption | with_reducible refine below_drewN ?_ _ | with_reducible refine Below.drew ?_ | with_reducible refine Below.setCell ?_ (by first | exact Nat.le_refl _ | (simp; done) | (simp; omega) | omega) _ | with_reducible refine Below.alloc ?_ (by first | exact Nat.le_refl _ | (simp; done) | (simp; omega) | omega) _ | exact Below.refl _ _ | assumption)
    clear hww4 hBzw4
    have e1 := m5.cell
    have e2 := m6.cell
    exact bodyPost_ret (v := .tuple #[rv r.1 r.2.1, .int .i64 r.2.2]) (by simp [results, Tryd.results30, go_sem, e1, e2]) rfl ⟨rfl, hB⟩

set_option maxRecDepth 100000 in
set_option maxHeartbeats 1000000 in
theorem refDiv_any (a b c d : Int) (w : World) (ha : I64 a) (hb : I64 b) (hc : I64 c) (hd : I64 d) :
    Calls Tryd.prog 33 #[rv a b, rv c d] w fun e w' => e = .returned (.tuple #[rv (divA a b c d).1 (divA a b c d).2.1, .int .i64 (divA a b c d).2.2]) ∧ Below w.heap.size w w' := by
  have hB : Below w.heap.size w w := Below.refl _ _
  have v1 := fun w => both_any a b c d w ha hb hc hd
  cases h : (vld a b && vld c d) with
  | false =>
    have hv : Hid (divA a b c d = (0, 0, 30)) := by show _ = _; simp [divA, h]
    simp only [h] at v1
    replace v1 := Lib.hid v1
    generalize divA a b c d = r at *
    go_enter Tryd.func33, Tryd.ntmps33
    go_wp2_with fail
    refine name_calls ?_
    intro w1 hww1
    have mAll : Mine w1 w.heap.size 0 (.int .i64 a) ∧ Mine w1 w.heap.size 1 (.int .i64 b) ∧ Mine w1 (w.heap.size + 1) 0 (.int .i64 c) ∧ Mine w1 (w.heap.size + 1) 1 (.int .i64 d) ∧ Mine w1 (w.heap.size + 1 + 1) 0 (.int .i64 0) ∧ Mine w1 (w.heap.size + 1 + 1) 1 (.int .i64 0) := by
      rw [hww1]
      refine ⟨?_, ?_, ?_, ?_, ?_, ?_⟩ <;> (repeat first | with_reducible assumption | with_reducible refine Mine.drew ?_ | with_reducible refine Mine.drewN ?_ _ | ((with_reducible refine Mine.new ?_); rfl) | ((with_reducible refine Mine.newAt ?_ ?_) <;> first | rfl | (simp; done) | (simp only [World.size_alloc]; rfl)) | ((with_reducible refine Mine.set ?_ _); repeat first | exact Mine.slot (by with_reducible assumption) | with_reducible refine MineS.drew ?_ | with_reducible refine MineS.drewN ?_ _ | ((with_reducible refine MineS.new ?_); decide) | ((with_reducible refine MineS.newAt ?_ ?_) <;> first | decide | (simp; done)) | with_reducible refine MineS.set ?_ _ _ _ | with_reducible refine MineS.alloc ?_ _) | with_reducible refine Mine.other ?_ _ (by first | (left; omega) | (right; omega) | (simp; done) | (simp; omega)) | with_reducible refine Mine.alloc ?_ _)
    obtain ⟨m1, m2, m3, m4, m5, m6⟩ := mAll
    have hBzw1 := hB.size
    replace hB : Below w.heap.size w w1 := by rw [hww1]; exact (by repeat first | with_reducible exact Below.refl _ _ | with_reducible assumption | with_reducible refine below_drewN ?_ _ | with_reducible refine Below.drew ?_ | with_reducible refine Below.setCell ?_ (by first | exact Nat.le_refl _ | (simp; done) | (simp; omega) | omega) _ | with_reducible refine Below.alloc ?_ (by first | exact Nat.le_refl _ | (simp; done) | (simp; omega) | omega) _ | exact Below.refl _ _ | assumption)
    clear hww1 hBzw1
    refine (v1.out _).mono ?_
    rintro e w2 ⟨rfl, hb1⟩
    replace m1 := m1.below hb1
    replace m2 := m2.below hb1
    replace m3 := m3.below hb1
    replace m4 := m4.below hb1
    replace m5 := m5.below hb1
    replace m6 := m6.below hb1
    replace hB := hB.trans (hb1.mono hB.size)
    have hb_w2 := hb1
    clear hb1
    have c1 := m1.cell
    have f1 := m1.free
    have l1 := m1.lt
    have c2 := m2.cell
    have f2 := m2.free
    have l2 := m2.lt
    have c3 := m3.cell
    have f3 := m3.free
    have l3 := m3.lt
    have c4 := m4.cell
    have f4 := m4.free
    have l4 := m4.lt
    have c5 := m5.cell
    have f5 := m5.free
    have l5 := m5.lt
    have c6 := m6.cell
    have f6 := m6.free
    have l6 := m6.lt
    go_wp2
    clear c1 f1 l1
    clear c2 f2 l2
    clear c3 f3 l3
    clear c4 f4 l4
    clear c5 f5 l5
    clear c6 f6 l6
    refine name_post ?_
    intro w4 hww4
    have mAll : Mine w4 w.heap.size 0 (.int .i64 a) ∧ Mine w4 w.heap.size 1 (.int .i64 b) ∧ Mine w4 (w.heap.size + 1) 0 (.int .i64 c) ∧ Mine w4 (w.heap.size + 1) 1 (.int .i64 d) ∧ Mine w4 (w.heap.size + 1 + 1) 0 (.int .i64 0) ∧ Mine w4 (w.heap.size + 1 + 1) 1 (.int .i64 0) := by
      rw [hww4]
      refine ⟨?_, ?_, ?_, ?_, ?_, ?_⟩ <;> (repeat first | with_reducible assumption | with_reducible refine Mine.drew ?_ | with_reducible refine Mine.drewN ?_ _ | ((with_reducible refine Mine.new ?_); rfl) | ((with_reducible refine Mine.newAt ?_ ?_) <;> first | rfl | (simp; done) | (simp only [World.size_alloc]; rfl)) | ((with_reducible refine Mine.set ?_ _); repeat first | exact Mine.slot (by with_reducible assumption) | with_reducible refine MineS.drew ?_ | with_reducible refine MineS.drewN ?_ _ | ((with_reducible refine MineS.new ?_); decide) | ((with_reducible refine MineS.newAt ?_ ?_) <;> first | decide | (simp; done)) | with_reducible refine MineS.set ?_ _ _ _ | with_reducible refine MineS.alloc ?_ _) | with_reducible refine Mine.other ?_ _ (by first | (left; omega) | (right; omega) | (simp; done) | (simp; omega)) | with_reducible refine Mine.alloc ?_ _)
    clear m1 m2 m3 m4 m5 m6
    obtain ⟨m1, m2, m3, m4, m5, m6⟩ := mAll
    have hBzw4 := hB.size
    replace hB : Below w.heap.size w w4 := by rw [hww4]; exact (by repeat first | with_reducible exact Below.refl _ _ | with_reducible assumption | with_reducible refine below_drewN ?_ _ | with_reducible refine Below.drew ?_ | with_reducible refine Below.setCell ?_ (by first | exact Nat.le_refl _ | (simp; done) | (simp; omega) | omega) _ | with_reducible refine Below.alloc ?_ (by first | exact Nat.le_refl _ | (simp; done) | (simp; omega) | omega) _ | exact Below.refl _ _ | assumption)
    clear hww4 hBzw4
    have e1 := m5.cell
    have e2 := m6.cell
    exact bodyPost_ret (v := .tuple #[rv 0 0, .int .i64 30]) (by simp [results, Tryd.results33, go_sem, e1, e2]) rfl ⟨by rw [hv.out], hB⟩
  | true =>
    have h12 : vld a b = true ∧ vld c d = true := by simpa using h
    have hv : divA a b c d = mk (a * d) (b * c) := by simp [divA, h]
    have i1 : I64 (a * d) := ⟨by have := prod_le h12.1 h12.2; omega, by have := prod_le h12.1 h12.2; omega⟩
    have i2 : I64 (b * c) := ⟨by have := prod_le h12.1 h12.2; (rw [Int.mul_comm b c]; omega), by have := prod_le h12.1 h12.2; (rw [Int.mul_comm b c]; omega)⟩
    have hK := fun w => refMake_all (a * d) (b * c) w i1 i2
    rw [← hv] at hK
    simp only [h] at v1
    replace v1 := Lib.hid v1
    replace hK := Lib.hid hK
    have p1 := prod_wrap h12.1 h12.2
    have p2 := prod_wrap_den h12.1 h12.2
    have p3 := (sum_wrap h12.1 h12.2).1
    have p4 := (sum_wrap h12.1 h12.2).2.1
    rw [Int.mul_comm c b] at p4
    clear hv i1 i2 h h12
    generalize divA a b c d = r at *
    go_enter Tryd.func33, Tryd.ntmps33
    go_wp2_with fail
    refine name_calls ?_
    intro w1 hww1
    have mAll : Mine w1 w.heap.size 0 (.int .i64 a) ∧ Mine w1 w.heap.size 1 (.int .i64 b) ∧ Mine w1 (w.heap.size + 1) 0 (.int .i64 c) ∧ Mine w1 (w.heap.size + 1) 1 (.int .i64 d) ∧ Mine w1 (w.heap.size + 1 + 1) 0 (.int .i64 0) ∧ Mine w1 (w.heap.size + 1 + 1) 1 (.int .i64 0) := by
      rw [hww1]
      refine ⟨?_, ?_, ?_, ?_, ?_, ?_⟩ <;> (repeat first | with_reducible assumption | with_reducible refine Mine.drew ?_ | with_reducible refine Mine.drewN ?_ _ | ((with_reducible refine Mine.new ?_); rfl) | ((with_reducible refine Mine.newAt ?_ ?_) <;> first | rfl | (simp; done) | (simp only [World.size_alloc]; rfl)) | ((with_reducible refine Mine.set ?_ _); repeat first | exact Mine.slot (by with_reducible assumption) | with_reducible refine MineS.drew ?_ | with_reducible refine MineS.drewN ?_ _ | ((with_reducible refine MineS.new ?_); decide) | ((with_reducible refine MineS.newAt ?_ ?_) <;> first | decide | (simp; done)) | with_reducible refine MineS.set ?_ _ _ _ | with_reducible refine MineS.alloc ?_ _) | with_reducible refine Mine.other ?_ _ (by first | (left; omega) | (right; omega) | (simp; done) | (simp; omega)) | with_reducible refine Mine.alloc ?_ _)
    obtain ⟨m1, m2, m3, m4, m5, m6⟩ := mAll
    have hBzw1 := hB.size
    replace hB : Below w.heap.size w w1 := by rw [hww1]; exact (by repeat first | with_reducible exact Below.refl _ _ | with_reducible assumption | with_reducible refine below_drewN ?_ _ | with_reducible refine Below.drew ?_ | with_reducible refine Below.setCell ?_ (by first | exact Nat.le_refl _ | (simp; done) | (simp; omega) | omega) _ | with_reducible refine Below.alloc ?_ (by first | exact Nat.le_refl _ | (simp; done) | (simp; omega) | omega) _ | exact Below.refl _ _ | assumption)
    clear hww1 hBzw1
    refine (v1.out _).mono ?_
    rintro e w2 ⟨rfl, hb1⟩
    replace m1 := m1.below hb1
    replace m2 := m2.below hb1
    replace m3 := m3.below hb1
    replace m4 := m4.below hb1
    replace m5 := m5.below hb1
    replace m6 := m6.below hb1
    replace hB := hB.trans (hb1.mono hB.size)
    have hb_w2 := hb1
    clear hb1
    have c1 := m1.cell
    have f1 := m1.free
    have l1 := m1.lt
    have c2 := m2.cell
    have f2 := m2.free
    have l2 := m2.lt
    have c3 := m3.cell
    have f3 := m3.free
    have l3 := m3.lt
    have c4 := m4.cell
    have f4 := m4.free
    have l4 := m4.lt
    have c5 := m5.cell
    have f5 := m5.free
    have l5 := m5.lt
    have c6 := m6.cell
    have f6 := m6.free
    have l6 := m6.lt
    go_wp2_with fail
    clear c1 f1 l1
    clear c2 f2 l2
    clear c3 f3 l3
    clear c4 f4 l4
    clear c5 f5 l5
    clear c6 f6 l6
    refine (hK.out _).mono ?_
    rintro e w3 ⟨rfl, hb1⟩
    replace m1 := m1.below hb1
    replace m2 := m2.below hb1
    replace m3 := m3.below hb1
    replace m4 := m4.below hb1
    replace m5 := m5.below hb1
    replace m6 := m6.below hb1
    replace hB := hB.trans (hb1.mono hB.size)
    have hb_w3 := hb1
    clear hb1
    have c5 := m5.cell
    have f5 := m5.free
    have l5 := m5.lt
    have c6 := m6.cell
    have f6 := m6.free
    have l6 := m6.lt
    go_wp2
    clear c5 f5 l5
    clear c6 f6 l6
    refine name_post ?_
    intro w4 hww4
    have mAll : Mine w4 w.heap.size 0 (.int .i64 a) ∧ Mine w4 w.heap.size 1 (.int .i64 b) ∧ Mine w4 (w.heap.size + 1) 0 (.int .i64 c) ∧ Mine w4 (w.heap.size + 1) 1 (.int .i64 d) ∧ Mine w4 (w.heap.size + 1 + 1) 0 (.int .i64 r.1) ∧ Mine w4 (w.heap.size + 1 + 1) 1 (.int .i64 r.2.1) := by
      rw [hww4]
      refine ⟨?_, ?_, ?_, ?_, ?_, ?_⟩ <;> (repeat first | with_reducible assumption | with_reducible refine Mine.drew ?_ | with_reducible refine Mine.drewN ?_ _ | ((with_reducible refine Mine.new ?_); rfl) | ((with_reducible refine Mine.newAt ?_ ?_) <;> first | rfl | (simp; done) | (simp only [World.size_alloc]; rfl)) | ((with_reducible refine Mine.set ?_ _); repeat first | exact Mine.slot (by with_reducible assumption) | with_reducible refine MineS.drew ?_ | with_reducible refine MineS.drewN ?_ _ | ((with_reducible refine MineS.new ?_); decide) | ((with_reducible refine MineS.newAt ?_ ?_) <;> first | decide | (simp; done)) | with_reducible refine MineS.set ?_ _ _ _ | with_reducible refine MineS.alloc ?_ _) | with_reducible refine Mine.other ?_ _ (by first | (left; omega) | (right; omega) | (simp; done) | (simp; omega)) | with_reducible refine Mine.alloc ?_ _)
    clear m1 m2 m3 m4 m5 m6
    obtain ⟨m1, m2, m3, m4, m5, m6⟩ := mAll
    have hBzw4 := hB.size
    replace hB : Below w.heap.size w w4 := by rw [hww4]; exact (by repeat first | with_reducible exact Below.refl _ _ | with_reducible assumption | with_reducible refine below_drewN ?_ _ | with_reducible refine Below.drew ?_ | with_reducible refine Below.setCell ?_ (by first | exact Nat.le_refl _ | (simp; done) | (simp; omega) | omega) _ | with_reducible refine Below.alloc ?_ (by first | exact Nat.le_refl _ | (simp; done) | (simp; omega) | omega) _ | exact Below.refl _ _ | assumption)
    clear hww4 hBzw4
    have e1 := m5.cell
    have e2 := m6.cell
    exact bodyPost_ret (v := .tuple #[rv r.1 r.2.1, .int .i64 r.2.2]) (by simp [results, Tryd.results33, go_sem, e1, e2]) rfl ⟨rfl, hB⟩

theorem refValid_b (n d : Int) (w : World) (hn : I64 n) (hd : I64 d) :
    Calls Tryd.prog 35 #[rv n d] w fun e w' => e = .returned (.bool (vld n d)) ∧ Below w.heap.size w w' :=
  (refValid_any n d w hn hd).mono fun _ _ ⟨he, k, hw⟩ => ⟨he, by rw [hw]; exact below_drewN ((Below.refl _ _).alloc (Nat.le_refl _) _) k⟩

theorem tdiv_floor {n d : Int} (hd : 0 < d) : n / d = if n.tmod d < 0 then n.tdiv d - 1 else n.tdiv d := by
  have h1 := Int.mul_ediv_add_emod n d
  have h2 := Int.emod_nonneg n (show d ≠ 0 by omega)
  have h3 := Int.emod_lt_of_pos n hd
  have h4 := Int.mul_tdiv_add_tmod n d
  by_cases h : n.tmod d < 0
  · rw [if_pos h]
    have h5 : n < 0 := by
      apply Classical.byContradiction; intro hc
      have := Int.tmod_nonneg d (show 0 ≤ n by omega); omega
    have h6 : -d < n.tmod d := by have := Int.lt_tmod_of_pos n hd; omega
    have e : n = (n.tmod d + d) + d * (n.tdiv d - 1) := by rw [Int.mul_sub]; omega
    have e2 : n / d = (n.tmod d + d) / d + (n.tdiv d - 1) := by
      conv => lhs; rw [e]
      rw [Int.add_mul_ediv_left _ _ (by omega)]
    rw [e2, Int.ediv_eq_zero_of_lt (by omega) (by omega)]; omega
  · rw [if_neg h]
    have h6 : n.tmod d < d := Int.tmod_lt_of_pos n hd
    have e : n = n.tmod d + d * (n.tdiv d) := by omega
    have e2 : n / d = n.tmod d / d + n.tdiv d := by
      conv => lhs; rw [e]
      rw [Int.add_mul_ediv_left _ _ (by omega)]
    rw [e2, Int.ediv_eq_zero_of_lt (by omega) (by omega)]; omega
theorem tdiv_bound {n d : Int} (h1 : -2000000001000000000 ≤ n) (h2 : n ≤ 2000000001000000000) : -2000000001000000000 ≤ n.tdiv d ∧ n.tdiv d ≤ 2000000001000000000 := by
  have := Int.natAbs_tdiv_le_natAbs n d
  omega

set_option maxHeartbeats 400000 in
theorem reffloor_any (n d : Int) (w : World) (hn1 : -2000000001000000000 ≤ n) (hn2 : n ≤ 2000000001000000000) (hd1 : 0 < d) :
    Calls Tryd.prog 58 #[.int .i64 n, .int .i64 d] w fun e w' => e = .returned (.int .i64 (n / d)) ∧ w' = w := by
  have hf := tdiv_floor (n := n) hd1
  have hb := tdiv_bound (d := d) hn1 hn2
  have h0 : ¬ d = 0 := by omega
  have hw : wrap64 (n.tdiv d) = n.tdiv d := by simp only [wrap64]; omega
  by_cases h : n.tmod d < 0
  · rw [if_pos h] at hf
    have hd : decide (n.tmod d < 0) = true := by simpa using h
    have hw2 : wrap64 (n.tdiv d - 1) = n.tdiv d - 1 := by simp only [wrap64]; omega
    replace hf := Lib.hid hf
    go_enter Tryd.func58, Tryd.ntmps58
    go_wp2
    go_ret
    exact ⟨ret_i64 hf.out.symm, rfl⟩
  · rw [if_neg h] at hf
    have hd : decide (n.tmod d < 0) = false := by simpa using h
    replace hf := Lib.hid hf
    go_enter Tryd.func58, Tryd.ntmps58
    go_wp2
    go_ret
    exact ⟨ret_i64 hf.out.symm, rfl⟩

set_option maxHeartbeats 1000000 in
theorem refFloor_any (n d : Int) (w : World) (hn : I64 n) (hd : I64 d) :
    Calls Tryd.prog 37 #[rv n d] w fun e w' => e = .returned (.int .i64 (floorv n d)) ∧ Below w.heap.size w w' := by
  have hB : Below w.heap.size w w := Below.refl _ _
  have hV := Lib.hid (fun w => refValid_b n d w hn hd)
  by_cases h : vld n d = true
  · have hv : Hid (floorv n d = n / d) := by show _ = _; simp [floorv, h]
    have b1 := I64.of_vld_num h
    have b2 := I64.of_vld_den h
    replace h := Lib.hid h
    go_enter Tryd.func37, Tryd.ntmps37
    go_wp2_with fail
    refine name_calls ?_
    intro w1 hww1
    have mAll : Mine w1 w.heap.size 0 (.int .i64 n) ∧ Mine w1 w.heap.size 1 (.int .i64 d) := by
      rw [hww1]
      refine ⟨?_, ?_⟩ <;> (repeat first | with_reducible assumption | with_reducible refine Mine.drew ?_ | with_reducible refine Mine.drewN ?_ _ | ((with_reducible refine Mine.new ?_); rfl) | ((with_reducible refine Mine.newAt ?_ ?_) <;> first | rfl | (simp; done) | (simp only [World.size_alloc]; rfl)) | ((with_reducible refine Mine.set ?_ _); repeat first | exact Mine.slot (by with_reducible assumption) | with_reducible refine MineS.drew ?_ | with_reducible refine MineS.drewN ?_ _ | ((with_reducible refine MineS.new ?_); decide) | ((with_reducible refine MineS.newAt ?_ ?_) <;> first | decide | (simp; done)) | with_reducible refine MineS.set ?_ _ _ _ | with_reducible refine MineS.alloc ?_ _) | with_reducible refine Mine.other ?_ _ (by first | (left; omega) | (right; omega) | (simp; done) | (simp; omega)) | with_reducible refine Mine.alloc ?_ _)
    obtain ⟨m1, m2⟩ := mAll
    have hBzw1 := hB.size
    replace hB : Below w.heap.size w w1 := by rw [hww1]; exact (by repeat first | with_reducible exact Below.refl _ _ | with_reducible assumption | with_reducible refine below_drewN ?_ _ | with_reducible refine Below.drew ?_ | with_reducible refine Below.setCell ?_ (by first | exact Nat.le_refl _ | (simp; done) | (simp; omega) | omega) _ | with_reducible refine Below.alloc ?_ (by first | exact Nat.le_refl _ | (simp; done) | (simp; omega) | omega) _ | exact Below.refl _ _ | assumption)
    clear hww1 hBzw1
    refine (hV.out _).mono ?_
    rintro e w2 ⟨rfl, hb1⟩
    replace m1 := m1.below hb1
    replace m2 := m2.below hb1
    replace hB := hB.trans (hb1.mono hB.size)
    have hb_w2 := hb1
    clear hb1
    rw [h.out]
    have c1 := m1.cell
    have f1 := m1.free
    have l1 := m1.lt
    have c2 := m2.cell
    have f2 := m2.free
    have l2 := m2.lt
    go_wp2_with fail
    refine (reffloor_any _ _ _ (by omega) (by omega) (by omega)).mono ?_; rintro e wz ⟨rfl, rfl⟩
    go_wp2
    go_ret
    exact ⟨ret_i64 hv.out.symm, hB⟩
  · have h' : vld n d = false := by simpa using h
    have hv : Hid (floorv n d = 0) := by show _ = _; simp [floorv, h']
    replace h' := Lib.hid h'
    clear h
    go_enter Tryd.func37, Tryd.ntmps37
    go_wp2_with fail
    refine name_calls ?_
    intro w1 hww1
    have hBzw1 := hB.size
    replace hB : Below w.heap.size w w1 := by rw [hww1]; exact (by repeat first | with_reducible exact Below.refl _ _ | with_reducible assumption | with_reducible refine below_drewN ?_ _ | with_reducible refine Below.drew ?_ | with_reducible refine Below.setCell ?_ (by first | exact Nat.le_refl _ | (simp; done) | (simp; omega) | omega) _ | with_reducible refine Below.alloc ?_ (by first | exact Nat.le_refl _ | (simp; done) | (simp; omega) | omega) _ | exact Below.refl _ _ | assumption)
    clear hww1 hBzw1
    refine (hV.out _).mono ?_
    rintro e w2 ⟨rfl, hb1⟩
    replace hB := hB.trans (hb1.mono hB.size)
    have hb_w2 := hb1
    clear hb1
    rw [h'.out]
    go_wp2
    go_ret
    exact ⟨ret_i64 hv.out.symm, hB⟩

set_option maxRecDepth 100000 in
set_option maxHeartbeats 1000000 in
theorem refRound_any (a b k : Int) (w : World) (ha : I64 a) (hb : I64 b) :
    Calls Tryd.prog 34 #[rv a b, .int .i64 k] w fun e w' => e = .returned (.tuple #[rv (roundA a b k).1 (roundA a b k).2.1, .int .i64 (roundA a b k).2.2]) ∧ Below w.heap.size w w' := by
  have hB : Below w.heap.size w w := Below.refl _ _
  have v1 := fun w => refValid_b a b w ha hb
  by_cases h : vld a b = false
  · have hv : Hid (roundA a b k = (0, 0, 30)) := by show _ = _; simp [roundA, h]
    simp only [h] at v1
    replace v1 := Lib.hid v1
    generalize roundA a b k = r at *
    go_enter Tryd.func34, Tryd.ntmps34
    go_wp2_with fail
    refine name_calls ?_
    intro w1 hww1
    have mAll : Mine w1 w.heap.size 0 (.int .i64 a) ∧ Mine w1 w.heap.size 1 (.int .i64 b) ∧ Mine w1 (w.heap.size + 1) 0 (.int .i64 0) ∧ Mine w1 (w.heap.size + 1) 1 (.int .i64 0) := by
      rw [hww1]
      refine ⟨?_, ?_, ?_, ?_⟩ <;> (repeat first | with_reducible assumption | with_reducible refine Mine.drew ?_ | with_reducible refine Mine.drewN ?_ _ | ((with_reducible refine Mine.new ?_); rfl) | ((with_reducible refine Mine.newAt ?_ ?_) <;> first | rfl | (simp; done) | (simp only [World.size_alloc]; rfl)) | ((with_reducible refine Mine.set ?_ _); repeat first | exact Mine.slot (by with_reducible assumption) | with_reducible refine MineS.drew ?_ | with_reducible refine MineS.drewN ?_ _ | ((with_reducible refine MineS.new ?_); decide) | ((with_reducible refine MineS.newAt ?_ ?_) <;> first | decide | (simp; done)) | with_reducible refine MineS.set ?_ _ _ _ | with_reducible refine MineS.alloc ?_ _) | with_reducible refine Mine.other ?_ _ (by first | (left; omega) | (right; omega) | (simp; done) | (simp; omega)) | with_reducible refine Mine.alloc ?_ _)
    obtain ⟨m1, m2, m5, m6⟩ := mAll
    have hBzw1 := hB.size
    replace hB : Below w.heap.size w w1 := by rw [hww1]; exact (by repeat first | with_reducible exact Below.refl _ _ | with_reducible assumption | with_reducible refine below_drewN ?_ _ | with_reducible refine Below.drew ?_ | with_reducible refine Below.setCell ?_ (by first | exact Nat.le_refl _ | (simp; done) | (simp; omega) | omega) _ | with_reducible refine Below.alloc ?_ (by first | exact Nat.le_refl _ | (simp; done) | (simp; omega) | omega) _ | exact Below.refl _ _ | assumption)
    clear hww1 hBzw1
    refine (v1.out _).mono ?_
    rintro e w2 ⟨rfl, hb1⟩
    replace m1 := m1.below hb1
    replace m2 := m2.below hb1
    replace m5 := m5.below hb1
    replace m6 := m6.below hb1
    replace hB := hB.trans (hb1.mono hB.size)
    have hb_w2 := hb1
    clear hb1
    have c1 := m1.cell
    have f1 := m1.free
    have l1 := m1.lt
    have c2 := m2.cell
    have f2 := m2.free
    have l2 := m2.lt
    have c5 := m5.cell
    have f5 := m5.free
    have l5 := m5.lt
    have c6 := m6.cell
    have f6 := m6.free
    have l6 := m6.lt
    go_wp2
    clear c1 f1 l1
    clear c2 f2 l2
    clear c5 f5 l5
    clear c6 f6 l6
    refine name_post ?_
    intro w4 hww4
    have mAll : Mine w4 w.heap.size 0 (.int .i64 a) ∧ Mine w4 w.heap.size 1 (.int .i64 b) ∧ Mine w4 (w.heap.size + 1) 0 (.int .i64 0) ∧ Mine w4 (w.heap.size + 1) 1 (.int .i64 0) := by
      rw [hww4]
      refine ⟨?_, ?_, ?_, ?_⟩ <;> (repeat first | with_reducible assumption | with_reducible refine Mine.drew ?_ | with_reducible refine Mine.drewN ?_ _ | ((with_reducible refine Mine.new ?_); rfl) | ((with_reducible refine Mine.newAt ?_ ?_) <;> first | rfl | (simp; done) | (simp only [World.size_alloc]; rfl)) | ((with_reducible refine Mine.set ?_ _); repeat first | exact Mine.slot (by with_reducible assumption) | with_reducible refine MineS.drew ?_ | with_reducible refine MineS.drewN ?_ _ | ((with_reducible refine MineS.new ?_); decide) | ((with_reducible refine MineS.newAt ?_ ?_) <;> first | decide | (simp; done)) | with_reducible refine MineS.set ?_ _ _ _ | with_reducible refine MineS.alloc ?_ _) | with_reducible refine Mine.other ?_ _ (by first | (left; omega) | (right; omega) | (simp; done) | (simp; omega)) | with_reducible refine Mine.alloc ?_ _)
    clear m1 m2 m5 m6
    obtain ⟨m1, m2, m5, m6⟩ := mAll
    have hBzw4 := hB.size
    replace hB : Below w.heap.size w w4 := by rw [hww4]; exact (by repeat first | with_reducible exact Below.refl _ _ | with_reducible assumption | with_reducible refine below_drewN ?_ _ | with_reducible refine Below.drew ?_ | with_reducible refine Below.setCell ?_ (by first | exact Nat.le_refl _ | (simp; done) | (simp; omega) | omega) _ | with_reducible refine Below.alloc ?_ (by first | exact Nat.le_refl _ | (simp; done) | (simp; omega) | omega) _ | exact Below.refl _ _ | assumption)
    clear hww4 hBzw4
    have e1 := m5.cell
    have e2 := m6.cell
    exact bodyPost_ret (v := .tuple #[rv 0 0, .int .i64 30]) (by simp [results, Tryd.results34, go_sem, e1, e2]) rfl ⟨by rw [hv.out], hB⟩
  replace h : vld a b = true := by simpa using h
  by_cases h1 : k < 1
  · have hv : Hid (roundA a b k = (0, 0, 30)) := by show _ = _; simp [roundA, h]; omega
    simp only [h] at v1
    replace v1 := Lib.hid v1
    generalize roundA a b k = r at *
    have d1 : decide (k < 1) = true := by simpa using h1
    go_enter Tryd.func34, Tryd.ntmps34
    go_wp2_with fail
    refine name_calls ?_
    intro w1 hww1
    have mAll : Mine w1 w.heap.size 0 (.int .i64 a) ∧ Mine w1 w.heap.size 1 (.int .i64 b) ∧ Mine w1 (w.heap.size + 1) 0 (.int .i64 0) ∧ Mine w1 (w.heap.size + 1) 1 (.int .i64 0) := by
      rw [hww1]
      refine ⟨?_, ?_, ?_, ?_⟩ <;> (repeat first | with_reducible assumption | with_reducible refine Mine.drew ?_ | with_reducible refine Mine.drewN ?_ _ | ((with_reducible refine Mine.new ?_); rfl) | ((with_reducible refine Mine.newAt ?_ ?_) <;> first | rfl | (simp; done) | (simp only [World.size_alloc]; rfl)) | ((with_reducible refine Mine.set ?_ _); repeat first | exact Mine.slot (by with_reducible assumption) | with_reducible refine MineS.drew ?_ | with_reducible refine MineS.drewN ?_ _ | ((with_reducible refine MineS.new ?_); decide) | ((with_reducible refine MineS.newAt ?_ ?_) <;> first | decide | (simp; done)) | with_reducible refine MineS.set ?_ _ _ _ | with_reducible refine MineS.alloc ?_ _) | with_reducible refine Mine.other ?_ _ (by first | (left; omega) | (right; omega) | (simp; done) | (simp; omega)) | with_reducible refine Mine.alloc ?_ _)
    obtain ⟨m1, m2, m5, m6⟩ := mAll
    have hBzw1 := hB.size
    replace hB : Below w.heap.size w w1 := by rw [hww1]; exact (by repeat first | with_reducible exact Below.refl _ _ | with_reducible assumption | with_reducible refine below_drewN ?_ _ | with_reducible refine Below.drew ?_ | with_reducible refine Below.setCell ?_ (by first | exact Nat.le_refl _ | (simp; done) | (simp; omega) | omega) _ | with_reducible refine Below.alloc ?_ (by first | exact Nat.le_refl _ | (simp; done) | (simp; omega) | omega) _ | exact Below.refl _ _ | assumption)
    clear hww1 hBzw1
    refine (v1.out _).mono ?_
    rintro e w2 ⟨rfl, hb1⟩
    replace m1 := m1.below hb1
    replace m2 := m2.below hb1
    replace m5 := m5.below hb1
    replace m6 := m6.below hb1
    replace hB := hB.trans (hb1.mono hB.size)
    have hb_w2 := hb1
    clear hb1
    have c1 := m1.cell
    have f1 := m1.free
    have l1 := m1.lt
    have c2 := m2.cell
    have f2 := m2.free
    have l2 := m2.lt
    have c5 := m5.cell
    have f5 := m5.free
    have l5 := m5.lt
    have c6 := m6.cell
    have f6 := m6.free
    have l6 := m6.lt
    go_wp2
    clear c1 f1 l1
    clear c2 f2 l2
    clear c5 f5 l5
    clear c6 f6 l6
    refine name_post ?_
    intro w4 hww4
    have mAll : Mine w4 w.heap.size 0 (.int .i64 a) ∧ Mine w4 w.heap.size 1 (.int .i64 b) ∧ Mine w4 (w.heap.size + 1) 0 (.int .i64 0) ∧ Mine w4 (w.heap.size + 1) 1 (.int .i64 0) := by
      rw [hww4]
      refine ⟨?_, ?_, ?_, ?_⟩ <;> (repeat first | with_reducible assumption | with_reducible refine Mine.drew ?_ | with_reducible refine Mine.drewN ?_ _ | ((with_reducible refine Mine.new ?_); rfl) | ((with_reducible refine Mine.newAt ?_ ?_) <;> first | rfl | (simp; done) | (simp only [World.size_alloc]; rfl)) | ((with_reducible refine Mine.set ?_ _); repeat first | exact Mine.slot (by with_reducible assumption) | with_reducible refine MineS.drew ?_ | with_reducible refine MineS.drewN ?_ _ | ((with_reducible refine MineS.new ?_); decide) | ((with_reducible refine MineS.newAt ?_ ?_) <;> first | decide | (simp; done)) | with_reducible refine MineS.set ?_ _ _ _ | with_reducible refine MineS.alloc ?_ _) | with_reducible refine Mine.other ?_ _ (by first | (left; omega) | (right; omega) | (simp; done) | (simp; omega)) | with_reducible refine Mine.alloc ?_ _)
    clear m1 m2 m5 m6
    obtain ⟨m1, m2, m5, m6⟩ := mAll
    have hBzw4 := hB.size
    replace hB : Below w.heap.size w w4 := by rw [hww4]; exact (by repeat first | with_reducible exact Below.refl _ _ | with_reducible assumption | with_reducible refine below_drewN ?_ _ | with_reducible refine Below.drew ?_ | with_reducible refine Below.setCell ?_ (by first | exact Nat.le_refl _ | (simp; done) | (simp; omega) | omega) _ | with_reducible refine Below.alloc ?_ (by first | exact Nat.le_refl _ | (simp; done) | (simp; omega) | omega) _ | exact Below.refl _ _ | assumption)
    clear hww4 hBzw4
    have e1 := m5.cell
    have e2 := m6.cell
    exact bodyPost_ret (v := .tuple #[rv 0 0, .int .i64 30]) (by simp [results, Tryd.results34, go_sem, e1, e2]) rfl ⟨by rw [hv.out], hB⟩
  by_cases h2 : 1000000000 < k
  · have hv : Hid (roundA a b k = (0, 0, 30)) := by show _ = _; simp [roundA, h]; omega
    simp only [h] at v1
    replace v1 := Lib.hid v1
    generalize roundA a b k = r at *
    have d1 : decide (k < 1) = false := by simpa using h1
    have d2 : decide (1000000000 < k) = true := by simpa using h2
    go_enter Tryd.func34, Tryd.ntmps34
    go_wp2_with fail
    refine name_calls ?_
    intro w1 hww1
    have mAll : Mine w1 w.heap.size 0 (.int .i64 a) ∧ Mine w1 w.heap.size 1 (.int .i64 b) ∧ Mine w1 (w.heap.size + 1) 0 (.int .i64 0) ∧ Mine w1 (w.heap.size + 1) 1 (.int .i64 0) := by
      rw [hww1]
      refine ⟨?_, ?_, ?_, ?_⟩ <;> (repeat first | with_reducible assumption | with_reducible refine Mine.drew ?_ | with_reducible refine Mine.drewN ?_ _ | ((with_reducible refine Mine.new ?_); rfl) | ((with_reducible refine Mine.newAt ?_ ?_) <;> first | rfl | (simp; done) | (simp only [World.size_alloc]; rfl)) | ((with_reducible refine Mine.set ?_ _); repeat first | exact Mine.slot (by with_reducible assumption) | with_reducible refine MineS.drew ?_ | with_reducible refine MineS.drewN ?_ _ | ((with_reducible refine MineS.new ?_); decide) | ((with_reducible refine MineS.newAt ?_ ?_) <;> first | decide | (simp; done)) | with_reducible refine MineS.set ?_ _ _ _ | with_reducible refine MineS.alloc ?_ _) | with_reducible refine Mine.other ?_ _ (by first | (left; omega) | (right; omega) | (simp; done) | (simp; omega)) | with_reducible refine Mine.alloc ?_ _)
    obtain ⟨m1, m2, m5, m6⟩ := mAll
    have hBzw1 := hB.size
    replace hB : Below w.heap.size w w1 := by rw [hww1]; exact (by repeat first | with_reducible exact Below.refl _ _ | with_reducible assumption | with_reducible refine below_drewN ?_ _ | with_reducible refine Below.drew ?_ | with_reducible refine Below.setCell ?_ (by first | exact Nat.le_refl _ | (simp; done) | (simp; omega) | omega) _ | with_reducible refine Below.alloc ?_ (by first | exact Nat.le_refl _ | (simp; done) | (simp; omega) | omega) _ | exact Below.refl _ _ | assumption)
    clear hww1 hBzw1
    refine (v1.out _).mono ?_
    rintro e w2 ⟨rfl, hb1⟩
    replace m1 := m1.below hb1
    replace m2 := m2.below hb1
    replace m5 := m5.below hb1
    replace m6 := m6.below hb1
    replace hB := hB.trans (hb1.mono hB.size)
    have hb_w2 := hb1
    clear hb1
    have c1 := m1.cell
    have f1 := m1.free
    have l1 := m1.lt
    have c2 := m2.cell
    have f2 := m2.free
    have l2 := m2.lt
    have c5 := m5.cell
    have f5 := m5.free
    have l5 := m5.lt
    have c6 := m6.cell
    have f6 := m6.free
    have l6 := m6.lt
    go_wp2
    clear c1 f1 l1
    clear c2 f2 l2
    clear c5 f5 l5
    clear c6 f6 l6
    refine name_post ?_
    intro w4 hww4
    have mAll : Mine w4 w.heap.size 0 (.int .i64 a) ∧ Mine w4 w.heap.size 1 (.int .i64 b) ∧ Mine w4 (w.heap.size + 1) 0 (.int .i64 0) ∧ Mine w4 (w.heap.size + 1) 1 (.int .i64 0) := by
      rw [hww4]
      refine ⟨?_, ?_, ?_, ?_⟩ <;> (repeat first | with_reducible assumption | with_reducible refine Mine.drew ?_ | with_reducible refine Mine.drewN ?_ _ | ((with_reducible refine Mine.new ?_); rfl) | ((with_reducible refine Mine.newAt ?_ ?_) <;> first | rfl | (simp; done) | (simp only [World.size_alloc]; rfl)) | ((with_reducible refine Mine.set ?_ _); repeat first | exact Mine.slot (by with_reducible assumption) | with_reducible refine MineS.drew ?_ | with_reducible refine MineS.drewN ?_ _ | ((with_reducible refine MineS.new ?_); decide) | ((with_reducible refine MineS.newAt ?_ ?_) <;> first | decide | (simp; done)) | with_reducible refine MineS.set ?_ _ _ _ | with_reducible refine MineS.alloc ?_ _) | with_reducible refine Mine.other ?_ _ (by first | (left; omega) | (right; omega) | (simp; done) | (simp; omega)) | with_reducible refine Mine.alloc ?_ _)
    clear m1 m2 m5 m6
    obtain ⟨m1, m2, m5, m6⟩ := mAll
    have hBzw4 := hB.size
    replace hB : Below w.heap.size w w4 := by rw [hww4]; exact (by repeat first | with_reducible exact Below.refl _ _ | with_reducible assumption | with_reducible refine below_drewN ?_ _ | with_reducible refine Below.drew ?_ | with_reducible refine Below.setCell ?_ (by first | exact Nat.le_refl _ | (simp; done) | (simp; omega) | omega) _ | with_reducible refine Below.alloc ?_ (by first | exact Nat.le_refl _ | (simp; done) | (simp; omega) | omega) _ | exact Below.refl _ _ | assumption)
    clear hww4 hBzw4
    have e1 := m5.cell
    have e2 := m6.cell
    exact bodyPost_ret (v := .tuple #[rv 0 0, .int .i64 30]) (by simp [results, Tryd.results34, go_sem, e1, e2]) rfl ⟨by rw [hv.out], hB⟩
  · have hv : roundA a b k = mk (rkv a b k) k := by
      have e1 : (1 ≤ k) := by omega
      have e2 : (k ≤ 1000000000) := by omega
      simp [roundA, h, e1, e2]
    have i1 : I64 (rkv a b k) := rkv_le h ⟨by omega, by omega⟩
    have hK := fun w => refMake_all (rkv a b k) k w i1 ⟨by omega, by omega⟩
    rw [← hv] at hK
    have b1 := I64.of_vld_num h
    have b2 := I64.of_vld_den h
    have b3 := rk_bounds h ⟨show 1 ≤ k by omega, show k ≤ 1000000000 by omega⟩
    have r1 : wrap64 (2 * a) = 2 * a := by simp [wrap64]; omega
    have r2 : wrap64 (2 * b) = 2 * b := by simp [wrap64]; omega
    have r3 : wrap64 (2 * a * k) = 2 * a * k := by simp [wrap64]; omega
    have r4 : wrap64 (2 * a * k + b) = 2 * a * k + b := by simp [wrap64]; omega
    have g1 : -2000000001000000000 ≤ 2 * a * k + b := by omega
    have g2 : 2 * a * k + b ≤ 2000000001000000000 := by omega
    have g3 : 0 < 2 * b := by omega
    unfold rkv at hK
    have hFl := Lib.hid (fun w => reffloor_any (2 * a * k + b) (2 * b) w g1 g2 g3)
    simp only [h] at v1
    replace v1 := Lib.hid v1
    replace hK := Lib.hid hK
    have d1 : decide (k < 1) = false := by simpa using h1
    have d2 : decide (1000000000 < k) = false := by simpa using h2
    clear hv i1 b1 b2 b3 g1 g2 g3 h
    generalize roundA a b k = r at *
    go_enter Tryd.func34, Tryd.ntmps34
    go_wp2_with fail
    refine name_calls ?_
    intro w1 hww1
    have mAll : Mine w1 w.heap.size 0 (.int .i64 a) ∧ Mine w1 w.heap.size 1 (.int .i64 b) ∧ Mine w1 (w.heap.size + 1) 0 (.int .i64 0) ∧ Mine w1 (w.heap.size + 1) 1 (.int .i64 0) := by
      rw [hww1]
      refine ⟨?_, ?_, ?_, ?_⟩ <;> (repeat first | with_reducible assumption | with_reducible refine Mine.drew ?_ | with_reducible refine Mine.drewN ?_ _ | ((with_reducible refine Mine.new ?_); rfl) | ((with_reducible refine Mine.newAt ?_ ?_) <;> first | rfl | (simp; done) | (simp only [World.size_alloc]; rfl)) | ((with_reducible refine Mine.set ?_ _); repeat first | exact Mine.slot (by with_reducible assumption) | with_reducible refine MineS.drew ?_ | with_reducible refine MineS.drewN ?_ _ | ((with_reducible refine MineS.new ?_); decide) | ((with_reducible refine MineS.newAt ?_ ?_) <;> first | decide | (simp; done)) | with_reducible refine MineS.set ?_ _ _ _ | with_reducible refine MineS.alloc ?_ _) | with_reducible refine Mine.other ?_ _ (by first | (left; omega) | (right; omega) | (simp; done) | (simp; omega)) | with_reducible refine Mine.alloc ?_ _)
    obtain ⟨m1, m2, m5, m6⟩ := mAll
    have hBzw1 := hB.size
    replace hB : Below w.heap.size w w1 := by rw [hww1]; exact (by repeat first | with_reducible exact Below.refl _ _ | with_reducible assumption | with_reducible refine below_drewN ?_ _ | with_reducible refine Below.drew ?_ | with_reducible refine Below.setCell ?_ (by first | exact Nat.le_refl _ | (simp; done) | (simp; omega) | omega) _ | with_reducible refine Below.alloc ?_ (by first | exact Nat.le_refl _ | (simp; done) | (simp; omega) | omega) _ | exact Below.refl _ _ | assumption)
    clear hww1 hBzw1
    refine (v1.out _).mono ?_
    rintro e w2 ⟨rfl, hb1⟩
    replace m1 := m1.below hb1
    replace m2 := m2.below hb1
    replace m5 := m5.below hb1
    replace m6 := m6.below hb1
    replace hB := hB.trans (hb1.mono hB.size)
    have hb_w2 := hb1
    clear hb1
    have c1 := m1.cell
    have f1 := m1.free
    have l1 := m1.lt
    have c2 := m2.cell
    have f2 := m2.free
    have l2 := m2.lt
    have c5 := m5.cell
    have f5 := m5.free
    have l5 := m5.lt
    have c6 := m6.cell
    have f6 := m6.free
    have l6 := m6.lt
    go_wp2_with fail
    clear c1 f1 l1
    clear c2 f2 l2
    clear c5 f5 l5
    clear c6 f6 l6
    refine (hFl.out _).mono ?_; rintro e wz ⟨rfl, hwz⟩; replace hwz := hwz.symm; subst hwz
    go_wp2_with fail
    refine (hK.out _).mono ?_
    rintro e w3 ⟨rfl, hb1⟩
    replace m1 := m1.below hb1
    replace m2 := m2.below hb1
    replace m5 := m5.below hb1
    replace m6 := m6.below hb1
    replace hB := hB.trans (hb1.mono hB.size)
    have hb_w3 := hb1
    clear hb1
    have c5 := m5.cell
    have f5 := m5.free
    have l5 := m5.lt
    have c6 := m6.cell
    have f6 := m6.free
    have l6 := m6.lt
    go_wp2
    clear c5 f5 l5
    clear c6 f6 l6
    refine name_post ?_
    intro w4 hww4
    have mAll : Mine w4 w.heap.size 0 (.int .i64 a) ∧ Mine w4 w.heap.size 1 (.int .i64 b) ∧ Mine w4 (w.heap.size + 1) 0 (.int .i64 r.1) ∧ Mine w4 (w.heap.size + 1) 1 (.int .i64 r.2.1) := by
      rw [hww4]
      refine ⟨?_, ?_, ?_, ?_⟩ <;> (repeat first | with_reducible assumption | with_reducible refine Mine.drew ?_ | with_reducible refine Mine.drewN ?_ _ | ((with_reducible refine Mine.new ?_); rfl) | ((with_reducible refine Mine.newAt ?_ ?_) <;> first | rfl | (simp; done) | (simp only [World.size_alloc]; rfl)) | ((with_reducible refine Mine.set ?_ _); repeat first | exact Mine.slot (by with_reducible assumption) | with_reducible refine MineS.drew ?_ | with_reducible refine MineS.drewN ?_ _ | ((with_reducible refine MineS.new ?_); decide) | ((with_reducible refine MineS.newAt ?_ ?_) <;> first | decide | (simp; done)) | with_reducible refine MineS.set ?_ _ _ _ | with_reducible refine MineS.alloc ?_ _) | with_reducible refine Mine.other ?_ _ (by first | (left; omega) | (right; omega) | (simp; done) | (simp; omega)) | with_reducible refine Mine.alloc ?_ _)
    clear m1 m2 m5 m6
    obtain ⟨m1, m2, m5, m6⟩ := mAll
    have hBzw4 := hB.size
    replace hB : Below w.heap.size w w4 := by rw [hww4]; exact (by repeat first | with_reducible exact Below.refl _ _ | with_reducible assumption | with_reducible refine below_drewN ?_ _ | with_reducible refine Below.drew ?_ | with_reducible refine Below.setCell ?_ (by first | exact Nat.le_refl _ | (simp; done) | (simp; omega) | omega) _ | with_reducible refine Below.alloc ?_ (by first | exact Nat.le_refl _ | (simp; done) | (simp; omega) | omega) _ | exact Below.refl _ _ | assumption)
    clear hww4 hBzw4
    have e1 := m5.cell
    have e2 := m6.cell
    exact bodyPost_ret (v := .tuple #[rv r.1 r.2.1, .int .i64 r.2.2]) (by simp [results, Tryd.results34, go_sem, e1, e2]) rfl ⟨rfl, hB⟩

set_option maxRecDepth 100000 in
set_option maxHeartbeats 2000000 in
theorem refClamp_any (a b c d g h : Int) (w : World) (ha : I64 a) (hb : I64 b) (hc : I64 c) (hd : I64 d) (he : I64 g) (hf : I64 h) :
    Calls Tryd.prog 38 #[rv a b, rv c d, rv g h] w fun r w' => r = .returned (rv (clampv a b c d g h).1 (clampv a b c d g h).2) ∧ Below w.heap.size w w' := by
  have hB : Below w.heap.size w w := Below.refl _ _
  have v1 := fun w => both_any a b c d w ha hb hc hd
  have v3 := fun w => refValid_b g h w he hf
  have cc1 := fun w => refCompare_any a b c d w ha hb hc hd
  have cc2 := fun w => refCompare_any a b g h w ha hb he hf
  have hR : clampv a b c d g h = if vld a b && vld c d && vld g h then if cmpr a b c d < 0 then (c, d) else if 0 < cmpr a b g h then (g, h) else (a, b) else (0, 0) := rfl
  generalize clampv a b c d g h = R at *
  generalize (vld a b && vld c d) = x at *
  generalize vld g h = z at *
  generalize cmpr a b c d = p at *
  generalize cmpr a b g h = q at *
  replace v1 := Lib.hid v1
  replace v3 := Lib.hid v3
  replace cc1 := Lib.hid cc1
  replace cc2 := Lib.hid cc2
  replace hR := Lib.hid hR
  go_enter Tryd.func38, Tryd.ntmps38
  go_wp2_with fail
  refine name_calls ?_
  intro w1 hww1
  have mAll : Mine w1 w.heap.size 0 (.int .i64 a) ∧ Mine w1 w.heap.size 1 (.int .i64 b) ∧ Mine w1 (w.heap.size + 1) 0 (.int .i64 c) ∧ Mine w1 (w.heap.size + 1) 1 (.int .i64 d) ∧ Mine w1 (w.heap.size + 1 + 1) 0 (.int .i64 g) ∧ Mine w1 (w.heap.size + 1 + 1) 1 (.int .i64 h) ∧ Mine w1 (w.heap.size + 1 + 1 + 1) 0 (.int .i64 0) ∧ Mine w1 (w.heap.size + 1 + 1 + 1) 1 (.int .i64 0) := by
    rw [hww1]
    refine ⟨?_, ?_, ?_, ?_, ?_, ?_, ?_, ?_⟩ <;> (repeat first | with_reducible assumption | with_reducible refine Mine.drew ?_ | with_reducible refine Mine.drewN ?_ _ | ((with_reducible refine Mine.new ?_); rfl) | ((with_reducible refine Mine.newAt ?_ ?_) <;> first | rfl | (simp; done) | (simp only [World.size_alloc]; rfl)) | ((with_reducible refine Mine.set ?_ _); repeat first | exact Mine.slot (by with_reducible assumption) | with_reducible refine MineS.drew ?_ | with_reducible refine MineS.drewN ?_ _ | ((with_reducible refine MineS.new ?_); decide) | ((with_reducible refine MineS.newAt ?_ ?_) <;> first | decide | (simp; done)) | with_reducible refine MineS.set ?_ _ _ _ | with_reducible refine MineS.alloc ?_ _) | with_reducible refine Mine.other ?_ _ (by first | (left; omega) | (right; omega) | (simp; done) | (simp; omega)) | with_reducible refine Mine.alloc ?_ _)
  obtain ⟨m1, m2, m3, m4, m5, m6, m7, m8⟩ := mAll
  have hBzw1 := hB.size
  replace hB : Below w.heap.size w w1 := by rw [hww1]; exact (by repeat first | with_reducible exact Below.refl _ _ | with_reducible assumption | with_reducible refine below_drewN ?_ _ | with_reducible refine Below.drew ?_ | with_reducible refine Below.setCell ?_ (by first | exact Nat.le_refl _ | (simp; done) | (simp; omega) | omega) _ | with_reducible refine Below.alloc ?_ (by first | exact Nat.le_refl _ | (simp; done) | (simp; omega) | omega) _ | exact Below.refl _ _ | assumption)
  clear hww1 hBzw1
  refine (v1.out _).mono ?_
  rintro e w2 ⟨rfl, hb1⟩
  replace m1 := m1.below hb1
  replace m2 := m2.below hb1
  replace m3 := m3.below hb1
  replace m4 := m4.below hb1
  replace m5 := m5.below hb1
  replace m6 := m6.below hb1
  replace m7 := m7.below hb1
  replace m8 := m8.below hb1
  replace hB := hB.trans (hb1.mono hB.size)
  have hb_w2 := hb1
  clear hb1
  have c5 := m5.cell
  have f5 := m5.free
  have l5 := m5.lt
  have c6 := m6.cell
  have f6 := m6.free
  have l6 := m6.lt
  go_wp2_with fail
  clear c5 f5 l5
  clear c6 f6 l6
  refine (v3.out _).mono ?_
  rintro e w3 ⟨rfl, hb1⟩
  replace m1 := m1.below hb1
  replace m2 := m2.below hb1
  replace m3 := m3.below hb1
  replace m4 := m4.below hb1
  replace m5 := m5.below hb1
  replace m6 := m6.below hb1
  replace m7 := m7.below hb1
  replace m8 := m8.below hb1
  replace hB := hB.trans (hb1.mono hB.size)
  have hb_w3 := hb1
  clear hb1
  cases x
  · skip
    have hR1 : R = (0, 0) := by rw [hR.out]; rfl
    clear hR
    replace hR1 := Lib.hid hR1
    have c1 := m1.cell
    have f1 := m1.free
    have l1 := m1.lt
    have c2 := m2.cell
    have f2 := m2.free
    have l2 := m2.lt
    have c3 := m3.cell
    have f3 := m3.free
    have l3 := m3.lt
    have c4 := m4.cell
    have f4 := m4.free
    have l4 := m4.lt
    have c5 := m5.cell
    have f5 := m5.free
    have l5 := m5.lt
    have c6 := m6.cell
    have f6 := m6.free
    have l6 := m6.lt
    have c7 := m7.cell
    have f7 := m7.free
    have l7 := m7.lt
    have c8 := m8.cell
    have f8 := m8.free
    have l8 := m8.lt
    go_wp2
    clear c1 f1 l1
    clear c2 f2 l2
    clear c3 f3 l3
    clear c4 f4 l4
    clear c5 f5 l5
    clear c6 f6 l6
    clear c7 f7 l7
    clear c8 f8 l8
    refine name_post ?_
    intro wz hwwz
    have mAll : Mine wz w.heap.size 0 (.int .i64 a) ∧ Mine wz w.heap.size 1 (.int .i64 b) ∧ Mine wz (w.heap.size + 1) 0 (.int .i64 c) ∧ Mine wz (w.heap.size + 1) 1 (.int .i64 d) ∧ Mine wz (w.heap.size + 1 + 1) 0 (.int .i64 g) ∧ Mine wz (w.heap.size + 1 + 1) 1 (.int .i64 h) ∧ Mine wz (w.heap.size + 1 + 1 + 1) 0 (.int .i64 0) ∧ Mine wz (w.heap.size + 1 + 1 + 1) 1 (.int .i64 0) := by
      rw [hwwz]
      refine ⟨?_, ?_, ?_, ?_, ?_, ?_, ?_, ?_⟩ <;> (repeat first | with_reducible assumption | with_reducible refine Mine.drew ?_ | with_reducible refine Mine.drewN ?_ _ | ((with_reducible refine Mine.new ?_); rfl) | ((with_reducible refine Mine.newAt ?_ ?_) <;> first | rfl | (simp; done) | (simp only [World.size_alloc]; rfl)) | ((with_reducible refine Mine.set ?_ _); repeat first | exact Mine.slot (by with_reducible assumption) | with_reducible refine MineS.drew ?_ | with_reducible refine MineS.drewN ?_ _ | ((with_reducible refine MineS.new ?_); decide) | ((with_reducible refine MineS.newAt ?_ ?_) <;> first | decide | (simp; done)) | with_reducible refine MineS.set ?_ _ _ _ | with_reducible refine MineS.alloc ?_ _) | with_reducible refine Mine.other ?_ _ (by first | (left; omega) | (right; omega) | (simp; done) | (simp; omega)) | with_reducible refine Mine.alloc ?_ _)
    clear m1 m2 m3 m4 m5 m6 m7 m8
    obtain ⟨m1, m2, m3, m4, m5, m6, m7, m8⟩ := mAll
    have hBzwz := hB.size
    replace hB : Below w.heap.size w wz := by rw [hwwz]; exact (by repeat first | with_reducible exact Below.refl _ _ | with_reducible assumption | with_reducible refine below_drewN ?_ _ | with_reducible refine Below.drew ?_ | with_reducible refine Below.setCell ?_ (by first | exact Nat.le_refl _ | (simp; done) | (simp; omega) | omega) _ | with_reducible refine Below.alloc ?_ (by first | exact Nat.le_refl _ | (simp; done) | (simp; omega) | omega) _ | exact Below.refl _ _ | assumption)
    clear hwwz hBzwz
    have e1 := m7.cell
    have e2 := m8.cell
    exact bodyPost_ret (v := rv 0 0) (by simp [results, Tryd.results38, go_sem, e1, e2]) rfl ⟨by rw [hR1.out], hB⟩
  · skip
    cases z
    · skip
      have hR1 : R = (0, 0) := by rw [hR.out]; rfl
      clear hR
      replace hR1 := Lib.hid hR1
      have c1 := m1.cell
      have f1 := m1.free
      have l1 := m1.lt
      have c2 := m2.cell
      have f2 := m2.free
      have l2 := m2.lt
      have c3 := m3.cell
      have f3 := m3.free
      have l3 := m3.lt
      have c4 := m4.cell
      have f4 := m4.free
      have l4 := m4.lt
      have c5 := m5.cell
      have f5 := m5.free
      have l5 := m5.lt
      have c6 := m6.cell
      have f6 := m6.free
      have l6 := m6.lt
      have c7 := m7.cell
      have f7 := m7.free
      have l7 := m7.lt
      have c8 := m8.cell
      have f8 := m8.free
      have l8 := m8.lt
      go_wp2
      clear c1 f1 l1
      clear c2 f2 l2
      clear c3 f3 l3
      clear c4 f4 l4
      clear c5 f5 l5
      clear c6 f6 l6
      clear c7 f7 l7
      clear c8 f8 l8
      refine name_post ?_
      intro wz hwwz
      have mAll : Mine wz w.heap.size 0 (.int .i64 a) ∧ Mine wz w.heap.size 1 (.int .i64 b) ∧ Mine wz (w.heap.size + 1) 0 (.int .i64 c) ∧ Mine wz (w.heap.size + 1) 1 (.int .i64 d) ∧ Mine wz (w.heap.size + 1 + 1) 0 (.int .i64 g) ∧ Mine wz (w.heap.size + 1 + 1) 1 (.int .i64 h) ∧ Mine wz (w.heap.size + 1 + 1 + 1) 0 (.int .i64 0) ∧ Mine wz (w.heap.size + 1 + 1 + 1) 1 (.int .i64 0) := by
        rw [hwwz]
        refine ⟨?_, ?_, ?_, ?_, ?_, ?_, ?_, ?_⟩ <;> (repeat first | with_reducible assumption | with_reducible refine Mine.drew ?_ | with_reducible refine Mine.drewN ?_ _ | ((with_reducible refine Mine.new ?_); rfl) | ((with_reducible refine Mine.newAt ?_ ?_) <;> first | rfl | (simp; done) | (simp only [World.size_alloc]; rfl)) | ((with_reducible refine Mine.set ?_ _); repeat first | exact Mine.slot (by with_reducible assumption) | with_reducible refine MineS.drew ?_ | with_reducible refine MineS.drewN ?_ _ | ((with_reducible refine MineS.new ?_); decide) | ((with_reducible refine MineS.newAt ?_ ?_) <;> first | decide | (simp; done)) | with_reducible refine MineS.set ?_ _ _ _ | with_reducible refine MineS.alloc ?_ _) | with_reducible refine Mine.other ?_ _ (by first | (left; omega) | (right; omega) | (simp; done) | (simp; omega)) | with_reducible refine Mine.alloc ?_ _)
      clear m1 m2 m3 m4 m5 m6 m7 m8
      obtain ⟨m1, m2, m3, m4, m5, m6, m7, m8⟩ := mAll
      have hBzwz := hB.size
      replace hB : Below w.heap.size w wz := by rw [hwwz]; exact (by repeat first | with_reducible exact Below.refl _ _ | with_reducible assumption | with_reducible refine below_drewN ?_ _ | with_reducible refine Below.drew ?_ | with_reducible refine Below.setCell ?_ (by first | exact Nat.le_refl _ | (simp; done) | (simp; omega) | omega) _ | with_reducible refine Below.alloc ?_ (by first | exact Nat.le_refl _ | (simp; done) | (simp; omega) | omega) _ | exact Below.refl _ _ | assumption)
      clear hwwz hBzwz
      have e1 := m7.cell
      have e2 := m8.cell
      exact bodyPost_ret (v := rv 0 0) (by simp [results, Tryd.results38, go_sem, e1, e2]) rfl ⟨by rw [hR1.out], hB⟩
    · skip
      have c1 := m1.cell
      have f1 := m1.free
      have l1 := m1.lt
      have c2 := m2.cell
      have f2 := m2.free
      have l2 := m2.lt
      have c3 := m3.cell
      have f3 := m3.free
      have l3 := m3.lt
      have c4 := m4.cell
      have f4 := m4.free
      have l4 := m4.lt
      go_wp2_with fail
      clear c1 f1 l1
      clear c2 f2 l2
      clear c3 f3 l3
      clear c4 f4 l4
      refine (cc1.out _).mono ?_
      rintro e w5 ⟨rfl, hb1⟩
      replace m1 := m1.below hb1
      replace m2 := m2.below hb1
      replace m3 := m3.below hb1
      replace m4 := m4.below hb1
      replace m5 := m5.below hb1
      replace m6 := m6.below hb1
      replace m7 := m7.below hb1
      replace m8 := m8.below hb1
      replace hB := hB.trans (hb1.mono hB.size)
      have hb_w5 := hb1
      clear hb1
      by_cases hp : p < 0
      · have hd1 : decide (p < 0) = true := by simpa using hp
        have hR1 : R = (c, d) := by rw [hR.out]; simp [hp]
        clear hR
        replace hR1 := Lib.hid hR1
        have c1 := m1.cell
        have f1 := m1.free
        have l1 := m1.lt
        have c2 := m2.cell
        have f2 := m2.free
        have l2 := m2.lt
        have c3 := m3.cell
        have f3 := m3.free
        have l3 := m3.lt
        have c4 := m4.cell
        have f4 := m4.free
        have l4 := m4.lt
        have c5 := m5.cell
        have f5 := m5.free
        have l5 := m5.lt
        have c6 := m6.cell
        have f6 := m6.free
        have l6 := m6.lt
        have c7 := m7.cell
        have f7 := m7.free
        have l7 := m7.lt
        have c8 := m8.cell
        have f8 := m8.free
        have l8 := m8.lt
        go_wp2
        clear c1 f1 l1
        clear c2 f2 l2
        clear c3 f3 l3
        clear c4 f4 l4
        clear c5 f5 l5
        clear c6 f6 l6
        clear c7 f7 l7
        clear c8 f8 l8
        refine name_post ?_
        intro wz hwwz
        have mAll : Mine wz w.heap.size 0 (.int .i64 a) ∧ Mine wz w.heap.size 1 (.int .i64 b) ∧ Mine wz (w.heap.size + 1) 0 (.int .i64 c) ∧ Mine wz (w.heap.size + 1) 1 (.int .i64 d) ∧ Mine wz (w.heap.size + 1 + 1) 0 (.int .i64 g) ∧ Mine wz (w.heap.size + 1 + 1) 1 (.int .i64 h) ∧ Mine wz (w.heap.size + 1 + 1 + 1) 0 (.int .i64 c) ∧ Mine wz (w.heap.size + 1 + 1 + 1) 1 (.int .i64 d) := by
          rw [hwwz]
          refine ⟨?_, ?_, ?_, ?_, ?_, ?_, ?_, ?_⟩ <;> (repeat first | with_reducible assumption | with_reducible refine Mine.drew ?_ | with_reducible refine Mine.drewN ?_ _ | ((with_reducible refine Mine.new ?_); rfl) | ((with_reducible refine Mine.newAt ?_ ?_) <;> first | rfl | (simp; done) | (simp only [World.size_alloc]; rfl)) | ((with_reducible refine Mine.set ?_ _); repeat first | exact Mine.slot (by with_reducible assumption) | with_reducible refine MineS.drew ?_ | with_reducible refine MineS.drewN ?_ _ | ((with_reducible refine MineS.new ?_); decide) | ((with_reducible refine MineS.newAt ?_ ?_) <;> first | decide | (simp; done)) | with_reducible refine MineS.set ?_ _ _ _ | with_reducible refine MineS.alloc ?_ _) | with_reducible refine Mine.other ?_ _ (by first | (left; omega) | (right; omega) | (simp; done) | (simp; omega)) | with_reducible refine Mine.alloc ?_ _)
        clear m1 m2 m3 m4 m5 m6 m7 m8
        obtain ⟨m1, m2, m3, m4, m5, m6, m7, m8⟩ := mAll
        have hBzwz := hB.size
        replace hB : Below w.heap.size w wz := by rw [hwwz]; exact (by repeat first | with_reducible exact Below.refl _ _ | with_reducible assumption | with_reducible refine below_drewN ?_ _ | with_reducible refine Below.drew ?_ | with_reducible refine Below.setCell ?_ (by first | exact Nat.le_refl _ | (simp; done) | (simp; omega) | omega) _ | with_reducible refine Below.alloc ?_ (by first | exact Nat.le_refl _ | (simp; done) | (simp; omega) | omega) _ | exact Below.refl _ _ | assumption)
        clear hwwz hBzwz
        have e1 := m7.cell
        have e2 := m8.cell
        exact bodyPost_ret (v := rv c d) (by simp [results, Tryd.results38, go_sem, e1, e2]) rfl ⟨by rw [hR1.out], hB⟩
      · have hd1 : decide (p < 0) = false := by simpa using hp
        replace hR : R = if 0 < q then (g, h) else (a, b) := by rw [hR.out]; simp [hp]
        replace hR := Lib.hid hR
        have c1 := m1.cell
        have f1 := m1.free
        have l1 := m1.lt
        have c2 := m2.cell
        have f2 := m2.free
        have l2 := m2.lt
        have c5 := m5.cell
        have f5 := m5.free
        have l5 := m5.lt
        have c6 := m6.cell
        have f6 := m6.free
        have l6 := m6.lt
        go_wp2_with fail
        clear c1 f1 l1
        clear c2 f2 l2
        clear c5 f5 l5
        clear c6 f6 l6
        refine (cc2.out _).mono ?_
        rintro e w6 ⟨rfl, hb1⟩
        replace m1 := m1.below hb1
        replace m2 := m2.below hb1
        replace m3 := m3.below hb1
        replace m4 := m4.below hb1
        replace m5 := m5.below hb1
        replace m6 := m6.below hb1
        replace m7 := m7.below hb1
        replace m8 := m8.below hb1
        replace hB := hB.trans (hb1.mono hB.size)
        have hb_w6 := hb1
        clear hb1
        by_cases hq : 0 < q
        · have hd2 : decide (0 < q) = true := by simpa using hq
          have hR1 : R = (g, h) := by rw [hR.out]; simp [hq]
          clear hR
          replace hR1 := Lib.hid hR1
          have c1 := m1.cell
          have f1 := m1.free
          have l1 := m1.lt
          have c2 := m2.cell
          have f2 := m2.free
          have l2 := m2.lt
          have c3 := m3.cell
          have f3 := m3.free
          have l3 := m3.lt
          have c4 := m4.cell
          have f4 := m4.free
          have l4 := m4.lt
          have c5 := m5.cell
          have f5 := m5.free
          have l5 := m5.lt
          have c6 := m6.cell
          have f6 := m6.free
          have l6 := m6.lt
          have c7 := m7.cell
          have f7 := m7.free
          have l7 := m7.lt
          have c8 := m8.cell
          have f8 := m8.free
          have l8 := m8.lt
          go_wp2
          clear c1 f1 l1
          clear c2 f2 l2
          clear c3 f3 l3
          clear c4 f4 l4
          clear c5 f5 l5
          clear c6 f6 l6
          clear c7 f7 l7
          clear c8 f8 l8
          refine name_post ?_
          intro wz hwwz
          have mAll : Mine wz w.heap.size 0 (.int .i64 a) ∧ Mine wz w.heap.size 1 (.int .i64 b) ∧ Mine wz (w.heap.size + 1) 0 (.int .i64 c) ∧ Mine wz (w.heap.size + 1) 1 (.int .i64 d) ∧ Mine wz (w.heap.size + 1 + 1) 0 (.int .i64 g) ∧ Mine wz (w.heap.size + 1 + 1) 1 (.int .i64 h) ∧ Mine wz (w.heap.size + 1 + 1 + 1) 0 (.int .i64 g) ∧ Mine wz (w.heap.size + 1 + 1 + 1) 1 (.int .i64 h) := by
            rw [hwwz]
            refine ⟨?_, ?_, ?_, ?_, ?_, ?_, ?_, ?_⟩ <;> (repeat first | with_reducible assumption | with_reducible refine Mine.drew ?_ | with_reducible refine Mine.drewN ?_ _ | ((with_reducible refine Mine.new ?_); rfl) | ((with_reducible refine Mine.newAt ?_ ?_) <;> first | rfl | (simp; done) | (simp only [World.size_alloc]; rfl)) | ((with_reducible refine Mine.set ?_ _); repeat first | exact Mine.slot (by with_reducible assumption) | with_reducible refine MineS.drew ?_ | with_reducible refine MineS.drewN ?_ _ | ((with_reducible refine MineS.new ?_); decide) | ((with_reducible refine MineS.newAt ?_ ?_) <;> first | decide | (simp; done)) | with_reducible refine MineS.set ?_ _ _ _ | with_reducible refine MineS.alloc ?_ _) | with_reducible refine Mine.other ?_ _ (by first | (left; omega) | (right; omega) | (simp; done) | (simp; omega)) | with_reducible refine Mine.alloc ?_ _)
          clear m1 m2 m3 m4 m5 m6 m7 m8
          obtain ⟨m1, m2, m3, m4, m5, m6, m7, m8⟩ := mAll
          have hBzwz := hB.size
          replace hB : Below w.heap.size w wz := by rw [hwwz]; exact (by repeat first | with_reducible exact Below.refl _ _ | with_reducible assumption | with_reducible refine below_drewN ?_ _ | with_reducible refine Below.drew ?_ | with_reducible refine Below.setCell ?_ (by first | exact Nat.le_refl _ | (simp; done) | (simp; omega) | omega) _ | with_reducible refine Below.alloc ?_ (by first | exact Nat.le_refl _ | (simp; done) | (simp; omega) | omega) _ | exact Below.refl _ _ | assumption)
          clear hwwz hBzwz
          have e1 := m7.cell
          have e2 := m8.cell
          exact bodyPost_ret (v := rv g h) (by simp [results, Tryd.results38, go_sem, e1, e2]) rfl ⟨by rw [hR1.out], hB⟩
        · have hd2 : decide (0 < q) = false := by simpa using hq
          have hR1 : R = (a, b) := by rw [hR.out]; simp [hq]
          clear hR
          replace hR1 := Lib.hid hR1
          have c1 := m1.cell
          have f1 := m1.free
          have l1 := m1.lt
          have c2 := m2.cell
          have f2 := m2.free
          have l2 := m2.lt
          have c3 := m3.cell
          have f3 := m3.free
          have l3 := m3.lt
          have c4 := m4.cell
          have f4 := m4.free
          have l4 := m4.lt
          have c5 := m5.cell
          have f5 := m5.free
          have l5 := m5.lt
          have c6 := m6.cell
          have f6 := m6.free
          have l6 := m6.lt
          have c7 := m7.cell
          have f7 := m7.free
          have l7 := m7.lt
          have c8 := m8.cell
          have f8 := m8.free
          have l8 := m8.lt
          go_wp2
          clear c1 f1 l1
          clear c2 f2 l2
          clear c3 f3 l3
          clear c4 f4 l4
          clear c5 f5 l5
          clear c6 f6 l6
          clear c7 f7 l7
          clear c8 f8 l8
          refine name_post ?_
          intro wz hwwz
          have mAll : Mine wz w.heap.size 0 (.int .i64 a) ∧ Mine wz w.heap.size 1 (.int .i64 b) ∧ Mine wz (w.heap.size + 1) 0 (.int .i64 c) ∧ Mine wz (w.heap.size + 1) 1 (.int .i64 d) ∧ Mine wz (w.heap.size + 1 + 1) 0 (.int .i64 g) ∧ Mine wz (w.heap.size + 1 + 1) 1 (.int .i64 h) ∧ Mine wz (w.heap.size + 1 + 1 + 1) 0 (.int .i64 a) ∧ Mine wz (w.heap.size + 1 + 1 + 1) 1 (.int .i64 b) := by
            rw [hwwz]
            refine ⟨?_, ?_, ?_, ?_, ?_, ?_, ?_, ?_⟩ <;> (repeat first | with_reducible assumption | with_reducible refine Mine.drew ?_ | with_reducible refine Mine.drewN ?_ _ | ((with_reducible refine Mine.new ?_); rfl) | ((with_reducible refine Mine.newAt ?_ ?_) <;> first | rfl | (simp; done) | (simp only [World.size_alloc]; rfl)) | ((with_reducible refine Mine.set ?_ _); repeat first | exact Mine.slot (by with_reducible assumption) | with_reducible refine MineS.drew ?_ | with_reducible refine MineS.drewN ?_ _ | ((with_reducible refine MineS.new ?_); decide) | ((with_reducible refine MineS.newAt ?_ ?_) <;> first | decide | (simp; done)) | with_reducible refine MineS.set ?_ _ _ _ | with_reducible refine MineS.alloc ?_ _) | with_reducible refine Mine.other ?_ _ (by first | (left; omega) | (right; omega) | (simp; done) | (simp; omega)) | with_reducible refine Mine.alloc ?_ _)
          clear m1 m2 m3 m4 m5 m6 m7 m8
          obtain ⟨m1, m2, m3, m4, m5, m6, m7, m8⟩ := mAll
          have hBzwz := hB.size
          replace hB : Below w.heap.size w wz := by rw [hwwz]; exact (by repeat first | with_reducible exact Below.refl _ _ | with_reducible assumption | with_reducible refine below_drewN ?_ _ | with_reducible refine Below.drew ?_ | with_reducible refine Below.setCell ?_ (by first | exact Nat.le_refl _ | (simp; done) | (simp; omega) | omega) _ | with_reducible refine Below.alloc ?_ (by first | exact Nat.le_refl _ | (simp; done) | (simp; omega) | omega) _ | exact Below.refl _ _ | assumption)
          clear hwwz hBzwz
          have e1 := m7.cell
          have e2 := m8.cell
          exact bodyPost_ret (v := rv a b) (by simp [results, Tryd.results38, go_sem, e1, e2]) rfl ⟨by rw [hR1.out], hB⟩

end Go.Proofs.YtfojgdlegojdgaaDoor
