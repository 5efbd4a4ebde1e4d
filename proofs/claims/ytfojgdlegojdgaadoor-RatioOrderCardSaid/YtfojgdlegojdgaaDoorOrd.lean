/-
  RatioOrder: the walk.
-/
import Derived.Test.YtfojgdlegojdgaaDoorEqR
import Derived.Test.YtfojgdlegojdgaaDoorOrdM
namespace Go.Proofs.YtfojgdlegojdgaaDoor
open Go.RowKit

set_option maxRecDepth 100000 in
set_option maxHeartbeats 8000000 in
theorem OrderLaw (x0 x1 x2 x3 x4 x5 : Int) (w : World) (i0 : I64 x0) (i1 : I64 x1) (i2 : I64 x2) (i3 : I64 x3) (i4 : I64 x4) (i5 : I64 x5) (hE : Env w) :
    Calls Tryd.prog 7 #[sixv x0 x1 x2 x3 x4 x5] w fun e w' => e = .returned (.bool true) ∧ Below w.heap.size w w' := by
  have hB : Below w.heap.size w w := Below.refl _ _
  have hMade := fun w => made_law x0 x1 x2 x3 x4 x5 w i0 i1 i2 i3 i4 i5
  replace hMade := Lib.hid hMade
  clear i0 i1 i2 i3 i4 i5
  go_enter Tryd.func7, Tryd.ntmps7
  go_wp2_with fail
  refine name_calls ?_
  intro w1 hww1
  replace m10 : Mine w1 w.heap.size 0 (.int .i64 x0) := by rw [hww1]; (repeat first | with_reducible assumption | with_reducible refine Mine.drew ?_ | with_reducible refine Mine.drewN ?_ _ | ((with_reducible refine Mine.new ?_); rfl) | ((with_reducible refine Mine.newAt ?_ ?_) <;> first | rfl | (simp; done) | (simp only [World.size_alloc]; rfl)) | ((with_reducible refine Mine.set ?_ _); repeat first | exact Mine.slot (by with_reducible assumption) | with_reducible refine MineS.drew ?_ | with_reducible refine MineS.drewN ?_ _ | ((with_reducible refine MineS.new ?_); decide) | ((with_reducible refine MineS.newAt ?_ ?_) <;> first | decide | (simp; done)) | with_reducible refine MineS.set ?_ _ _ _ | with_reducible refine MineS.alloc ?_ _) | with_reducible refine Mine.other ?_ _ (by first | (left; omega) | (right; omega) | (simp; done) | (simp; omega)) | with_reducible refine Mine.alloc ?_ _)
  replace m11 : Mine w1 w.heap.size 1 (.int .i64 x1) := by rw [hww1]; (repeat first | with_reducible assumption | with_reducible refine Mine.drew ?_ | with_reducible refine Mine.drewN ?_ _ | ((with_reducible refine Mine.new ?_); rfl) | ((with_reducible refine Mine.newAt ?_ ?_) <;> first | rfl | (simp; done) | (simp only [World.size_alloc]; rfl)) | ((with_reducible refine Mine.set ?_ _); repeat first | exact Mine.slot (by with_reducible assumption) | with_reducible refine MineS.drew ?_ | with_reducible refine MineS.drewN ?_ _ | ((with_reducible refine MineS.new ?_); decide) | ((with_reducible refine MineS.newAt ?_ ?_) <;> first | decide | (simp; done)) | with_reducible refine MineS.set ?_ _ _ _ | with_reducible refine MineS.alloc ?_ _) | with_reducible refine Mine.other ?_ _ (by first | (left; omega) | (right; omega) | (simp; done) | (simp; omega)) | with_reducible refine Mine.alloc ?_ _)
  replace m12 : Mine w1 w.heap.size 2 (.int .i64 x2) := by rw [hww1]; (repeat first | with_reducible assumption | with_reducible refine Mine.drew ?_ | with_reducible refine Mine.drewN ?_ _ | ((with_reducible refine Mine.new ?_); rfl) | ((with_reducible refine Mine.newAt ?_ ?_) <;> first | rfl | (simp; done) | (simp only [World.size_alloc]; rfl)) | ((with_reducible refine Mine.set ?_ _); repeat first | exact Mine.slot (by with_reducible assumption) | with_reducible refine MineS.drew ?_ | with_reducible refine MineS.drewN ?_ _ | ((with_reducible refine MineS.new ?_); decide) | ((with_reducible refine MineS.newAt ?_ ?_) <;> first | decide | (simp; done)) | with_reducible refine MineS.set ?_ _ _ _ | with_reducible refine MineS.alloc ?_ _) | with_reducible refine Mine.other ?_ _ (by first | (left; omega) | (right; omega) | (simp; done) | (simp; omega)) | with_reducible refine Mine.alloc ?_ _)
  replace m13 : Mine w1 w.heap.size 3 (.int .i64 x3) := by rw [hww1]; (repeat first | with_reducible assumption | with_reducible refine Mine.drew ?_ | with_reducible refine Mine.drewN ?_ _ | ((with_reducible refine Mine.new ?_); rfl) | ((with_reducible refine Mine.newAt ?_ ?_) <;> first | rfl | (simp; done) | (simp only [World.size_alloc]; rfl)) | ((with_reducible refine Mine.set ?_ _); repeat first | exact Mine.slot (by with_reducible assumption) | with_reducible refine MineS.drew ?_ | with_reducible refine MineS.drewN ?_ _ | ((with_reducible refine MineS.new ?_); decide) | ((with_reducible refine MineS.newAt ?_ ?_) <;> first | decide | (simp; done)) | with_reducible refine MineS.set ?_ _ _ _ | with_reducible refine MineS.alloc ?_ _) | with_reducible refine Mine.other ?_ _ (by first | (left; omega) | (right; omega) | (simp; done) | (simp; omega)) | with_reducible refine Mine.alloc ?_ _)
  replace m14 : Mine w1 w.heap.size 4 (.int .i64 x4) := by rw [hww1]; (repeat first | with_reducible assumption | with_reducible refine Mine.drew ?_ | with_reducible refine Mine.drewN ?_ _ | ((with_reducible refine Mine.new ?_); rfl) | ((with_reducible refine Mine.newAt ?_ ?_) <;> first | rfl | (simp; done) | (simp only [World.size_alloc]; rfl)) | ((with_reducible refine Mine.set ?_ _); repeat first | exact Mine.slot (by with_reducible assumption) | with_reducible refine MineS.drew ?_ | with_reducible refine MineS.drewN ?_ _ | ((with_reducible refine MineS.new ?_); decide) | ((with_reducible refine MineS.newAt ?_ ?_) <;> first | decide | (simp; done)) | with_reducible refine MineS.set ?_ _ _ _ | with_reducible refine MineS.alloc ?_ _) | with_reducible refine Mine.other ?_ _ (by first | (left; omega) | (right; omega) | (simp; done) | (simp; omega)) | with_reducible refine Mine.alloc ?_ _)
  replace m15 : Mine w1 w.heap.size 5 (.int .i64 x5) := by rw [hww1]; (repeat first | with_reducible assumption | with_reducible refine Mine.drew ?_ | with_reducible refine Mine.drewN ?_ _ | ((with_reducible refine Mine.new ?_); rfl) | ((with_reducible refine Mine.newAt ?_ ?_) <;> first | rfl | (simp; done) | (simp only [World.size_alloc]; rfl)) | ((with_reducible refine Mine.set ?_ _); repeat first | exact Mine.slot (by with_reducible assumption) | with_reducible refine MineS.drew ?_ | with_reducible refine MineS.drewN ?_ _ | ((with_reducible refine MineS.new ?_); decide) | ((with_reducible refine MineS.newAt ?_ ?_) <;> first | decide | (simp; done)) | with_reducible refine MineS.set ?_ _ _ _ | with_reducible refine MineS.alloc ?_ _) | with_reducible refine Mine.other ?_ _ (by first | (left; omega) | (right; omega) | (simp; done) | (simp; omega)) | with_reducible refine Mine.alloc ?_ _)
  have hBzw1 := hB.size
  replace hB : Below w.heap.size w w1 := by rw [hww1]; exact (by repeat first | with_reducible exact Below.refl _ _ | with_reducible assumption | with_reducible refine below_drewN ?_ _ | with_reducible refine Below.drew ?_ | with_reducible refine Below.setCell ?_ (by first | exact Nat.le_refl _ | (simp; done) | (simp; omega) | omega) _ | with_reducible refine Below.alloc ?_ (by first | exact Nat.le_refl _ | (simp; done) | (simp; omega) | omega) _ | exact Below.refl _ _ | assumption)
  clear hww1 hBzw1
  refine (sane_any _ (hE.below hB)).mono ?_
  rintro e v1 ⟨rfl, hb1⟩
  replace m10 := m10.below hb1
  replace m11 := m11.below hb1
  replace m12 := m12.below hb1
  replace m13 := m13.below hb1
  replace m14 := m14.below hb1
  replace m15 := m15.below hb1
  replace hB := hB.trans (hb1.mono hB.size)
  have hb_v1 := hb1
  clear hb1
  have c10 := m10.cell
  have f10 := m10.free
  have l10 := m10.lt
  have c11 := m11.cell
  have f11 := m11.free
  have l11 := m11.lt
  have c12 := m12.cell
  have f12 := m12.free
  have l12 := m12.lt
  have c13 := m13.cell
  have f13 := m13.free
  have l13 := m13.lt
  have c14 := m14.cell
  have f14 := m14.free
  have l14 := m14.lt
  have c15 := m15.cell
  have f15 := m15.free
  have l15 := m15.lt
  go_wp2_with fail
  clear c10 f10 l10
  clear c11 f11 l11
  clear c12 f12 l12
  clear c13 f13 l13
  clear c14 f14 l14
  clear c15 f15 l15
  refine (hMade.out _).mono ?_
  rintro e v2 ⟨hm, hb1⟩
  replace m10 := m10.below hb1
  replace m11 := m11.below hb1
  replace m12 := m12.below hb1
  replace m13 := m13.below hb1
  replace m14 := m14.below hb1
  replace m15 := m15.below hb1
  replace hB := hB.trans (hb1.mono hB.size)
  have hb_v2 := hb1
  clear hb1
  clear m10 m11 m12 m13 m14 m15 hMade
  rcases hm with ⟨a, b, c, d, g, h, v1, v2x, v3, rfl⟩ | ⟨a, b, c, d, g, h, rfl⟩
  rotate_left
  · have hBz := hB.size
    go_wp2
    go_ret
    exact ⟨rfl, (by repeat first | with_reducible exact Below.refl _ _ | with_reducible assumption | with_reducible refine below_drewN ?_ _ | with_reducible refine Below.drew ?_ | with_reducible refine Below.setCell ?_ (by first | exact Nat.le_refl _ | (simp; done) | (simp; omega) | omega) _ | with_reducible refine Below.alloc ?_ (by first | exact Nat.le_refl _ | (simp; done) | (simp; omega) | omega) _ | exact Below.refl _ _ | assumption)⟩
  have O := ord3 v1 v2x v3
  have ia := I64.num v1
  have ib := I64.den v1
  have ic := I64.num v2x
  have id := I64.den v2x
  have ig := I64.num v3
  have ih := I64.den v3
  have C1 := fun w => Compare_any a b c d w ia ib ic id
  have C2 := fun w => Compare_any c d g h w ic id ig ih
  have C3 := fun w => Compare_any a b g h w ia ib ig ih
  have C4 := fun w => Compare_any c d a b w ic id ia ib
  have S := fun w => Sub_valid c d a b w v2x v1
  have hEq := fun w => run_eq_rv a b c d w
  clear v1 v2x v3 ia ib ic id ig ih
  obtain ⟨hp, hq, hsw, heq, t1, t2, hsub⟩ := O
  rw [heq] at hEq
  clear heq
  generalize cmpr a b c d = p at *
  generalize cmpr c d g h = q at *
  generalize cmpr a b g h = r at *
  generalize cmpr c d a b = p' at *
  generalize subv c d a b = D at *
  replace C1 := Lib.hid C1
  replace C2 := Lib.hid C2
  replace C3 := Lib.hid C3
  replace C4 := Lib.hid C4
  replace S := Lib.hid S
  replace hp := Lib.hid hp
  replace hq := Lib.hid hq
  replace t1 := Lib.hid t1
  replace t2 := Lib.hid t2
  replace hsub := Lib.hid hsub
  replace hsw := Lib.hid hsw
  go_wp2_with fail
  refine name_calls ?_
  intro w3 hww3
  replace m30 : Mine w3 v2.heap.size 0 (.int .i64 a) := by rw [hww3]; (repeat first | with_reducible assumption | with_reducible refine Mine.drew ?_ | with_reducible refine Mine.drewN ?_ _ | ((with_reducible refine Mine.new ?_); rfl) | ((with_reducible refine Mine.newAt ?_ ?_) <;> first | rfl | (simp; done) | (simp only [World.size_alloc]; rfl)) | ((with_reducible refine Mine.set ?_ _); repeat first | exact Mine.slot (by with_reducible assumption) | with_reducible refine MineS.drew ?_ | with_reducible refine MineS.drewN ?_ _ | ((with_reducible refine MineS.new ?_); decide) | ((with_reducible refine MineS.newAt ?_ ?_) <;> first | decide | (simp; done)) | with_reducible refine MineS.set ?_ _ _ _ | with_reducible refine MineS.alloc ?_ _) | with_reducible refine Mine.other ?_ _ (by first | (left; omega) | (right; omega) | (simp; done) | (simp; omega)) | with_reducible refine Mine.alloc ?_ _)
  replace m31 : Mine w3 v2.heap.size 1 (.int .i64 b) := by rw [hww3]; (repeat first | with_reducible assumption | with_reducible refine Mine.drew ?_ | with_reducible refine Mine.drewN ?_ _ | ((with_reducible refine Mine.new ?_); rfl) | ((with_reducible refine Mine.newAt ?_ ?_) <;> first | rfl | (simp; done) | (simp only [World.size_alloc]; rfl)) | ((with_reducible refine Mine.set ?_ _); repeat first | exact Mine.slot (by with_reducible assumption) | with_reducible refine MineS.drew ?_ | with_reducible refine MineS.drewN ?_ _ | ((with_reducible refine MineS.new ?_); decide) | ((with_reducible refine MineS.newAt ?_ ?_) <;> first | decide | (simp; done)) | with_reducible refine MineS.set ?_ _ _ _ | with_reducible refine MineS.alloc ?_ _) | with_reducible refine Mine.other ?_ _ (by first | (left; omega) | (right; omega) | (simp; done) | (simp; omega)) | with_reducible refine Mine.alloc ?_ _)
  replace m32 : Mine w3 v2.heap.size 2 (.int .i64 c) := by rw [hww3]; (repeat first | with_reducible assumption | with_reducible refine Mine.drew ?_ | with_reducible refine Mine.drewN ?_ _ | ((with_reducible refine Mine.new ?_); rfl) | ((with_reducible refine Mine.newAt ?_ ?_) <;> first | rfl | (simp; done) | (simp only [World.size_alloc]; rfl)) | ((with_reducible refine Mine.set ?_ _); repeat first | exact Mine.slot (by with_reducible assumption) | with_reducible refine MineS.drew ?_ | with_reducible refine MineS.drewN ?_ _ | ((with_reducible refine MineS.new ?_); decide) | ((with_reducible refine MineS.newAt ?_ ?_) <;> first | decide | (simp; done)) | with_reducible refine MineS.set ?_ _ _ _ | with_reducible refine MineS.alloc ?_ _) | with_reducible refine Mine.other ?_ _ (by first | (left; omega) | (right; omega) | (simp; done) | (simp; omega)) | with_reducible refine Mine.alloc ?_ _)
  replace m33 : Mine w3 v2.heap.size 3 (.int .i64 d) := by rw [hww3]; (repeat first | with_reducible assumption | with_reducible refine Mine.drew ?_ | with_reducible refine Mine.drewN ?_ _ | ((with_reducible refine Mine.new ?_); rfl) | ((with_reducible refine Mine.newAt ?_ ?_) <;> first | rfl | (simp; done) | (simp only [World.size_alloc]; rfl)) | ((with_reducible refine Mine.set ?_ _); repeat first | exact Mine.slot (by with_reducible assumption) | with_reducible refine MineS.drew ?_ | with_reducible refine MineS.drewN ?_ _ | ((with_reducible refine MineS.new ?_); decide) | ((with_reducible refine MineS.newAt ?_ ?_) <;> first | decide | (simp; done)) | with_reducible refine MineS.set ?_ _ _ _ | with_reducible refine MineS.alloc ?_ _) | with_reducible refine Mine.other ?_ _ (by first | (left; omega) | (right; omega) | (simp; done) | (simp; omega)) | with_reducible refine Mine.alloc ?_ _)
  replace m34 : Mine w3 v2.heap.size 4 (.int .i64 g) := by rw [hww3]; (repeat first | with_reducible assumption | with_reducible refine Mine.drew ?_ | with_reducible refine Mine.drewN ?_ _ | ((with_reducible refine Mine.new ?_); rfl) | ((with_reducible refine Mine.newAt ?_ ?_) <;> first | rfl | (simp; done) | (simp only [World.size_alloc]; rfl)) | ((with_reducible refine Mine.set ?_ _); repeat first | exact Mine.slot (by with_reducible assumption) | with_reducible refine MineS.drew ?_ | with_reducible refine MineS.drewN ?_ _ | ((with_reducible refine MineS.new ?_); decide) | ((with_reducible refine MineS.newAt ?_ ?_) <;> first | decide | (simp; done)) | with_reducible refine MineS.set ?_ _ _ _ | with_reducible refine MineS.alloc ?_ _) | with_reducible refine Mine.other ?_ _ (by first | (left; omega) | (right; omega) | (simp; done) | (simp; omega)) | with_reducible refine Mine.alloc ?_ _)
  replace m35 : Mine w3 v2.heap.size 5 (.int .i64 h) := by rw [hww3]; (repeat first | with_reducible assumption | with_reducible refine Mine.drew ?_ | with_reducible refine Mine.drewN ?_ _ | ((with_reducible refine Mine.new ?_); rfl) | ((with_reducible refine Mine.newAt ?_ ?_) <;> first | rfl | (simp; done) | (simp only [World.size_alloc]; rfl)) | ((with_reducible refine Mine.set ?_ _); repeat first | exact Mine.slot (by with_reducible assumption) | with_reducible refine MineS.drew ?_ | with_reducible refine MineS.drewN ?_ _ | ((with_reducible refine MineS.new ?_); decide) | ((with_reducible refine MineS.newAt ?_ ?_) <;> first | decide | (simp; done)) | with_reducible refine MineS.set ?_ _ _ _ | with_reducible refine MineS.alloc ?_ _) | with_reducible refine Mine.other ?_ _ (by first | (left; omega) | (right; omega) | (simp; done) | (simp; omega)) | with_reducible refine Mine.alloc ?_ _)
  have hBzw3 := hB.size
  replace hB : Below w.heap.size w w3 := by rw [hww3]; exact (by repeat first | with_reducible exact Below.refl _ _ | with_reducible assumption | with_reducible refine below_drewN ?_ _ | with_reducible refine Below.drew ?_ | with_reducible refine Below.setCell ?_ (by first | exact Nat.le_refl _ | (simp; done) | (simp; omega) | omega) _ | with_reducible refine Below.alloc ?_ (by first | exact Nat.le_refl _ | (simp; done) | (simp; omega) | omega) _ | exact Below.refl _ _ | assumption)
  clear hww3 hBzw3
  generalize v2.heap.size = bL at *
  refine (C1.out _).mono ?_
  rintro e v3 ⟨rfl, hb1⟩
  replace m30 := m30.below hb1
  replace m31 := m31.below hb1
  replace m32 := m32.below hb1
  replace m33 := m33.below hb1
  replace m34 := m34.below hb1
  replace m35 := m35.below hb1
  replace hB := hB.trans (hb1.mono hB.size)
  have hb_v3 := hb1
  clear hb1
  have c30 := m30.cell
  have f30 := m30.free
  have l30 := m30.lt
  have c31 := m31.cell
  have f31 := m31.free
  have l31 := m31.lt
  have c32 := m32.cell
  have f32 := m32.free
  have l32 := m32.lt
  have c33 := m33.cell
  have f33 := m33.free
  have l33 := m33.lt
  have c34 := m34.cell
  have f34 := m34.free
  have l34 := m34.lt
  have c35 := m35.cell
  have f35 := m35.free
  have l35 := m35.lt
  go_wp2_with fail
  clear c30 f30 l30
  clear c31 f31 l31
  clear c32 f32 l32
  clear c33 f33 l33
  clear c34 f34 l34
  clear c35 f35 l35
  refine (C2.out _).mono ?_
  rintro e v4 ⟨rfl, hb1⟩
  replace m30 := m30.below hb1
  replace m31 := m31.below hb1
  replace m32 := m32.below hb1
  replace m33 := m33.below hb1
  replace m34 := m34.below hb1
  replace m35 := m35.below hb1
  replace hB := hB.trans (hb1.mono hB.size)
  have hb_v4 := hb1
  clear hb1
  have c30 := m30.cell
  have f30 := m30.free
  have l30 := m30.lt
  have c31 := m31.cell
  have f31 := m31.free
  have l31 := m31.lt
  have c32 := m32.cell
  have f32 := m32.free
  have l32 := m32.lt
  have c33 := m33.cell
  have f33 := m33.free
  have l33 := m33.lt
  have c34 := m34.cell
  have f34 := m34.free
  have l34 := m34.lt
  have c35 := m35.cell
  have f35 := m35.free
  have l35 := m35.lt
  go_wp2_with fail
  clear c30 f30 l30
  clear c31 f31 l31
  clear c32 f32 l32
  clear c33 f33 l33
  clear c34 f34 l34
  clear c35 f35 l35
  refine (C3.out _).mono ?_
  rintro e v5 ⟨rfl, hb1⟩
  replace m30 := m30.below hb1
  replace m31 := m31.below hb1
  replace m32 := m32.below hb1
  replace m33 := m33.below hb1
  replace m34 := m34.below hb1
  replace m35 := m35.below hb1
  replace hB := hB.trans (hb1.mono hB.size)
  have hb_v5 := hb1
  clear hb1
  have c30 := m30.cell
  have f30 := m30.free
  have l30 := m30.lt
  have c31 := m31.cell
  have f31 := m31.free
  have l31 := m31.lt
  have c32 := m32.cell
  have f32 := m32.free
  have l32 := m32.lt
  have c33 := m33.cell
  have f33 := m33.free
  have l33 := m33.lt
  have c34 := m34.cell
  have f34 := m34.free
  have l34 := m34.lt
  have c35 := m35.cell
  have f35 := m35.free
  have l35 := m35.lt
  go_wp2_with fail
  clear c30 f30 l30
  clear c31 f31 l31
  clear c32 f32 l32
  clear c33 f33 l33
  clear c34 f34 l34
  clear c35 f35 l35
  refine (C4.out _).mono ?_
  rintro e v6 ⟨rfl, hb1⟩
  replace m30 := m30.below hb1
  replace m31 := m31.below hb1
  replace m32 := m32.below hb1
  replace m33 := m33.below hb1
  replace m34 := m34.below hb1
  replace m35 := m35.below hb1
  replace hB := hB.trans (hb1.mono hB.size)
  have hb_v6 := hb1
  clear hb1
  have hp := hp.out
  have hq := hq.out
  have t1 := t1.out
  have t2 := t2.out
  have hsw := hsw.out
  have hcase : (p = -1 ∧ q ≤ 0) ∨ (p = -1 ∧ q = 1) ∨ (p = 0 ∧ q ≤ 0) ∨ (p = 0 ∧ q = 1) ∨ p = 1 := by omega
  clear hp hq
  rcases hcase with ⟨rfl, hq⟩ | ⟨rfl, rfl⟩ | ⟨rfl, hq⟩ | ⟨rfl, rfl⟩ | rfl
  · skip
    obtain rfl : p' = 1 := by omega
    have d3 : decide (0 < r) = false := by simp; omega
    have d5 : decide (0 ≤ r) = false := by simp; omega
    have d2 : decide (q ≤ 0) = true := by simpa using hq
    clear t1 t2 hsw hq
    rcases hsub.out with hD | ⟨r2, s2, hD, e1, e2⟩
    · clear hsub
      rw [hD] at S
      clear hD
      have c30 := m30.cell
      have f30 := m30.free
      have l30 := m30.lt
      have c31 := m31.cell
      have f31 := m31.free
      have l31 := m31.lt
      have c32 := m32.cell
      have f32 := m32.free
      have l32 := m32.lt
      have c33 := m33.cell
      have f33 := m33.free
      have l33 := m33.lt
      have c34 := m34.cell
      have f34 := m34.free
      have l34 := m34.lt
      have c35 := m35.cell
      have f35 := m35.free
      have l35 := m35.lt
      go_wp2_with fail
      clear c30 f30 l30
      clear c31 f31 l31
      clear c32 f32 l32
      clear c33 f33 l33
      clear c34 f34 l34
      clear c35 f35 l35
      refine (S.out _).mono ?_
      rintro e v7 ⟨rfl, hb1⟩
      replace m30 := m30.below hb1
      replace m31 := m31.below hb1
      replace m32 := m32.below hb1
      replace m33 := m33.below hb1
      replace m34 := m34.below hb1
      replace m35 := m35.below hb1
      replace hB := hB.trans (hb1.mono hB.size)
      have hb_v7 := hb1
      clear hb1
      have hBz := hB.size
      go_wp2
      go_ret
      exact ⟨rfl, (by repeat first | with_reducible exact Below.refl _ _ | with_reducible assumption | with_reducible refine below_drewN ?_ _ | with_reducible refine Below.drew ?_ | with_reducible refine Below.setCell ?_ (by first | exact Nat.le_refl _ | (simp; done) | (simp; omega) | omega) _ | with_reducible refine Below.alloc ?_ (by first | exact Nat.le_refl _ | (simp; done) | (simp; omega) | omega) _ | exact Below.refl _ _ | assumption)⟩
    · clear hsub
      have f1 : decide (0 < r2) = true := by simp; omega
      have f2 : (r2 == 0) = false := by simp; omega
      clear e1 e2
      rw [hD] at S
      clear hD
      have c30 := m30.cell
      have f30 := m30.free
      have l30 := m30.lt
      have c31 := m31.cell
      have f31 := m31.free
      have l31 := m31.lt
      have c32 := m32.cell
      have f32 := m32.free
      have l32 := m32.lt
      have c33 := m33.cell
      have f33 := m33.free
      have l33 := m33.lt
      have c34 := m34.cell
      have f34 := m34.free
      have l34 := m34.lt
      have c35 := m35.cell
      have f35 := m35.free
      have l35 := m35.lt
      go_wp2_with fail
      clear c30 f30 l30
      clear c31 f31 l31
      clear c32 f32 l32
      clear c33 f33 l33
      clear c34 f34 l34
      clear c35 f35 l35
      refine (S.out _).mono ?_
      rintro e v7 ⟨rfl, hb1⟩
      replace m30 := m30.below hb1
      replace m31 := m31.below hb1
      replace m32 := m32.below hb1
      replace m33 := m33.below hb1
      replace m34 := m34.below hb1
      replace m35 := m35.below hb1
      replace hB := hB.trans (hb1.mono hB.size)
      have hb_v7 := hb1
      clear hb1
      have hBz := hB.size
      go_wp2
      go_ret
      exact ⟨rfl, (by repeat first | with_reducible exact Below.refl _ _ | with_reducible assumption | with_reducible refine below_drewN ?_ _ | with_reducible refine Below.drew ?_ | with_reducible refine Below.setCell ?_ (by first | exact Nat.le_refl _ | (simp; done) | (simp; omega) | omega) _ | with_reducible refine Below.alloc ?_ (by first | exact Nat.le_refl _ | (simp; done) | (simp; omega) | omega) _ | exact Below.refl _ _ | assumption)⟩
  · skip
    obtain rfl : p' = 1 := by omega
    clear t1 t2 hsw
    rcases hsub.out with hD | ⟨r2, s2, hD, e1, e2⟩
    · clear hsub
      rw [hD] at S
      clear hD
      have c30 := m30.cell
      have f30 := m30.free
      have l30 := m30.lt
      have c31 := m31.cell
      have f31 := m31.free
      have l31 := m31.lt
      have c32 := m32.cell
      have f32 := m32.free
      have l32 := m32.lt
      have c33 := m33.cell
      have f33 := m33.free
      have l33 := m33.lt
      have c34 := m34.cell
      have f34 := m34.free
      have l34 := m34.lt
      have c35 := m35.cell
      have f35 := m35.free
      have l35 := m35.lt
      go_wp2_with fail
      clear c30 f30 l30
      clear c31 f31 l31
      clear c32 f32 l32
      clear c33 f33 l33
      clear c34 f34 l34
      clear c35 f35 l35
      refine (S.out _).mono ?_
      rintro e v7 ⟨rfl, hb1⟩
      replace m30 := m30.below hb1
      replace m31 := m31.below hb1
      replace m32 := m32.below hb1
      replace m33 := m33.below hb1
      replace m34 := m34.below hb1
      replace m35 := m35.below hb1
      replace hB := hB.trans (hb1.mono hB.size)
      have hb_v7 := hb1
      clear hb1
      have hBz := hB.size
      go_wp2
      go_ret
      exact ⟨rfl, (by repeat first | with_reducible exact Below.refl _ _ | with_reducible assumption | with_reducible refine below_drewN ?_ _ | with_reducible refine Below.drew ?_ | with_reducible refine Below.setCell ?_ (by first | exact Nat.le_refl _ | (simp; done) | (simp; omega) | omega) _ | with_reducible refine Below.alloc ?_ (by first | exact Nat.le_refl _ | (simp; done) | (simp; omega) | omega) _ | exact Below.refl _ _ | assumption)⟩
    · clear hsub
      have f1 : decide (0 < r2) = true := by simp; omega
      have f2 : (r2 == 0) = false := by simp; omega
      clear e1 e2
      rw [hD] at S
      clear hD
      have c30 := m30.cell
      have f30 := m30.free
      have l30 := m30.lt
      have c31 := m31.cell
      have f31 := m31.free
      have l31 := m31.lt
      have c32 := m32.cell
      have f32 := m32.free
      have l32 := m32.lt
      have c33 := m33.cell
      have f33 := m33.free
      have l33 := m33.lt
      have c34 := m34.cell
      have f34 := m34.free
      have l34 := m34.lt
      have c35 := m35.cell
      have f35 := m35.free
      have l35 := m35.lt
      go_wp2_with fail
      clear c30 f30 l30
      clear c31 f31 l31
      clear c32 f32 l32
      clear c33 f33 l33
      clear c34 f34 l34
      clear c35 f35 l35
      refine (S.out _).mono ?_
      rintro e v7 ⟨rfl, hb1⟩
      replace m30 := m30.below hb1
      replace m31 := m31.below hb1
      replace m32 := m32.below hb1
      replace m33 := m33.below hb1
      replace m34 := m34.below hb1
      replace m35 := m35.below hb1
      replace hB := hB.trans (hb1.mono hB.size)
      have hb_v7 := hb1
      clear hb1
      have hBz := hB.size
      go_wp2
      go_ret
      exact ⟨rfl, (by repeat first | with_reducible exact Below.refl _ _ | with_reducible assumption | with_reducible refine below_drewN ?_ _ | with_reducible refine Below.drew ?_ | with_reducible refine Below.setCell ?_ (by first | exact Nat.le_refl _ | (simp; done) | (simp; omega) | omega) _ | with_reducible refine Below.alloc ?_ (by first | exact Nat.le_refl _ | (simp; done) | (simp; omega) | omega) _ | exact Below.refl _ _ | assumption)⟩
  · skip
    obtain rfl : p' = 0 := by omega
    have d3 : decide (0 < r) = false := by simp; omega
    have d2 : decide (q ≤ 0) = true := by simpa using hq
    clear t1 t2 hsw hq
    rcases hsub.out with hD | ⟨r2, s2, hD, e1, e2⟩
    · clear hsub
      rw [hD] at S
      clear hD
      have c30 := m30.cell
      have f30 := m30.free
      have l30 := m30.lt
      have c31 := m31.cell
      have f31 := m31.free
      have l31 := m31.lt
      have c32 := m32.cell
      have f32 := m32.free
      have l32 := m32.lt
      have c33 := m33.cell
      have f33 := m33.free
      have l33 := m33.lt
      have c34 := m34.cell
      have f34 := m34.free
      have l34 := m34.lt
      have c35 := m35.cell
      have f35 := m35.free
      have l35 := m35.lt
      go_wp2_with fail
      clear c30 f30 l30
      clear c31 f31 l31
      clear c32 f32 l32
      clear c33 f33 l33
      clear c34 f34 l34
      clear c35 f35 l35
      refine (S.out _).mono ?_
      rintro e v7 ⟨rfl, hb1⟩
      replace m30 := m30.below hb1
      replace m31 := m31.below hb1
      replace m32 := m32.below hb1
      replace m33 := m33.below hb1
      replace m34 := m34.below hb1
      replace m35 := m35.below hb1
      replace hB := hB.trans (hb1.mono hB.size)
      have hb_v7 := hb1
      clear hb1
      have hBz := hB.size
      go_wp2
      go_ret
      exact ⟨rfl, (by repeat first | with_reducible exact Below.refl _ _ | with_reducible assumption | with_reducible refine below_drewN ?_ _ | with_reducible refine Below.drew ?_ | with_reducible refine Below.setCell ?_ (by first | exact Nat.le_refl _ | (simp; done) | (simp; omega) | omega) _ | with_reducible refine Below.alloc ?_ (by first | exact Nat.le_refl _ | (simp; done) | (simp; omega) | omega) _ | exact Below.refl _ _ | assumption)⟩
    · clear hsub
      have f1 : decide (0 < r2) = false := by simp; omega
      have f2 : (r2 == 0) = true := by simp; omega
      clear e1 e2
      rw [hD] at S
      clear hD
      have c30 := m30.cell
      have f30 := m30.free
      have l30 := m30.lt
      have c31 := m31.cell
      have f31 := m31.free
      have l31 := m31.lt
      have c32 := m32.cell
      have f32 := m32.free
      have l32 := m32.lt
      have c33 := m33.cell
      have f33 := m33.free
      have l33 := m33.lt
      have c34 := m34.cell
      have f34 := m34.free
      have l34 := m34.lt
      have c35 := m35.cell
      have f35 := m35.free
      have l35 := m35.lt
      go_wp2_with fail
      clear c30 f30 l30
      clear c31 f31 l31
      clear c32 f32 l32
      clear c33 f33 l33
      clear c34 f34 l34
      clear c35 f35 l35
      refine (S.out _).mono ?_
      rintro e v7 ⟨rfl, hb1⟩
      replace m30 := m30.below hb1
      replace m31 := m31.below hb1
      replace m32 := m32.below hb1
      replace m33 := m33.below hb1
      replace m34 := m34.below hb1
      replace m35 := m35.below hb1
      replace hB := hB.trans (hb1.mono hB.size)
      have hb_v7 := hb1
      clear hb1
      have hBz := hB.size
      go_wp2
      go_ret
      exact ⟨rfl, (by repeat first | with_reducible exact Below.refl _ _ | with_reducible assumption | with_reducible refine below_drewN ?_ _ | with_reducible refine Below.drew ?_ | with_reducible refine Below.setCell ?_ (by first | exact Nat.le_refl _ | (simp; done) | (simp; omega) | omega) _ | with_reducible refine Below.alloc ?_ (by first | exact Nat.le_refl _ | (simp; done) | (simp; omega) | omega) _ | exact Below.refl _ _ | assumption)⟩
  · skip
    obtain rfl : p' = 0 := by omega
    clear t1 t2 hsw
    rcases hsub.out with hD | ⟨r2, s2, hD, e1, e2⟩
    · clear hsub
      rw [hD] at S
      clear hD
      have c30 := m30.cell
      have f30 := m30.free
      have l30 := m30.lt
      have c31 := m31.cell
      have f31 := m31.free
      have l31 := m31.lt
      have c32 := m32.cell
      have f32 := m32.free
      have l32 := m32.lt
      have c33 := m33.cell
      have f33 := m33.free
      have l33 := m33.lt
      have c34 := m34.cell
      have f34 := m34.free
      have l34 := m34.lt
      have c35 := m35.cell
      have f35 := m35.free
      have l35 := m35.lt
      go_wp2_with fail
      clear c30 f30 l30
      clear c31 f31 l31
      clear c32 f32 l32
      clear c33 f33 l33
      clear c34 f34 l34
      clear c35 f35 l35
      refine (S.out _).mono ?_
      rintro e v7 ⟨rfl, hb1⟩
      replace m30 := m30.below hb1
      replace m31 := m31.below hb1
      replace m32 := m32.below hb1
      replace m33 := m33.below hb1
      replace m34 := m34.below hb1
      replace m35 := m35.below hb1
      replace hB := hB.trans (hb1.mono hB.size)
      have hb_v7 := hb1
      clear hb1
      have hBz := hB.size
      go_wp2
      go_ret
      exact ⟨rfl, (by repeat first | with_reducible exact Below.refl _ _ | with_reducible assumption | with_reducible refine below_drewN ?_ _ | with_reducible refine Below.drew ?_ | with_reducible refine Below.setCell ?_ (by first | exact Nat.le_refl _ | (simp; done) | (simp; omega) | omega) _ | with_reducible refine Below.alloc ?_ (by first | exact Nat.le_refl _ | (simp; done) | (simp; omega) | omega) _ | exact Below.refl _ _ | assumption)⟩
    · clear hsub
      have f1 : decide (0 < r2) = false := by simp; omega
      have f2 : (r2 == 0) = true := by simp; omega
      clear e1 e2
      rw [hD] at S
      clear hD
      have c30 := m30.cell
      have f30 := m30.free
      have l30 := m30.lt
      have c31 := m31.cell
      have f31 := m31.free
      have l31 := m31.lt
      have c32 := m32.cell
      have f32 := m32.free
      have l32 := m32.lt
      have c33 := m33.cell
      have f33 := m33.free
      have l33 := m33.lt
      have c34 := m34.cell
      have f34 := m34.free
      have l34 := m34.lt
      have c35 := m35.cell
      have f35 := m35.free
      have l35 := m35.lt
      go_wp2_with fail
      clear c30 f30 l30
      clear c31 f31 l31
      clear c32 f32 l32
      clear c33 f33 l33
      clear c34 f34 l34
      clear c35 f35 l35
      refine (S.out _).mono ?_
      rintro e v7 ⟨rfl, hb1⟩
      replace m30 := m30.below hb1
      replace m31 := m31.below hb1
      replace m32 := m32.below hb1
      replace m33 := m33.below hb1
      replace m34 := m34.below hb1
      replace m35 := m35.below hb1
      replace hB := hB.trans (hb1.mono hB.size)
      have hb_v7 := hb1
      clear hb1
      have hBz := hB.size
      go_wp2
      go_ret
      exact ⟨rfl, (by repeat first | with_reducible exact Below.refl _ _ | with_reducible assumption | with_reducible refine below_drewN ?_ _ | with_reducible refine Below.drew ?_ | with_reducible refine Below.setCell ?_ (by first | exact Nat.le_refl _ | (simp; done) | (simp; omega) | omega) _ | with_reducible refine Below.alloc ?_ (by first | exact Nat.le_refl _ | (simp; done) | (simp; omega) | omega) _ | exact Below.refl _ _ | assumption)⟩
  · skip
    obtain rfl : p' = -1 := by omega
    clear t1 t2 hsw
    rcases hsub.out with hD | ⟨r2, s2, hD, e1, e2⟩
    · clear hsub
      rw [hD] at S
      clear hD
      have c30 := m30.cell
      have f30 := m30.free
      have l30 := m30.lt
      have c31 := m31.cell
      have f31 := m31.free
      have l31 := m31.lt
      have c32 := m32.cell
      have f32 := m32.free
      have l32 := m32.lt
      have c33 := m33.cell
      have f33 := m33.free
      have l33 := m33.lt
      have c34 := m34.cell
      have f34 := m34.free
      have l34 := m34.lt
      have c35 := m35.cell
      have f35 := m35.free
      have l35 := m35.lt
      go_wp2_with fail
      clear c30 f30 l30
      clear c31 f31 l31
      clear c32 f32 l32
      clear c33 f33 l33
      clear c34 f34 l34
      clear c35 f35 l35
      refine (S.out _).mono ?_
      rintro e v7 ⟨rfl, hb1⟩
      replace m30 := m30.below hb1
      replace m31 := m31.below hb1
      replace m32 := m32.below hb1
      replace m33 := m33.below hb1
      replace m34 := m34.below hb1
      replace m35 := m35.below hb1
      replace hB := hB.trans (hb1.mono hB.size)
      have hb_v7 := hb1
      clear hb1
      have hBz := hB.size
      go_wp2
      go_ret
      exact ⟨rfl, (by repeat first | with_reducible exact Below.refl _ _ | with_reducible assumption | with_reducible refine below_drewN ?_ _ | with_reducible refine Below.drew ?_ | with_reducible refine Below.setCell ?_ (by first | exact Nat.le_refl _ | (simp; done) | (simp; omega) | omega) _ | with_reducible refine Below.alloc ?_ (by first | exact Nat.le_refl _ | (simp; done) | (simp; omega) | omega) _ | exact Below.refl _ _ | assumption)⟩
    · clear hsub
      have f1 : decide (0 < r2) = false := by simp; omega
      have f2 : (r2 == 0) = false := by simp; omega
      clear e1 e2
      rw [hD] at S
      clear hD
      have c30 := m30.cell
      have f30 := m30.free
      have l30 := m30.lt
      have c31 := m31.cell
      have f31 := m31.free
      have l31 := m31.lt
      have c32 := m32.cell
      have f32 := m32.free
      have l32 := m32.lt
      have c33 := m33.cell
      have f33 := m33.free
      have l33 := m33.lt
      have c34 := m34.cell
      have f34 := m34.free
      have l34 := m34.lt
      have c35 := m35.cell
      have f35 := m35.free
      have l35 := m35.lt
      go_wp2_with fail
      clear c30 f30 l30
      clear c31 f31 l31
      clear c32 f32 l32
      clear c33 f33 l33
      clear c34 f34 l34
      clear c35 f35 l35
      refine (S.out _).mono ?_
      rintro e v7 ⟨rfl, hb1⟩
      replace m30 := m30.below hb1
      replace m31 := m31.below hb1
      replace m32 := m32.below hb1
      replace m33 := m33.below hb1
      replace m34 := m34.below hb1
      replace m35 := m35.below hb1
      replace hB := hB.trans (hb1.mono hB.size)
      have hb_v7 := hb1
      clear hb1
      have hBz := hB.size
      go_wp2
      go_ret
      exact ⟨rfl, (by repeat first | with_reducible exact Below.refl _ _ | with_reducible assumption | with_reducible refine below_drewN ?_ _ | with_reducible refine Below.drew ?_ | with_reducible refine Below.setCell ?_ (by first | exact Nat.le_refl _ | (simp; done) | (simp; omega) | omega) _ | with_reducible refine Below.alloc ?_ (by first | exact Nat.le_refl _ | (simp; done) | (simp; omega) | omega) _ | exact Below.refl _ _ | assumption)⟩
end Go.Proofs.YtfojgdlegojdgaaDoor
