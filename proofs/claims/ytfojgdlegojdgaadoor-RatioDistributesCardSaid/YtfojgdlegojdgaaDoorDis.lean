/-
  RatioDistributes: the walk.
-/
import Derived.Test.YtfojgdlegojdgaaDoorEqR
namespace Go.Proofs.YtfojgdlegojdgaaDoor
open Go.RowKit

set_option maxRecDepth 100000 in
set_option maxHeartbeats 8000000 in
theorem DisLaw (x0 x1 x2 x3 x4 x5 : Int) (w : World) (i0 : I64 x0) (i1 : I64 x1) (i2 : I64 x2) (i3 : I64 x3) (i4 : I64 x4) (i5 : I64 x5) (hE : Env w) :
    Calls Tryd.prog 9 #[sixv x0 x1 x2 x3 x4 x5] w fun e w' => e = .returned (.bool true) ∧ Below w.heap.size w w' := by
  have hB : Below w.heap.size w w := Below.refl _ _
  have hMade := fun w => made_law x0 x1 x2 x3 x4 x5 w i0 i1 i2 i3 i4 i5
  replace hMade := Lib.hid hMade
  clear i0 i1 i2 i3 i4 i5
  go_enter Tryd.func9, Tryd.ntmps9
  go_wp2_with fail
  refine name_calls ?_
  intro w1 hww1
  replace m10 : Mine w1 w.heap.size 0 (.int .i64 x0) := by rw [hww1]; (repeat first | with_reducible assumption | with_reducible refine Mine.drew ?_ | with_reducible refine Mine.drewN ?_ _ | ((with_reducible refine Mine.new ?_); rfl) | ((with_reducible refine Mine.newAt ?_ ?_) <;> first | rfl | (simp; done) | (simp only [World.size_alloc]; rfl)) | ((with_reducible refine Mine.set ?_ _); repeat first | exact Mine.slot (by with_reducible assumption) | with_reducible refine MineS.drew ?_ | with_reducible refine MineS.drewN ?_ _ | ((with_reducible refine MineS.new ?_); decide) | ((with_reducible refine MineS.newAt ?_ ?_) <;> first | decide | (simp; done)) | with_reducible refine MineS.set ?_ _ _ _ | with_reducible refine MineS.alloc ?_ _) | with_reducible refine Mine.other ?_ _ (by first | (left; omega) | (right; omega) | (simp; done) | (simp; omega)) | with_reducible refine Mine.alloc ?_ _)
  replace m11 : Mine w1 w.heap.size 1 (.int .i64 x1) := by rw [hww1]; (repeat first | with_reducible assumption | with_reducible refine Mine.drew ?_ | with_reducible refine Mine.drewN ?_ _ | ((with_reducible refine Mine.new ?_); rfl) | ((with_reducible refine Mine.newAt ?_ ?_) <;> first | rfl | (simp; done) | (simp only [World.size_alloc]; rfl)) | ((with_reducible refine Mine.set ?_ _); repeat first | exact Mine.slot (by with_reducible assumption) | with_reducible refine MineS.drew ?_ | with_reducible refine MineS.drewN ?_ _ | ((with_reducible refine MineS.new ?_); decide) | ((with_reducible refine MineS.newAt ?_ ?_) <;> first | decide | (simp; done)) | with_reducible refine MineS.set ?_ _ _ _ | with_reducible refine MineS.alloc ?_ _) | with_reducible refine Mine.other ?_ _ (by first | (left; omega) | (right; omega) | (simp; done) | (simp; omega)) | with_reducible refine Mine.alloc ?_ _)
  replace m12 : Mine w1 w.heap.size 2 (.int .i64 x2) := by rw [hww1]; (repeat first | with_reducible assumption | with_reducible refine Mine.drew ?_ | with_reducible refine Mine.drewN ?_ _ | ((with_reducible refine Mine.new ?_); rfl) | ((with_reducible refine Mine.newAt ?_ ?_) <;> first | rfl | (simp; done) | (simp only [World.size_alloc]; rfl)) | ((with_reducible refine Mine.set ?_ _); repeat first | exact Mine.slot (by with_reducible assumption) | with_reducible refine MineS.drew ?_ | with_reducible refine MineS.drewN ?_ _ | ((with_reducible refine MineS.new ?_); decide) | ((with_reducible refine MineS.newAt ?_ ?_) <;> first | decide | (simp; done)) | with_reducible refine MineS.set ?_ _ _ _ | with_reducible refine MineS.alloc ?_ _) | with_reducible refine Mine.other ?_ _ (by first | (left; omega) | (right; omega) | (simp; done) | (simp; omega)) | with_reducible refine Mine.alloc ?_ _)
  replace m13 : Mine w1 w.heap.size 3 (.int .i64 x3) := by rw [hww1]; (repeat first | with_reducible assumption | with_reducible refine Mine.drew ?_ | with_reducible refine Mine.drewN ?_ _ | ((with_reducible refine Mine.new ?_); rfl) | ((with_reducible refine Mine.newAt ?_ ?_) <;> first | rfl | (simp; done) | (simp only [World.size_alloc]; rfl)) | ((with_reducible refine Mine.set ?_ _); repeat first | exact Mine.slot (by with_reducible assumption) | with_reducible refine MineS.drew ?_ | with_reducible refine MineS.drewN ?_ _ | ((with_reducible refine MineS.new ?_); decide) | ((with_reducible refine MineS.newAt ?_ ?_) <;> first | decide | (simp; done)) | with_reducible refine MineS.set ?_ _ _ _ | with_reducible refine MineS.alloc ?_ _) | with_reducible refine Mine.other ?_ _ (by first | (left; omega) | (right; omega) | (simp; done) | (simp; omega)) | with_reducible refine Mine.alloc ?_ _)
  replace m14 : Mine w1 w.heap.size 4 (.int .i64 x4) := by rw [hww1]; (repeat first | with_reducible assumption | with_reducible refine Mine.drew ?_ | with_reducible refine Mine.drewN ?_ _ | ((with_reducible refine Mine.new ?_); rfl) | ((with_reducible refine Mine.newAt ?_ ?_) <;> first | rfl | (simp; done) | (simp only [World.size_alloc]; rfl)) | ((with_reducible refine Mine.set ?_ _); repeat first | exact Mine.slot (by with_reducible assumption) | with_reducible refine MineS.drew ?_ | with_reducible refine MineS.drewN ?_ _ | ((with_reducible refine MineS.new ?_); decide) | ((with_reducible refine MineS.newAt ?_ ?_) <;> first | decide | (simp; done)) | with_reducible refine MineS.set ?_ _ _ _ | with_reducible refine MineS.alloc ?_ _) | with_reducible refine Mine.other ?_ _ (by first | (left; omega) | (right; omega) | (simp; done) | (simp; omega)) | with_reducible refine Mine.alloc ?_ _)
  replace m15 : Mine w1 w.heap.size 5 (.int .i64 x5) := by rw [hww1]; (repeat first | with_reducible assumption | with_reducible refine Mine.drew ?_ | with_reducible refine Mine.drewN ?_ _ | ((with_reducible refine Mine.new ?_); rfl) | ((with_reducible refine Mine.newAt ?_ ?_) <;> first | rfl | (simp; done) | (simp only [World.size_alloc]; rfl)) | ((with_reducible refine Mine.set ?_ _); repeat first | exact Mine.slot (by with_reducible assumption) | with_reducible refine MineS.drew ?_ | with_reducible refine MineS.drewN ?_ _ | ((with_reducible refine MineS.new ?_); decide) | ((with_reducible refine MineS.newAt ?_ ?_) <;> first | decide | (simp; done)) | with_reducible refine MineS.set ?_ _ _ _ | with_reducible refine MineS.alloc ?_ _) | with_reducible refine Mine.other ?_ _ (by first | (left; omega) | (right; omega) | (simp; done) | (simp; omega)) | with_reducible refine Mine.alloc ?_ _)
  have hBzw1 := hB.size
  replace hB : Below w.heap.size w w1 := by rw [hww1]; exact (by repeat first | with_reducible exact Below.refl _ _ | with_reducible assumption | with_reducible refine below_drewN ?_ _ | with_reducible refine Below.drew ?_ | with_reducible refine Below.setCell ?_ (by first | exact Nat.le_refl _ | (simp; done) | (simp; omega) | omega) _ | with_reducible refine Below.alloc ?_ (by first | exact Nat.le_refl _ | (simp; done) | (simp; omega) | omega) _ | exact Below.refl _ _ | assumption)
  clear hww1 hBzw1
  refine (sane_any _ (hE.below hB)).mono ?_
  rintro e v1 ⟨rfl, hb1⟩
  replace m10 := m10.below hb1
  replace m11 := m11.below hb1
  replace m12 := m12.below hb1
  replace m13 := m13.below hb1
  replace m14 := m14.below hb1
  replace m15 := m15.below hb1
  replace hB := hB.trans (hb1.mono hB.size)
  have hb_v1 := hb1
  clear hb1
  have c10 := m10.cell
  have f10 := m10.free
  have l10 := m10.lt
  have c11 := m11.cell
  have f11 := m11.free
  have l11 := m11.lt
  have c12 := m12.cell
  have f12 := m12.free
  have l12 := m12.lt
  have c13 := m13.cell
  have f13 := m13.free
  have l13 := m13.lt
  have c14 := m14.cell
  have f14 := m14.free
  have l14 := m14.lt
  have c15 := m15.cell
  have f15 := m15.free
  have l15 := m15.lt
  go_wp2_with fail
  clear c10 f10 l10
  clear c11 f11 l11
  clear c12 f12 l12
  clear c13 f13 l13
  clear c14 f14 l14
  clear c15 f15 l15
  refine (hMade.out _).mono ?_
  rintro e v2 ⟨hm, hb1⟩
  replace m10 := m10.below hb1
  replace m11 := m11.below hb1
  replace m12 := m12.below hb1
  replace m13 := m13.below hb1
  replace m14 := m14.below hb1
  replace m15 := m15.below hb1
  replace hB := hB.trans (hb1.mono hB.size)
  have hb_v2 := hb1
  clear hb1
  clear m10 m11 m12 m13 m14 m15 hMade
  rcases hm with ⟨a, b, c, d, g, h, v1, v2x, v3, rfl⟩ | ⟨a, b, c, d, g, h, rfl⟩
  rotate_left
  · have hBz := hB.size
    go_wp2
    go_ret
    exact ⟨rfl, (by repeat first | with_reducible exact Below.refl _ _ | with_reducible assumption | with_reducible refine below_drewN ?_ _ | with_reducible refine Below.drew ?_ | with_reducible refine Below.setCell ?_ (by first | exact Nat.le_refl _ | (simp; done) | (simp; omega) | omega) _ | with_reducible refine Below.alloc ?_ (by first | exact Nat.le_refl _ | (simp; done) | (simp; omega) | omega) _ | exact Below.refl _ _ | assumption)⟩
  have C1 := fun w => Add_v c d g h w v2x v3
  have C2 := fun w => Mul_v a b c d w v1 v2x
  have C3 := fun w => Mul_v a b g h w v1 v3
  obtain ⟨E, hEe⟩ : ∃ x, x = addv c d g h := ⟨_, rfl⟩
  obtain ⟨F, hFe⟩ : ∃ x, x = mulv a b c d := ⟨_, rfl⟩
  obtain ⟨G, hGe⟩ : ∃ x, x = mulv a b g h := ⟨_, rfl⟩
  rw [← hEe] at C1
  rw [← hFe] at C2
  rw [← hGe] at C3
  replace C1 := Lib.hid C1
  replace C2 := Lib.hid C2
  replace C3 := Lib.hid C3
  replace hEe := Lib.hid hEe
  replace hFe := Lib.hid hFe
  replace hGe := Lib.hid hGe
  replace v1 := Lib.hid v1
  replace v2x := Lib.hid v2x
  replace v3 := Lib.hid v3
  go_wp2_with fail
  refine name_calls ?_
  intro w3 hww3
  replace m30 : Mine w3 v2.heap.size 0 (.int .i64 a) := by rw [hww3]; (repeat first | with_reducible assumption | with_reducible refine Mine.drew ?_ | with_reducible refine Mine.drewN ?_ _ | ((with_reducible refine Mine.new ?_); rfl) | ((with_reducible refine Mine.newAt ?_ ?_) <;> first | rfl | (simp; done) | (simp only [World.size_alloc]; rfl)) | ((with_reducible refine Mine.set ?_ _); repeat first | exact Mine.slot (by with_reducible assumption) | with_reducible refine MineS.drew ?_ | with_reducible refine MineS.drewN ?_ _ | ((with_reducible refine MineS.new ?_); decide) | ((with_reducible refine MineS.newAt ?_ ?_) <;> first | decide | (simp; done)) | with_reducible refine MineS.set ?_ _ _ _ | with_reducible refine MineS.alloc ?_ _) | with_reducible refine Mine.other ?_ _ (by first | (left; omega) | (right; omega) | (simp; done) | (simp; omega)) | with_reducible refine Mine.alloc ?_ _)
  replace m31 : Mine w3 v2.heap.size 1 (.int .i64 b) := by rw [hww3]; (repeat first | with_reducible assumption | with_reducible refine Mine.drew ?_ | with_reducible refine Mine.drewN ?_ _ | ((with_reducible refine Mine.new ?_); rfl) | ((with_reducible refine Mine.newAt ?_ ?_) <;> first | rfl | (simp; done) | (simp only [World.size_alloc]; rfl)) | ((with_reducible refine Mine.set ?_ _); repeat first | exact Mine.slot (by with_reducible assumption) | with_reducible refine MineS.drew ?_ | with_reducible refine MineS.drewN ?_ _ | ((with_reducible refine MineS.new ?_); decide) | ((with_reducible refine MineS.newAt ?_ ?_) <;> first | decide | (simp; done)) | with_reducible refine MineS.set ?_ _ _ _ | with_reducible refine MineS.alloc ?_ _) | with_reducible refine Mine.other ?_ _ (by first | (left; omega) | (right; omega) | (simp; done) | (simp; omega)) | with_reducible refine Mine.alloc ?_ _)
  replace m32 : Mine w3 v2.heap.size 2 (.int .i64 c) := by rw [hww3]; (repeat first | with_reducible assumption | with_reducible refine Mine.drew ?_ | with_reducible refine Mine.drewN ?_ _ | ((with_reducible refine Mine.new ?_); rfl) | ((with_reducible refine Mine.newAt ?_ ?_) <;> first | rfl | (simp; done) | (simp only [World.size_alloc]; rfl)) | ((with_reducible refine Mine.set ?_ _); repeat first | exact Mine.slot (by with_reducible assumption) | with_reducible refine MineS.drew ?_ | with_reducible refine MineS.drewN ?_ _ | ((with_reducible refine MineS.new ?_); decide) | ((with_reducible refine MineS.newAt ?_ ?_) <;> first | decide | (simp; done)) | with_reducible refine MineS.set ?_ _ _ _ | with_reducible refine MineS.alloc ?_ _) | with_reducible refine Mine.other ?_ _ (by first | (left; omega) | (right; omega) | (simp; done) | (simp; omega)) | with_reducible refine Mine.alloc ?_ _)
  replace m33 : Mine w3 v2.heap.size 3 (.int .i64 d) := by rw [hww3]; (repeat first | with_reducible assumption | with_reducible refine Mine.drew ?_ | with_reducible refine Mine.drewN ?_ _ | ((with_reducible refine Mine.new ?_); rfl) | ((with_reducible refine Mine.newAt ?_ ?_) <;> first | rfl | (simp; done) | (simp only [World.size_alloc]; rfl)) | ((with_reducible refine Mine.set ?_ _); repeat first | exact Mine.slot (by with_reducible assumption) | with_reducible refine MineS.drew ?_ | with_reducible refine MineS.drewN ?_ _ | ((with_reducible refine MineS.new ?_); decide) | ((with_reducible refine MineS.newAt ?_ ?_) <;> first | decide | (simp; done)) | with_reducible refine MineS.set ?_ _ _ _ | with_reducible refine MineS.alloc ?_ _) | with_reducible refine Mine.other ?_ _ (by first | (left; omega) | (right; omega) | (simp; done) | (simp; omega)) | with_reducible refine Mine.alloc ?_ _)
  replace m34 : Mine w3 v2.heap.size 4 (.int .i64 g) := by rw [hww3]; (repeat first | with_reducible assumption | with_reducible refine Mine.drew ?_ | with_reducible refine Mine.drewN ?_ _ | ((with_reducible refine Mine.new ?_); rfl) | ((with_reducible refine Mine.newAt ?_ ?_) <;> first | rfl | (simp; done) | (simp only [World.size_alloc]; rfl)) | ((with_reducible refine Mine.set ?_ _); repeat first | exact Mine.slot (by with_reducible assumption) | with_reducible refine MineS.drew ?_ | with_reducible refine MineS.drewN ?_ _ | ((with_reducible refine MineS.new ?_); decide) | ((with_reducible refine MineS.newAt ?_ ?_) <;> first | decide | (simp; done)) | with_reducible refine MineS.set ?_ _ _ _ | with_reducible refine MineS.alloc ?_ _) | with_reducible refine Mine.other ?_ _ (by first | (left; omega) | (right; omega) | (simp; done) | (simp; omega)) | with_reducible refine Mine.alloc ?_ _)
  replace m35 : Mine w3 v2.heap.size 5 (.int .i64 h) := by rw [hww3]; (repeat first | with_reducible assumption | with_reducible refine Mine.drew ?_ | with_reducible refine Mine.drewN ?_ _ | ((with_reducible refine Mine.new ?_); rfl) | ((with_reducible refine Mine.newAt ?_ ?_) <;> first | rfl | (simp; done) | (simp only [World.size_alloc]; rfl)) | ((with_reducible refine Mine.set ?_ _); repeat first | exact Mine.slot (by with_reducible assumption) | with_reducible refine MineS.drew ?_ | with_reducible refine MineS.drewN ?_ _ | ((with_reducible refine MineS.new ?_); decide) | ((with_reducible refine MineS.newAt ?_ ?_) <;> first | decide | (simp; done)) | with_reducible refine MineS.set ?_ _ _ _ | with_reducible refine MineS.alloc ?_ _) | with_reducible refine Mine.other ?_ _ (by first | (left; omega) | (right; omega) | (simp; done) | (simp; omega)) | with_reducible refine Mine.alloc ?_ _)
  have hBzw3 := hB.size
  replace hB : Below w.heap.size w w3 := by rw [hww3]; exact (by repeat first | with_reducible exact Below.refl _ _ | with_reducible assumption | with_reducible refine below_drewN ?_ _ | with_reducible refine Below.drew ?_ | with_reducible refine Below.setCell ?_ (by first | exact Nat.le_refl _ | (simp; done) | (simp; omega) | omega) _ | with_reducible refine Below.alloc ?_ (by first | exact Nat.le_refl _ | (simp; done) | (simp; omega) | omega) _ | exact Below.refl _ _ | assumption)
  clear hww3 hBzw3
  generalize v2.heap.size = bL at *
  refine (C1.out _).mono ?_
  rintro e v3x ⟨rfl, hb1⟩
  replace m30 := m30.below hb1
  replace m31 := m31.below hb1
  replace m32 := m32.below hb1
  replace m33 := m33.below hb1
  replace m34 := m34.below hb1
  replace m35 := m35.below hb1
  replace hB := hB.trans (hb1.mono hB.size)
  have hb_v3x := hb1
  clear hb1
  have c30 := m30.cell
  have f30 := m30.free
  have l30 := m30.lt
  have c31 := m31.cell
  have f31 := m31.free
  have l31 := m31.lt
  have c32 := m32.cell
  have f32 := m32.free
  have l32 := m32.lt
  have c33 := m33.cell
  have f33 := m33.free
  have l33 := m33.lt
  have c34 := m34.cell
  have f34 := m34.free
  have l34 := m34.lt
  have c35 := m35.cell
  have f35 := m35.free
  have l35 := m35.lt
  go_wp2_with fail
  clear c30 f30 l30
  clear c31 f31 l31
  clear c32 f32 l32
  clear c33 f33 l33
  clear c34 f34 l34
  clear c35 f35 l35
  refine name_calls ?_
  intro w4 hww4
  replace m30 : Mine w4 bL 0 (.int .i64 a) := by rw [hww4]; (repeat first | with_reducible assumption | with_reducible refine Mine.drew ?_ | with_reducible refine Mine.drewN ?_ _ | ((with_reducible refine Mine.new ?_); rfl) | ((with_reducible refine Mine.newAt ?_ ?_) <;> first | rfl | (simp; done) | (simp only [World.size_alloc]; rfl)) | ((with_reducible refine Mine.set ?_ _); repeat first | exact Mine.slot (by with_reducible assumption) | with_reducible refine MineS.drew ?_ | with_reducible refine MineS.drewN ?_ _ | ((with_reducible refine MineS.new ?_); decide) | ((with_reducible refine MineS.newAt ?_ ?_) <;> first | decide | (simp; done)) | with_reducible refine MineS.set ?_ _ _ _ | with_reducible refine MineS.alloc ?_ _) | with_reducible refine Mine.other ?_ _ (by first | (left; omega) | (right; omega) | (simp; done) | (simp; omega)) | with_reducible refine Mine.alloc ?_ _)
  replace m31 : Mine w4 bL 1 (.int .i64 b) := by rw [hww4]; (repeat first | with_reducible assumption | with_reducible refine Mine.drew ?_ | with_reducible refine Mine.drewN ?_ _ | ((with_reducible refine Mine.new ?_); rfl) | ((with_reducible refine Mine.newAt ?_ ?_) <;> first | rfl | (simp; done) | (simp only [World.size_alloc]; rfl)) | ((with_reducible refine Mine.set ?_ _); repeat first | exact Mine.slot (by with_reducible assumption) | with_reducible refine MineS.drew ?_ | with_reducible refine MineS.drewN ?_ _ | ((with_reducible refine MineS.new ?_); decide) | ((with_reducible refine MineS.newAt ?_ ?_) <;> first | decide | (simp; done)) | with_reducible refine MineS.set ?_ _ _ _ | with_reducible refine MineS.alloc ?_ _) | with_reducible refine Mine.other ?_ _ (by first | (left; omega) | (right; omega) | (simp; done) | (simp; omega)) | with_reducible refine Mine.alloc ?_ _)
  replace m32 : Mine w4 bL 2 (.int .i64 c) := by rw [hww4]; (repeat first | with_reducible assumption | with_reducible refine Mine.drew ?_ | with_reducible refine Mine.drewN ?_ _ | ((with_reducible refine Mine.new ?_); rfl) | ((with_reducible refine Mine.newAt ?_ ?_) <;> first | rfl | (simp; done) | (simp only [World.size_alloc]; rfl)) | ((with_reducible refine Mine.set ?_ _); repeat first | exact Mine.slot (by with_reducible assumption) | with_reducible refine MineS.drew ?_ | with_reducible refine MineS.drewN ?_ _ | ((with_reducible refine MineS.new ?_); decide) | ((with_reducible refine MineS.newAt ?_ ?_) <;> first | decide | (simp; done)) | with_reducible refine MineS.set ?_ _ _ _ | with_reducible refine MineS.alloc ?_ _) | with_reducible refine Mine.other ?_ _ (by first | (left; omega) | (right; omega) | (simp; done) | (simp; omega)) | with_reducible refine Mine.alloc ?_ _)
  replace m33 : Mine w4 bL 3 (.int .i64 d) := by rw [hww4]; (repeat first | with_reducible assumption | with_reducible refine Mine.drew ?_ | with_reducible refine Mine.drewN ?_ _ | ((with_reducible refine Mine.new ?_); rfl) | ((with_reducible refine Mine.newAt ?_ ?_) <;> first | rfl | (simp; done) | (simp only [World.size_alloc]; rfl)) | ((with_reducible refine Mine.set ?_ _); repeat first | exact Mine.slot (by with_reducible assumption) | with_reducible refine MineS.drew ?_ | with_reducible refine MineS.drewN ?_ _ | ((with_reducible refine MineS.new ?_); decide) | ((with_reducible refine MineS.newAt ?_ ?_) <;> first | decide | (simp; done)) | with_reducible refine MineS.set ?_ _ _ _ | with_reducible refine MineS.alloc ?_ _) | with_reducible refine Mine.other ?_ _ (by first | (left; omega) | (right; omega) | (simp; done) | (simp; omega)) | with_reducible refine Mine.alloc ?_ _)
  replace m34 : Mine w4 bL 4 (.int .i64 g) := by rw [hww4]; (repeat first | with_reducible assumption | with_reducible refine Mine.drew ?_ | with_reducible refine Mine.drewN ?_ _ | ((with_reducible refine Mine.new ?_); rfl) | ((with_reducible refine Mine.newAt ?_ ?_) <;> first | rfl | (simp; done) | (simp only [World.size_alloc]; rfl)) | ((with_reducible refine Mine.set ?_ _); repeat first | exact Mine.slot (by with_reducible assumption) | with_reducible refine MineS.drew ?_ | with_reducible refine MineS.drewN ?_ _ | ((with_reducible refine MineS.new ?_); decide) | ((with_reducible refine MineS.newAt ?_ ?_) <;> first | decide | (simp; done)) | with_reducible refine MineS.set ?_ _ _ _ | with_reducible refine MineS.alloc ?_ _) | with_reducible refine Mine.other ?_ _ (by first | (left; omega) | (right; omega) | (simp; done) | (simp; omega)) | with_reducible refine Mine.alloc ?_ _)
  replace m35 : Mine w4 bL 5 (.int .i64 h) := by rw [hww4]; (repeat first | with_reducible assumption | with_reducible refine Mine.drew ?_ | with_reducible refine Mine.drewN ?_ _ | ((with_reducible refine Mine.new ?_); rfl) | ((with_reducible refine Mine.newAt ?_ ?_) <;> first | rfl | (simp; done) | (simp only [World.size_alloc]; rfl)) | ((with_reducible refine Mine.set ?_ _); repeat first | exact Mine.slot (by with_reducible assumption) | with_reducible refine MineS.drew ?_ | with_reducible refine MineS.drewN ?_ _ | ((with_reducible refine MineS.new ?_); decide) | ((with_reducible refine MineS.newAt ?_ ?_) <;> first | decide | (simp; done)) | with_reducible refine MineS.set ?_ _ _ _ | with_reducible refine MineS.alloc ?_ _) | with_reducible refine Mine.other ?_ _ (by first | (left; omega) | (right; omega) | (simp; done) | (simp; omega)) | with_reducible refine Mine.alloc ?_ _)
  replace m41 : Mine w4 v3x.heap.size 0 (.int .i64 E.1) := by rw [hww4]; (repeat first | with_reducible assumption | with_reducible refine Mine.drew ?_ | with_reducible refine Mine.drewN ?_ _ | ((with_reducible refine Mine.new ?_); rfl) | ((with_reducible refine Mine.newAt ?_ ?_) <;> first | rfl | (simp; done) | (simp only [World.size_alloc]; rfl)) | ((with_reducible refine Mine.set ?_ _); repeat first | exact Mine.slot (by with_reducible assumption) | with_reducible refine MineS.drew ?_ | with_reducible refine MineS.drewN ?_ _ | ((with_reducible refine MineS.new ?_); decide) | ((with_reducible refine MineS.newAt ?_ ?_) <;> first | decide | (simp; done)) | with_reducible refine MineS.set ?_ _ _ _ | with_reducible refine MineS.alloc ?_ _) | with_reducible refine Mine.other ?_ _ (by first | (left; omega) | (right; omega) | (simp; done) | (simp; omega)) | with_reducible refine Mine.alloc ?_ _)
  replace m42 : Mine w4 v3x.heap.size 1 (.int .i64 E.2.1) := by rw [hww4]; (repeat first | with_reducible assumption | with_reducible refine Mine.drew ?_ | with_reducible refine Mine.drewN ?_ _ | ((with_reducible refine Mine.new ?_); rfl) | ((with_reducible refine Mine.newAt ?_ ?_) <;> first | rfl | (simp; done) | (simp only [World.size_alloc]; rfl)) | ((with_reducible refine Mine.set ?_ _); repeat first | exact Mine.slot (by with_reducible assumption) | with_reducible refine MineS.drew ?_ | with_reducible refine MineS.drewN ?_ _ | ((with_reducible refine MineS.new ?_); decide) | ((with_reducible refine MineS.newAt ?_ ?_) <;> first | decide | (simp; done)) | with_reducible refine MineS.set ?_ _ _ _ | with_reducible refine MineS.alloc ?_ _) | with_reducible refine Mine.other ?_ _ (by first | (left; omega) | (right; omega) | (simp; done) | (simp; omega)) | with_reducible refine Mine.alloc ?_ _)
  have hBzw4 := hB.size
  replace hB : Below w.heap.size w w4 := by rw [hww4]; exact (by repeat first | with_reducible exact Below.refl _ _ | with_reducible assumption | with_reducible refine below_drewN ?_ _ | with_reducible refine Below.drew ?_ | with_reducible refine Below.setCell ?_ (by first | exact Nat.le_refl _ | (simp; done) | (simp; omega) | omega) _ | with_reducible refine Below.alloc ?_ (by first | exact Nat.le_refl _ | (simp; done) | (simp; omega) | omega) _ | exact Below.refl _ _ | assumption)
  clear hww4 hBzw4
  generalize v3x.heap.size = b4 at *
  refine (C2.out _).mono ?_
  rintro e v4 ⟨rfl, hb1⟩
  replace m30 := m30.below hb1
  replace m31 := m31.below hb1
  replace m32 := m32.below hb1
  replace m33 := m33.below hb1
  replace m34 := m34.below hb1
  replace m35 := m35.below hb1
  replace m41 := m41.below hb1
  replace m42 := m42.below hb1
  replace hB := hB.trans (hb1.mono hB.size)
  have hb_v4 := hb1
  clear hb1
  have c30 := m30.cell
  have f30 := m30.free
  have l30 := m30.lt
  have c31 := m31.cell
  have f31 := m31.free
  have l31 := m31.lt
  have c32 := m32.cell
  have f32 := m32.free
  have l32 := m32.lt
  have c33 := m33.cell
  have f33 := m33.free
  have l33 := m33.lt
  have c34 := m34.cell
  have f34 := m34.free
  have l34 := m34.lt
  have c35 := m35.cell
  have f35 := m35.free
  have l35 := m35.lt
  go_wp2_with fail
  clear c30 f30 l30
  clear c31 f31 l31
  clear c32 f32 l32
  clear c33 f33 l33
  clear c34 f34 l34
  clear c35 f35 l35
  refine name_calls ?_
  intro w5 hww5
  replace m30 : Mine w5 bL 0 (.int .i64 a) := by rw [hww5]; (repeat first | with_reducible assumption | with_reducible refine Mine.drew ?_ | with_reducible refine Mine.drewN ?_ _ | ((with_reducible refine Mine.new ?_); rfl) | ((with_reducible refine Mine.newAt ?_ ?_) <;> first | rfl | (simp; done) | (simp only [World.size_alloc]; rfl)) | ((with_reducible refine Mine.set ?_ _); repeat first | exact Mine.slot (by with_reducible assumption) | with_reducible refine MineS.drew ?_ | with_reducible refine MineS.drewN ?_ _ | ((with_reducible refine MineS.new ?_); decide) | ((with_reducible refine MineS.newAt ?_ ?_) <;> first | decide | (simp; done)) | with_reducible refine MineS.set ?_ _ _ _ | with_reducible refine MineS.alloc ?_ _) | with_reducible refine Mine.other ?_ _ (by first | (left; omega) | (right; omega) | (simp; done) | (simp; omega)) | with_reducible refine Mine.alloc ?_ _)
  replace m31 : Mine w5 bL 1 (.int .i64 b) := by rw [hww5]; (repeat first | with_reducible assumption | with_reducible refine Mine.drew ?_ | with_reducible refine Mine.drewN ?_ _ | ((with_reducible refine Mine.new ?_); rfl) | ((with_reducible refine Mine.newAt ?_ ?_) <;> first | rfl | (simp; done) | (simp only [World.size_alloc]; rfl)) | ((with_reducible refine Mine.set ?_ _); repeat first | exact Mine.slot (by with_reducible assumption) | with_reducible refine MineS.drew ?_ | with_reducible refine MineS.drewN ?_ _ | ((with_reducible refine MineS.new ?_); decide) | ((with_reducible refine MineS.newAt ?_ ?_) <;> first | decide | (simp; done)) | with_reducible refine MineS.set ?_ _ _ _ | with_reducible refine MineS.alloc ?_ _) | with_reducible refine Mine.other ?_ _ (by first | (left; omega) | (right; omega) | (simp; done) | (simp; omega)) | with_reducible refine Mine.alloc ?_ _)
  replace m32 : Mine w5 bL 2 (.int .i64 c) := by rw [hww5]; (repeat first | with_reducible assumption | with_reducible refine Mine.drew ?_ | with_reducible refine Mine.drewN ?_ _ | ((with_reducible refine Mine.new ?_); rfl) | ((with_reducible refine Mine.newAt ?_ ?_) <;> first | rfl | (simp; done) | (simp only [World.size_alloc]; rfl)) | ((with_reducible refine Mine.set ?_ _); repeat first | exact Mine.slot (by with_reducible assumption) | with_reducible refine MineS.drew ?_ | with_reducible refine MineS.drewN ?_ _ | ((with_reducible refine MineS.new ?_); decide) | ((with_reducible refine MineS.newAt ?_ ?_) <;> first | decide | (simp; done)) | with_reducible refine MineS.set ?_ _ _ _ | with_reducible refine MineS.alloc ?_ _) | with_reducible refine Mine.other ?_ _ (by first | (left; omega) | (right; omega) | (simp; done) | (simp; omega)) | with_reducible refine Mine.alloc ?_ _)
  replace m33 : Mine w5 bL 3 (.int .i64 d) := by rw [hww5]; (repeat first | with_reducible assumption | with_reducible refine Mine.drew ?_ | with_reducible refine Mine.drewN ?_ _ | ((with_reducible refine Mine.new ?_); rfl) | ((with_reducible refine Mine.newAt ?_ ?_) <;> first | rfl | (simp; done) | (simp only [World.size_alloc]; rfl)) | ((with_reducible refine Mine.set ?_ _); repeat first | exact Mine.slot (by with_reducible assumption) | with_reducible refine MineS.drew ?_ | with_reducible refine MineS.drewN ?_ _ | ((with_reducible refine MineS.new ?_); decide) | ((with_reducible refine MineS.newAt ?_ ?_) <;> first | decide | (simp; done)) | with_reducible refine MineS.set ?_ _ _ _ | with_reducible refine MineS.alloc ?_ _) | with_reducible refine Mine.other ?_ _ (by first | (left; omega) | (right; omega) | (simp; done) | (simp; omega)) | with_reducible refine Mine.alloc ?_ _)
  replace m34 : Mine w5 bL 4 (.int .i64 g) := by rw [hww5]; (repeat first | with_reducible assumption | with_reducible refine Mine.drew ?_ | with_reducible refine Mine.drewN ?_ _ | ((with_reducible refine Mine.new ?_); rfl) | ((with_reducible refine Mine.newAt ?_ ?_) <;> first | rfl | (simp; done) | (simp only [World.size_alloc]; rfl)) | ((with_reducible refine Mine.set ?_ _); repeat first | exact Mine.slot (by with_reducible assumption) | with_reducible refine MineS.drew ?_ | with_reducible refine MineS.drewN ?_ _ | ((with_reducible refine MineS.new ?_); decide) | ((with_reducible refine MineS.newAt ?_ ?_) <;> first | decide | (simp; done)) | with_reducible refine MineS.set ?_ _ _ _ | with_reducible refine MineS.alloc ?_ _) | with_reducible refine Mine.other ?_ _ (by first | (left; omega) | (right; omega) | (simp; done) | (simp; omega)) | with_reducible refine Mine.alloc ?_ _)
  replace m35 : Mine w5 bL 5 (.int .i64 h) := by rw [hww5]; (repeat first | with_reducible assumption | with_reducible refine Mine.drew ?_ | with_reducible refine Mine.drewN ?_ _ | ((with_reducible refine Mine.new ?_); rfl) | ((with_reducible refine Mine.newAt ?_ ?_) <;> first | rfl | (simp; done) | (simp only [World.size_alloc]; rfl)) | ((with_reducible refine Mine.set ?_ _); repeat first | exact Mine.slot (by with_reducible assumption) | with_reducible refine MineS.drew ?_ | with_reducible refine MineS.drewN ?_ _ | ((with_reducible refine MineS.new ?_); decide) | ((with_reducible refine MineS.newAt ?_ ?_) <;> first | decide | (simp; done)) | with_reducible refine MineS.set ?_ _ _ _ | with_reducible refine MineS.alloc ?_ _) | with_reducible refine Mine.other ?_ _ (by first | (left; omega) | (right; omega) | (simp; done) | (simp; omega)) | with_reducible refine Mine.alloc ?_ _)
  replace m41 : Mine w5 b4 0 (.int .i64 E.1) := by rw [hww5]; (repeat first | with_reducible assumption | with_reducible refine Mine.drew ?_ | with_reducible refine Mine.drewN ?_ _ | ((with_reducible refine Mine.new ?_); rfl) | ((with_reducible refine Mine.newAt ?_ ?_) <;> first | rfl | (simp; done) | (simp only [World.size_alloc]; rfl)) | ((with_reducible refine Mine.set ?_ _); repeat first | exact Mine.slot (by with_reducible assumption) | with_reducible refine MineS.drew ?_ | with_reducible refine MineS.drewN ?_ _ | ((with_reducible refine MineS.new ?_); decide) | ((with_reducible refine MineS.newAt ?_ ?_) <;> first | decide | (simp; done)) | with_reducible refine MineS.set ?_ _ _ _ | with_reducible refine MineS.alloc ?_ _) | with_reducible refine Mine.other ?_ _ (by first | (left; omega) | (right; omega) | (simp; done) | (simp; omega)) | with_reducible refine Mine.alloc ?_ _)
  replace m42 : Mine w5 b4 1 (.int .i64 E.2.1) := by rw [hww5]; (repeat first | with_reducible assumption | with_reducible refine Mine.drew ?_ | with_reducible refine Mine.drewN ?_ _ | ((with_reducible refine Mine.new ?_); rfl) | ((with_reducible refine Mine.newAt ?_ ?_) <;> first | rfl | (simp; done) | (simp only [World.size_alloc]; rfl)) | ((with_reducible refine Mine.set ?_ _); repeat first | exact Mine.slot (by with_reducible assumption) | with_reducible refine MineS.drew ?_ | with_reducible refine MineS.drewN ?_ _ | ((with_reducible refine MineS.new ?_); decide) | ((with_reducible refine MineS.newAt ?_ ?_) <;> first | decide | (simp; done)) | with_reducible refine MineS.set ?_ _ _ _ | with_reducible refine MineS.alloc ?_ _) | with_reducible refine Mine.other ?_ _ (by first | (left; omega) | (right; omega) | (simp; done) | (simp; omega)) | with_reducible refine Mine.alloc ?_ _)
  replace m51 : Mine w5 v4.heap.size 0 (.int .i64 F.1) := by rw [hww5]; (repeat first | with_reducible assumption | with_reducible refine Mine.drew ?_ | with_reducible refine Mine.drewN ?_ _ | ((with_reducible refine Mine.new ?_); rfl) | ((with_reducible refine Mine.newAt ?_ ?_) <;> first | rfl | (simp; done) | (simp only [World.size_alloc]; rfl)) | ((with_reducible refine Mine.set ?_ _); repeat first | exact Mine.slot (by with_reducible assumption) | with_reducible refine MineS.drew ?_ | with_reducible refine MineS.drewN ?_ _ | ((with_reducible refine MineS.new ?_); decide) | ((with_reducible refine MineS.newAt ?_ ?_) <;> first | decide | (simp; done)) | with_reducible refine MineS.set ?_ _ _ _ | with_reducible refine MineS.alloc ?_ _) | with_reducible refine Mine.other ?_ _ (by first | (left; omega) | (right; omega) | (simp; done) | (simp; omega)) | with_reducible refine Mine.alloc ?_ _)
  replace m52 : Mine w5 v4.heap.size 1 (.int .i64 F.2.1) := by rw [hww5]; (repeat first | with_reducible assumption | with_reducible refine Mine.drew ?_ | with_reducible refine Mine.drewN ?_ _ | ((with_reducible refine Mine.new ?_); rfl) | ((with_reducible refine Mine.newAt ?_ ?_) <;> first | rfl | (simp; done) | (simp only [World.size_alloc]; rfl)) | ((with_reducible refine Mine.set ?_ _); repeat first | exact Mine.slot (by with_reducible assumption) | with_reducible refine MineS.drew ?_ | with_reducible refine MineS.drewN ?_ _ | ((with_reducible refine MineS.new ?_); decide) | ((with_reducible refine MineS.newAt ?_ ?_) <;> first | decide | (simp; done)) | with_reducible refine MineS.set ?_ _ _ _ | with_reducible refine MineS.alloc ?_ _) | with_reducible refine Mine.other ?_ _ (by first | (left; omega) | (right; omega) | (simp; done) | (simp; omega)) | with_reducible refine Mine.alloc ?_ _)
  have hBzw5 := hB.size
  replace hB : Below w.heap.size w w5 := by rw [hww5]; exact (by repeat first | with_reducible exact Below.refl _ _ | with_reducible assumption | with_reducible refine below_drewN ?_ _ | with_reducible refine Below.drew ?_ | with_reducible refine Below.setCell ?_ (by first | exact Nat.le_refl _ | (simp; done) | (simp; omega) | omega) _ | with_reducible refine Below.alloc ?_ (by first | exact Nat.le_refl _ | (simp; done) | (simp; omega) | omega) _ | exact Below.refl _ _ | assumption)
  clear hww5 hBzw5
  generalize v4.heap.size = b5 at *
  refine (C3.out _).mono ?_
  rintro e v5 ⟨rfl, hb1⟩
  replace m30 := m30.below hb1
  replace m31 := m31.below hb1
  replace m32 := m32.below hb1
  replace m33 := m33.below hb1
  replace m34 := m34.below hb1
  replace m35 := m35.below hb1
  replace m41 := m41.below hb1
  replace m42 := m42.below hb1
  replace m51 := m51.below hb1
  replace m52 := m52.below hb1
  replace hB := hB.trans (hb1.mono hB.size)
  have hb_v5 := hb1
  clear hb1
  by_cases h1 : E.2.2 = 0
  rotate_left
  · have t1 : (E.2.2 != 0) = true := by simpa using h1
    clear h1
    have hBz := hB.size
    go_wp2
    go_ret
    exact ⟨rfl, (by repeat first | with_reducible exact Below.refl _ _ | with_reducible assumption | with_reducible refine below_drewN ?_ _ | with_reducible refine Below.drew ?_ | with_reducible refine Below.setCell ?_ (by first | exact Nat.le_refl _ | (simp; done) | (simp; omega) | omega) _ | with_reducible refine Below.alloc ?_ (by first | exact Nat.le_refl _ | (simp; done) | (simp; omega) | omega) _ | exact Below.refl _ _ | assumption)⟩
  have t1 : (E.2.2 != 0) = false := by simpa using h1
  by_cases h2 : F.2.2 = 0
  rotate_left
  · have t2 : (F.2.2 != 0) = true := by simpa using h2
    clear h1 h2
    have hBz := hB.size
    go_wp2
    go_ret
    exact ⟨rfl, (by repeat first | with_reducible exact Below.refl _ _ | with_reducible assumption | with_reducible refine below_drewN ?_ _ | with_reducible refine Below.drew ?_ | with_reducible refine Below.setCell ?_ (by first | exact Nat.le_refl _ | (simp; done) | (simp; omega) | omega) _ | with_reducible refine Below.alloc ?_ (by first | exact Nat.le_refl _ | (simp; done) | (simp; omega) | omega) _ | exact Below.refl _ _ | assumption)⟩
  have t2 : (F.2.2 != 0) = false := by simpa using h2
  by_cases h3 : G.2.2 = 0
  rotate_left
  · have t3 : (G.2.2 != 0) = true := by simpa using h3
    clear h1 h2 h3
    have hBz := hB.size
    go_wp2
    go_ret
    exact ⟨rfl, (by repeat first | with_reducible exact Below.refl _ _ | with_reducible assumption | with_reducible refine below_drewN ?_ _ | with_reducible refine Below.drew ?_ | with_reducible refine Below.setCell ?_ (by first | exact Nat.le_refl _ | (simp; done) | (simp; omega) | omega) _ | with_reducible refine Below.alloc ?_ (by first | exact Nat.le_refl _ | (simp; done) | (simp; omega) | omega) _ | exact Below.refl _ _ | assumption)⟩
  have t3 : (G.2.2 != 0) = false := by simpa using h3
  obtain ⟨vE, qE⟩ := val0 hEe.out h1
  obtain ⟨vF, qF⟩ := val0 hFe.out h2
  obtain ⟨vG, qG⟩ := val0 hGe.out h3
  have hd := distrib v1.out v2x.out v3.out qE qF qG
  have C4 := fun w => Mul_v a b E.1 E.2.1 w v1.out vE
  have C5 := fun w => Add_v F.1 F.2.1 G.1 G.2.1 w vF vG
  rw [hd] at C4
  generalize addv F.1 F.2.1 G.1 G.2.1 = Z at *
  replace C4 := Lib.hid C4
  replace C5 := Lib.hid C5
  have hEq := fun w => run_eq_rv Z.1 Z.2.1 Z.1 Z.2.1 w
  rw [show (Z.1 == Z.1 && Z.2.1 == Z.2.1) = true by simp] at hEq
  clear hd qE qF qG vE vF vG h1 h2 h3
  have c30 := m30.cell
  have f30 := m30.free
  have l30 := m30.lt
  have c31 := m31.cell
  have f31 := m31.free
  have l31 := m31.lt
  have c32 := m32.cell
  have f32 := m32.free
  have l32 := m32.lt
  have c33 := m33.cell
  have f33 := m33.free
  have l33 := m33.lt
  have c34 := m34.cell
  have f34 := m34.free
  have l34 := m34.lt
  have c35 := m35.cell
  have f35 := m35.free
  have l35 := m35.lt
  have c41 := m41.cell
  have f41 := m41.free
  have l41 := m41.lt
  have c42 := m42.cell
  have f42 := m42.free
  have l42 := m42.lt
  have c51 := m51.cell
  have f51 := m51.free
  have l51 := m51.lt
  have c52 := m52.cell
  have f52 := m52.free
  have l52 := m52.lt
  go_wp2_with fail
  clear c30 f30 l30
  clear c31 f31 l31
  clear c32 f32 l32
  clear c33 f33 l33
  clear c34 f34 l34
  clear c35 f35 l35
  clear c41 f41 l41
  clear c42 f42 l42
  clear c51 f51 l51
  clear c52 f52 l52
  refine name_calls ?_
  intro w6 hww6
  replace m30 : Mine w6 bL 0 (.int .i64 a) := by rw [hww6]; (repeat first | with_reducible assumption | with_reducible refine Mine.drew ?_ | with_reducible refine Mine.drewN ?_ _ | ((with_reducible refine Mine.new ?_); rfl) | ((with_reducible refine Mine.newAt ?_ ?_) <;> first | rfl | (simp; done) | (simp only [World.size_alloc]; rfl)) | ((with_reducible refine Mine.set ?_ _); repeat first | exact Mine.slot (by with_reducible assumption) | with_reducible refine MineS.drew ?_ | with_reducible refine MineS.drewN ?_ _ | ((with_reducible refine MineS.new ?_); decide) | ((with_reducible refine MineS.newAt ?_ ?_) <;> first | decide | (simp; done)) | with_reducible refine MineS.set ?_ _ _ _ | with_reducible refine MineS.alloc ?_ _) | with_reducible refine Mine.other ?_ _ (by first | (left; omega) | (right; omega) | (simp; done) | (simp; omega)) | with_reducible refine Mine.alloc ?_ _)
  replace m31 : Mine w6 bL 1 (.int .i64 b) := by rw [hww6]; (repeat first | with_reducible assumption | with_reducible refine Mine.drew ?_ | with_reducible refine Mine.drewN ?_ _ | ((with_reducible refine Mine.new ?_); rfl) | ((with_reducible refine Mine.newAt ?_ ?_) <;> first | rfl | (simp; done) | (simp only [World.size_alloc]; rfl)) | ((with_reducible refine Mine.set ?_ _); repeat first | exact Mine.slot (by with_reducible assumption) | with_reducible refine MineS.drew ?_ | with_reducible refine MineS.drewN ?_ _ | ((with_reducible refine MineS.new ?_); decide) | ((with_reducible refine MineS.newAt ?_ ?_) <;> first | decide | (simp; done)) | with_reducible refine MineS.set ?_ _ _ _ | with_reducible refine MineS.alloc ?_ _) | with_reducible refine Mine.other ?_ _ (by first | (left; omega) | (right; omega) | (simp; done) | (simp; omega)) | with_reducible refine Mine.alloc ?_ _)
  replace m32 : Mine w6 bL 2 (.int .i64 c) := by rw [hww6]; (repeat first | with_reducible assumption | with_reducible refine Mine.drew ?_ | with_reducible refine Mine.drewN ?_ _ | ((with_reducible refine Mine.new ?_); rfl) | ((with_reducible refine Mine.newAt ?_ ?_) <;> first | rfl | (simp; done) | (simp only [World.size_alloc]; rfl)) | ((with_reducible refine Mine.set ?_ _); repeat first | exact Mine.slot (by with_reducible assumption) | with_reducible refine MineS.drew ?_ | with_reducible refine MineS.drewN ?_ _ | ((with_reducible refine MineS.new ?_); decide) | ((with_reducible refine MineS.newAt ?_ ?_) <;> first | decide | (simp; done)) | with_reducible refine MineS.set ?_ _ _ _ | with_reducible refine MineS.alloc ?_ _) | with_reducible refine Mine.other ?_ _ (by first | (left; omega) | (right; omega) | (simp; done) | (simp; omega)) | with_reducible refine Mine.alloc ?_ _)
  replace m33 : Mine w6 bL 3 (.int .i64 d) := by rw [hww6]; (repeat first | with_reducible assumption | with_reducible refine Mine.drew ?_ | with_reducible refine Mine.drewN ?_ _ | ((with_reducible refine Mine.new ?_); rfl) | ((with_reducible refine Mine.newAt ?_ ?_) <;> first | rfl | (simp; done) | (simp only [World.size_alloc]; rfl)) | ((with_reducible refine Mine.set ?_ _); repeat first | exact Mine.slot (by with_reducible assumption) | with_reducible refine MineS.drew ?_ | with_reducible refine MineS.drewN ?_ _ | ((with_reducible refine MineS.new ?_); decide) | ((with_reducible refine MineS.newAt ?_ ?_) <;> first | decide | (simp; done)) | with_reducible refine MineS.set ?_ _ _ _ | with_reducible refine MineS.alloc ?_ _) | with_reducible refine Mine.other ?_ _ (by first | (left; omega) | (right; omega) | (simp; done) | (simp; omega)) | with_reducible refine Mine.alloc ?_ _)
  replace m34 : Mine w6 bL 4 (.int .i64 g) := by rw [hww6]; (repeat first | with_reducible assumption | with_reducible refine Mine.drew ?_ | with_reducible refine Mine.drewN ?_ _ | ((with_reducible refine Mine.new ?_); rfl) | ((with_reducible refine Mine.newAt ?_ ?_) <;> first | rfl | (simp; done) | (simp only [World.size_alloc]; rfl)) | ((with_reducible refine Mine.set ?_ _); repeat first | exact Mine.slot (by with_reducible assumption) | with_reducible refine MineS.drew ?_ | with_reducible refine MineS.drewN ?_ _ | ((with_reducible refine MineS.new ?_); decide) | ((with_reducible refine MineS.newAt ?_ ?_) <;> first | decide | (simp; done)) | with_reducible refine MineS.set ?_ _ _ _ | with_reducible refine MineS.alloc ?_ _) | with_reducible refine Mine.other ?_ _ (by first | (left; omega) | (right; omega) | (simp; done) | (simp; omega)) | with_reducible refine Mine.alloc ?_ _)
  replace m35 : Mine w6 bL 5 (.int .i64 h) := by rw [hww6]; (repeat first | with_reducible assumption | with_reducible refine Mine.drew ?_ | with_reducible refine Mine.drewN ?_ _ | ((with_reducible refine Mine.new ?_); rfl) | ((with_reducible refine Mine.newAt ?_ ?_) <;> first | rfl | (simp; done) | (simp only [World.size_alloc]; rfl)) | ((with_reducible refine Mine.set ?_ _); repeat first | exact Mine.slot (by with_reducible assumption) | with_reducible refine MineS.drew ?_ | with_reducible refine MineS.drewN ?_ _ | ((with_reducible refine MineS.new ?_); decide) | ((with_reducible refine MineS.newAt ?_ ?_) <;> first | decide | (simp; done)) | with_reducible refine MineS.set ?_ _ _ _ | with_reducible refine MineS.alloc ?_ _) | with_reducible refine Mine.other ?_ _ (by first | (left; omega) | (right; omega) | (simp; done) | (simp; omega)) | with_reducible refine Mine.alloc ?_ _)
  replace m41 : Mine w6 b4 0 (.int .i64 E.1) := by rw [hww6]; (repeat first | with_reducible assumption | with_reducible refine Mine.drew ?_ | with_reducible refine Mine.drewN ?_ _ | ((with_reducible refine Mine.new ?_); rfl) | ((with_reducible refine Mine.newAt ?_ ?_) <;> first | rfl | (simp; done) | (simp only [World.size_alloc]; rfl)) | ((with_reducible refine Mine.set ?_ _); repeat first | exact Mine.slot (by with_reducible assumption) | with_reducible refine MineS.drew ?_ | with_reducible refine MineS.drewN ?_ _ | ((with_reducible refine MineS.new ?_); decide) | ((with_reducible refine MineS.newAt ?_ ?_) <;> first | decide | (simp; done)) | with_reducible refine MineS.set ?_ _ _ _ | with_reducible refine MineS.alloc ?_ _) | with_reducible refine Mine.other ?_ _ (by first | (left; omega) | (right; omega) | (simp; done) | (simp; omega)) | with_reducible refine Mine.alloc ?_ _)
  replace m42 : Mine w6 b4 1 (.int .i64 E.2.1) := by rw [hww6]; (repeat first | with_reducible assumption | with_reducible refine Mine.drew ?_ | with_reducible refine Mine.drewN ?_ _ | ((with_reducible refine Mine.new ?_); rfl) | ((with_reducible refine Mine.newAt ?_ ?_) <;> first | rfl | (simp; done) | (simp only [World.size_alloc]; rfl)) | ((with_reducible refine Mine.set ?_ _); repeat first | exact Mine.slot (by with_reducible assumption) | with_reducible refine MineS.drew ?_ | with_reducible refine MineS.drewN ?_ _ | ((with_reducible refine MineS.new ?_); decide) | ((with_reducible refine MineS.newAt ?_ ?_) <;> first | decide | (simp; done)) | with_reducible refine MineS.set ?_ _ _ _ | with_reducible refine MineS.alloc ?_ _) | with_reducible refine Mine.other ?_ _ (by first | (left; omega) | (right; omega) | (simp; done) | (simp; omega)) | with_reducible refine Mine.alloc ?_ _)
  replace m51 : Mine w6 b5 0 (.int .i64 F.1) := by rw [hww6]; (repeat first | with_reducible assumption | with_reducible refine Mine.drew ?_ | with_reducible refine Mine.drewN ?_ _ | ((with_reducible refine Mine.new ?_); rfl) | ((with_reducible refine Mine.newAt ?_ ?_) <;> first | rfl | (simp; done) | (simp only [World.size_alloc]; rfl)) | ((with_reducible refine Mine.set ?_ _); repeat first | exact Mine.slot (by with_reducible assumption) | with_reducible refine MineS.drew ?_ | with_reducible refine MineS.drewN ?_ _ | ((with_reducible refine MineS.new ?_); decide) | ((with_reducible refine MineS.newAt ?_ ?_) <;> first | decide | (simp; done)) | with_reducible refine MineS.set ?_ _ _ _ | with_reducible refine MineS.alloc ?_ _) | with_reducible refine Mine.other ?_ _ (by first | (left; omega) | (right; omega) | (simp; done) | (simp; omega)) | with_reducible refine Mine.alloc ?_ _)
  replace m52 : Mine w6 b5 1 (.int .i64 F.2.1) := by rw [hww6]; (repeat first | with_reducible assumption | with_reducible refine Mine.drew ?_ | with_reducible refine Mine.drewN ?_ _ | ((with_reducible refine Mine.new ?_); rfl) | ((with_reducible refine Mine.newAt ?_ ?_) <;> first | rfl | (simp; done) | (simp only [World.size_alloc]; rfl)) | ((with_reducible refine Mine.set ?_ _); repeat first | exact Mine.slot (by with_reducible assumption) | with_reducible refine MineS.drew ?_ | with_reducible refine MineS.drewN ?_ _ | ((with_reducible refine MineS.new ?_); decide) | ((with_reducible refine MineS.newAt ?_ ?_) <;> first | decide | (simp; done)) | with_reducible refine MineS.set ?_ _ _ _ | with_reducible refine MineS.alloc ?_ _) | with_reducible refine Mine.other ?_ _ (by first | (left; omega) | (right; omega) | (simp; done) | (simp; omega)) | with_reducible refine Mine.alloc ?_ _)
  replace m61 : Mine w6 v5.heap.size 0 (.int .i64 G.1) := by rw [hww6]; (repeat first | with_reducible assumption | with_reducible refine Mine.drew ?_ | with_reducible refine Mine.drewN ?_ _ | ((with_reducible refine Mine.new ?_); rfl) | ((with_reducible refine Mine.newAt ?_ ?_) <;> first | rfl | (simp; done) | (simp only [World.size_alloc]; rfl)) | ((with_reducible refine Mine.set ?_ _); repeat first | exact Mine.slot (by with_reducible assumption) | with_reducible refine MineS.drew ?_ | with_reducible refine MineS.drewN ?_ _ | ((with_reducible refine MineS.new ?_); decide) | ((with_reducible refine MineS.newAt ?_ ?_) <;> first | decide | (simp; done)) | with_reducible refine MineS.set ?_ _ _ _ | with_reducible refine MineS.alloc ?_ _) | with_reducible refine Mine.other ?_ _ (by first | (left; omega) | (right; omega) | (simp; done) | (simp; omega)) | with_reducible refine Mine.alloc ?_ _)
  replace m62 : Mine w6 v5.heap.size 1 (.int .i64 G.2.1) := by rw [hww6]; (repeat first | with_reducible assumption | with_reducible refine Mine.drew ?_ | with_reducible refine Mine.drewN ?_ _ | ((with_reducible refine Mine.new ?_); rfl) | ((with_reducible refine Mine.newAt ?_ ?_) <;> first | rfl | (simp; done) | (simp only [World.size_alloc]; rfl)) | ((with_reducible refine Mine.set ?_ _); repeat first | exact Mine.slot (by with_reducible assumption) | with_reducible refine MineS.drew ?_ | with_reducible refine MineS.drewN ?_ _ | ((with_reducible refine MineS.new ?_); decide) | ((with_reducible refine MineS.newAt ?_ ?_) <;> first | decide | (simp; done)) | with_reducible refine MineS.set ?_ _ _ _ | with_reducible refine MineS.alloc ?_ _) | with_reducible refine Mine.other ?_ _ (by first | (left; omega) | (right; omega) | (simp; done) | (simp; omega)) | with_reducible refine Mine.alloc ?_ _)
  have hBzw6 := hB.size
  replace hB : Below w.heap.size w w6 := by rw [hww6]; exact (by repeat first | with_reducible exact Below.refl _ _ | with_reducible assumption | with_reducible refine below_drewN ?_ _ | with_reducible refine Below.drew ?_ | with_reducible refine Below.setCell ?_ (by first | exact Nat.le_refl _ | (simp; done) | (simp; omega) | omega) _ | with_reducible refine Below.alloc ?_ (by first | exact Nat.le_refl _ | (simp; done) | (simp; omega) | omega) _ | exact Below.refl _ _ | assumption)
  clear hww6 hBzw6
  generalize v5.heap.size = b6 at *
  refine (C4.out _).mono ?_
  rintro e v6 ⟨rfl, hb1⟩
  replace m30 := m30.below hb1
  replace m31 := m31.below hb1
  replace m32 := m32.below hb1
  replace m33 := m33.below hb1
  replace m34 := m34.below hb1
  replace m35 := m35.below hb1
  replace m41 := m41.below hb1
  replace m42 := m42.below hb1
  replace m51 := m51.below hb1
  replace m52 := m52.below hb1
  replace m61 := m61.below hb1
  replace m62 := m62.below hb1
  replace hB := hB.trans (hb1.mono hB.size)
  have hb_v6 := hb1
  clear hb1
  have c30 := m30.cell
  have f30 := m30.free
  have l30 := m30.lt
  have c31 := m31.cell
  have f31 := m31.free
  have l31 := m31.lt
  have c32 := m32.cell
  have f32 := m32.free
  have l32 := m32.lt
  have c33 := m33.cell
  have f33 := m33.free
  have l33 := m33.lt
  have c34 := m34.cell
  have f34 := m34.free
  have l34 := m34.lt
  have c35 := m35.cell
  have f35 := m35.free
  have l35 := m35.lt
  have c41 := m41.cell
  have f41 := m41.free
  have l41 := m41.lt
  have c42 := m42.cell
  have f42 := m42.free
  have l42 := m42.lt
  have c51 := m51.cell
  have f51 := m51.free
  have l51 := m51.lt
  have c52 := m52.cell
  have f52 := m52.free
  have l52 := m52.lt
  have c61 := m61.cell
  have f61 := m61.free
  have l61 := m61.lt
  have c62 := m62.cell
  have f62 := m62.free
  have l62 := m62.lt
  go_wp2_with fail
  clear c30 f30 l30
  clear c31 f31 l31
  clear c32 f32 l32
  clear c33 f33 l33
  clear c34 f34 l34
  clear c35 f35 l35
  clear c41 f41 l41
  clear c42 f42 l42
  clear c51 f51 l51
  clear c52 f52 l52
  clear c61 f61 l61
  clear c62 f62 l62
  refine name_calls ?_
  intro w7 hww7
  replace m30 : Mine w7 bL 0 (.int .i64 a) := by rw [hww7]; (repeat first | with_reducible assumption | with_reducible refine Mine.drew ?_ | with_reducible refine Mine.drewN ?_ _ | ((with_reducible refine Mine.new ?_); rfl) | ((with_reducible refine Mine.newAt ?_ ?_) <;> first | rfl | (simp; done) | (simp only [World.size_alloc]; rfl)) | ((with_reducible refine Mine.set ?_ _); repeat first | exact Mine.slot (by with_reducible assumption) | with_reducible refine MineS.drew ?_ | with_reducible refine MineS.drewN ?_ _ | ((with_reducible refine MineS.new ?_); decide) | ((with_reducible refine MineS.newAt ?_ ?_) <;> first | decide | (simp; done)) | with_reducible refine MineS.set ?_ _ _ _ | with_reducible refine MineS.alloc ?_ _) | with_reducible refine Mine.other ?_ _ (by first | (left; omega) | (right; omega) | (simp; done) | (simp; omega)) | with_reducible refine Mine.alloc ?_ _)
  replace m31 : Mine w7 bL 1 (.int .i64 b) := by rw [hww7]; (repeat first | with_reducible assumption | with_reducible refine Mine.drew ?_ | with_reducible refine Mine.drewN ?_ _ | ((with_reducible refine Mine.new ?_); rfl) | ((with_reducible refine Mine.newAt ?_ ?_) <;> first | rfl | (simp; done) | (simp only [World.size_alloc]; rfl)) | ((with_reducible refine Mine.set ?_ _); repeat first | exact Mine.slot (by with_reducible assumption) | with_reducible refine MineS.drew ?_ | with_reducible refine MineS.drewN ?_ _ | ((with_reducible refine MineS.new ?_); decide) | ((with_reducible refine MineS.newAt ?_ ?_) <;> first | decide | (simp; done)) | with_reducible refine MineS.set ?_ _ _ _ | with_reducible refine MineS.alloc ?_ _) | with_reducible refine Mine.other ?_ _ (by first | (left; omega) | (right; omega) | (simp; done) | (simp; omega)) | with_reducible refine Mine.alloc ?_ _)
  replace m32 : Mine w7 bL 2 (.int .i64 c) := by rw [hww7]; (repeat first | with_reducible assumption | with_reducible refine Mine.drew ?_ | with_reducible refine Mine.drewN ?_ _ | ((with_reducible refine Mine.new ?_); rfl) | ((with_reducible refine Mine.newAt ?_ ?_) <;> first | rfl | (simp; done) | (simp only [World.size_alloc]; rfl)) | ((with_reducible refine Mine.set ?_ _); repeat first | exact Mine.slot (by with_reducible assumption) | with_reducible refine MineS.drew ?_ | with_reducible refine MineS.drewN ?_ _ | ((with_reducible refine MineS.new ?_); decide) | ((with_reducible refine MineS.newAt ?_ ?_) <;> first | decide | (simp; done)) | with_reducible refine MineS.set ?_ _ _ _ | with_reducible refine MineS.alloc ?_ _) | with_reducible refine Mine.other ?_ _ (by first | (left; omega) | (right; omega) | (simp; done) | (simp; omega)) | with_reducible refine Mine.alloc ?_ _)
  replace m33 : Mine w7 bL 3 (.int .i64 d) := by rw [hww7]; (repeat first | with_reducible assumption | with_reducible refine Mine.drew ?_ | with_reducible refine Mine.drewN ?_ _ | ((with_reducible refine Mine.new ?_); rfl) | ((with_reducible refine Mine.newAt ?_ ?_) <;> first | rfl | (simp; done) | (simp only [World.size_alloc]; rfl)) | ((with_reducible refine Mine.set ?_ _); repeat first | exact Mine.slot (by with_reducible assumption) | with_reducible refine MineS.drew ?_ | with_reducible refine MineS.drewN ?_ _ | ((with_reducible refine MineS.new ?_); decide) | ((with_reducible refine MineS.newAt ?_ ?_) <;> first | decide | (simp; done)) | with_reducible refine MineS.set ?_ _ _ _ | with_reducible refine MineS.alloc ?_ _) | with_reducible refine Mine.other ?_ _ (by first | (left; omega) | (right; omega) | (simp; done) | (simp; omega)) | with_reducible refine Mine.alloc ?_ _)
  replace m34 : Mine w7 bL 4 (.int .i64 g) := by rw [hww7]; (repeat first | with_reducible assumption | with_reducible refine Mine.drew ?_ | with_reducible refine Mine.drewN ?_ _ | ((with_reducible refine Mine.new ?_); rfl) | ((with_reducible refine Mine.newAt ?_ ?_) <;> first | rfl | (simp; done) | (simp only [World.size_alloc]; rfl)) | ((with_reducible refine Mine.set ?_ _); repeat first | exact Mine.slot (by with_reducible assumption) | with_reducible refine MineS.drew ?_ | with_reducible refine MineS.drewN ?_ _ | ((with_reducible refine MineS.new ?_); decide) | ((with_reducible refine MineS.newAt ?_ ?_) <;> first | decide | (simp; done)) | with_reducible refine MineS.set ?_ _ _ _ | with_reducible refine MineS.alloc ?_ _) | with_reducible refine Mine.other ?_ _ (by first | (left; omega) | (right; omega) | (simp; done) | (simp; omega)) | with_reducible refine Mine.alloc ?_ _)
  replace m35 : Mine w7 bL 5 (.int .i64 h) := by rw [hww7]; (repeat first | with_reducible assumption | with_reducible refine Mine.drew ?_ | with_reducible refine Mine.drewN ?_ _ | ((with_reducible refine Mine.new ?_); rfl) | ((with_reducible refine Mine.newAt ?_ ?_) <;> first | rfl | (simp; done) | (simp only [World.size_alloc]; rfl)) | ((with_reducible refine Mine.set ?_ _); repeat first | exact Mine.slot (by with_reducible assumption) | with_reducible refine MineS.drew ?_ | with_reducible refine MineS.drewN ?_ _ | ((with_reducible refine MineS.new ?_); decide) | ((with_reducible refine MineS.newAt ?_ ?_) <;> first | decide | (simp; done)) | with_reducible refine MineS.set ?_ _ _ _ | with_reducible refine MineS.alloc ?_ _) | with_reducible refine Mine.other ?_ _ (by first | (left; omega) | (right; omega) | (simp; done) | (simp; omega)) | with_reducible refine Mine.alloc ?_ _)
  replace m41 : Mine w7 b4 0 (.int .i64 E.1) := by rw [hww7]; (repeat first | with_reducible assumption | with_reducible refine Mine.drew ?_ | with_reducible refine Mine.drewN ?_ _ | ((with_reducible refine Mine.new ?_); rfl) | ((with_reducible refine Mine.newAt ?_ ?_) <;> first | rfl | (simp; done) | (simp only [World.size_alloc]; rfl)) | ((with_reducible refine Mine.set ?_ _); repeat first | exact Mine.slot (by with_reducible assumption) | with_reducible refine MineS.drew ?_ | with_reducible refine MineS.drewN ?_ _ | ((with_reducible refine MineS.new ?_); decide) | ((with_reducible refine MineS.newAt ?_ ?_) <;> first | decide | (simp; done)) | with_reducible refine MineS.set ?_ _ _ _ | with_reducible refine MineS.alloc ?_ _) | with_reducible refine Mine.other ?_ _ (by first | (left; omega) | (right; omega) | (simp; done) | (simp; omega)) | with_reducible refine Mine.alloc ?_ _)
  replace m42 : Mine w7 b4 1 (.int .i64 E.2.1) := by rw [hww7]; (repeat first | with_reducible assumption | with_reducible refine Mine.drew ?_ | with_reducible refine Mine.drewN ?_ _ | ((with_reducible refine Mine.new ?_); rfl) | ((with_reducible refine Mine.newAt ?_ ?_) <;> first | rfl | (simp; done) | (simp only [World.size_alloc]; rfl)) | ((with_reducible refine Mine.set ?_ _); repeat first | exact Mine.slot (by with_reducible assumption) | with_reducible refine MineS.drew ?_ | with_reducible refine MineS.drewN ?_ _ | ((with_reducible refine MineS.new ?_); decide) | ((with_reducible refine MineS.newAt ?_ ?_) <;> first | decide | (simp; done)) | with_reducible refine MineS.set ?_ _ _ _ | with_reducible refine MineS.alloc ?_ _) | with_reducible refine Mine.other ?_ _ (by first | (left; omega) | (right; omega) | (simp; done) | (simp; omega)) | with_reducible refine Mine.alloc ?_ _)
  replace m51 : Mine w7 b5 0 (.int .i64 F.1) := by rw [hww7]; (repeat first | with_reducible assumption | with_reducible refine Mine.drew ?_ | with_reducible refine Mine.drewN ?_ _ | ((with_reducible refine Mine.new ?_); rfl) | ((with_reducible refine Mine.newAt ?_ ?_) <;> first | rfl | (simp; done) | (simp only [World.size_alloc]; rfl)) | ((with_reducible refine Mine.set ?_ _); repeat first | exact Mine.slot (by with_reducible assumption) | with_reducible refine MineS.drew ?_ | with_reducible refine MineS.drewN ?_ _ | ((with_reducible refine MineS.new ?_); decide) | ((with_reducible refine MineS.newAt ?_ ?_) <;> first | decide | (simp; done)) | with_reducible refine MineS.set ?_ _ _ _ | with_reducible refine MineS.alloc ?_ _) | with_reducible refine Mine.other ?_ _ (by first | (left; omega) | (right; omega) | (simp; done) | (simp; omega)) | with_reducible refine Mine.alloc ?_ _)
  replace m52 : Mine w7 b5 1 (.int .i64 F.2.1) := by rw [hww7]; (repeat first | with_reducible assumption | with_reducible refine Mine.drew ?_ | with_reducible refine Mine.drewN ?_ _ | ((with_reducible refine Mine.new ?_); rfl) | ((with_reducible refine Mine.newAt ?_ ?_) <;> first | rfl | (simp; done) | (simp only [World.size_alloc]; rfl)) | ((with_reducible refine Mine.set ?_ _); repeat first | exact Mine.slot (by with_reducible assumption) | with_reducible refine MineS.drew ?_ | with_reducible refine MineS.drewN ?_ _ | ((with_reducible refine MineS.new ?_); decide) | ((with_reducible refine MineS.newAt ?_ ?_) <;> first | decide | (simp; done)) | with_reducible refine MineS.set ?_ _ _ _ | with_reducible refine MineS.alloc ?_ _) | with_reducible refine Mine.other ?_ _ (by first | (left; omega) | (right; omega) | (simp; done) | (simp; omega)) | with_reducible refine Mine.alloc ?_ _)
  replace m61 : Mine w7 b6 0 (.int .i64 G.1) := by rw [hww7]; (repeat first | with_reducible assumption | with_reducible refine Mine.drew ?_ | with_reducible refine Mine.drewN ?_ _ | ((with_reducible refine Mine.new ?_); rfl) | ((with_reducible refine Mine.newAt ?_ ?_) <;> first | rfl | (simp; done) | (simp only [World.size_alloc]; rfl)) | ((with_reducible refine Mine.set ?_ _); repeat first | exact Mine.slot (by with_reducible assumption) | with_reducible refine MineS.drew ?_ | with_reducible refine MineS.drewN ?_ _ | ((with_reducible refine MineS.new ?_); decide) | ((with_reducible refine MineS.newAt ?_ ?_) <;> first | decide | (simp; done)) | with_reducible refine MineS.set ?_ _ _ _ | with_reducible refine MineS.alloc ?_ _) | with_reducible refine Mine.other ?_ _ (by first | (left; omega) | (right; omega) | (simp; done) | (simp; omega)) | with_reducible refine Mine.alloc ?_ _)
  replace m62 : Mine w7 b6 1 (.int .i64 G.2.1) := by rw [hww7]; (repeat first | with_reducible assumption | with_reducible refine Mine.drew ?_ | with_reducible refine Mine.drewN ?_ _ | ((with_reducible refine Mine.new ?_); rfl) | ((with_reducible refine Mine.newAt ?_ ?_) <;> first | rfl | (simp; done) | (simp only [World.size_alloc]; rfl)) | ((with_reducible refine Mine.set ?_ _); repeat first | exact Mine.slot (by with_reducible assumption) | with_reducible refine MineS.drew ?_ | with_reducible refine MineS.drewN ?_ _ | ((with_reducible refine MineS.new ?_); decide) | ((with_reducible refine MineS.newAt ?_ ?_) <;> first | decide | (simp; done)) | with_reducible refine MineS.set ?_ _ _ _ | with_reducible refine MineS.alloc ?_ _) | with_reducible refine Mine.other ?_ _ (by first | (left; omega) | (right; omega) | (simp; done) | (simp; omega)) | with_reducible refine Mine.alloc ?_ _)
  replace m71 : Mine w7 v6.heap.size 0 (.int .i64 Z.1) := by rw [hww7]; (repeat first | with_reducible assumption | with_reducible refine Mine.drew ?_ | with_reducible refine Mine.drewN ?_ _ | ((with_reducible refine Mine.new ?_); rfl) | ((with_reducible refine Mine.newAt ?_ ?_) <;> first | rfl | (simp; done) | (simp only [World.size_alloc]; rfl)) | ((with_reducible refine Mine.set ?_ _); repeat first | exact Mine.slot (by with_reducible assumption) | with_reducible refine MineS.drew ?_ | with_reducible refine MineS.drewN ?_ _ | ((with_reducible refine MineS.new ?_); decide) | ((with_reducible refine MineS.newAt ?_ ?_) <;> first | decide | (simp; done)) | with_reducible refine MineS.set ?_ _ _ _ | with_reducible refine MineS.alloc ?_ _) | with_reducible refine Mine.other ?_ _ (by first | (left; omega) | (right; omega) | (simp; done) | (simp; omega)) | with_reducible refine Mine.alloc ?_ _)
  replace m72 : Mine w7 v6.heap.size 1 (.int .i64 Z.2.1) := by rw [hww7]; (repeat first | with_reducible assumption | with_reducible refine Mine.drew ?_ | with_reducible refine Mine.drewN ?_ _ | ((with_reducible refine Mine.new ?_); rfl) | ((with_reducible refine Mine.newAt ?_ ?_) <;> first | rfl | (simp; done) | (simp only [World.size_alloc]; rfl)) | ((with_reducible refine Mine.set ?_ _); repeat first | exact Mine.slot (by with_reducible assumption) | with_reducible refine MineS.drew ?_ | with_reducible refine MineS.drewN ?_ _ | ((with_reducible refine MineS.new ?_); decide) | ((with_reducible refine MineS.newAt ?_ ?_) <;> first | decide | (simp; done)) | with_reducible refine MineS.set ?_ _ _ _ | with_reducible refine MineS.alloc ?_ _) | with_reducible refine Mine.other ?_ _ (by first | (left; omega) | (right; omega) | (simp; done) | (simp; omega)) | with_reducible refine Mine.alloc ?_ _)
  have hBzw7 := hB.size
  replace hB : Below w.heap.size w w7 := by rw [hww7]; exact (by repeat first | with_reducible exact Below.refl _ _ | with_reducible assumption | with_reducible refine below_drewN ?_ _ | with_reducible refine Below.drew ?_ | with_reducible refine Below.setCell ?_ (by first | exact Nat.le_refl _ | (simp; done) | (simp; omega) | omega) _ | with_reducible refine Below.alloc ?_ (by first | exact Nat.le_refl _ | (simp; done) | (simp; omega) | omega) _ | exact Below.refl _ _ | assumption)
  clear hww7 hBzw7
  generalize v6.heap.size = b7 at *
  refine (C5.out _).mono ?_
  rintro e v7 ⟨rfl, hb1⟩
  replace m30 := m30.below hb1
  replace m31 := m31.below hb1
  replace m32 := m32.below hb1
  replace m33 := m33.below hb1
  replace m34 := m34.below hb1
  replace m35 := m35.below hb1
  replace m41 := m41.below hb1
  replace m42 := m42.below hb1
  replace m51 := m51.below hb1
  replace m52 := m52.below hb1
  replace m61 := m61.below hb1
  replace m62 := m62.below hb1
  replace m71 := m71.below hb1
  replace m72 := m72.below hb1
  replace hB := hB.trans (hb1.mono hB.size)
  have hb_v7 := hb1
  clear hb1
  have c71 := m71.cell
  have f71 := m71.free
  have l71 := m71.lt
  have c72 := m72.cell
  have f72 := m72.free
  have l72 := m72.lt
  have hBz := hB.size
  go_wp2
  go_ret
  exact ⟨rfl, (by repeat first | with_reducible exact Below.refl _ _ | with_reducible assumption | with_reducible refine below_drewN ?_ _ | with_reducible refine Below.drew ?_ | with_reducible refine Below.setCell ?_ (by first | exact Nat.le_refl _ | (simp; done) | (simp; omega) | omega) _ | with_reducible refine Below.alloc ?_ (by first | exact Nat.le_refl _ | (simp; done) | (simp; omega) | omega) _ | exact Below.refl _ _ | assumption)⟩
end Go.Proofs.YtfojgdlegojdgaaDoor
