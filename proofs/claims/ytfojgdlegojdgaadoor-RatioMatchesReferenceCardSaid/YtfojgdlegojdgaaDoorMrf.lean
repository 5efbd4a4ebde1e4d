/-
  RatioMatchesReference: the walk.
-/
import Derived.Test.YtfojgdlegojdgaaDoorSane3
import Derived.Test.YtfojgdlegojdgaaDoorOpA
namespace Go.Proofs.YtfojgdlegojdgaaDoor
open Go.RowKit

theorem ne_rv (x y a b : Int) (w : World) : (binOp .neq 27 (.agg #[.int .i64 x, .int .i64 y]) (.agg #[.int .i64 a, .int .i64 b])).run Tryd.prog w = .ok (.bool !(x == a && y == b)) w := by
  by_cases h1 : x = a
  · by_cases h2 : y = b
    · subst h1 h2
      go_simp
    · have h2' : (y == b) = false := by simpa using h2
      subst h1
      go_simp
  · have h1' : (x == a) = false := by simpa using h1
    go_simp
theorem mk_i64 (n d : Int) : I64 (mk n d).1 ∧ I64 (mk n d).2.1 := by
  rcases mk_spec0 n d with h | ⟨r, s, h, hv, _⟩
  · rw [h]; exact ⟨⟨by simp, by simp⟩, ⟨by simp, by simp⟩⟩
  · rw [h]
    have h1 := I64.of_vld_num hv
    have h2 := I64.of_vld_den hv
    exact ⟨⟨by simp only; omega, by simp only; omega⟩, ⟨by simp only; omega, by simp only; omega⟩⟩

theorem getD_i64 (l : List Int) (h : ∀ x ∈ l, I64 x) (j : Nat) : I64 (l.getD j 0) := by
  induction l generalizing j with
  | nil => exact ⟨by simp, by simp⟩
  | cons a t ih => cases j with
    | zero => exact h a (by simp)
    | succ j => exact ih (fun x hx => h x (by simp [hx])) j
/-- What the loop keeps. -/
structure MrfRel (W0 wr : World) (b2 bS : Nat) (M1 M2 : Int) (C : Nat → Int) : Prop where
  hB : Below W0.heap.size W0 wr
  m1 : Mine wr b2 0 (.int .i64 M1)
  m2 : Mine wr b2 1 (.int .i64 M2)
  hC : ∀ j, j < 12 → Mine wr bS j (.int .i64 (C j))

set_option maxRecDepth 100000 in
set_option maxHeartbeats 8000000 in
theorem MrfLaw (x0 x1 x2 x3 k : Int) (w : World) (i0 : I64 x0) (i1 : I64 x1) (i2 : I64 x2) (i3 : I64 x3) (hE : Env w) (p : Addr) (hP : Mis w p) :
    Calls Tryd.prog 10 #[.agg #[.int .i64 x0, .int .i64 x1, .int .i64 x2, .int .i64 x3], .int .i64 k] w fun e w' => e = .returned (.bool true) ∧ Below w.heap.size w w' := by
  have hB : Below w.heap.size w w := Below.refl _ _
  have K1 := fun w => Make_all x0 x1 w i0 i1
  have K2 := fun w => refMake_all x0 x1 w i0 i1
  have K3 := fun w => Make_all x2 x3 w i2 i3
  have K4 := fun w => refMake_all x2 x3 w i2 i3
  have jM := mk_i64 x0 x1
  have jO := mk_i64 x2 x3
  generalize mk x0 x1 = M at *
  generalize mk x2 x3 = O at *
  replace K1 := Lib.hid K1
  replace K2 := Lib.hid K2
  replace K3 := Lib.hid K3
  replace K4 := Lib.hid K4
  replace jM := Lib.hid jM
  replace jO := Lib.hid jO
  replace i0 := Lib.hid i0
  replace i1 := Lib.hid i1
  replace i2 := Lib.hid i2
  replace i3 := Lib.hid i3
  have hPp := Lib.hid (fun W (hW : Below w.heap.size w W) => hP.below hW)
  clear hP
  go_enter Tryd.func10, Tryd.ntmps10
  go_wp2_with fail
  refine name_calls ?_
  intro w1 hww1
  have mAll : Mine w1 w.heap.size 0 (.int .i64 x0) ∧ Mine w1 w.heap.size 1 (.int .i64 x1) ∧ Mine w1 w.heap.size 2 (.int .i64 x2) ∧ Mine w1 w.heap.size 3 (.int .i64 x3) := by
    rw [hww1]
    refine ⟨?_, ?_, ?_, ?_⟩ <;> (repeat first | with_reducible assumption | with_reducible refine Mine.drew ?_ | with_reducible refine Mine.drewN ?_ _ | ((with_reducible refine Mine.new ?_); rfl) | ((with_reducible refine Mine.newAt ?_ ?_) <;> first | rfl | (simp; done) | (simp only [World.size_alloc]; rfl)) | ((with_reducible refine Mine.set ?_ _); repeat first | exact Mine.slot (by with_reducible assumption) | with_reducible refine MineS.drew ?_ | with_reducible refine MineS.drewN ?_ _ | ((with_reducible refine MineS.new ?_); decide) | ((with_reducible refine MineS.newAt ?_ ?_) <;> first | decide | (simp; done)) | with_reducible refine MineS.set ?_ _ _ _ | with_reducible refine MineS.alloc ?_ _) | with_reducible refine Mine.other ?_ _ (by first | (left; omega) | (right; omega) | (simp; done) | (simp; omega)) | with_reducible refine Mine.alloc ?_ _)
  obtain ⟨m10, m11, m12, m13⟩ := mAll
  have hBzw1 := hB.size
  replace hB : Below w.heap.size w w1 := by rw [hww1]; exact (by repeat first | with_reducible exact Below.refl _ _ | with_reducible assumption | with_reducible refine below_drewN ?_ _ | with_reducible refine Below.drew ?_ | with_reducible refine Below.setCell ?_ (by first | exact Nat.le_refl _ | (simp; done) | (simp; omega) | omega) _ | with_reducible refine Below.alloc ?_ (by first | exact Nat.le_refl _ | (simp; done) | (simp; omega) | omega) _ | exact Below.refl _ _ | assumption)
  clear hww1 hBzw1
  refine (sane_any _ (hE.below hB)).mono ?_
  rintro e v1 ⟨rfl, hb1⟩
  replace m10 := m10.below hb1
  replace m11 := m11.below hb1
  replace m12 := m12.below hb1
  replace m13 := m13.below hb1
  replace hB := hB.trans (hb1.mono hB.size)
  have hb_v1 := hb1
  clear hb1
  have c10 := m10.cell
  have f10 := m10.free
  have l10 := m10.lt
  have c11 := m11.cell
  have f11 := m11.free
  have l11 := m11.lt
  have c12 := m12.cell
  have f12 := m12.free
  have l12 := m12.lt
  have c13 := m13.cell
  have f13 := m13.free
  have l13 := m13.lt
  go_wp2_with fail
  clear c10 f10 l10
  clear c11 f11 l11
  clear c12 f12 l12
  clear c13 f13 l13
  refine (K1.out _).mono ?_
  rintro e v2 ⟨rfl, hb1⟩
  replace m10 := m10.below hb1
  replace m11 := m11.below hb1
  replace m12 := m12.below hb1
  replace m13 := m13.below hb1
  replace hB := hB.trans (hb1.mono hB.size)
  have hb_v2 := hb1
  clear hb1
  have c10 := m10.cell
  have f10 := m10.free
  have l10 := m10.lt
  have c11 := m11.cell
  have f11 := m11.free
  have l11 := m11.lt
  have c12 := m12.cell
  have f12 := m12.free
  have l12 := m12.lt
  have c13 := m13.cell
  have f13 := m13.free
  have l13 := m13.lt
  go_wp2_with fail
  clear c10 f10 l10
  clear c11 f11 l11
  clear c12 f12 l12
  clear c13 f13 l13
  refine name_calls ?_
  intro w2 hww2
  have mAll : Mine w2 w.heap.size 0 (.int .i64 x0) ∧ Mine w2 w.heap.size 1 (.int .i64 x1) ∧ Mine w2 w.heap.size 2 (.int .i64 x2) ∧ Mine w2 w.heap.size 3 (.int .i64 x3) ∧ Mine w2 v2.heap.size 0 (.int .i64 M.1) ∧ Mine w2 v2.heap.size 1 (.int .i64 M.2.1) := by
    rw [hww2]
    refine ⟨?_, ?_, ?_, ?_, ?_, ?_⟩ <;> (repeat first | with_reducible assumption | with_reducible refine Mine.drew ?_ | with_reducible refine Mine.drewN ?_ _ | ((with_reducible refine Mine.new ?_); rfl) | ((with_reducible refine Mine.newAt ?_ ?_) <;> first | rfl | (simp; done) | (simp only [World.size_alloc]; rfl)) | ((with_reducible refine Mine.set ?_ _); repeat first | exact Mine.slot (by with_reducible assumption) | with_reducible refine MineS.drew ?_ | with_reducible refine MineS.drewN ?_ _ | ((with_reducible refine MineS.new ?_); decide) | ((with_reducible refine MineS.newAt ?_ ?_) <;> first | decide | (simp; done)) | with_reducible refine MineS.set ?_ _ _ _ | with_reducible refine MineS.alloc ?_ _) | with_reducible refine Mine.other ?_ _ (by first | (left; omega) | (right; omega) | (simp; done) | (simp; omega)) | with_reducible refine Mine.alloc ?_ _)
  clear m10 m11 m12 m13
  obtain ⟨m10, m11, m12, m13, m21, m22⟩ := mAll
  have hBzw2 := hB.size
  replace hB : Below w.heap.size w w2 := by rw [hww2]; exact (by repeat first | with_reducible exact Below.refl _ _ | with_reducible assumption | with_reducible refine below_drewN ?_ _ | with_reducible refine Below.drew ?_ | with_reducible refine Below.setCell ?_ (by first | exact Nat.le_refl _ | (simp; done) | (simp; omega) | omega) _ | with_reducible refine Below.alloc ?_ (by first | exact Nat.le_refl _ | (simp; done) | (simp; omega) | omega) _ | exact Below.refl _ _ | assumption)
  clear hww2 hBzw2
  generalize v2.heap.size = b2 at *
  refine (K2.out _).mono ?_
  rintro e v3 ⟨rfl, hb1⟩
  replace m10 := m10.below hb1
  replace m11 := m11.below hb1
  replace m12 := m12.below hb1
  replace m13 := m13.below hb1
  replace m21 := m21.below hb1
  replace m22 := m22.below hb1
  replace hB := hB.trans (hb1.mono hB.size)
  have hb_v3 := hb1
  clear hb1
  have c10 := m10.cell
  have f10 := m10.free
  have l10 := m10.lt
  have c11 := m11.cell
  have f11 := m11.free
  have l11 := m11.lt
  have c12 := m12.cell
  have f12 := m12.free
  have l12 := m12.lt
  have c13 := m13.cell
  have f13 := m13.free
  have l13 := m13.lt
  go_wp2_with fail
  clear c10 f10 l10
  clear c11 f11 l11
  clear c12 f12 l12
  clear c13 f13 l13
  refine name_calls ?_
  intro w3 hww3
  have mAll : Mine w3 w.heap.size 0 (.int .i64 x0) ∧ Mine w3 w.heap.size 1 (.int .i64 x1) ∧ Mine w3 w.heap.size 2 (.int .i64 x2) ∧ Mine w3 w.heap.size 3 (.int .i64 x3) ∧ Mine w3 b2 0 (.int .i64 M.1) ∧ Mine w3 b2 1 (.int .i64 M.2.1) ∧ Mine w3 v3.heap.size 0 (.int .i64 M.1) ∧ Mine w3 v3.heap.size 1 (.int .i64 M.2.1) := by
    rw [hww3]
    refine ⟨?_, ?_, ?_, ?_, ?_, ?_, ?_, ?_⟩ <;> (repeat first | with_reducible assumption | with_reducible refine Mine.drew ?_ | with_reducible refine Mine.drewN ?_ _ | ((with_reducible refine Mine.new ?_); rfl) | ((with_reducible refine Mine.newAt ?_ ?_) <;> first | rfl | (simp; done) | (simp only [World.size_alloc]; rfl)) | ((with_reducible refine Mine.set ?_ _); repeat first | exact Mine.slot (by with_reducible assumption) | with_reducible refine MineS.drew ?_ | with_reducible refine MineS.drewN ?_ _ | ((with_reducible refine MineS.new ?_); decide) | ((with_reducible refine MineS.newAt ?_ ?_) <;> first | decide | (simp; done)) | with_reducible refine MineS.set ?_ _ _ _ | with_reducible refine MineS.alloc ?_ _) | with_reducible refine Mine.other ?_ _ (by first | (left; omega) | (right; omega) | (simp; done) | (simp; omega)) | with_reducible refine Mine.alloc ?_ _)
  clear m10 m11 m12 m13 m21 m22
  obtain ⟨m10, m11, m12, m13, m21, m22, m31, m32⟩ := mAll
  have hBzw3 := hB.size
  replace hB : Below w.heap.size w w3 := by rw [hww3]; exact (by repeat first | with_reducible exact Below.refl _ _ | with_reducible assumption | with_reducible refine below_drewN ?_ _ | with_reducible refine Below.drew ?_ | with_reducible refine Below.setCell ?_ (by first | exact Nat.le_refl _ | (simp; done) | (simp; omega) | omega) _ | with_reducible refine Below.alloc ?_ (by first | exact Nat.le_refl _ | (simp; done) | (simp; omega) | omega) _ | exact Below.refl _ _ | assumption)
  clear hww3 hBzw3
  generalize v3.heap.size = b3 at *
  refine (K3.out _).mono ?_
  rintro e v4 ⟨rfl, hb1⟩
  replace m10 := m10.below hb1
  replace m11 := m11.below hb1
  replace m12 := m12.below hb1
  replace m13 := m13.below hb1
  replace m21 := m21.below hb1
  replace m22 := m22.below hb1
  replace m31 := m31.below hb1
  replace m32 := m32.below hb1
  replace hB := hB.trans (hb1.mono hB.size)
  have hb_v4 := hb1
  clear hb1
  have c10 := m10.cell
  have f10 := m10.free
  have l10 := m10.lt
  have c11 := m11.cell
  have f11 := m11.free
  have l11 := m11.lt
  have c12 := m12.cell
  have f12 := m12.free
  have l12 := m12.lt
  have c13 := m13.cell
  have f13 := m13.free
  have l13 := m13.lt
  go_wp2_with fail
  clear c10 f10 l10
  clear c11 f11 l11
  clear c12 f12 l12
  clear c13 f13 l13
  refine name_calls ?_
  intro w4 hww4
  have mAll : Mine w4 w.heap.size 0 (.int .i64 x0) ∧ Mine w4 w.heap.size 1 (.int .i64 x1) ∧ Mine w4 w.heap.size 2 (.int .i64 x2) ∧ Mine w4 w.heap.size 3 (.int .i64 x3) ∧ Mine w4 b2 0 (.int .i64 M.1) ∧ Mine w4 b2 1 (.int .i64 M.2.1) ∧ Mine w4 b3 0 (.int .i64 M.1) ∧ Mine w4 b3 1 (.int .i64 M.2.1) ∧ Mine w4 v4.heap.size 0 (.int .i64 O.1) ∧ Mine w4 v4.heap.size 1 (.int .i64 O.2.1) := by
    rw [hww4]
    refine ⟨?_, ?_, ?_, ?_, ?_, ?_, ?_, ?_, ?_, ?_⟩ <;> (repeat first | with_reducible assumption | with_reducible refine Mine.drew ?_ | with_reducible refine Mine.drewN ?_ _ | ((with_reducible refine Mine.new ?_); rfl) | ((with_reducible refine Mine.newAt ?_ ?_) <;> first | rfl | (simp; done) | (simp only [World.size_alloc]; rfl)) | ((with_reducible refine Mine.set ?_ _); repeat first | exact Mine.slot (by with_reducible assumption) | with_reducible refine MineS.drew ?_ | with_reducible refine MineS.drewN ?_ _ | ((with_reducible refine MineS.new ?_); decide) | ((with_reducible refine MineS.newAt ?_ ?_) <;> first | decide | (simp; done)) | with_reducible refine MineS.set ?_ _ _ _ | with_reducible refine MineS.alloc ?_ _) | with_reducible refine Mine.other ?_ _ (by first | (left; omega) | (right; omega) | (simp; done) | (simp; omega)) | with_reducible refine Mine.alloc ?_ _)
  clear m10 m11 m12 m13 m21 m22 m31 m32
  obtain ⟨m10, m11, m12, m13, m21, m22, m31, m32, m41, m42⟩ := mAll
  have hBzw4 := hB.size
  replace hB : Below w.heap.size w w4 := by rw [hww4]; exact (by repeat first | with_reducible exact Below.refl _ _ | with_reducible assumption | with_reducible refine below_drewN ?_ _ | with_reducible refine Below.drew ?_ | with_reducible refine Below.setCell ?_ (by first | exact Nat.le_refl _ | (simp; done) | (simp; omega) | omega) _ | with_reducible refine Below.alloc ?_ (by first | exact Nat.le_refl _ | (simp; done) | (simp; omega) | omega) _ | exact Below.refl _ _ | assumption)
  clear hww4 hBzw4
  generalize v4.heap.size = b4 at *
  refine (K4.out _).mono ?_
  rintro e v5 ⟨rfl, hb1⟩
  replace m10 := m10.below hb1
  replace m11 := m11.below hb1
  replace m12 := m12.below hb1
  replace m13 := m13.below hb1
  replace m21 := m21.below hb1
  replace m22 := m22.below hb1
  replace m31 := m31.below hb1
  replace m32 := m32.below hb1
  replace m41 := m41.below hb1
  replace m42 := m42.below hb1
  replace hB := hB.trans (hb1.mono hB.size)
  have hb_v5 := hb1
  clear hb1
  have hNe := ne_rv
  have c10 := m10.cell
  have f10 := m10.free
  have l10 := m10.lt
  have c11 := m11.cell
  have f11 := m11.free
  have l11 := m11.lt
  have c12 := m12.cell
  have f12 := m12.free
  have l12 := m12.lt
  have c13 := m13.cell
  have f13 := m13.free
  have l13 := m13.lt
  have c21 := m21.cell
  have f21 := m21.free
  have l21 := m21.lt
  have c22 := m22.cell
  have f22 := m22.free
  have l22 := m22.lt
  have c31 := m31.cell
  have f31 := m31.free
  have l31 := m31.lt
  have c32 := m32.cell
  have f32 := m32.free
  have l32 := m32.lt
  have c41 := m41.cell
  have f41 := m41.free
  have l41 := m41.lt
  have c42 := m42.cell
  have f42 := m42.free
  have l42 := m42.lt
  go_wp2_with fail
  clear c10 f10 l10
  clear c11 f11 l11
  clear c12 f12 l12
  clear c13 f13 l13
  clear c21 f21 l21
  clear c22 f22 l22
  clear c31 f31 l31
  clear c32 f32 l32
  clear c41 f41 l41
  clear c42 f42 l42
  clear m31 m32
  refine name_wp ?_
  intro w5 hww5
  have mAll : Mine w5 w.heap.size 0 (.int .i64 x0) ∧ Mine w5 w.heap.size 1 (.int .i64 x1) ∧ Mine w5 w.heap.size 2 (.int .i64 x2) ∧ Mine w5 w.heap.size 3 (.int .i64 x3) ∧ Mine w5 b2 0 (.int .i64 M.1) ∧ Mine w5 b2 1 (.int .i64 M.2.1) ∧ Mine w5 b4 0 (.int .i64 O.1) ∧ Mine w5 b4 1 (.int .i64 O.2.1) := by
    rw [hww5]
    refine ⟨?_, ?_, ?_, ?_, ?_, ?_, ?_, ?_⟩ <;> (repeat first | with_reducible assumption | with_reducible refine Mine.drew ?_ | with_reducible refine Mine.drewN ?_ _ | ((with_reducible refine Mine.new ?_); rfl) | ((with_reducible refine Mine.newAt ?_ ?_) <;> first | rfl | (simp; done) | (simp only [World.size_alloc]; rfl)) | ((with_reducible refine Mine.set ?_ _); repeat first | exact Mine.slot (by with_reducible assumption) | with_reducible refine MineS.drew ?_ | with_reducible refine MineS.drewN ?_ _ | ((with_reducible refine MineS.new ?_); decide) | ((with_reducible refine MineS.newAt ?_ ?_) <;> first | decide | (simp; done)) | with_reducible refine MineS.set ?_ _ _ _ | with_reducible refine MineS.alloc ?_ _) | with_reducible refine Mine.other ?_ _ (by first | (left; omega) | (right; omega) | (simp; done) | (simp; omega)) | with_reducible refine Mine.alloc ?_ _)
  clear m10 m11 m12 m13 m21 m22 m41 m42
  obtain ⟨m10, m11, m12, m13, m21, m22, m41, m42⟩ := mAll
  have hBzw5 := hB.size
  replace hB : Below w.heap.size w w5 := by rw [hww5]; exact (by repeat first | with_reducible exact Below.refl _ _ | with_reducible assumption | with_reducible refine below_drewN ?_ _ | with_reducible refine Below.drew ?_ | with_reducible refine Below.setCell ?_ (by first | exact Nat.le_refl _ | (simp; done) | (simp; omega) | omega) _ | with_reducible refine Below.alloc ?_ (by first | exact Nat.le_refl _ | (simp; done) | (simp; omega) | omega) _ | exact Below.refl _ _ | assumption)
  clear hww5 hBzw5
  clear hb_v1 hb_v2 hb_v3 hb_v4 hb_v5 K1 K2 K3 K4
  have hBq := hB.size
  have c10 := m10.cell
  have f10 := m10.free
  have l10 := m10.lt
  have c11 := m11.cell
  have f11 := m11.free
  have l11 := m11.lt
  have c12 := m12.cell
  have f12 := m12.free
  have l12 := m12.lt
  have c13 := m13.cell
  have f13 := m13.free
  have l13 := m13.lt
  have c21 := m21.cell
  have f21 := m21.free
  have l21 := m21.lt
  have c22 := m22.cell
  have f22 := m22.free
  have l22 := m22.lt
  have c41 := m41.cell
  have f41 := m41.free
  have l41 := m41.lt
  have c42 := m42.cell
  have f42 := m42.free
  have l42 := m42.lt
  refine wp_region_held_drew (S := fun w' => w'.cell? ⟨w.heap.size, 0, none⟩ = some (.int .i64 x0) ∧ w'.cell? ⟨w.heap.size, 1, none⟩ = some (.int .i64 x1) ∧ w'.cell? ⟨w.heap.size, 2, none⟩ = some (.int .i64 x2) ∧ w'.cell? ⟨w.heap.size, 3, none⟩ = some (.int .i64 x3) ∧ w'.cell? ⟨b2, 0, none⟩ = some (.int .i64 M.1) ∧ w'.cell? ⟨b2, 1, none⟩ = some (.int .i64 M.2.1) ∧ w'.cell? ⟨b4, 0, none⟩ = some (.int .i64 O.1) ∧ w'.cell? ⟨b4, 1, none⟩ = some (.int .i64 O.2.1)) (by kernel_rfl) (by first | (dsimp only; go_keep) | go_keep) (fun hHeld => ?_)
  refine take_l (i := 0) (v := ?_) rfl (by kernel_rfl) (by kernel_rfl) (by kernel_rfl) (fun _ _ _ h => h) (Or.inl ⟨by kernel_rfl, ?_⟩) (by assumption) ?_
  rotate_left
  · intro w hSw; (try dsimp only at hSw); go_simp; (try with_reducible rfl)
  (try dsimp only [Act.put, List.setIfInBounds_toArray, List.set_cons_zero, List.set_cons_succ])
  refine take_l (i := 1) (v := ?_) rfl (by kernel_rfl) (by kernel_rfl) (by kernel_rfl) (fun _ _ _ h => h) (Or.inl ⟨by kernel_rfl, ?_⟩) (by assumption) ?_
  rotate_left
  · intro w hSw; (try dsimp only at hSw); go_simp; (try with_reducible rfl)
  (try dsimp only [Act.put, List.setIfInBounds_toArray, List.set_cons_zero, List.set_cons_succ])
  refine take_l (i := 2) (v := ?_) rfl (by kernel_rfl) (by kernel_rfl) (by kernel_rfl) (fun _ _ _ h => h) (Or.inl ⟨by kernel_rfl, ?_⟩) (by assumption) ?_
  rotate_left
  · intro w hSw; (try dsimp only at hSw); go_simp; (try with_reducible rfl)
  (try dsimp only [Act.put, List.setIfInBounds_toArray, List.set_cons_zero, List.set_cons_succ])
  refine take_l (i := 3) (v := ?_) rfl (by kernel_rfl) (by kernel_rfl) (by kernel_rfl) (fun _ _ _ h => h) (Or.inl ⟨by kernel_rfl, ?_⟩) (by assumption) ?_
  rotate_left
  · intro w hSw; (try dsimp only at hSw); go_simp; (try with_reducible rfl)
  (try dsimp only [Act.put, List.setIfInBounds_toArray, List.set_cons_zero, List.set_cons_succ])
  refine take_l (i := 4) (v := ?_) rfl (by kernel_rfl) (by kernel_rfl) (by kernel_rfl) (fun _ _ _ h => h) (Or.inl ⟨by kernel_rfl, ?_⟩) (by assumption) ?_
  rotate_left
  · intro w hSw; (try dsimp only at hSw); go_simp; (try with_reducible rfl)
  (try dsimp only [Act.put, List.setIfInBounds_toArray, List.set_cons_zero, List.set_cons_succ])
  refine take_l (i := 5) (v := ?_) rfl (by kernel_rfl) (by kernel_rfl) (by kernel_rfl) (fun _ _ _ h => h) (Or.inl ⟨by kernel_rfl, ?_⟩) (by assumption) ?_
  rotate_left
  · intro w hSw; (try dsimp only at hSw); go_simp; (try with_reducible rfl)
  (try dsimp only [Act.put, List.setIfInBounds_toArray, List.set_cons_zero, List.set_cons_succ])
  refine take_l (i := 6) (v := ?_) rfl (by kernel_rfl) (by kernel_rfl) (by kernel_rfl) (fun _ _ _ h => h) (Or.inl ⟨by kernel_rfl, ?_⟩) (by assumption) ?_
  rotate_left
  · intro w hSw; (try dsimp only at hSw); go_simp; (try with_reducible rfl)
  (try dsimp only [Act.put, List.setIfInBounds_toArray, List.set_cons_zero, List.set_cons_succ])
  refine take_l (i := 8) (v := ?_) rfl (by kernel_rfl) (by kernel_rfl) (by kernel_rfl) (fun _ _ _ h => h) (Or.inl ⟨by kernel_rfl, ?_⟩) (by assumption) ?_
  rotate_left
  · intro w hSw; (try dsimp only at hSw); go_simp; (try with_reducible rfl)
  (try dsimp only [Act.put, List.setIfInBounds_toArray, List.set_cons_zero, List.set_cons_succ])
  refine take_l (i := 9) (v := ?_) rfl (by kernel_rfl) (by kernel_rfl) (by kernel_rfl) (fun _ _ _ h => h) (Or.inl ⟨by kernel_rfl, ?_⟩) (by assumption) ?_
  rotate_left
  · intro w hSw; (try dsimp only at hSw); go_simp; (try with_reducible rfl)
  (try dsimp only [Act.put, List.setIfInBounds_toArray, List.set_cons_zero, List.set_cons_succ])
  refine take_l (i := 10) (v := ?_) rfl (by kernel_rfl) (by kernel_rfl) (by kernel_rfl) (fun _ _ _ h => h) (Or.inl ⟨by kernel_rfl, ?_⟩) (by assumption) ?_
  rotate_left
  · intro w hSw; (try dsimp only at hSw); go_simp; (try with_reducible rfl)
  (try dsimp only [Act.put, List.setIfInBounds_toArray, List.set_cons_zero, List.set_cons_succ])
  refine take_l (i := 11) (v := ?_) rfl (by kernel_rfl) (by kernel_rfl) (by kernel_rfl) (fun _ _ _ h => h) (Or.inl ⟨by kernel_rfl, ?_⟩) (by assumption) ?_
  rotate_left
  · intro w hSw; (try dsimp only at hSw); go_simp; (try with_reducible rfl)
  (try dsimp only [Act.put, List.setIfInBounds_toArray, List.set_cons_zero, List.set_cons_succ])
  refine take_l (i := 14) (v := ?_) rfl (by kernel_rfl) (by kernel_rfl) (by kernel_rfl) (fun _ _ _ h => h) (Or.inl ⟨by kernel_rfl, ?_⟩) (by assumption) ?_
  rotate_left
  · intro w hSw; (try dsimp only at hSw); go_simp; (try with_reducible rfl)
  (try dsimp only [Act.put, List.setIfInBounds_toArray, List.set_cons_zero, List.set_cons_succ])
  refine take_l (i := 15) (v := ?_) rfl (by kernel_rfl) (by kernel_rfl) (by kernel_rfl) (fun _ _ _ h => h) (Or.inl ⟨by kernel_rfl, ?_⟩) (by assumption) ?_
  rotate_left
  · intro w hSw; (try dsimp only at hSw); go_simp; (try with_reducible rfl)
  (try dsimp only [Act.put, List.setIfInBounds_toArray, List.set_cons_zero, List.set_cons_succ])
  refine take_l (i := 16) (v := ?_) rfl (by kernel_rfl) (by kernel_rfl) (by kernel_rfl) (fun _ _ _ h => h) (Or.inl ⟨by kernel_rfl, ?_⟩) (by assumption) ?_
  rotate_left
  · intro w hSw; (try dsimp only at hSw); go_simp; (try with_reducible rfl)
  (try dsimp only [Act.put, List.setIfInBounds_toArray, List.set_cons_zero, List.set_cons_succ])
  refine take_l (i := 17) (v := ?_) rfl (by kernel_rfl) (by kernel_rfl) (by kernel_rfl) (fun _ _ _ h => h) (Or.inl ⟨by kernel_rfl, ?_⟩) (by assumption) ?_
  rotate_left
  · intro w hSw; (try dsimp only at hSw); go_simp; (try with_reducible rfl)
  (try dsimp only [Act.put, List.setIfInBounds_toArray, List.set_cons_zero, List.set_cons_succ])
  refine take_l (i := 18) (v := ?_) rfl (by kernel_rfl) (by kernel_rfl) (by kernel_rfl) (fun _ _ _ h => h) (Or.inl ⟨by kernel_rfl, ?_⟩) (by assumption) ?_
  rotate_left
  · intro w hSw; (try dsimp only at hSw); go_simp; (try with_reducible rfl)
  (try dsimp only [Act.put, List.setIfInBounds_toArray, List.set_cons_zero, List.set_cons_succ])
  refine take_l (i := 23) (v := ?_) rfl (by kernel_rfl) (by kernel_rfl) (by kernel_rfl) (fun _ _ _ h => h) (Or.inl ⟨by kernel_rfl, ?_⟩) (by assumption) ?_
  rotate_left
  · intro w hSw; (try dsimp only at hSw); go_simp; (try with_reducible rfl)
  (try dsimp only [Act.put, List.setIfInBounds_toArray, List.set_cons_zero, List.set_cons_succ])
  refine wpAnyH_ready (rs := [7]) (by kernel_rfl) (by simp) ?_
  refine ready_l rfl (fun K hK => ?_) AllReadyH.nil
  go_simp
  go_at_call 14
  refine (is_any _ _ _).mono ?_
  rintro e wi7 ⟨rfl, hbwi7⟩
  have nAll : Mine wi7 w.heap.size 0 (.int .i64 x0) ∧ Mine wi7 w.heap.size 1 (.int .i64 x1) ∧ Mine wi7 w.heap.size 2 (.int .i64 x2) ∧ Mine wi7 w.heap.size 3 (.int .i64 x3) ∧ Mine wi7 b2 0 (.int .i64 M.1) ∧ Mine wi7 b2 1 (.int .i64 M.2.1) ∧ Mine wi7 b4 0 (.int .i64 O.1) ∧ Mine wi7 b4 1 (.int .i64 O.2.1) := by
    refine ⟨?_, ?_, ?_, ?_, ?_, ?_, ?_, ?_⟩ <;> exact Mine.below (by (repeat first | with_reducible assumption | with_reducible refine Mine.drew ?_ | with_reducible refine Mine.drewN ?_ _ | ((with_reducible refine Mine.new ?_); rfl) | ((with_reducible refine Mine.newAt ?_ ?_) <;> first | rfl | (simp; done) | (simp only [World.size_alloc]; rfl)) | ((with_reducible refine Mine.set ?_ _); repeat first | exact Mine.slot (by with_reducible assumption) | with_reducible refine MineS.drew ?_ | with_reducible refine MineS.drewN ?_ _ | ((with_reducible refine MineS.new ?_); decide) | ((with_reducible refine MineS.newAt ?_ ?_) <;> first | decide | (simp; done)) | with_reducible refine MineS.set ?_ _ _ _ | with_reducible refine MineS.alloc ?_ _) | with_reducible refine Mine.other ?_ _ (by first | (left; omega) | (right; omega) | (simp; done) | (simp; omega)) | with_reducible refine Mine.alloc ?_ _)) hbwi7
  obtain ⟨n10wi7, n11wi7, n12wi7, n13wi7, n21wi7, n22wi7, n41wi7, n42wi7⟩ := nAll
  have g10wi7 := n10wi7.cell; have gf10wi7 := n10wi7.free
  have g11wi7 := n11wi7.cell; have gf11wi7 := n11wi7.free
  have g12wi7 := n12wi7.cell; have gf12wi7 := n12wi7.free
  have g13wi7 := n13wi7.cell; have gf13wi7 := n13wi7.free
  have g21wi7 := n21wi7.cell; have gf21wi7 := n21wi7.free
  have g22wi7 := n22wi7.cell; have gf22wi7 := n22wi7.free
  have g41wi7 := n41wi7.cell; have gf41wi7 := n41wi7.free
  have g42wi7 := n42wi7.cell; have gf42wi7 := n42wi7.free
  have hBwi7 : Below w.heap.size w wi7 := Below.trans (by repeat first | with_reducible exact Below.refl _ _ | with_reducible assumption | with_reducible refine below_drewN ?_ _ | with_reducible refine Below.drew ?_ | with_reducible refine Below.setCell ?_ (by first | exact Nat.le_refl _ | (simp; done) | (simp; omega) | omega) _ | with_reducible refine Below.alloc ?_ (by first | exact Nat.le_refl _ | (simp; done) | (simp; omega) | omega) _ | exact Below.refl _ _ | assumption) (hbwi7.mono (by first | exact Nat.le_refl _ | assumption | (simp; done) | (simp; omega) | omega))
  have hzwi7 := hBwi7.size
  refine hK.out _ _ (by first | (dsimp only; go_keep) | go_keep) (fun hHeld7 => ?_)
  clear hK K hHeld
  (try dsimp only [Act.put, List.setIfInBounds_toArray, List.set_cons_zero, List.set_cons_succ])
  refine wpAnyH_ready (rs := [12]) (by kernel_rfl) (by simp) ?_
  refine ready_l rfl (fun K hK => ?_) AllReadyH.nil
  go_simp
  go_at_call 14
  refine (is_any _ _ _).mono ?_
  rintro e wi12 ⟨rfl, hbwi12⟩
  have nAll : Mine wi12 w.heap.size 0 (.int .i64 x0) ∧ Mine wi12 w.heap.size 1 (.int .i64 x1) ∧ Mine wi12 w.heap.size 2 (.int .i64 x2) ∧ Mine wi12 w.heap.size 3 (.int .i64 x3) ∧ Mine wi12 b2 0 (.int .i64 M.1) ∧ Mine wi12 b2 1 (.int .i64 M.2.1) ∧ Mine wi12 b4 0 (.int .i64 O.1) ∧ Mine wi12 b4 1 (.int .i64 O.2.1) := by
    refine ⟨?_, ?_, ?_, ?_, ?_, ?_, ?_, ?_⟩ <;> exact Mine.below (by (repeat first | with_reducible assumption | with_reducible refine Mine.drew ?_ | with_reducible refine Mine.drewN ?_ _ | ((with_reducible refine Mine.new ?_); rfl) | ((with_reducible refine Mine.newAt ?_ ?_) <;> first | rfl | (simp; done) | (simp only [World.size_alloc]; rfl)) | ((with_reducible refine Mine.set ?_ _); repeat first | exact Mine.slot (by with_reducible assumption) | with_reducible refine MineS.drew ?_ | with_reducible refine MineS.drewN ?_ _ | ((with_reducible refine MineS.new ?_); decide) | ((with_reducible refine MineS.newAt ?_ ?_) <;> first | decide | (simp; done)) | with_reducible refine MineS.set ?_ _ _ _ | with_reducible refine MineS.alloc ?_ _) | with_reducible refine Mine.other ?_ _ (by first | (left; omega) | (right; omega) | (simp; done) | (simp; omega)) | with_reducible refine Mine.alloc ?_ _)) hbwi12
  obtain ⟨n10wi12, n11wi12, n12wi12, n13wi12, n21wi12, n22wi12, n41wi12, n42wi12⟩ := nAll
  have g10wi12 := n10wi12.cell; have gf10wi12 := n10wi12.free
  have g11wi12 := n11wi12.cell; have gf11wi12 := n11wi12.free
  have g12wi12 := n12wi12.cell; have gf12wi12 := n12wi12.free
  have g13wi12 := n13wi12.cell; have gf13wi12 := n13wi12.free
  have g21wi12 := n21wi12.cell; have gf21wi12 := n21wi12.free
  have g22wi12 := n22wi12.cell; have gf22wi12 := n22wi12.free
  have g41wi12 := n41wi12.cell; have gf41wi12 := n41wi12.free
  have g42wi12 := n42wi12.cell; have gf42wi12 := n42wi12.free
  have hBwi12 : Below w.heap.size w wi12 := Below.trans (by repeat first | with_reducible exact Below.refl _ _ | with_reducible assumption | with_reducible refine below_drewN ?_ _ | with_reducible refine Below.drew ?_ | with_reducible refine Below.setCell ?_ (by first | exact Nat.le_refl _ | (simp; done) | (simp; omega) | omega) _ | with_reducible refine Below.alloc ?_ (by first | exact Nat.le_refl _ | (simp; done) | (simp; omega) | omega) _ | exact Below.refl _ _ | assumption) (hbwi12.mono (by first | exact Nat.le_refl _ | assumption | (simp; done) | (simp; omega) | omega))
  have hzwi12 := hBwi12.size
  refine hK.out _ _ (by first | (dsimp only; go_keep) | go_keep) (fun hHeld12 => ?_)
  clear hK K hHeld7
  (try dsimp only [Act.put, List.setIfInBounds_toArray, List.set_cons_zero, List.set_cons_succ])
  clear hzwi7 hBwi7 gf10wi7 g10wi7 n10wi7 gf11wi7 g11wi7 n11wi7 gf12wi7 g12wi7 n12wi7 gf13wi7 g13wi7 n13wi7 gf21wi7 g21wi7 n21wi7 gf22wi7 g22wi7 n22wi7 gf41wi7 g41wi7 n41wi7 gf42wi7 g42wi7 n42wi7 hbwi7
  refine take_l (i := 13) (v := ?_) rfl (by kernel_rfl) (by kernel_rfl) (by kernel_rfl) (fun _ _ _ h => h) (Or.inl ⟨by kernel_rfl, ?_⟩) (by assumption) ?_
  rotate_left
  · intro w hSw; (try dsimp only at hSw); go_simp; (try with_reducible rfl)
  (try dsimp only [Act.put, List.setIfInBounds_toArray, List.set_cons_zero, List.set_cons_succ])
  refine wpAnyH_ready (rs := [19]) (by kernel_rfl) (by simp) ?_
  refine ready_l rfl (fun K hK => ?_) AllReadyH.nil
  go_simp
  go_at_call 14
  refine (is_any _ _ _).mono ?_
  rintro e wi19 ⟨rfl, hbwi19⟩
  have nAll : Mine wi19 w.heap.size 0 (.int .i64 x0) ∧ Mine wi19 w.heap.size 1 (.int .i64 x1) ∧ Mine wi19 w.heap.size 2 (.int .i64 x2) ∧ Mine wi19 w.heap.size 3 (.int .i64 x3) ∧ Mine wi19 b2 0 (.int .i64 M.1) ∧ Mine wi19 b2 1 (.int .i64 M.2.1) ∧ Mine wi19 b4 0 (.int .i64 O.1) ∧ Mine wi19 b4 1 (.int .i64 O.2.1) := by
    refine ⟨?_, ?_, ?_, ?_, ?_, ?_, ?_, ?_⟩ <;> exact Mine.below (by (repeat first | with_reducible assumption | with_reducible refine Mine.drew ?_ | with_reducible refine Mine.drewN ?_ _ | ((with_reducible refine Mine.new ?_); rfl) | ((with_reducible refine Mine.newAt ?_ ?_) <;> first | rfl | (simp; done) | (simp only [World.size_alloc]; rfl)) | ((with_reducible refine Mine.set ?_ _); repeat first | exact Mine.slot (by with_reducible assumption) | with_reducible refine MineS.drew ?_ | with_reducible refine MineS.drewN ?_ _ | ((with_reducible refine MineS.new ?_); decide) | ((with_reducible refine MineS.newAt ?_ ?_) <;> first | decide | (simp; done)) | with_reducible refine MineS.set ?_ _ _ _ | with_reducible refine MineS.alloc ?_ _) | with_reducible refine Mine.other ?_ _ (by first | (left; omega) | (right; omega) | (simp; done) | (simp; omega)) | with_reducible refine Mine.alloc ?_ _)) hbwi19
  obtain ⟨n10wi19, n11wi19, n12wi19, n13wi19, n21wi19, n22wi19, n41wi19, n42wi19⟩ := nAll
  have g10wi19 := n10wi19.cell; have gf10wi19 := n10wi19.free
  have g11wi19 := n11wi19.cell; have gf11wi19 := n11wi19.free
  have g12wi19 := n12wi19.cell; have gf12wi19 := n12wi19.free
  have g13wi19 := n13wi19.cell; have gf13wi19 := n13wi19.free
  have g21wi19 := n21wi19.cell; have gf21wi19 := n21wi19.free
  have g22wi19 := n22wi19.cell; have gf22wi19 := n22wi19.free
  have g41wi19 := n41wi19.cell; have gf41wi19 := n41wi19.free
  have g42wi19 := n42wi19.cell; have gf42wi19 := n42wi19.free
  have hBwi19 : Below w.heap.size w wi19 := Below.trans (by repeat first | with_reducible exact Below.refl _ _ | with_reducible assumption | with_reducible refine below_drewN ?_ _ | with_reducible refine Below.drew ?_ | with_reducible refine Below.setCell ?_ (by first | exact Nat.le_refl _ | (simp; done) | (simp; omega) | omega) _ | with_reducible refine Below.alloc ?_ (by first | exact Nat.le_refl _ | (simp; done) | (simp; omega) | omega) _ | exact Below.refl _ _ | assumption) (hbwi19.mono (by first | exact Nat.le_refl _ | assumption | (simp; done) | (simp; omega) | omega))
  have hzwi19 := hBwi19.size
  refine hK.out _ _ (by first | (dsimp only; go_keep) | go_keep) (fun hHeld19 => ?_)
  clear hK K hHeld12
  (try dsimp only [Act.put, List.setIfInBounds_toArray, List.set_cons_zero, List.set_cons_succ])
  clear hzwi12 hBwi12 gf10wi12 g10wi12 n10wi12 gf11wi12 g11wi12 n11wi12 gf12wi12 g12wi12 n12wi12 gf13wi12 g13wi12 n13wi12 gf21wi12 g21wi12 n21wi12 gf22wi12 g22wi12 n22wi12 gf41wi12 g41wi12 n41wi12 gf42wi12 g42wi12 n42wi12 hbwi12
  refine take_l (i := 20) (v := ?_) rfl (by kernel_rfl) (by kernel_rfl) (by kernel_rfl) (fun _ _ _ h => h) (Or.inl ⟨by kernel_rfl, ?_⟩) (by assumption) ?_
  rotate_left
  · intro w hSw; (try dsimp only at hSw); go_simp; (try with_reducible rfl)
  (try dsimp only [Act.put, List.setIfInBounds_toArray, List.set_cons_zero, List.set_cons_succ])
  refine wpAnyH_ready (rs := [21]) (by kernel_rfl) (by simp) ?_
  refine ready_l rfl (fun K hK => ?_) AllReadyH.nil
  go_simp
  refine hK.out _ _ (by first | (dsimp only; go_keep) | go_keep) (fun hHeld21 => ?_)
  clear hK K hHeld19
  (try dsimp only [Act.put, List.setIfInBounds_toArray, List.set_cons_zero, List.set_cons_succ])
  refine take_l (i := 22) (v := ?_) rfl (by kernel_rfl) (by kernel_rfl) (by kernel_rfl) (fun _ _ _ h => h) (Or.inl ⟨by kernel_rfl, ?_⟩) (by assumption) ?_
  rotate_left
  · intro w hSw; (try dsimp only at hSw); go_simp; (try with_reducible rfl)
  (try dsimp only [Act.put, List.setIfInBounds_toArray, List.set_cons_zero, List.set_cons_succ])
  refine wpAnyH_done (by kernel_rfl) ?_ _
  refine name_then ?_
  intro w7 hww7
  have mAll : Mine w7 w.heap.size 0 (.int .i64 x0) ∧ Mine w7 w.heap.size 1 (.int .i64 x1) ∧ Mine w7 w.heap.size 2 (.int .i64 x2) ∧ Mine w7 w.heap.size 3 (.int .i64 x3) ∧ Mine w7 b2 0 (.int .i64 M.1) ∧ Mine w7 b2 1 (.int .i64 M.2.1) ∧ Mine w7 b4 0 (.int .i64 O.1) ∧ Mine w7 b4 1 (.int .i64 O.2.1) ∧ Mine w7 wi19.heap.size 0 (.int .i64 M.1) ∧ Mine w7 wi19.heap.size 1 (.int .i64 M.2.1) ∧ Mine w7 wi19.heap.size 2 (.int .i64 O.1) ∧ Mine w7 wi19.heap.size 3 (.int .i64 O.2.1) ∧ Mine w7 wi19.heap.size 4 (.int .i64 x0) ∧ Mine w7 wi19.heap.size 5 (.int .i64 x1) ∧ Mine w7 wi19.heap.size 6 (.int .i64 x2) ∧ Mine w7 wi19.heap.size 7 (.int .i64 x3) ∧ Mine w7 wi19.heap.size 8 (.int .i64 M.1) ∧ Mine w7 wi19.heap.size 9 (.int .i64 M.2.1) ∧ Mine w7 wi19.heap.size 10 (.int .i64 x2) ∧ Mine w7 wi19.heap.size 11 (.int .i64 x3) := by
    rw [hww7]
    refine ⟨?_, ?_, ?_, ?_, ?_, ?_, ?_, ?_, ?_, ?_, ?_, ?_, ?_, ?_, ?_, ?_, ?_, ?_, ?_, ?_⟩ <;> (repeat first | with_reducible assumption | with_reducible refine Mine.drew ?_ | with_reducible refine Mine.drewN ?_ _ | ((with_reducible refine Mine.new ?_); rfl) | ((with_reducible refine Mine.newAt ?_ ?_) <;> first | rfl | (simp; done) | (simp only [World.size_alloc]; rfl)) | ((with_reducible refine Mine.set ?_ _); repeat first | exact Mine.slot (by with_reducible assumption) | with_reducible refine MineS.drew ?_ | with_reducible refine MineS.drewN ?_ _ | ((with_reducible refine MineS.new ?_); decide) | ((with_reducible refine MineS.newAt ?_ ?_) <;> first | decide | (simp; done)) | with_reducible refine MineS.set ?_ _ _ _ | with_reducible refine MineS.alloc ?_ _) | with_reducible refine Mine.other ?_ _ (by first | (left; omega) | (right; omega) | (simp; done) | (simp; omega)) | with_reducible refine Mine.alloc ?_ _)
  clear m10 m11 m12 m13 m21 m22 m41 m42
  obtain ⟨m10, m11, m12, m13, m21, m22, m41, m42, m50, m51, m52, m53, m54, m55, m56, m57, m58, m59, m60, m61⟩ := mAll
  have hBzw7 := hB.size
  replace hB : Below w.heap.size w w7 := by rw [hww7]; exact (by repeat first | with_reducible exact Below.refl _ _ | with_reducible assumption | with_reducible refine below_drewN ?_ _ | with_reducible refine Below.drew ?_ | with_reducible refine Below.setCell ?_ (by first | exact Nat.le_refl _ | (simp; done) | (simp; omega) | omega) _ | with_reducible refine Below.alloc ?_ (by first | exact Nat.le_refl _ | (simp; done) | (simp; omega) | omega) _ | exact Below.refl _ _ | assumption)
  clear hww7 hBzw7
  clear hHeld21 hzwi19 hBwi19 gf10wi19 g10wi19 n10wi19 gf11wi19 g11wi19 n11wi19 gf12wi19 g12wi19 n12wi19 gf13wi19 g13wi19 n13wi19 gf21wi19 g21wi19 n21wi19 gf22wi19 g22wi19 n22wi19 gf41wi19 g41wi19 n41wi19 gf42wi19 g42wi19 n42wi19 hbwi19
  generalize wi19.heap.size = bS at *
  have hC : ∃ C : Nat → Int, (∀ j, j < 12 → Mine w7 bS j (.int .i64 (C j))) ∧ ∀ j, I64 (C j) := by
    refine ⟨fun j => ([M.1, M.2.1, O.1, O.2.1, x0, x1, x2, x3, M.1, M.2.1, x2, x3] : List Int).getD j 0, ?_, ?_⟩
    · intro j hj
      have hc : j = 0 ∨ j = 1 ∨ j = 2 ∨ j = 3 ∨ j = 4 ∨ j = 5 ∨ j = 6 ∨ j = 7 ∨ j = 8 ∨ j = 9 ∨ j = 10 ∨ j = 11 := by omega
      rcases hc with rfl | rfl | rfl | rfl | rfl | rfl | rfl | rfl | rfl | rfl | rfl | rfl
      all_goals simpa only [List.getD_cons_zero, List.getD_cons_succ] using by assumption
    · intro j
      have h0 : ∀ x ∈ ([M.1, M.2.1, O.1, O.2.1, x0, x1, x2, x3, M.1, M.2.1, x2, x3] : List Int), I64 x := by
        have h1 := jM.out
        have h2 := jO.out
        have h3 := i0.out
        have h4 := i1.out
        have h5 := i2.out
        have h6 := i3.out
        simp [h1.1, h1.2, h2.1, h2.2, h3, h4, h5, h6]
      exact getD_i64 _ h0 j
  obtain ⟨C, hC, iC⟩ := hC
  have hR : MrfRel w w7 b2 bS M.1 M.2.1 C := ⟨hB, m21, m22, hC⟩
  clear hB hC m10 m11 m12 m13 m21 m22 m41 m42 m50 m51 m52 m53 m54 m55 m56 m57 m58 m59 m60 m61 jO i0 i1 i2 i3 hBq c10 f10 l10 c11 f11 l11 c12 f12 l12 c13 f13 l13 c21 f21 l21 c22 f22 l22 c41 f41 l41 c42 f42 l42
  rw [List.setIfInBounds_toArray]
  dsimp only [List.set_cons_succ, List.set_cons_zero]
  go_wp2_with fail
  go_loopw [100] (fun v wr => ∃ i : Nat, i ≤ 3 ∧ v = .int .i64 i ∧ MrfRel w wr b2 bS M.1 M.2.1 C) (fun v _ => 3 - (intOf v).toNat)
  case atStart => exact ⟨0, by omega, rfl, hR⟩
  case round =>
    clear hR
    obtain ⟨i, hi, rfl, hR⟩ := hrel
    obtain ⟨hB, m21, m22, hC⟩ := hR
    have hBr := hB.size
    by_cases h3 : i = 3
    · have hd : decide ((i : Int) < 3) = false := by simp; omega
      go_wp2
      go_ret
      exact ⟨rfl, hB⟩
    have hd : decide ((i : Int) < 3) = true := by simp; omega
    have hi0 : 0 ≤ (i : Int) := by omega
    have hi3 : (i : Int) < 3 := by omega
    have m1 := hC (i * 4) (by omega)
    have ia := iC (i * 4)
    have m2 := hC (i * 4 + 1) (by omega)
    have ib := iC (i * 4 + 1)
    have m3 := hC (i * 4 + 2) (by omega)
    have ic := iC (i * 4 + 2)
    have m4 := hC (i * 4 + 3) (by omega)
    have id := iC (i * 4 + 3)
    generalize C (i * 4) = a at m1 ia
    generalize C (i * 4 + 1) = b at m2 ib
    generalize C (i * 4 + 2) = c at m3 ic
    generalize C (i * 4 + 3) = d at m4 id
    have jM1 := jM.out.1
    have jM2 := jM.out.2
    have hPr := Lib.hid (fun W (h : Below wr.heap.size wr W) => hPp.out W (hB.trans (h.mono hBr)))
    have A1 := fun w hp => Add_all a b c d w ia ib ic id p hp
    have A2 := fun w => refAdd_any a b c d w ia ib ic id
    have S1 := fun w hp => Sub_all a b c d w ia ib ic id p hp
    have S2 := fun w => refSub_any a b c d w ia ib ic id
    have U1 := fun w hp => Mul_all a b c d w ia ib ic id p hp
    have U2 := fun w => refMul_any a b c d w ia ib ic id
    have D1 := fun w hp => Div_all a b c d w ia ib ic id p hp
    have D2 := fun w => refDiv_any a b c d w ia ib ic id
    have R1 := fun w hp => Round_all a b k w ia ib p hp
    have R2 := fun w => refRound_any a b k w ia ib
    have V1 := fun w => Valid_b a b w ia ib
    have V2 := fun w => refValid_b a b w ia ib
    have C1 := fun w => Compare_any a b c d w ia ib ic id
    have C2 := fun w => refCompare_any a b c d w ia ib ic id
    have F1 := fun w => Floor_any a b w ia ib
    have F2 := fun w => refFloor_any a b w ia ib
    have L1 := fun w => Clamp_any a b c d M.1 M.2.1 w ia ib ic id jM1 jM2
    have L2 := fun w => refClamp_any a b c d M.1 M.2.1 w ia ib ic id jM1 jM2
    have L3 := fun w => Clamp_any M.1 M.2.1 a b c d w jM1 jM2 ia ib ic id
    have L4 := fun w => refClamp_any M.1 M.2.1 a b c d w jM1 jM2 ia ib ic id
    generalize addA a b c d = rA at A1 A2
    generalize subA a b c d = rS at S1 S2
    generalize mulA a b c d = rU at U1 U2
    generalize divA a b c d = rD at D1 D2
    generalize roundA a b k = rR at R1 R2
    generalize vld a b = vV at V1 V2
    generalize cmpr a b c d = vC at C1 C2
    generalize floorv a b = vF at F1 F2
    generalize clampv a b c d M.1 M.2.1 = rL at L1 L2
    generalize clampv M.1 M.2.1 a b c d = rN at L3 L4
    replace A1 := Lib.hid A1
    replace A2 := Lib.hid A2
    replace S1 := Lib.hid S1
    replace S2 := Lib.hid S2
    replace U1 := Lib.hid U1
    replace U2 := Lib.hid U2
    replace D1 := Lib.hid D1
    replace D2 := Lib.hid D2
    replace R1 := Lib.hid R1
    replace R2 := Lib.hid R2
    replace V1 := Lib.hid V1
    replace V2 := Lib.hid V2
    replace C1 := Lib.hid C1
    replace C2 := Lib.hid C2
    replace F1 := Lib.hid F1
    replace F2 := Lib.hid F2
    replace L1 := Lib.hid L1
    replace L2 := Lib.hid L2
    replace L3 := Lib.hid L3
    replace L4 := Lib.hid L4
    have hCr := Lib.hid hC
    have hB0 := Lib.hid hB
    clear hC hB iC ia ib ic id jM1 jM2
    have hB : Below wr.heap.size wr wr := Below.refl _ _
    have o1 := m21.lt
    have c1 := m1.cell
    have f1 := m1.free
    have l1 := m1.lt
    have c2 := m2.cell
    have f2 := m2.free
    have l2 := m2.lt
    have c3 := m3.cell
    have f3 := m3.free
    have l3 := m3.lt
    have c4 := m4.cell
    have f4 := m4.free
    have l4 := m4.lt
    go_wp2_with fail
    clear c1 f1 l1
    clear c2 f2 l2
    clear c3 f3 l3
    clear c4 f4 l4
    clear m1 m2 m3 m4
    refine name_calls ?_
    intro y1 hwy1
    have mAll : Mine y1 b2 0 (.int .i64 M.1) ∧ Mine y1 b2 1 (.int .i64 M.2.1) ∧ Mine y1 (wr.heap.size + 1) 0 (.int .i64 a) ∧ Mine y1 (wr.heap.size + 1) 1 (.int .i64 b) ∧ Mine y1 (wr.heap.size + 1 + 1) 0 (.int .i64 c) ∧ Mine y1 (wr.heap.size + 1 + 1) 1 (.int .i64 d) := by
      rw [hwy1]
      refine ⟨?_, ?_, ?_, ?_, ?_, ?_⟩ <;> (repeat first | with_reducible assumption | with_reducible refine Mine.drew ?_ | with_reducible refine Mine.drewN ?_ _ | ((with_reducible refine Mine.new ?_); rfl) | ((with_reducible refine Mine.newAt ?_ ?_) <;> first | rfl | (simp; done) | (simp only [World.size_alloc]; rfl)) | ((with_reducible refine Mine.set ?_ _); repeat first | exact Mine.slot (by with_reducible assumption) | with_reducible refine MineS.drew ?_ | with_reducible refine MineS.drewN ?_ _ | ((with_reducible refine MineS.new ?_); decide) | ((with_reducible refine MineS.newAt ?_ ?_) <;> first | decide | (simp; done)) | with_reducible refine MineS.set ?_ _ _ _ | with_reducible refine MineS.alloc ?_ _) | with_reducible refine Mine.other ?_ _ (by first | (left; omega) | (right; omega) | (simp; done) | (simp; omega)) | with_reducible refine Mine.alloc ?_ _)
    clear m21 m22
    obtain ⟨m21, m22, m41, m42, m51, m52⟩ := mAll
    have hBzy1 := hB.size
    replace hB : Below wr.heap.size wr y1 := by rw [hwy1]; exact (by repeat first | with_reducible exact Below.refl _ _ | with_reducible assumption | with_reducible refine below_drewN ?_ _ | with_reducible refine Below.drew ?_ | with_reducible refine Below.setCell ?_ (by first | exact Nat.le_refl _ | (simp; done) | (simp; omega) | omega) _ | with_reducible refine Below.alloc ?_ (by first | exact Nat.le_refl _ | (simp; done) | (simp; omega) | omega) _ | exact Below.refl _ _ | assumption)
    clear hwy1 hBzy1
    refine (A1.out _ (hPr.out _ hB)).mono ?_
    rintro e y2 ⟨rfl, hb1⟩
    replace m21 := m21.below hb1
    replace m22 := m22.below hb1
    replace m41 := m41.below hb1
    replace m42 := m42.below hb1
    replace m51 := m51.below hb1
    replace m52 := m52.below hb1
    replace hB := hB.trans (hb1.mono hB.size)
    have hb_y2 := hb1
    clear hb1
    have o2 := m51.lt
    have c41 := m41.cell
    have f41 := m41.free
    have l41 := m41.lt
    have c42 := m42.cell
    have f42 := m42.free
    have l42 := m42.lt
    have c51 := m51.cell
    have f51 := m51.free
    have l51 := m51.lt
    have c52 := m52.cell
    have f52 := m52.free
    have l52 := m52.lt
    go_wp2_with fail
    clear c41 f41 l41
    clear c42 f42 l42
    clear c51 f51 l51
    clear c52 f52 l52
    refine name_calls ?_
    intro y3 hwy3
    have mAll : Mine y3 b2 0 (.int .i64 M.1) ∧ Mine y3 b2 1 (.int .i64 M.2.1) ∧ Mine y3 (wr.heap.size + 1) 0 (.int .i64 a) ∧ Mine y3 (wr.heap.size + 1) 1 (.int .i64 b) ∧ Mine y3 (wr.heap.size + 1 + 1) 0 (.int .i64 c) ∧ Mine y3 (wr.heap.size + 1 + 1) 1 (.int .i64 d) ∧ Mine y3 y2.heap.size 0 (.int .i64 rA.1) ∧ Mine y3 y2.heap.size 1 (.int .i64 rA.2.1) := by
      rw [hwy3]
      refine ⟨?_, ?_, ?_, ?_, ?_, ?_, ?_, ?_⟩ <;> (repeat first | with_reducible assumption | with_reducible refine Mine.drew ?_ | with_reducible refine Mine.drewN ?_ _ | ((with_reducible refine Mine.new ?_); rfl) | ((with_reducible refine Mine.newAt ?_ ?_) <;> first | rfl | (simp; done) | (simp only [World.size_alloc]; rfl)) | ((with_reducible refine Mine.set ?_ _); repeat first | exact Mine.slot (by with_reducible assumption) | with_reducible refine MineS.drew ?_ | with_reducible refine MineS.drewN ?_ _ | ((with_reducible refine MineS.new ?_); decide) | ((with_reducible refine MineS.newAt ?_ ?_) <;> first | decide | (simp; done)) | with_reducible refine MineS.set ?_ _ _ _ | with_reducible refine MineS.alloc ?_ _) | with_reducible refine Mine.other ?_ _ (by first | (left; omega) | (right; omega) | (simp; done) | (simp; omega)) | with_reducible refine Mine.alloc ?_ _)
    clear m21 m22 m41 m42 m51 m52
    obtain ⟨m21, m22, m41, m42, m51, m52, m61, m62⟩ := mAll
    have hBzy3 := hB.size
    replace hB : Below wr.heap.size wr y3 := by rw [hwy3]; exact (by repeat first | with_reducible exact Below.refl _ _ | with_reducible assumption | with_reducible refine below_drewN ?_ _ | with_reducible refine Below.drew ?_ | with_reducible refine Below.setCell ?_ (by first | exact Nat.le_refl _ | (simp; done) | (simp; omega) | omega) _ | with_reducible refine Below.alloc ?_ (by first | exact Nat.le_refl _ | (simp; done) | (simp; omega) | omega) _ | exact Below.refl _ _ | assumption)
    clear hwy3 hBzy3
    generalize y2.heap.size = b18 at *
    refine (A2.out _).mono ?_
    rintro e y4 ⟨rfl, hb1⟩
    replace m21 := m21.below hb1
    replace m22 := m22.below hb1
    replace m41 := m41.below hb1
    replace m42 := m42.below hb1
    replace m51 := m51.below hb1
    replace m52 := m52.below hb1
    replace m61 := m61.below hb1
    replace m62 := m62.below hb1
    replace hB := hB.trans (hb1.mono hB.size)
    have hb_y4 := hb1
    clear hb1
    have o3 := m61.lt
    have c41 := m41.cell
    have f41 := m41.free
    have l41 := m41.lt
    have c42 := m42.cell
    have f42 := m42.free
    have l42 := m42.lt
    have c51 := m51.cell
    have f51 := m51.free
    have l51 := m51.lt
    have c52 := m52.cell
    have f52 := m52.free
    have l52 := m52.lt
    go_wp2_with fail
    clear c41 f41 l41
    clear c42 f42 l42
    clear c51 f51 l51
    clear c52 f52 l52
    refine name_calls ?_
    intro y5 hwy5
    have mAll : Mine y5 b2 0 (.int .i64 M.1) ∧ Mine y5 b2 1 (.int .i64 M.2.1) ∧ Mine y5 (wr.heap.size + 1) 0 (.int .i64 a) ∧ Mine y5 (wr.heap.size + 1) 1 (.int .i64 b) ∧ Mine y5 (wr.heap.size + 1 + 1) 0 (.int .i64 c) ∧ Mine y5 (wr.heap.size + 1 + 1) 1 (.int .i64 d) ∧ Mine y5 b18 0 (.int .i64 rA.1) ∧ Mine y5 b18 1 (.int .i64 rA.2.1) ∧ Mine y5 y4.heap.size 0 (.int .i64 rA.1) ∧ Mine y5 y4.heap.size 1 (.int .i64 rA.2.1) := by
      rw [hwy5]
      refine ⟨?_, ?_, ?_, ?_, ?_, ?_, ?_, ?_, ?_, ?_⟩ <;> (repeat first | with_reducible assumption | with_reducible refine Mine.drew ?_ | with_reducible refine Mine.drewN ?_ _ | ((with_reducible refine Mine.new ?_); rfl) | ((with_reducible refine Mine.newAt ?_ ?_) <;> first | rfl | (simp; done) | (simp only [World.size_alloc]; rfl)) | ((with_reducible refine Mine.set ?_ _); repeat first | exact Mine.slot (by with_reducible assumption) | with_reducible refine MineS.drew ?_ | with_reducible refine MineS.drewN ?_ _ | ((with_reducible refine MineS.new ?_); decide) | ((with_reducible refine MineS.newAt ?_ ?_) <;> first | decide | (simp; done)) | with_reducible refine MineS.set ?_ _ _ _ | with_reducible refine MineS.alloc ?_ _) | with_reducible refine Mine.other ?_ _ (by first | (left; omega) | (right; omega) | (simp; done) | (simp; omega)) | with_reducible refine Mine.alloc ?_ _)
    clear m21 m22 m41 m42 m51 m52 m61 m62
    obtain ⟨m21, m22, m41, m42, m51, m52, m61, m62, m71, m72⟩ := mAll
    have hBzy5 := hB.size
    replace hB : Below wr.heap.size wr y5 := by rw [hwy5]; exact (by repeat first | with_reducible exact Below.refl _ _ | with_reducible assumption | with_reducible refine below_drewN ?_ _ | with_reducible refine Below.drew ?_ | with_reducible refine Below.setCell ?_ (by first | exact Nat.le_refl _ | (simp; done) | (simp; omega) | omega) _ | with_reducible refine Below.alloc ?_ (by first | exact Nat.le_refl _ | (simp; done) | (simp; omega) | omega) _ | exact Below.refl _ _ | assumption)
    clear hwy5 hBzy5
    generalize y4.heap.size = b20 at *
    refine (S1.out _ (hPr.out _ hB)).mono ?_
    rintro e y6 ⟨rfl, hb1⟩
    replace m21 := m21.below hb1
    replace m22 := m22.below hb1
    replace m41 := m41.below hb1
    replace m42 := m42.below hb1
    replace m51 := m51.below hb1
    replace m52 := m52.below hb1
    replace m61 := m61.below hb1
    replace m62 := m62.below hb1
    replace m71 := m71.below hb1
    replace m72 := m72.below hb1
    replace hB := hB.trans (hb1.mono hB.size)
    have hb_y6 := hb1
    clear hb1
    have o4 := m71.lt
    have c41 := m41.cell
    have f41 := m41.free
    have l41 := m41.lt
    have c42 := m42.cell
    have f42 := m42.free
    have l42 := m42.lt
    have c51 := m51.cell
    have f51 := m51.free
    have l51 := m51.lt
    have c52 := m52.cell
    have f52 := m52.free
    have l52 := m52.lt
    go_wp2_with fail
    clear c41 f41 l41
    clear c42 f42 l42
    clear c51 f51 l51
    clear c52 f52 l52
    refine name_calls ?_
    intro y7 hwy7
    have mAll : Mine y7 b2 0 (.int .i64 M.1) ∧ Mine y7 b2 1 (.int .i64 M.2.1) ∧ Mine y7 (wr.heap.size + 1) 0 (.int .i64 a) ∧ Mine y7 (wr.heap.size + 1) 1 (.int .i64 b) ∧ Mine y7 (wr.heap.size + 1 + 1) 0 (.int .i64 c) ∧ Mine y7 (wr.heap.size + 1 + 1) 1 (.int .i64 d) ∧ Mine y7 b18 0 (.int .i64 rA.1) ∧ Mine y7 b18 1 (.int .i64 rA.2.1) ∧ Mine y7 b20 0 (.int .i64 rA.1) ∧ Mine y7 b20 1 (.int .i64 rA.2.1) ∧ Mine y7 y6.heap.size 0 (.int .i64 rS.1) ∧ Mine y7 y6.heap.size 1 (.int .i64 rS.2.1) := by
      rw [hwy7]
      refine ⟨?_, ?_, ?_, ?_, ?_, ?_, ?_, ?_, ?_, ?_, ?_, ?_⟩ <;> (repeat first | with_reducible assumption | with_reducible refine Mine.drew ?_ | with_reducible refine Mine.drewN ?_ _ | ((with_reducible refine Mine.new ?_); rfl) | ((with_reducible refine Mine.newAt ?_ ?_) <;> first | rfl | (simp; done) | (simp only [World.size_alloc]; rfl)) | ((with_reducible refine Mine.set ?_ _); repeat first | exact Mine.slot (by with_reducible assumption) | with_reducible refine MineS.drew ?_ | with_reducible refine MineS.drewN ?_ _ | ((with_reducible refine MineS.new ?_); decide) | ((with_reducible refine MineS.newAt ?_ ?_) <;> first | decide | (simp; done)) | with_reducible refine MineS.set ?_ _ _ _ | with_reducible refine MineS.alloc ?_ _) | with_reducible refine Mine.other ?_ _ (by first | (left; omega) | (right; omega) | (simp; done) | (simp; omega)) | with_reducible refine Mine.alloc ?_ _)
    clear m21 m22 m41 m42 m51 m52 m61 m62 m71 m72
    obtain ⟨m21, m22, m41, m42, m51, m52, m61, m62, m71, m72, m81, m82⟩ := mAll
    have hBzy7 := hB.size
    replace hB : Below wr.heap.size wr y7 := by rw [hwy7]; exact (by repeat first | with_reducible exact Below.refl _ _ | with_reducible assumption | with_reducible refine below_drewN ?_ _ | with_reducible refine Below.drew ?_ | with_reducible refine Below.setCell ?_ (by first | exact Nat.le_refl _ | (simp; done) | (simp; omega) | omega) _ | with_reducible refine Below.alloc ?_ (by first | exact Nat.le_refl _ | (simp; done) | (simp; omega) | omega) _ | exact Below.refl _ _ | assumption)
    clear hwy7 hBzy7
    generalize y6.heap.size = b22 at *
    refine (S2.out _).mono ?_
    rintro e y8 ⟨rfl, hb1⟩
    replace m21 := m21.below hb1
    replace m22 := m22.below hb1
    replace m41 := m41.below hb1
    replace m42 := m42.below hb1
    replace m51 := m51.below hb1
    replace m52 := m52.below hb1
    replace m61 := m61.below hb1
    replace m62 := m62.below hb1
    replace m71 := m71.below hb1
    replace m72 := m72.below hb1
    replace m81 := m81.below hb1
    replace m82 := m82.below hb1
    replace hB := hB.trans (hb1.mono hB.size)
    have hb_y8 := hb1
    clear hb1
    have o5 := m81.lt
    have c41 := m41.cell
    have f41 := m41.free
    have l41 := m41.lt
    have c42 := m42.cell
    have f42 := m42.free
    have l42 := m42.lt
    have c51 := m51.cell
    have f51 := m51.free
    have l51 := m51.lt
    have c52 := m52.cell
    have f52 := m52.free
    have l52 := m52.lt
    have c61 := m61.cell
    have f61 := m61.free
    have l61 := m61.lt
    have c62 := m62.cell
    have f62 := m62.free
    have l62 := m62.lt
    have c71 := m71.cell
    have f71 := m71.free
    have l71 := m71.lt
    have c72 := m72.cell
    have f72 := m72.free
    have l72 := m72.lt
    have c81 := m81.cell
    have f81 := m81.free
    have l81 := m81.lt
    have c82 := m82.cell
    have f82 := m82.free
    have l82 := m82.lt
    go_wp2_with fail
    clear c41 f41 l41
    clear c42 f42 l42
    clear c51 f51 l51
    clear c52 f52 l52
    clear c61 f61 l61
    clear c62 f62 l62
    clear c71 f71 l71
    clear c72 f72 l72
    clear c81 f81 l81
    clear c82 f82 l82
    refine name_calls ?_
    intro y9 hwy9
    have mAll : Mine y9 b2 0 (.int .i64 M.1) ∧ Mine y9 b2 1 (.int .i64 M.2.1) ∧ Mine y9 (wr.heap.size + 1) 0 (.int .i64 a) ∧ Mine y9 (wr.heap.size + 1) 1 (.int .i64 b) ∧ Mine y9 (wr.heap.size + 1 + 1) 0 (.int .i64 c) ∧ Mine y9 (wr.heap.size + 1 + 1) 1 (.int .i64 d) ∧ Mine y9 b18 0 (.int .i64 rA.1) ∧ Mine y9 b18 1 (.int .i64 rA.2.1) ∧ Mine y9 b20 0 (.int .i64 rA.1) ∧ Mine y9 b20 1 (.int .i64 rA.2.1) ∧ Mine y9 b22 0 (.int .i64 rS.1) ∧ Mine y9 b22 1 (.int .i64 rS.2.1) ∧ Mine y9 y8.heap.size 0 (.int .i64 rS.1) ∧ Mine y9 y8.heap.size 1 (.int .i64 rS.2.1) := by
      rw [hwy9]
      refine ⟨?_, ?_, ?_, ?_, ?_, ?_, ?_, ?_, ?_, ?_, ?_, ?_, ?_, ?_⟩ <;> (repeat first | with_reducible assumption | with_reducible refine Mine.drew ?_ | with_reducible refine Mine.drewN ?_ _ | ((with_reducible refine Mine.new ?_); rfl) | ((with_reducible refine Mine.newAt ?_ ?_) <;> first | rfl | (simp; done) | (simp only [World.size_alloc]; rfl)) | ((with_reducible refine Mine.set ?_ _); repeat first | exact Mine.slot (by with_reducible assumption) | with_reducible refine MineS.drew ?_ | with_reducible refine MineS.drewN ?_ _ | ((with_reducible refine MineS.new ?_); decide) | ((with_reducible refine MineS.newAt ?_ ?_) <;> first | decide | (simp; done)) | with_reducible refine MineS.set ?_ _ _ _ | with_reducible refine MineS.alloc ?_ _) | with_reducible refine Mine.other ?_ _ (by first | (left; omega) | (right; omega) | (simp; done) | (simp; omega)) | with_reducible refine Mine.alloc ?_ _)
    clear m21 m22 m41 m42 m51 m52 m61 m62 m71 m72 m81 m82
    obtain ⟨m21, m22, m41, m42, m51, m52, m61, m62, m71, m72, m81, m82, m91, m92⟩ := mAll
    have hBzy9 := hB.size
    replace hB : Below wr.heap.size wr y9 := by rw [hwy9]; exact (by repeat first | with_reducible exact Below.refl _ _ | with_reducible assumption | with_reducible refine below_drewN ?_ _ | with_reducible refine Below.drew ?_ | with_reducible refine Below.setCell ?_ (by first | exact Nat.le_refl _ | (simp; done) | (simp; omega) | omega) _ | with_reducible refine Below.alloc ?_ (by first | exact Nat.le_refl _ | (simp; done) | (simp; omega) | omega) _ | exact Below.refl _ _ | assumption)
    clear hwy9 hBzy9
    generalize y8.heap.size = b24 at *
    clear hb_y2 hb_y4 hb_y6 hb_y8 A1 A2 S1 S2
    refine (U1.out _ (hPr.out _ hB)).mono ?_
    rintro e y10 ⟨rfl, hb1⟩
    replace m21 := m21.below hb1
    replace m22 := m22.below hb1
    replace m41 := m41.below hb1
    replace m42 := m42.below hb1
    replace m51 := m51.below hb1
    replace m52 := m52.below hb1
    replace m61 := m61.below hb1
    replace m62 := m62.below hb1
    replace m71 := m71.below hb1
    replace m72 := m72.below hb1
    replace m81 := m81.below hb1
    replace m82 := m82.below hb1
    replace m91 := m91.below hb1
    replace m92 := m92.below hb1
    replace hB := hB.trans (hb1.mono hB.size)
    have hb_y10 := hb1
    clear hb1
    have c41 := m41.cell
    have f41 := m41.free
    have l41 := m41.lt
    have c42 := m42.cell
    have f42 := m42.free
    have l42 := m42.lt
    have c51 := m51.cell
    have f51 := m51.free
    have l51 := m51.lt
    have c52 := m52.cell
    have f52 := m52.free
    have l52 := m52.lt
    have c61 := m61.cell
    have f61 := m61.free
    have l61 := m61.lt
    have c62 := m62.cell
    have f62 := m62.free
    have l62 := m62.lt
    go_wp2_with fail
    clear c41 f41 l41
    clear c42 f42 l42
    clear c51 f51 l51
    clear c52 f52 l52
    clear c61 f61 l61
    clear c62 f62 l62
    refine name_calls ?_
    intro y11 hwy11
    have mAll : Mine y11 b2 0 (.int .i64 M.1) ∧ Mine y11 b2 1 (.int .i64 M.2.1) ∧ Mine y11 (wr.heap.size + 1) 0 (.int .i64 a) ∧ Mine y11 (wr.heap.size + 1) 1 (.int .i64 b) ∧ Mine y11 (wr.heap.size + 1 + 1) 0 (.int .i64 c) ∧ Mine y11 (wr.heap.size + 1 + 1) 1 (.int .i64 d) ∧ Mine y11 b18 0 (.int .i64 rU.1) ∧ Mine y11 b18 1 (.int .i64 rU.2.1) ∧ Mine y11 b20 0 (.int .i64 rA.1) ∧ Mine y11 b20 1 (.int .i64 rA.2.1) ∧ Mine y11 b22 0 (.int .i64 rS.1) ∧ Mine y11 b22 1 (.int .i64 rS.2.1) ∧ Mine y11 b24 0 (.int .i64 rS.1) ∧ Mine y11 b24 1 (.int .i64 rS.2.1) := by
      rw [hwy11]
      refine ⟨?_, ?_, ?_, ?_, ?_, ?_, ?_, ?_, ?_, ?_, ?_, ?_, ?_, ?_⟩ <;> (repeat first | with_reducible assumption | with_reducible refine Mine.drew ?_ | with_reducible refine Mine.drewN ?_ _ | ((with_reducible refine Mine.new ?_); rfl) | ((with_reducible refine Mine.newAt ?_ ?_) <;> first | rfl | (simp; done) | (simp only [World.size_alloc]; rfl)) | ((with_reducible refine Mine.set ?_ _); repeat first | exact Mine.slot (by with_reducible assumption) | with_reducible refine MineS.drew ?_ | with_reducible refine MineS.drewN ?_ _ | ((with_reducible refine MineS.new ?_); decide) | ((with_reducible refine MineS.newAt ?_ ?_) <;> first | decide | (simp; done)) | with_reducible refine MineS.set ?_ _ _ _ | with_reducible refine MineS.alloc ?_ _) | with_reducible refine Mine.other ?_ _ (by first | (left; omega) | (right; omega) | (simp; done) | (simp; omega)) | with_reducible refine Mine.alloc ?_ _)
    clear m21 m22 m41 m42 m51 m52 m61 m62 m71 m72 m81 m82 m91 m92
    obtain ⟨m21, m22, m41, m42, m51, m52, m61, m62, m71, m72, m81, m82, m91, m92⟩ := mAll
    have hBzy11 := hB.size
    replace hB : Below wr.heap.size wr y11 := by rw [hwy11]; exact (by repeat first | with_reducible exact Below.refl _ _ | with_reducible assumption | with_reducible refine below_drewN ?_ _ | with_reducible refine Below.drew ?_ | with_reducible refine Below.setCell ?_ (by first | exact Nat.le_refl _ | (simp; done) | (simp; omega) | omega) _ | with_reducible refine Below.alloc ?_ (by first | exact Nat.le_refl _ | (simp; done) | (simp; omega) | omega) _ | exact Below.refl _ _ | assumption)
    clear hwy11 hBzy11
    refine (U2.out _).mono ?_
    rintro e y12 ⟨rfl, hb1⟩
    replace m21 := m21.below hb1
    replace m22 := m22.below hb1
    replace m41 := m41.below hb1
    replace m42 := m42.below hb1
    replace m51 := m51.below hb1
    replace m52 := m52.below hb1
    replace m61 := m61.below hb1
    replace m62 := m62.below hb1
    replace m71 := m71.below hb1
    replace m72 := m72.below hb1
    replace m81 := m81.below hb1
    replace m82 := m82.below hb1
    replace m91 := m91.below hb1
    replace m92 := m92.below hb1
    replace hB := hB.trans (hb1.mono hB.size)
    have hb_y12 := hb1
    clear hb1
    have c41 := m41.cell
    have f41 := m41.free
    have l41 := m41.lt
    have c42 := m42.cell
    have f42 := m42.free
    have l42 := m42.lt
    have c51 := m51.cell
    have f51 := m51.free
    have l51 := m51.lt
    have c52 := m52.cell
    have f52 := m52.free
    have l52 := m52.lt
    have c71 := m71.cell
    have f71 := m71.free
    have l71 := m71.lt
    have c72 := m72.cell
    have f72 := m72.free
    have l72 := m72.lt
    go_wp2_with fail
    clear c41 f41 l41
    clear c42 f42 l42
    clear c51 f51 l51
    clear c52 f52 l52
    clear c71 f71 l71
    clear c72 f72 l72
    refine name_calls ?_
    intro y13 hwy13
    have mAll : Mine y13 b2 0 (.int .i64 M.1) ∧ Mine y13 b2 1 (.int .i64 M.2.1) ∧ Mine y13 (wr.heap.size + 1) 0 (.int .i64 a) ∧ Mine y13 (wr.heap.size + 1) 1 (.int .i64 b) ∧ Mine y13 (wr.heap.size + 1 + 1) 0 (.int .i64 c) ∧ Mine y13 (wr.heap.size + 1 + 1) 1 (.int .i64 d) ∧ Mine y13 b18 0 (.int .i64 rU.1) ∧ Mine y13 b18 1 (.int .i64 rU.2.1) ∧ Mine y13 b20 0 (.int .i64 rU.1) ∧ Mine y13 b20 1 (.int .i64 rU.2.1) ∧ Mine y13 b22 0 (.int .i64 rS.1) ∧ Mine y13 b22 1 (.int .i64 rS.2.1) ∧ Mine y13 b24 0 (.int .i64 rS.1) ∧ Mine y13 b24 1 (.int .i64 rS.2.1) := by
      rw [hwy13]
      refine ⟨?_, ?_, ?_, ?_, ?_, ?_, ?_, ?_, ?_, ?_, ?_, ?_, ?_, ?_⟩ <;> (repeat first | with_reducible assumption | with_reducible refine Mine.drew ?_ | with_reducible refine Mine.drewN ?_ _ | ((with_reducible refine Mine.new ?_); rfl) | ((with_reducible refine Mine.newAt ?_ ?_) <;> first | rfl | (simp; done) | (simp only [World.size_alloc]; rfl)) | ((with_reducible refine Mine.set ?_ _); repeat first | exact Mine.slot (by with_reducible assumption) | with_reducible refine MineS.drew ?_ | with_reducible refine MineS.drewN ?_ _ | ((with_reducible refine MineS.new ?_); decide) | ((with_reducible refine MineS.newAt ?_ ?_) <;> first | decide | (simp; done)) | with_reducible refine MineS.set ?_ _ _ _ | with_reducible refine MineS.alloc ?_ _) | with_reducible refine Mine.other ?_ _ (by first | (left; omega) | (right; omega) | (simp; done) | (simp; omega)) | with_reducible refine Mine.alloc ?_ _)
    clear m21 m22 m41 m42 m51 m52 m61 m62 m71 m72 m81 m82 m91 m92
    obtain ⟨m21, m22, m41, m42, m51, m52, m61, m62, m71, m72, m81, m82, m91, m92⟩ := mAll
    have hBzy13 := hB.size
    replace hB : Below wr.heap.size wr y13 := by rw [hwy13]; exact (by repeat first | with_reducible exact Below.refl _ _ | with_reducible assumption | with_reducible refine below_drewN ?_ _ | with_reducible refine Below.drew ?_ | with_reducible refine Below.setCell ?_ (by first | exact Nat.le_refl _ | (simp; done) | (simp; omega) | omega) _ | with_reducible refine Below.alloc ?_ (by first | exact Nat.le_refl _ | (simp; done) | (simp; omega) | omega) _ | exact Below.refl _ _ | assumption)
    clear hwy13 hBzy13
    refine (D1.out _ (hPr.out _ hB)).mono ?_
    rintro e y14 ⟨rfl, hb1⟩
    replace m21 := m21.below hb1
    replace m22 := m22.below hb1
    replace m41 := m41.below hb1
    replace m42 := m42.below hb1
    replace m51 := m51.below hb1
    replace m52 := m52.below hb1
    replace m61 := m61.below hb1
    replace m62 := m62.below hb1
    replace m71 := m71.below hb1
    replace m72 := m72.below hb1
    replace m81 := m81.below hb1
    replace m82 := m82.below hb1
    replace m91 := m91.below hb1
    replace m92 := m92.below hb1
    replace hB := hB.trans (hb1.mono hB.size)
    have hb_y14 := hb1
    clear hb1
    have c41 := m41.cell
    have f41 := m41.free
    have l41 := m41.lt
    have c42 := m42.cell
    have f42 := m42.free
    have l42 := m42.lt
    have c51 := m51.cell
    have f51 := m51.free
    have l51 := m51.lt
    have c52 := m52.cell
    have f52 := m52.free
    have l52 := m52.lt
    have c81 := m81.cell
    have f81 := m81.free
    have l81 := m81.lt
    have c82 := m82.cell
    have f82 := m82.free
    have l82 := m82.lt
    go_wp2_with fail
    clear c41 f41 l41
    clear c42 f42 l42
    clear c51 f51 l51
    clear c52 f52 l52
    clear c81 f81 l81
    clear c82 f82 l82
    refine name_calls ?_
    intro y15 hwy15
    have mAll : Mine y15 b2 0 (.int .i64 M.1) ∧ Mine y15 b2 1 (.int .i64 M.2.1) ∧ Mine y15 (wr.heap.size + 1) 0 (.int .i64 a) ∧ Mine y15 (wr.heap.size + 1) 1 (.int .i64 b) ∧ Mine y15 (wr.heap.size + 1 + 1) 0 (.int .i64 c) ∧ Mine y15 (wr.heap.size + 1 + 1) 1 (.int .i64 d) ∧ Mine y15 b18 0 (.int .i64 rU.1) ∧ Mine y15 b18 1 (.int .i64 rU.2.1) ∧ Mine y15 b20 0 (.int .i64 rU.1) ∧ Mine y15 b20 1 (.int .i64 rU.2.1) ∧ Mine y15 b22 0 (.int .i64 rD.1) ∧ Mine y15 b22 1 (.int .i64 rD.2.1) ∧ Mine y15 b24 0 (.int .i64 rS.1) ∧ Mine y15 b24 1 (.int .i64 rS.2.1) := by
      rw [hwy15]
      refine ⟨?_, ?_, ?_, ?_, ?_, ?_, ?_, ?_, ?_, ?_, ?_, ?_, ?_, ?_⟩ <;> (repeat first | with_reducible assumption | with_reducible refine Mine.drew ?_ | with_reducible refine Mine.drewN ?_ _ | ((with_reducible refine Mine.new ?_); rfl) | ((with_reducible refine Mine.newAt ?_ ?_) <;> first | rfl | (simp; done) | (simp only [World.size_alloc]; rfl)) | ((with_reducible refine Mine.set ?_ _); repeat first | exact Mine.slot (by with_reducible assumption) | with_reducible refine MineS.drew ?_ | with_reducible refine MineS.drewN ?_ _ | ((with_reducible refine MineS.new ?_); decide) | ((with_reducible refine MineS.newAt ?_ ?_) <;> first | decide | (simp; done)) | with_reducible refine MineS.set ?_ _ _ _ | with_reducible refine MineS.alloc ?_ _) | with_reducible refine Mine.other ?_ _ (by first | (left; omega) | (right; omega) | (simp; done) | (simp; omega)) | with_reducible refine Mine.alloc ?_ _)
    clear m21 m22 m41 m42 m51 m52 m61 m62 m71 m72 m81 m82 m91 m92
    obtain ⟨m21, m22, m41, m42, m51, m52, m61, m62, m71, m72, m81, m82, m91, m92⟩ := mAll
    have hBzy15 := hB.size
    replace hB : Below wr.heap.size wr y15 := by rw [hwy15]; exact (by repeat first | with_reducible exact Below.refl _ _ | with_reducible assumption | with_reducible refine below_drewN ?_ _ | with_reducible refine Below.drew ?_ | with_reducible refine Below.setCell ?_ (by first | exact Nat.le_refl _ | (simp; done) | (simp; omega) | omega) _ | with_reducible refine Below.alloc ?_ (by first | exact Nat.le_refl _ | (simp; done) | (simp; omega) | omega) _ | exact Below.refl _ _ | assumption)
    clear hwy15 hBzy15
    refine (D2.out _).mono ?_
    rintro e y16 ⟨rfl, hb1⟩
    replace m21 := m21.below hb1
    replace m22 := m22.below hb1
    replace m41 := m41.below hb1
    replace m42 := m42.below hb1
    replace m51 := m51.below hb1
    replace m52 := m52.below hb1
    replace m61 := m61.below hb1
    replace m62 := m62.below hb1
    replace m71 := m71.below hb1
    replace m72 := m72.below hb1
    replace m81 := m81.below hb1
    replace m82 := m82.below hb1
    replace m91 := m91.below hb1
    replace m92 := m92.below hb1
    replace hB := hB.trans (hb1.mono hB.size)
    have hb_y16 := hb1
    clear hb1
    have c41 := m41.cell
    have f41 := m41.free
    have l41 := m41.lt
    have c42 := m42.cell
    have f42 := m42.free
    have l42 := m42.lt
    have c51 := m51.cell
    have f51 := m51.free
    have l51 := m51.lt
    have c52 := m52.cell
    have f52 := m52.free
    have l52 := m52.lt
    have c61 := m61.cell
    have f61 := m61.free
    have l61 := m61.lt
    have c62 := m62.cell
    have f62 := m62.free
    have l62 := m62.lt
    have c71 := m71.cell
    have f71 := m71.free
    have l71 := m71.lt
    have c72 := m72.cell
    have f72 := m72.free
    have l72 := m72.lt
    have c81 := m81.cell
    have f81 := m81.free
    have l81 := m81.lt
    have c82 := m82.cell
    have f82 := m82.free
    have l82 := m82.lt
    have c91 := m91.cell
    have f91 := m91.free
    have l91 := m91.lt
    have c92 := m92.cell
    have f92 := m92.free
    have l92 := m92.lt
    go_wp2_with fail
    clear c41 f41 l41
    clear c42 f42 l42
    clear c51 f51 l51
    clear c52 f52 l52
    clear c61 f61 l61
    clear c62 f62 l62
    clear c71 f71 l71
    clear c72 f72 l72
    clear c81 f81 l81
    clear c82 f82 l82
    clear c91 f91 l91
    clear c92 f92 l92
    refine name_calls ?_
    intro y17 hwy17
    have mAll : Mine y17 b2 0 (.int .i64 M.1) ∧ Mine y17 b2 1 (.int .i64 M.2.1) ∧ Mine y17 (wr.heap.size + 1) 0 (.int .i64 a) ∧ Mine y17 (wr.heap.size + 1) 1 (.int .i64 b) ∧ Mine y17 (wr.heap.size + 1 + 1) 0 (.int .i64 c) ∧ Mine y17 (wr.heap.size + 1 + 1) 1 (.int .i64 d) ∧ Mine y17 b18 0 (.int .i64 rU.1) ∧ Mine y17 b18 1 (.int .i64 rU.2.1) ∧ Mine y17 b20 0 (.int .i64 rU.1) ∧ Mine y17 b20 1 (.int .i64 rU.2.1) ∧ Mine y17 b22 0 (.int .i64 rD.1) ∧ Mine y17 b22 1 (.int .i64 rD.2.1) ∧ Mine y17 b24 0 (.int .i64 rD.1) ∧ Mine y17 b24 1 (.int .i64 rD.2.1) := by
      rw [hwy17]
      refine ⟨?_, ?_, ?_, ?_, ?_, ?_, ?_, ?_, ?_, ?_, ?_, ?_, ?_, ?_⟩ <;> (repeat first | with_reducible assumption | with_reducible refine Mine.drew ?_ | with_reducible refine Mine.drewN ?_ _ | ((with_reducible refine Mine.new ?_); rfl) | ((with_reducible refine Mine.newAt ?_ ?_) <;> first | rfl | (simp; done) | (simp only [World.size_alloc]; rfl)) | ((with_reducible refine Mine.set ?_ _); repeat first | exact Mine.slot (by with_reducible assumption) | with_reducible refine MineS.drew ?_ | with_reducible refine MineS.drewN ?_ _ | ((with_reducible refine MineS.new ?_); decide) | ((with_reducible refine MineS.newAt ?_ ?_) <;> first | decide | (simp; done)) | with_reducible refine MineS.set ?_ _ _ _ | with_reducible refine MineS.alloc ?_ _) | with_reducible refine Mine.other ?_ _ (by first | (left; omega) | (right; omega) | (simp; done) | (simp; omega)) | with_reducible refine Mine.alloc ?_ _)
    clear m21 m22 m41 m42 m51 m52 m61 m62 m71 m72 m81 m82 m91 m92
    obtain ⟨m21, m22, m41, m42, m51, m52, m61, m62, m71, m72, m81, m82, m91, m92⟩ := mAll
    have hBzy17 := hB.size
    replace hB : Below wr.heap.size wr y17 := by rw [hwy17]; exact (by repeat first | with_reducible exact Below.refl _ _ | with_reducible assumption | with_reducible refine below_drewN ?_ _ | with_reducible refine Below.drew ?_ | with_reducible refine Below.setCell ?_ (by first | exact Nat.le_refl _ | (simp; done) | (simp; omega) | omega) _ | with_reducible refine Below.alloc ?_ (by first | exact Nat.le_refl _ | (simp; done) | (simp; omega) | omega) _ | exact Below.refl _ _ | assumption)
    clear hwy17 hBzy17
    clear hb_y10 hb_y12 hb_y14 hb_y16 U1 U2 D1 D2
    refine (R1.out _ (hPr.out _ hB)).mono ?_
    rintro e y18 ⟨rfl, hb1⟩
    replace m21 := m21.below hb1
    replace m22 := m22.below hb1
    replace m41 := m41.below hb1
    replace m42 := m42.below hb1
    replace m51 := m51.below hb1
    replace m52 := m52.below hb1
    replace m61 := m61.below hb1
    replace m62 := m62.below hb1
    replace m71 := m71.below hb1
    replace m72 := m72.below hb1
    replace m81 := m81.below hb1
    replace m82 := m82.below hb1
    replace m91 := m91.below hb1
    replace m92 := m92.below hb1
    replace hB := hB.trans (hb1.mono hB.size)
    have hb_y18 := hb1
    clear hb1
    have c41 := m41.cell
    have f41 := m41.free
    have l41 := m41.lt
    have c42 := m42.cell
    have f42 := m42.free
    have l42 := m42.lt
    have c51 := m51.cell
    have f51 := m51.free
    have l51 := m51.lt
    have c52 := m52.cell
    have f52 := m52.free
    have l52 := m52.lt
    have c61 := m61.cell
    have f61 := m61.free
    have l61 := m61.lt
    have c62 := m62.cell
    have f62 := m62.free
    have l62 := m62.lt
    go_wp2_with fail
    clear c41 f41 l41
    clear c42 f42 l42
    clear c51 f51 l51
    clear c52 f52 l52
    clear c61 f61 l61
    clear c62 f62 l62
    refine name_calls ?_
    intro y19 hwy19
    have mAll : Mine y19 b2 0 (.int .i64 M.1) ∧ Mine y19 b2 1 (.int .i64 M.2.1) ∧ Mine y19 (wr.heap.size + 1) 0 (.int .i64 a) ∧ Mine y19 (wr.heap.size + 1) 1 (.int .i64 b) ∧ Mine y19 (wr.heap.size + 1 + 1) 0 (.int .i64 c) ∧ Mine y19 (wr.heap.size + 1 + 1) 1 (.int .i64 d) ∧ Mine y19 b18 0 (.int .i64 rR.1) ∧ Mine y19 b18 1 (.int .i64 rR.2.1) ∧ Mine y19 b20 0 (.int .i64 rU.1) ∧ Mine y19 b20 1 (.int .i64 rU.2.1) ∧ Mine y19 b22 0 (.int .i64 rD.1) ∧ Mine y19 b22 1 (.int .i64 rD.2.1) ∧ Mine y19 b24 0 (.int .i64 rD.1) ∧ Mine y19 b24 1 (.int .i64 rD.2.1) := by
      rw [hwy19]
      refine ⟨?_, ?_, ?_, ?_, ?_, ?_, ?_, ?_, ?_, ?_, ?_, ?_, ?_, ?_⟩ <;> (repeat first | with_reducible assumption | with_reducible refine Mine.drew ?_ | with_reducible refine Mine.drewN ?_ _ | ((with_reducible refine Mine.new ?_); rfl) | ((with_reducible refine Mine.newAt ?_ ?_) <;> first | rfl | (simp; done) | (simp only [World.size_alloc]; rfl)) | ((with_reducible refine Mine.set ?_ _); repeat first | exact Mine.slot (by with_reducible assumption) | with_reducible refine MineS.drew ?_ | with_reducible refine MineS.drewN ?_ _ | ((with_reducible refine MineS.new ?_); decide) | ((with_reducible refine MineS.newAt ?_ ?_) <;> first | decide | (simp; done)) | with_reducible refine MineS.set ?_ _ _ _ | with_reducible refine MineS.alloc ?_ _) | with_reducible refine Mine.other ?_ _ (by first | (left; omega) | (right; omega) | (simp; done) | (simp; omega)) | with_reducible refine Mine.alloc ?_ _)
    clear m21 m22 m41 m42 m51 m52 m61 m62 m71 m72 m81 m82 m91 m92
    obtain ⟨m21, m22, m41, m42, m51, m52, m61, m62, m71, m72, m81, m82, m91, m92⟩ := mAll
    have hBzy19 := hB.size
    replace hB : Below wr.heap.size wr y19 := by rw [hwy19]; exact (by repeat first | with_reducible exact Below.refl _ _ | with_reducible assumption | with_reducible refine below_drewN ?_ _ | with_reducible refine Below.drew ?_ | with_reducible refine Below.setCell ?_ (by first | exact Nat.le_refl _ | (simp; done) | (simp; omega) | omega) _ | with_reducible refine Below.alloc ?_ (by first | exact Nat.le_refl _ | (simp; done) | (simp; omega) | omega) _ | exact Below.refl _ _ | assumption)
    clear hwy19 hBzy19
    refine (R2.out _).mono ?_
    rintro e y20 ⟨rfl, hb1⟩
    replace m21 := m21.below hb1
    replace m22 := m22.below hb1
    replace m41 := m41.below hb1
    replace m42 := m42.below hb1
    replace m51 := m51.below hb1
    replace m52 := m52.below hb1
    replace m61 := m61.below hb1
    replace m62 := m62.below hb1
    replace m71 := m71.below hb1
    replace m72 := m72.below hb1
    replace m81 := m81.below hb1
    replace m82 := m82.below hb1
    replace m91 := m91.below hb1
    replace m92 := m92.below hb1
    replace hB := hB.trans (hb1.mono hB.size)
    have hb_y20 := hb1
    clear hb1
    have c41 := m41.cell
    have f41 := m41.free
    have l41 := m41.lt
    have c42 := m42.cell
    have f42 := m42.free
    have l42 := m42.lt
    have c51 := m51.cell
    have f51 := m51.free
    have l51 := m51.lt
    have c52 := m52.cell
    have f52 := m52.free
    have l52 := m52.lt
    have c71 := m71.cell
    have f71 := m71.free
    have l71 := m71.lt
    have c72 := m72.cell
    have f72 := m72.free
    have l72 := m72.lt
    go_wp2_with fail
    clear c41 f41 l41
    clear c42 f42 l42
    clear c51 f51 l51
    clear c52 f52 l52
    clear c71 f71 l71
    clear c72 f72 l72
    refine name_wp ?_
    intro y21 hwy21
    have mAll : Mine y21 b2 0 (.int .i64 M.1) ∧ Mine y21 b2 1 (.int .i64 M.2.1) ∧ Mine y21 (wr.heap.size + 1) 0 (.int .i64 a) ∧ Mine y21 (wr.heap.size + 1) 1 (.int .i64 b) ∧ Mine y21 (wr.heap.size + 1 + 1) 0 (.int .i64 c) ∧ Mine y21 (wr.heap.size + 1 + 1) 1 (.int .i64 d) ∧ Mine y21 b18 0 (.int .i64 rR.1) ∧ Mine y21 b18 1 (.int .i64 rR.2.1) ∧ Mine y21 b20 0 (.int .i64 rR.1) ∧ Mine y21 b20 1 (.int .i64 rR.2.1) ∧ Mine y21 b22 0 (.int .i64 rD.1) ∧ Mine y21 b22 1 (.int .i64 rD.2.1) ∧ Mine y21 b24 0 (.int .i64 rD.1) ∧ Mine y21 b24 1 (.int .i64 rD.2.1) := by
      rw [hwy21]
      refine ⟨?_, ?_, ?_, ?_, ?_, ?_, ?_, ?_, ?_, ?_, ?_, ?_, ?_, ?_⟩ <;> (repeat first | with_reducible assumption | with_reducible refine Mine.drew ?_ | with_reducible refine Mine.drewN ?_ _ | ((with_reducible refine Mine.new ?_); rfl) | ((with_reducible refine Mine.newAt ?_ ?_) <;> first | rfl | (simp; done) | (simp only [World.size_alloc]; rfl)) | ((with_reducible refine Mine.set ?_ _); repeat first | exact Mine.slot (by with_reducible assumption) | with_reducible refine MineS.drew ?_ | with_reducible refine MineS.drewN ?_ _ | ((with_reducible refine MineS.new ?_); decide) | ((with_reducible refine MineS.newAt ?_ ?_) <;> first | decide | (simp; done)) | with_reducible refine MineS.set ?_ _ _ _ | with_reducible refine MineS.alloc ?_ _) | with_reducible refine Mine.other ?_ _ (by first | (left; omega) | (right; omega) | (simp; done) | (simp; omega)) | with_reducible refine Mine.alloc ?_ _)
    clear m21 m22 m41 m42 m51 m52 m61 m62 m71 m72 m81 m82 m91 m92
    obtain ⟨m21, m22, m41, m42, m51, m52, m61, m62, m71, m72, m81, m82, m91, m92⟩ := mAll
    have hBzy21 := hB.size
    replace hB : Below wr.heap.size wr y21 := by rw [hwy21]; exact (by repeat first | with_reducible exact Below.refl _ _ | with_reducible assumption | with_reducible refine below_drewN ?_ _ | with_reducible refine Below.drew ?_ | with_reducible refine Below.setCell ?_ (by first | exact Nat.le_refl _ | (simp; done) | (simp; omega) | omega) _ | with_reducible refine Below.alloc ?_ (by first | exact Nat.le_refl _ | (simp; done) | (simp; omega) | omega) _ | exact Below.refl _ _ | assumption)
    clear hwy21 hBzy21
    clear m81 m82 m91 m92 hb_y18 hb_y20 R1 R2
    have hBq := hB.size
    have c21 := m21.cell
    have f21 := m21.free
    have l21 := m21.lt
    have c22 := m22.cell
    have f22 := m22.free
    have l22 := m22.lt
    have c41 := m41.cell
    have f41 := m41.free
    have l41 := m41.lt
    have c42 := m42.cell
    have f42 := m42.free
    have l42 := m42.lt
    have c51 := m51.cell
    have f51 := m51.free
    have l51 := m51.lt
    have c52 := m52.cell
    have f52 := m52.free
    have l52 := m52.lt
    have c61 := m61.cell
    have f61 := m61.free
    have l61 := m61.lt
    have c62 := m62.cell
    have f62 := m62.free
    have l62 := m62.lt
    have c71 := m71.cell
    have f71 := m71.free
    have l71 := m71.lt
    have c72 := m72.cell
    have f72 := m72.free
    have l72 := m72.lt
    refine wp_region_held_drew (S := fun w' => w'.cell? ⟨b2, 0, none⟩ = some (.int .i64 M.1) ∧ w'.cell? ⟨b2, 1, none⟩ = some (.int .i64 M.2.1) ∧ w'.cell? ⟨(wr.heap.size + 1), 0, none⟩ = some (.int .i64 a) ∧ w'.cell? ⟨(wr.heap.size + 1), 1, none⟩ = some (.int .i64 b) ∧ w'.cell? ⟨(wr.heap.size + 1 + 1), 0, none⟩ = some (.int .i64 c) ∧ w'.cell? ⟨(wr.heap.size + 1 + 1), 1, none⟩ = some (.int .i64 d) ∧ w'.cell? ⟨b18, 0, none⟩ = some (.int .i64 rR.1) ∧ w'.cell? ⟨b18, 1, none⟩ = some (.int .i64 rR.2.1) ∧ w'.cell? ⟨b20, 0, none⟩ = some (.int .i64 rR.1) ∧ w'.cell? ⟨b20, 1, none⟩ = some (.int .i64 rR.2.1)) (by kernel_rfl) (by first | (dsimp only; go_keep) | go_keep) (fun hHeld => ?_)
    refine take_l (i := 0) (v := ?_) rfl (by kernel_rfl) (by kernel_rfl) (by kernel_rfl) (fun _ _ _ h => h) (Or.inl ⟨by kernel_rfl, ?_⟩) (by assumption) ?_
    rotate_left
    · intro w hSw; (try dsimp only at hSw); go_simp; (try with_reducible rfl)
    (try dsimp only [Act.put, List.setIfInBounds_toArray, List.set_cons_zero, List.set_cons_succ])
    refine take_l (i := 1) (v := ?_) rfl (by kernel_rfl) (by kernel_rfl) (by kernel_rfl) (fun _ _ _ h => h) (Or.inl ⟨by kernel_rfl, ?_⟩) (by assumption) ?_
    rotate_left
    · intro w hSw; (try dsimp only at hSw); go_simp; (try with_reducible rfl)
    (try dsimp only [Act.put, List.setIfInBounds_toArray, List.set_cons_zero, List.set_cons_succ])
    refine take_l (i := 2) (v := ?_) rfl (by kernel_rfl) (by kernel_rfl) (by kernel_rfl) (fun _ _ _ h => h) (Or.inl ⟨by kernel_rfl, ?_⟩) (by assumption) ?_
    rotate_left
    · intro w hSw; (try dsimp only at hSw); go_simp; (try with_reducible rfl)
    (try dsimp only [Act.put, List.setIfInBounds_toArray, List.set_cons_zero, List.set_cons_succ])
    refine take_l (i := 3) (v := ?_) rfl (by kernel_rfl) (by kernel_rfl) (by kernel_rfl) (fun _ _ _ h => h) (Or.inl ⟨by kernel_rfl, ?_⟩) (by assumption) ?_
    rotate_left
    · intro w hSw; (try dsimp only at hSw); go_simp; (try with_reducible rfl)
    (try dsimp only [Act.put, List.setIfInBounds_toArray, List.set_cons_zero, List.set_cons_succ])
    refine take_l (i := 4) (v := ?_) rfl (by kernel_rfl) (by kernel_rfl) (by kernel_rfl) (fun _ _ _ h => h) (Or.inl ⟨by kernel_rfl, ?_⟩) (by assumption) ?_
    rotate_left
    · intro w hSw; (try dsimp only at hSw); go_simp; (try with_reducible rfl)
    (try dsimp only [Act.put, List.setIfInBounds_toArray, List.set_cons_zero, List.set_cons_succ])
    refine take_l (i := 5) (v := ?_) rfl (by kernel_rfl) (by kernel_rfl) (by kernel_rfl) (fun _ _ _ h => h) (Or.inl ⟨by kernel_rfl, ?_⟩) (by assumption) ?_
    rotate_left
    · intro w hSw; (try dsimp only at hSw); go_simp; (try with_reducible rfl)
    (try dsimp only [Act.put, List.setIfInBounds_toArray, List.set_cons_zero, List.set_cons_succ])
    refine take_l (i := 6) (v := ?_) rfl (by kernel_rfl) (by kernel_rfl) (by kernel_rfl) (fun _ _ _ h => h) (Or.inl ⟨by kernel_rfl, ?_⟩) (by assumption) ?_
    rotate_left
    · intro w hSw; (try dsimp only at hSw); go_simp; (try with_reducible rfl)
    (try dsimp only [Act.put, List.setIfInBounds_toArray, List.set_cons_zero, List.set_cons_succ])
    refine take_l (i := 7) (v := ?_) rfl (by kernel_rfl) (by kernel_rfl) (by kernel_rfl) (fun _ _ _ h => h) (Or.inl ⟨by kernel_rfl, ?_⟩) (by assumption) ?_
    rotate_left
    · intro w hSw; (try dsimp only at hSw); go_simp; (try with_reducible rfl)
    (try dsimp only [Act.put, List.setIfInBounds_toArray, List.set_cons_zero, List.set_cons_succ])
    refine take_l (i := 8) (v := ?_) rfl (by kernel_rfl) (by kernel_rfl) (by kernel_rfl) (fun _ _ _ h => h) (Or.inl ⟨by kernel_rfl, ?_⟩) (by assumption) ?_
    rotate_left
    · intro w hSw; (try dsimp only at hSw); go_simp; (try with_reducible rfl)
    (try dsimp only [Act.put, List.setIfInBounds_toArray, List.set_cons_zero, List.set_cons_succ])
    refine take_l (i := 9) (v := ?_) rfl (by kernel_rfl) (by kernel_rfl) (by kernel_rfl) (fun _ _ _ h => h) (Or.inl ⟨by kernel_rfl, ?_⟩) (by assumption) ?_
    rotate_left
    · intro w hSw; (try dsimp only at hSw); go_simp; (try with_reducible rfl)
    (try dsimp only [Act.put, List.setIfInBounds_toArray, List.set_cons_zero, List.set_cons_succ])
    refine take_l (i := 11) (v := ?_) rfl (by kernel_rfl) (by kernel_rfl) (by kernel_rfl) (fun _ _ _ h => h) (Or.inl ⟨by kernel_rfl, ?_⟩) (by assumption) ?_
    rotate_left
    · intro w hSw; (try dsimp only at hSw); go_simp; (try with_reducible rfl)
    (try dsimp only [Act.put, List.setIfInBounds_toArray, List.set_cons_zero, List.set_cons_succ])
    refine wpAnyH_ready (rs := [10]) (by kernel_rfl) (by simp) ?_
    refine ready_l rfl (fun K hK => ?_) AllReadyH.nil
    go_simp
    go_at_call 19
    refine (V1.out _).mono ?_
    rintro e wa10 ⟨rfl, hbwa10⟩
    have nAll : Mine wa10 b2 0 (.int .i64 M.1) ∧ Mine wa10 b2 1 (.int .i64 M.2.1) ∧ Mine wa10 (wr.heap.size + 1) 0 (.int .i64 a) ∧ Mine wa10 (wr.heap.size + 1) 1 (.int .i64 b) ∧ Mine wa10 (wr.heap.size + 1 + 1) 0 (.int .i64 c) ∧ Mine wa10 (wr.heap.size + 1 + 1) 1 (.int .i64 d) ∧ Mine wa10 b18 0 (.int .i64 rR.1) ∧ Mine wa10 b18 1 (.int .i64 rR.2.1) ∧ Mine wa10 b20 0 (.int .i64 rR.1) ∧ Mine wa10 b20 1 (.int .i64 rR.2.1) := by
      refine ⟨?_, ?_, ?_, ?_, ?_, ?_, ?_, ?_, ?_, ?_⟩ <;> exact Mine.below (by (repeat first | with_reducible assumption | with_reducible refine Mine.drew ?_ | with_reducible refine Mine.drewN ?_ _ | ((with_reducible refine Mine.new ?_); rfl) | ((with_reducible refine Mine.newAt ?_ ?_) <;> first | rfl | (simp; done) | (simp only [World.size_alloc]; rfl)) | ((with_reducible refine Mine.set ?_ _); repeat first | exact Mine.slot (by with_reducible assumption) | with_reducible refine MineS.drew ?_ | with_reducible refine MineS.drewN ?_ _ | ((with_reducible refine MineS.new ?_); decide) | ((with_reducible refine MineS.newAt ?_ ?_) <;> first | decide | (simp; done)) | with_reducible refine MineS.set ?_ _ _ _ | with_reducible refine MineS.alloc ?_ _) | with_reducible refine Mine.other ?_ _ (by first | (left; omega) | (right; omega) | (simp; done) | (simp; omega)) | with_reducible refine Mine.alloc ?_ _)) hbwa10
    obtain ⟨n21wa10, n22wa10, n41wa10, n42wa10, n51wa10, n52wa10, n61wa10, n62wa10, n71wa10, n72wa10⟩ := nAll
    have g21wa10 := n21wa10.cell; have gf21wa10 := n21wa10.free
    have g22wa10 := n22wa10.cell; have gf22wa10 := n22wa10.free
    have g41wa10 := n41wa10.cell; have gf41wa10 := n41wa10.free
    have g42wa10 := n42wa10.cell; have gf42wa10 := n42wa10.free
    have g51wa10 := n51wa10.cell; have gf51wa10 := n51wa10.free
    have g52wa10 := n52wa10.cell; have gf52wa10 := n52wa10.free
    have g61wa10 := n61wa10.cell; have gf61wa10 := n61wa10.free
    have g62wa10 := n62wa10.cell; have gf62wa10 := n62wa10.free
    have g71wa10 := n71wa10.cell; have gf71wa10 := n71wa10.free
    have g72wa10 := n72wa10.cell; have gf72wa10 := n72wa10.free
    have hBwa10 : Below wr.heap.size wr wa10 := Below.trans (by repeat first | with_reducible exact Below.refl _ _ | with_reducible assumption | with_reducible refine below_drewN ?_ _ | with_reducible refine Below.drew ?_ | with_reducible refine Below.setCell ?_ (by first | exact Nat.le_refl _ | (simp; done) | (simp; omega) | omega) _ | with_reducible refine Below.alloc ?_ (by first | exact Nat.le_refl _ | (simp; done) | (simp; omega) | omega) _ | exact Below.refl _ _ | assumption) (hbwa10.mono (by first | exact Nat.le_refl _ | assumption | (simp; done) | (simp; omega) | omega))
    have hzwa10 := hBwa10.size
    refine hK.out _ _ (by first | (dsimp only; go_keep) | go_keep) (fun hHeld10 => ?_)
    clear hK K hHeld
    (try dsimp only [Act.put, List.setIfInBounds_toArray, List.set_cons_zero, List.set_cons_succ])
    refine wpAnyH_ready (rs := [12]) (by kernel_rfl) (by simp) ?_
    refine ready_l rfl (fun K hK => ?_) AllReadyH.nil
    go_simp
    go_at_call 35
    refine (V2.out _).mono ?_
    rintro e wb12 ⟨rfl, hbwb12⟩
    have nAll : Mine wb12 b2 0 (.int .i64 M.1) ∧ Mine wb12 b2 1 (.int .i64 M.2.1) ∧ Mine wb12 (wr.heap.size + 1) 0 (.int .i64 a) ∧ Mine wb12 (wr.heap.size + 1) 1 (.int .i64 b) ∧ Mine wb12 (wr.heap.size + 1 + 1) 0 (.int .i64 c) ∧ Mine wb12 (wr.heap.size + 1 + 1) 1 (.int .i64 d) ∧ Mine wb12 b18 0 (.int .i64 rR.1) ∧ Mine wb12 b18 1 (.int .i64 rR.2.1) ∧ Mine wb12 b20 0 (.int .i64 rR.1) ∧ Mine wb12 b20 1 (.int .i64 rR.2.1) := by
      refine ⟨?_, ?_, ?_, ?_, ?_, ?_, ?_, ?_, ?_, ?_⟩ <;> exact Mine.below (by (repeat first | with_reducible assumption | with_reducible refine Mine.drew ?_ | with_reducible refine Mine.drewN ?_ _ | ((with_reducible refine Mine.new ?_); rfl) | ((with_reducible refine Mine.newAt ?_ ?_) <;> first | rfl | (simp; done) | (simp only [World.size_alloc]; rfl)) | ((with_reducible refine Mine.set ?_ _); repeat first | exact Mine.slot (by with_reducible assumption) | with_reducible refine MineS.drew ?_ | with_reducible refine MineS.drewN ?_ _ | ((with_reducible refine MineS.new ?_); decide) | ((with_reducible refine MineS.newAt ?_ ?_) <;> first | decide | (simp; done)) | with_reducible refine MineS.set ?_ _ _ _ | with_reducible refine MineS.alloc ?_ _) | with_reducible refine Mine.other ?_ _ (by first | (left; omega) | (right; omega) | (simp; done) | (simp; omega)) | with_reducible refine Mine.alloc ?_ _)) hbwb12
    obtain ⟨n21wb12, n22wb12, n41wb12, n42wb12, n51wb12, n52wb12, n61wb12, n62wb12, n71wb12, n72wb12⟩ := nAll
    have g21wb12 := n21wb12.cell; have gf21wb12 := n21wb12.free
    have g22wb12 := n22wb12.cell; have gf22wb12 := n22wb12.free
    have g41wb12 := n41wb12.cell; have gf41wb12 := n41wb12.free
    have g42wb12 := n42wb12.cell; have gf42wb12 := n42wb12.free
    have g51wb12 := n51wb12.cell; have gf51wb12 := n51wb12.free
    have g52wb12 := n52wb12.cell; have gf52wb12 := n52wb12.free
    have g61wb12 := n61wb12.cell; have gf61wb12 := n61wb12.free
    have g62wb12 := n62wb12.cell; have gf62wb12 := n62wb12.free
    have g71wb12 := n71wb12.cell; have gf71wb12 := n71wb12.free
    have g72wb12 := n72wb12.cell; have gf72wb12 := n72wb12.free
    have hBwb12 : Below wr.heap.size wr wb12 := Below.trans (by repeat first | with_reducible exact Below.refl _ _ | with_reducible assumption | with_reducible refine below_drewN ?_ _ | with_reducible refine Below.drew ?_ | with_reducible refine Below.setCell ?_ (by first | exact Nat.le_refl _ | (simp; done) | (simp; omega) | omega) _ | with_reducible refine Below.alloc ?_ (by first | exact Nat.le_refl _ | (simp; done) | (simp; omega) | omega) _ | exact Below.refl _ _ | assumption) (hbwb12.mono (by first | exact Nat.le_refl _ | assumption | (simp; done) | (simp; omega) | omega))
    have hzwb12 := hBwb12.size
    refine hK.out _ _ (by first | (dsimp only; go_keep) | go_keep) (fun hHeld12 => ?_)
    clear hK K hHeld10
    (try dsimp only [Act.put, List.setIfInBounds_toArray, List.set_cons_zero, List.set_cons_succ])
    clear hzwa10 hBwa10 gf21wa10 g21wa10 n21wa10 gf22wa10 g22wa10 n22wa10 gf41wa10 g41wa10 n41wa10 gf42wa10 g42wa10 n42wa10 gf51wa10 g51wa10 n51wa10 gf52wa10 g52wa10 n52wa10 gf61wa10 g61wa10 n61wa10 gf62wa10 g62wa10 n62wa10 gf71wa10 g71wa10 n71wa10 gf72wa10 g72wa10 n72wa10 hbwa10
    refine take_l (i := 13) (v := ?_) rfl (by kernel_rfl) (by kernel_rfl) (by kernel_rfl) (fun _ _ _ h => h) (Or.inl ⟨by kernel_rfl, ?_⟩) (by assumption) ?_
    rotate_left
    · intro w hSw; (try dsimp only at hSw); go_simp; (try with_reducible rfl)
    (try dsimp only [Act.put, List.setIfInBounds_toArray, List.set_cons_zero, List.set_cons_succ])
    refine take_l (i := 14) (v := ?_) rfl (by kernel_rfl) (by kernel_rfl) (by kernel_rfl) (fun _ _ _ h => h) (Or.inl ⟨by kernel_rfl, ?_⟩) (by assumption) ?_
    rotate_left
    · intro w hSw; (try dsimp only at hSw); go_simp; (try with_reducible rfl)
    (try dsimp only [Act.put, List.setIfInBounds_toArray, List.set_cons_zero, List.set_cons_succ])
    refine take_l (i := 15) (v := ?_) rfl (by kernel_rfl) (by kernel_rfl) (by kernel_rfl) (fun _ _ _ h => h) (Or.inl ⟨by kernel_rfl, ?_⟩) (by assumption) ?_
    rotate_left
    · intro w hSw; (try dsimp only at hSw); go_simp; (try with_reducible rfl)
    (try dsimp only [Act.put, List.setIfInBounds_toArray, List.set_cons_zero, List.set_cons_succ])
    refine take_l (i := 16) (v := ?_) rfl (by kernel_rfl) (by kernel_rfl) (by kernel_rfl) (fun _ _ _ h => h) (Or.inl ⟨by kernel_rfl, ?_⟩) (by assumption) ?_
    rotate_left
    · intro w hSw; (try dsimp only at hSw); go_simp; (try with_reducible rfl)
    (try dsimp only [Act.put, List.setIfInBounds_toArray, List.set_cons_zero, List.set_cons_succ])
    refine take_l (i := 17) (v := ?_) rfl (by kernel_rfl) (by kernel_rfl) (by kernel_rfl) (fun _ _ _ h => h) (Or.inl ⟨by kernel_rfl, ?_⟩) (by assumption) ?_
    rotate_left
    · intro w hSw; (try dsimp only at hSw); go_simp; (try with_reducible rfl)
    (try dsimp only [Act.put, List.setIfInBounds_toArray, List.set_cons_zero, List.set_cons_succ])
    refine take_l (i := 19) (v := ?_) rfl (by kernel_rfl) (by kernel_rfl) (by kernel_rfl) (fun _ _ _ h => h) (Or.inl ⟨by kernel_rfl, ?_⟩) (by assumption) ?_
    rotate_left
    · intro w hSw; (try dsimp only at hSw); go_simp; (try with_reducible rfl)
    (try dsimp only [Act.put, List.setIfInBounds_toArray, List.set_cons_zero, List.set_cons_succ])
    refine take_l (i := 20) (v := ?_) rfl (by kernel_rfl) (by kernel_rfl) (by kernel_rfl) (fun _ _ _ h => h) (Or.inl ⟨by kernel_rfl, ?_⟩) (by assumption) ?_
    rotate_left
    · intro w hSw; (try dsimp only at hSw); go_simp; (try with_reducible rfl)
    (try dsimp only [Act.put, List.setIfInBounds_toArray, List.set_cons_zero, List.set_cons_succ])
    refine wpAnyH_ready (rs := [18]) (by kernel_rfl) (by simp) ?_
    refine ready_l rfl (fun K hK => ?_) AllReadyH.nil
    go_simp
    go_at_call 21
    refine (C1.out _).mono ?_
    rintro e wc18 ⟨rfl, hbwc18⟩
    have nAll : Mine wc18 b2 0 (.int .i64 M.1) ∧ Mine wc18 b2 1 (.int .i64 M.2.1) ∧ Mine wc18 (wr.heap.size + 1) 0 (.int .i64 a) ∧ Mine wc18 (wr.heap.size + 1) 1 (.int .i64 b) ∧ Mine wc18 (wr.heap.size + 1 + 1) 0 (.int .i64 c) ∧ Mine wc18 (wr.heap.size + 1 + 1) 1 (.int .i64 d) ∧ Mine wc18 b18 0 (.int .i64 rR.1) ∧ Mine wc18 b18 1 (.int .i64 rR.2.1) ∧ Mine wc18 b20 0 (.int .i64 rR.1) ∧ Mine wc18 b20 1 (.int .i64 rR.2.1) := by
      refine ⟨?_, ?_, ?_, ?_, ?_, ?_, ?_, ?_, ?_, ?_⟩ <;> exact Mine.below (by (repeat first | with_reducible assumption | with_reducible refine Mine.drew ?_ | with_reducible refine Mine.drewN ?_ _ | ((with_reducible refine Mine.new ?_); rfl) | ((with_reducible refine Mine.newAt ?_ ?_) <;> first | rfl | (simp; done) | (simp only [World.size_alloc]; rfl)) | ((with_reducible refine Mine.set ?_ _); repeat first | exact Mine.slot (by with_reducible assumption) | with_reducible refine MineS.drew ?_ | with_reducible refine MineS.drewN ?_ _ | ((with_reducible refine MineS.new ?_); decide) | ((with_reducible refine MineS.newAt ?_ ?_) <;> first | decide | (simp; done)) | with_reducible refine MineS.set ?_ _ _ _ | with_reducible refine MineS.alloc ?_ _) | with_reducible refine Mine.other ?_ _ (by first | (left; omega) | (right; omega) | (simp; done) | (simp; omega)) | with_reducible refine Mine.alloc ?_ _)) hbwc18
    obtain ⟨n21wc18, n22wc18, n41wc18, n42wc18, n51wc18, n52wc18, n61wc18, n62wc18, n71wc18, n72wc18⟩ := nAll
    have g21wc18 := n21wc18.cell; have gf21wc18 := n21wc18.free
    have g22wc18 := n22wc18.cell; have gf22wc18 := n22wc18.free
    have g41wc18 := n41wc18.cell; have gf41wc18 := n41wc18.free
    have g42wc18 := n42wc18.cell; have gf42wc18 := n42wc18.free
    have g51wc18 := n51wc18.cell; have gf51wc18 := n51wc18.free
    have g52wc18 := n52wc18.cell; have gf52wc18 := n52wc18.free
    have g61wc18 := n61wc18.cell; have gf61wc18 := n61wc18.free
    have g62wc18 := n62wc18.cell; have gf62wc18 := n62wc18.free
    have g71wc18 := n71wc18.cell; have gf71wc18 := n71wc18.free
    have g72wc18 := n72wc18.cell; have gf72wc18 := n72wc18.free
    have hBwc18 : Below wr.heap.size wr wc18 := Below.trans (by repeat first | with_reducible exact Below.refl _ _ | with_reducible assumption | with_reducible refine below_drewN ?_ _ | with_reducible refine Below.drew ?_ | with_reducible refine Below.setCell ?_ (by first | exact Nat.le_refl _ | (simp; done) | (simp; omega) | omega) _ | with_reducible refine Below.alloc ?_ (by first | exact Nat.le_refl _ | (simp; done) | (simp; omega) | omega) _ | exact Below.refl _ _ | assumption) (hbwc18.mono (by first | exact Nat.le_refl _ | assumption | (simp; done) | (simp; omega) | omega))
    have hzwc18 := hBwc18.size
    refine hK.out _ _ (by first | (dsimp only; go_keep) | go_keep) (fun hHeld18 => ?_)
    clear hK K hHeld12
    (try dsimp only [Act.put, List.setIfInBounds_toArray, List.set_cons_zero, List.set_cons_succ])
    clear hzwb12 hBwb12 gf21wb12 g21wb12 n21wb12 gf22wb12 g22wb12 n22wb12 gf41wb12 g41wb12 n41wb12 gf42wb12 g42wb12 n42wb12 gf51wb12 g51wb12 n51wb12 gf52wb12 g52wb12 n52wb12 gf61wb12 g61wb12 n61wb12 gf62wb12 g62wb12 n62wb12 gf71wb12 g71wb12 n71wb12 gf72wb12 g72wb12 n72wb12 hbwb12
    refine wpAnyH_ready (rs := [21]) (by kernel_rfl) (by simp) ?_
    refine ready_l rfl (fun K hK => ?_) AllReadyH.nil
    go_simp
    go_at_call 36
    refine (C2.out _).mono ?_
    rintro e wd21 ⟨rfl, hbwd21⟩
    have nAll : Mine wd21 b2 0 (.int .i64 M.1) ∧ Mine wd21 b2 1 (.int .i64 M.2.1) ∧ Mine wd21 (wr.heap.size + 1) 0 (.int .i64 a) ∧ Mine wd21 (wr.heap.size + 1) 1 (.int .i64 b) ∧ Mine wd21 (wr.heap.size + 1 + 1) 0 (.int .i64 c) ∧ Mine wd21 (wr.heap.size + 1 + 1) 1 (.int .i64 d) ∧ Mine wd21 b18 0 (.int .i64 rR.1) ∧ Mine wd21 b18 1 (.int .i64 rR.2.1) ∧ Mine wd21 b20 0 (.int .i64 rR.1) ∧ Mine wd21 b20 1 (.int .i64 rR.2.1) := by
      refine ⟨?_, ?_, ?_, ?_, ?_, ?_, ?_, ?_, ?_, ?_⟩ <;> exact Mine.below (by (repeat first | with_reducible assumption | with_reducible refine Mine.drew ?_ | with_reducible refine Mine.drewN ?_ _ | ((with_reducible refine Mine.new ?_); rfl) | ((with_reducible refine Mine.newAt ?_ ?_) <;> first | rfl | (simp; done) | (simp only [World.size_alloc]; rfl)) | ((with_reducible refine Mine.set ?_ _); repeat first | exact Mine.slot (by with_reducible assumption) | with_reducible refine MineS.drew ?_ | with_reducible refine MineS.drewN ?_ _ | ((with_reducible refine MineS.new ?_); decide) | ((with_reducible refine MineS.newAt ?_ ?_) <;> first | decide | (simp; done)) | with_reducible refine MineS.set ?_ _ _ _ | with_reducible refine MineS.alloc ?_ _) | with_reducible refine Mine.other ?_ _ (by first | (left; omega) | (right; omega) | (simp; done) | (simp; omega)) | with_reducible refine Mine.alloc ?_ _)) hbwd21
    obtain ⟨n21wd21, n22wd21, n41wd21, n42wd21, n51wd21, n52wd21, n61wd21, n62wd21, n71wd21, n72wd21⟩ := nAll
    have g21wd21 := n21wd21.cell; have gf21wd21 := n21wd21.free
    have g22wd21 := n22wd21.cell; have gf22wd21 := n22wd21.free
    have g41wd21 := n41wd21.cell; have gf41wd21 := n41wd21.free
    have g42wd21 := n42wd21.cell; have gf42wd21 := n42wd21.free
    have g51wd21 := n51wd21.cell; have gf51wd21 := n51wd21.free
    have g52wd21 := n52wd21.cell; have gf52wd21 := n52wd21.free
    have g61wd21 := n61wd21.cell; have gf61wd21 := n61wd21.free
    have g62wd21 := n62wd21.cell; have gf62wd21 := n62wd21.free
    have g71wd21 := n71wd21.cell; have gf71wd21 := n71wd21.free
    have g72wd21 := n72wd21.cell; have gf72wd21 := n72wd21.free
    have hBwd21 : Below wr.heap.size wr wd21 := Below.trans (by repeat first | with_reducible exact Below.refl _ _ | with_reducible assumption | with_reducible refine below_drewN ?_ _ | with_reducible refine Below.drew ?_ | with_reducible refine Below.setCell ?_ (by first | exact Nat.le_refl _ | (simp; done) | (simp; omega) | omega) _ | with_reducible refine Below.alloc ?_ (by first | exact Nat.le_refl _ | (simp; done) | (simp; omega) | omega) _ | exact Below.refl _ _ | assumption) (hbwd21.mono (by first | exact Nat.le_refl _ | assumption | (simp; done) | (simp; omega) | omega))
    have hzwd21 := hBwd21.size
    refine hK.out _ _ (by first | (dsimp only; go_keep) | go_keep) (fun hHeld21 => ?_)
    clear hK K hHeld18
    (try dsimp only [Act.put, List.setIfInBounds_toArray, List.set_cons_zero, List.set_cons_succ])
    clear hzwc18 hBwc18 gf21wc18 g21wc18 n21wc18 gf22wc18 g22wc18 n22wc18 gf41wc18 g41wc18 n41wc18 gf42wc18 g42wc18 n42wc18 gf51wc18 g51wc18 n51wc18 gf52wc18 g52wc18 n52wc18 gf61wc18 g61wc18 n61wc18 gf62wc18 g62wc18 n62wc18 gf71wc18 g71wc18 n71wc18 gf72wc18 g72wc18 n72wc18 hbwc18
    refine take_l (i := 22) (v := ?_) rfl (by kernel_rfl) (by kernel_rfl) (by kernel_rfl) (fun _ _ _ h => h) (Or.inl ⟨by kernel_rfl, ?_⟩) (by assumption) ?_
    rotate_left
    · intro w hSw; (try dsimp only at hSw); go_simp; (try with_reducible rfl)
    (try dsimp only [Act.put, List.setIfInBounds_toArray, List.set_cons_zero, List.set_cons_succ])
    refine take_l (i := 23) (v := ?_) rfl (by kernel_rfl) (by kernel_rfl) (by kernel_rfl) (fun _ _ _ h => h) (Or.inl ⟨by kernel_rfl, ?_⟩) (by assumption) ?_
    rotate_left
    · intro w hSw; (try dsimp only at hSw); go_simp; (try with_reducible rfl)
    (try dsimp only [Act.put, List.setIfInBounds_toArray, List.set_cons_zero, List.set_cons_succ])
    refine take_l (i := 24) (v := ?_) rfl (by kernel_rfl) (by kernel_rfl) (by kernel_rfl) (fun _ _ _ h => h) (Or.inl ⟨by kernel_rfl, ?_⟩) (by assumption) ?_
    rotate_left
    · intro w hSw; (try dsimp only at hSw); go_simp; (try with_reducible rfl)
    (try dsimp only [Act.put, List.setIfInBounds_toArray, List.set_cons_zero, List.set_cons_succ])
    refine take_l (i := 25) (v := ?_) rfl (by kernel_rfl) (by kernel_rfl) (by kernel_rfl) (fun _ _ _ h => h) (Or.inl ⟨by kernel_rfl, ?_⟩) (by assumption) ?_
    rotate_left
    · intro w hSw; (try dsimp only at hSw); go_simp; (try with_reducible rfl)
    (try dsimp only [Act.put, List.setIfInBounds_toArray, List.set_cons_zero, List.set_cons_succ])
    refine take_l (i := 27) (v := ?_) rfl (by kernel_rfl) (by kernel_rfl) (by kernel_rfl) (fun _ _ _ h => h) (Or.inl ⟨by kernel_rfl, ?_⟩) (by assumption) ?_
    rotate_left
    · intro w hSw; (try dsimp only at hSw); go_simp; (try with_reducible rfl)
    (try dsimp only [Act.put, List.setIfInBounds_toArray, List.set_cons_zero, List.set_cons_succ])
    refine wpAnyH_ready (rs := [26]) (by kernel_rfl) (by simp) ?_
    refine ready_l rfl (fun K hK => ?_) AllReadyH.nil
    go_simp
    go_at_call 20
    refine (F1.out _).mono ?_
    rintro e we26 ⟨rfl, hbwe26⟩
    have nAll : Mine we26 b2 0 (.int .i64 M.1) ∧ Mine we26 b2 1 (.int .i64 M.2.1) ∧ Mine we26 (wr.heap.size + 1) 0 (.int .i64 a) ∧ Mine we26 (wr.heap.size + 1) 1 (.int .i64 b) ∧ Mine we26 (wr.heap.size + 1 + 1) 0 (.int .i64 c) ∧ Mine we26 (wr.heap.size + 1 + 1) 1 (.int .i64 d) ∧ Mine we26 b18 0 (.int .i64 rR.1) ∧ Mine we26 b18 1 (.int .i64 rR.2.1) ∧ Mine we26 b20 0 (.int .i64 rR.1) ∧ Mine we26 b20 1 (.int .i64 rR.2.1) := by
      refine ⟨?_, ?_, ?_, ?_, ?_, ?_, ?_, ?_, ?_, ?_⟩ <;> exact Mine.below (by (repeat first | with_reducible assumption | with_reducible refine Mine.drew ?_ | with_reducible refine Mine.drewN ?_ _ | ((with_reducible refine Mine.new ?_); rfl) | ((with_reducible refine Mine.newAt ?_ ?_) <;> first | rfl | (simp; done) | (simp only [World.size_alloc]; rfl)) | ((with_reducible refine Mine.set ?_ _); repeat first | exact Mine.slot (by with_reducible assumption) | with_reducible refine MineS.drew ?_ | with_reducible refine MineS.drewN ?_ _ | ((with_reducible refine MineS.new ?_); decide) | ((with_reducible refine MineS.newAt ?_ ?_) <;> first | decide | (simp; done)) | with_reducible refine MineS.set ?_ _ _ _ | with_reducible refine MineS.alloc ?_ _) | with_reducible refine Mine.other ?_ _ (by first | (left; omega) | (right; omega) | (simp; done) | (simp; omega)) | with_reducible refine Mine.alloc ?_ _)) hbwe26
    obtain ⟨n21we26, n22we26, n41we26, n42we26, n51we26, n52we26, n61we26, n62we26, n71we26, n72we26⟩ := nAll
    have g21we26 := n21we26.cell; have gf21we26 := n21we26.free
    have g22we26 := n22we26.cell; have gf22we26 := n22we26.free
    have g41we26 := n41we26.cell; have gf41we26 := n41we26.free
    have g42we26 := n42we26.cell; have gf42we26 := n42we26.free
    have g51we26 := n51we26.cell; have gf51we26 := n51we26.free
    have g52we26 := n52we26.cell; have gf52we26 := n52we26.free
    have g61we26 := n61we26.cell; have gf61we26 := n61we26.free
    have g62we26 := n62we26.cell; have gf62we26 := n62we26.free
    have g71we26 := n71we26.cell; have gf71we26 := n71we26.free
    have g72we26 := n72we26.cell; have gf72we26 := n72we26.free
    have hBwe26 : Below wr.heap.size wr we26 := Below.trans (by repeat first | with_reducible exact Below.refl _ _ | with_reducible assumption | with_reducible refine below_drewN ?_ _ | with_reducible refine Below.drew ?_ | with_reducible refine Below.setCell ?_ (by first | exact Nat.le_refl _ | (simp; done) | (simp; omega) | omega) _ | with_reducible refine Below.alloc ?_ (by first | exact Nat.le_refl _ | (simp; done) | (simp; omega) | omega) _ | exact Below.refl _ _ | assumption) (hbwe26.mono (by first | exact Nat.le_refl _ | assumption | (simp; done) | (simp; omega) | omega))
    have hzwe26 := hBwe26.size
    refine hK.out _ _ (by first | (dsimp only; go_keep) | go_keep) (fun hHeld26 => ?_)
    clear hK K hHeld21
    (try dsimp only [Act.put, List.setIfInBounds_toArray, List.set_cons_zero, List.set_cons_succ])
    clear hzwd21 hBwd21 gf21wd21 g21wd21 n21wd21 gf22wd21 g22wd21 n22wd21 gf41wd21 g41wd21 n41wd21 gf42wd21 g42wd21 n42wd21 gf51wd21 g51wd21 n51wd21 gf52wd21 g52wd21 n52wd21 gf61wd21 g61wd21 n61wd21 gf62wd21 g62wd21 n62wd21 gf71wd21 g71wd21 n71wd21 gf72wd21 g72wd21 n72wd21 hbwd21
    refine wpAnyH_ready (rs := [28]) (by kernel_rfl) (by simp) ?_
    refine ready_l rfl (fun K hK => ?_) AllReadyH.nil
    go_simp
    go_at_call 37
    refine (F2.out _).mono ?_
    rintro e wf28 ⟨rfl, hbwf28⟩
    have nAll : Mine wf28 b2 0 (.int .i64 M.1) ∧ Mine wf28 b2 1 (.int .i64 M.2.1) ∧ Mine wf28 (wr.heap.size + 1) 0 (.int .i64 a) ∧ Mine wf28 (wr.heap.size + 1) 1 (.int .i64 b) ∧ Mine wf28 (wr.heap.size + 1 + 1) 0 (.int .i64 c) ∧ Mine wf28 (wr.heap.size + 1 + 1) 1 (.int .i64 d) ∧ Mine wf28 b18 0 (.int .i64 rR.1) ∧ Mine wf28 b18 1 (.int .i64 rR.2.1) ∧ Mine wf28 b20 0 (.int .i64 rR.1) ∧ Mine wf28 b20 1 (.int .i64 rR.2.1) := by
      refine ⟨?_, ?_, ?_, ?_, ?_, ?_, ?_, ?_, ?_, ?_⟩ <;> exact Mine.below (by (repeat first | with_reducible assumption | with_reducible refine Mine.drew ?_ | with_reducible refine Mine.drewN ?_ _ | ((with_reducible refine Mine.new ?_); rfl) | ((with_reducible refine Mine.newAt ?_ ?_) <;> first | rfl | (simp; done) | (simp only [World.size_alloc]; rfl)) | ((with_reducible refine Mine.set ?_ _); repeat first | exact Mine.slot (by with_reducible assumption) | with_reducible refine MineS.drew ?_ | with_reducible refine MineS.drewN ?_ _ | ((with_reducible refine MineS.new ?_); decide) | ((with_reducible refine MineS.newAt ?_ ?_) <;> first | decide | (simp; done)) | with_reducible refine MineS.set ?_ _ _ _ | with_reducible refine MineS.alloc ?_ _) | with_reducible refine Mine.other ?_ _ (by first | (left; omega) | (right; omega) | (simp; done) | (simp; omega)) | with_reducible refine Mine.alloc ?_ _)) hbwf28
    obtain ⟨n21wf28, n22wf28, n41wf28, n42wf28, n51wf28, n52wf28, n61wf28, n62wf28, n71wf28, n72wf28⟩ := nAll
    have g21wf28 := n21wf28.cell; have gf21wf28 := n21wf28.free
    have g22wf28 := n22wf28.cell; have gf22wf28 := n22wf28.free
    have g41wf28 := n41wf28.cell; have gf41wf28 := n41wf28.free
    have g42wf28 := n42wf28.cell; have gf42wf28 := n42wf28.free
    have g51wf28 := n51wf28.cell; have gf51wf28 := n51wf28.free
    have g52wf28 := n52wf28.cell; have gf52wf28 := n52wf28.free
    have g61wf28 := n61wf28.cell; have gf61wf28 := n61wf28.free
    have g62wf28 := n62wf28.cell; have gf62wf28 := n62wf28.free
    have g71wf28 := n71wf28.cell; have gf71wf28 := n71wf28.free
    have g72wf28 := n72wf28.cell; have gf72wf28 := n72wf28.free
    have hBwf28 : Below wr.heap.size wr wf28 := Below.trans (by repeat first | with_reducible exact Below.refl _ _ | with_reducible assumption | with_reducible refine below_drewN ?_ _ | with_reducible refine Below.drew ?_ | with_reducible refine Below.setCell ?_ (by first | exact Nat.le_refl _ | (simp; done) | (simp; omega) | omega) _ | with_reducible refine Below.alloc ?_ (by first | exact Nat.le_refl _ | (simp; done) | (simp; omega) | omega) _ | exact Below.refl _ _ | assumption) (hbwf28.mono (by first | exact Nat.le_refl _ | assumption | (simp; done) | (simp; omega) | omega))
    have hzwf28 := hBwf28.size
    refine hK.out _ _ (by first | (dsimp only; go_keep) | go_keep) (fun hHeld28 => ?_)
    clear hK K hHeld26
    (try dsimp only [Act.put, List.setIfInBounds_toArray, List.set_cons_zero, List.set_cons_succ])
    clear hzwe26 hBwe26 gf21we26 g21we26 n21we26 gf22we26 g22we26 n22we26 gf41we26 g41we26 n41we26 gf42we26 g42we26 n42we26 gf51we26 g51we26 n51we26 gf52we26 g52we26 n52we26 gf61we26 g61we26 n61we26 gf62we26 g62we26 n62we26 gf71we26 g71we26 n71we26 gf72we26 g72we26 n72we26 hbwe26
    refine take_l (i := 29) (v := ?_) rfl (by kernel_rfl) (by kernel_rfl) (by kernel_rfl) (fun _ _ _ h => h) (Or.inl ⟨by kernel_rfl, ?_⟩) (by assumption) ?_
    rotate_left
    · intro w hSw; (try dsimp only at hSw); go_simp; (try with_reducible rfl)
    (try dsimp only [Act.put, List.setIfInBounds_toArray, List.set_cons_zero, List.set_cons_succ])
    refine take_l (i := 30) (v := ?_) rfl (by kernel_rfl) (by kernel_rfl) (by kernel_rfl) (fun _ _ _ h => h) (Or.inl ⟨by kernel_rfl, ?_⟩) (by assumption) ?_
    rotate_left
    · intro w hSw; (try dsimp only at hSw); go_simp; (try with_reducible rfl)
    (try dsimp only [Act.put, List.setIfInBounds_toArray, List.set_cons_zero, List.set_cons_succ])
    refine take_l (i := 31) (v := ?_) rfl (by kernel_rfl) (by kernel_rfl) (by kernel_rfl) (fun _ _ _ h => h) (Or.inl ⟨by kernel_rfl, ?_⟩) (by assumption) ?_
    rotate_left
    · intro w hSw; (try dsimp only at hSw); go_simp; (try with_reducible rfl)
    (try dsimp only [Act.put, List.setIfInBounds_toArray, List.set_cons_zero, List.set_cons_succ])
    refine take_l (i := 32) (v := ?_) rfl (by kernel_rfl) (by kernel_rfl) (by kernel_rfl) (fun _ _ _ h => h) (Or.inl ⟨by kernel_rfl, ?_⟩) (by assumption) ?_
    rotate_left
    · intro w hSw; (try dsimp only at hSw); go_simp; (try with_reducible rfl)
    (try dsimp only [Act.put, List.setIfInBounds_toArray, List.set_cons_zero, List.set_cons_succ])
    refine take_l (i := 33) (v := ?_) rfl (by kernel_rfl) (by kernel_rfl) (by kernel_rfl) (fun _ _ _ h => h) (Or.inl ⟨by kernel_rfl, ?_⟩) (by assumption) ?_
    rotate_left
    · intro w hSw; (try dsimp only at hSw); go_simp; (try with_reducible rfl)
    (try dsimp only [Act.put, List.setIfInBounds_toArray, List.set_cons_zero, List.set_cons_succ])
    refine take_l (i := 34) (v := ?_) rfl (by kernel_rfl) (by kernel_rfl) (by kernel_rfl) (fun _ _ _ h => h) (Or.inl ⟨by kernel_rfl, ?_⟩) (by assumption) ?_
    rotate_left
    · intro w hSw; (try dsimp only at hSw); go_simp; (try with_reducible rfl)
    (try dsimp only [Act.put, List.setIfInBounds_toArray, List.set_cons_zero, List.set_cons_succ])
    refine take_l (i := 36) (v := ?_) rfl (by kernel_rfl) (by kernel_rfl) (by kernel_rfl) (fun _ _ _ h => h) (Or.inl ⟨by kernel_rfl, ?_⟩) (by assumption) ?_
    rotate_left
    · intro w hSw; (try dsimp only at hSw); go_simp; (try with_reducible rfl)
    (try dsimp only [Act.put, List.setIfInBounds_toArray, List.set_cons_zero, List.set_cons_succ])
    refine take_l (i := 37) (v := ?_) rfl (by kernel_rfl) (by kernel_rfl) (by kernel_rfl) (fun _ _ _ h => h) (Or.inl ⟨by kernel_rfl, ?_⟩) (by assumption) ?_
    rotate_left
    · intro w hSw; (try dsimp only at hSw); go_simp; (try with_reducible rfl)
    (try dsimp only [Act.put, List.setIfInBounds_toArray, List.set_cons_zero, List.set_cons_succ])
    refine take_l (i := 38) (v := ?_) rfl (by kernel_rfl) (by kernel_rfl) (by kernel_rfl) (fun _ _ _ h => h) (Or.inl ⟨by kernel_rfl, ?_⟩) (by assumption) ?_
    rotate_left
    · intro w hSw; (try dsimp only at hSw); go_simp; (try with_reducible rfl)
    (try dsimp only [Act.put, List.setIfInBounds_toArray, List.set_cons_zero, List.set_cons_succ])
    refine wpAnyH_ready (rs := [35]) (by kernel_rfl) (by simp) ?_
    refine ready_l rfl (fun K hK => ?_) AllReadyH.nil
    go_simp
    go_at_call 24
    refine (L1.out _).mono ?_
    rintro e wg35 ⟨rfl, hbwg35⟩
    have nAll : Mine wg35 b2 0 (.int .i64 M.1) ∧ Mine wg35 b2 1 (.int .i64 M.2.1) ∧ Mine wg35 (wr.heap.size + 1) 0 (.int .i64 a) ∧ Mine wg35 (wr.heap.size + 1) 1 (.int .i64 b) ∧ Mine wg35 (wr.heap.size + 1 + 1) 0 (.int .i64 c) ∧ Mine wg35 (wr.heap.size + 1 + 1) 1 (.int .i64 d) ∧ Mine wg35 b18 0 (.int .i64 rR.1) ∧ Mine wg35 b18 1 (.int .i64 rR.2.1) ∧ Mine wg35 b20 0 (.int .i64 rR.1) ∧ Mine wg35 b20 1 (.int .i64 rR.2.1) := by
      refine ⟨?_, ?_, ?_, ?_, ?_, ?_, ?_, ?_, ?_, ?_⟩ <;> exact Mine.below (by (repeat first | with_reducible assumption | with_reducible refine Mine.drew ?_ | with_reducible refine Mine.drewN ?_ _ | ((with_reducible refine Mine.new ?_); rfl) | ((with_reducible refine Mine.newAt ?_ ?_) <;> first | rfl | (simp; done) | (simp only [World.size_alloc]; rfl)) | ((with_reducible refine Mine.set ?_ _); repeat first | exact Mine.slot (by with_reducible assumption) | with_reducible refine MineS.drew ?_ | with_reducible refine MineS.drewN ?_ _ | ((with_reducible refine MineS.new ?_); decide) | ((with_reducible refine MineS.newAt ?_ ?_) <;> first | decide | (simp; done)) | with_reducible refine MineS.set ?_ _ _ _ | with_reducible refine MineS.alloc ?_ _) | with_reducible refine Mine.other ?_ _ (by first | (left; omega) | (right; omega) | (simp; done) | (simp; omega)) | with_reducible refine Mine.alloc ?_ _)) hbwg35
    obtain ⟨n21wg35, n22wg35, n41wg35, n42wg35, n51wg35, n52wg35, n61wg35, n62wg35, n71wg35, n72wg35⟩ := nAll
    have g21wg35 := n21wg35.cell; have gf21wg35 := n21wg35.free
    have g22wg35 := n22wg35.cell; have gf22wg35 := n22wg35.free
    have g41wg35 := n41wg35.cell; have gf41wg35 := n41wg35.free
    have g42wg35 := n42wg35.cell; have gf42wg35 := n42wg35.free
    have g51wg35 := n51wg35.cell; have gf51wg35 := n51wg35.free
    have g52wg35 := n52wg35.cell; have gf52wg35 := n52wg35.free
    have g61wg35 := n61wg35.cell; have gf61wg35 := n61wg35.free
    have g62wg35 := n62wg35.cell; have gf62wg35 := n62wg35.free
    have g71wg35 := n71wg35.cell; have gf71wg35 := n71wg35.free
    have g72wg35 := n72wg35.cell; have gf72wg35 := n72wg35.free
    have hBwg35 : Below wr.heap.size wr wg35 := Below.trans (by repeat first | with_reducible exact Below.refl _ _ | with_reducible assumption | with_reducible refine below_drewN ?_ _ | with_reducible refine Below.drew ?_ | with_reducible refine Below.setCell ?_ (by first | exact Nat.le_refl _ | (simp; done) | (simp; omega) | omega) _ | with_reducible refine Below.alloc ?_ (by first | exact Nat.le_refl _ | (simp; done) | (simp; omega) | omega) _ | exact Below.refl _ _ | assumption) (hbwg35.mono (by first | exact Nat.le_refl _ | assumption | (simp; done) | (simp; omega) | omega))
    have hzwg35 := hBwg35.size
    refine hK.out _ _ (by first | (dsimp only; go_keep) | go_keep) (fun hHeld35 => ?_)
    clear hK K hHeld28
    (try dsimp only [Act.put, List.setIfInBounds_toArray, List.set_cons_zero, List.set_cons_succ])
    clear hzwf28 hBwf28 gf21wf28 g21wf28 n21wf28 gf22wf28 g22wf28 n22wf28 gf41wf28 g41wf28 n41wf28 gf42wf28 g42wf28 n42wf28 gf51wf28 g51wf28 n51wf28 gf52wf28 g52wf28 n52wf28 gf61wf28 g61wf28 n61wf28 gf62wf28 g62wf28 n62wf28 gf71wf28 g71wf28 n71wf28 gf72wf28 g72wf28 n72wf28 hbwf28
    refine wpAnyH_ready (rs := [39]) (by kernel_rfl) (by simp) ?_
    refine ready_l rfl (fun K hK => ?_) AllReadyH.nil
    go_simp
    go_at_call 38
    refine (L2.out _).mono ?_
    rintro e wh39 ⟨rfl, hbwh39⟩
    have nAll : Mine wh39 b2 0 (.int .i64 M.1) ∧ Mine wh39 b2 1 (.int .i64 M.2.1) ∧ Mine wh39 (wr.heap.size + 1) 0 (.int .i64 a) ∧ Mine wh39 (wr.heap.size + 1) 1 (.int .i64 b) ∧ Mine wh39 (wr.heap.size + 1 + 1) 0 (.int .i64 c) ∧ Mine wh39 (wr.heap.size + 1 + 1) 1 (.int .i64 d) ∧ Mine wh39 b18 0 (.int .i64 rR.1) ∧ Mine wh39 b18 1 (.int .i64 rR.2.1) ∧ Mine wh39 b20 0 (.int .i64 rR.1) ∧ Mine wh39 b20 1 (.int .i64 rR.2.1) := by
      refine ⟨?_, ?_, ?_, ?_, ?_, ?_, ?_, ?_, ?_, ?_⟩ <;> exact Mine.below (by (repeat first | with_reducible assumption | with_reducible refine Mine.drew ?_ | with_reducible refine Mine.drewN ?_ _ | ((with_reducible refine Mine.new ?_); rfl) | ((with_reducible refine Mine.newAt ?_ ?_) <;> first | rfl | (simp; done) | (simp only [World.size_alloc]; rfl)) | ((with_reducible refine Mine.set ?_ _); repeat first | exact Mine.slot (by with_reducible assumption) | with_reducible refine MineS.drew ?_ | with_reducible refine MineS.drewN ?_ _ | ((with_reducible refine MineS.new ?_); decide) | ((with_reducible refine MineS.newAt ?_ ?_) <;> first | decide | (simp; done)) | with_reducible refine MineS.set ?_ _ _ _ | with_reducible refine MineS.alloc ?_ _) | with_reducible refine Mine.other ?_ _ (by first | (left; omega) | (right; omega) | (simp; done) | (simp; omega)) | with_reducible refine Mine.alloc ?_ _)) hbwh39
    obtain ⟨n21wh39, n22wh39, n41wh39, n42wh39, n51wh39, n52wh39, n61wh39, n62wh39, n71wh39, n72wh39⟩ := nAll
    have g21wh39 := n21wh39.cell; have gf21wh39 := n21wh39.free
    have g22wh39 := n22wh39.cell; have gf22wh39 := n22wh39.free
    have g41wh39 := n41wh39.cell; have gf41wh39 := n41wh39.free
    have g42wh39 := n42wh39.cell; have gf42wh39 := n42wh39.free
    have g51wh39 := n51wh39.cell; have gf51wh39 := n51wh39.free
    have g52wh39 := n52wh39.cell; have gf52wh39 := n52wh39.free
    have g61wh39 := n61wh39.cell; have gf61wh39 := n61wh39.free
    have g62wh39 := n62wh39.cell; have gf62wh39 := n62wh39.free
    have g71wh39 := n71wh39.cell; have gf71wh39 := n71wh39.free
    have g72wh39 := n72wh39.cell; have gf72wh39 := n72wh39.free
    have hBwh39 : Below wr.heap.size wr wh39 := Below.trans (by repeat first | with_reducible exact Below.refl _ _ | with_reducible assumption | with_reducible refine below_drewN ?_ _ | with_reducible refine Below.drew ?_ | with_reducible refine Below.setCell ?_ (by first | exact Nat.le_refl _ | (simp; done) | (simp; omega) | omega) _ | with_reducible refine Below.alloc ?_ (by first | exact Nat.le_refl _ | (simp; done) | (simp; omega) | omega) _ | exact Below.refl _ _ | assumption) (hbwh39.mono (by first | exact Nat.le_refl _ | assumption | (simp; done) | (simp; omega) | omega))
    have hzwh39 := hBwh39.size
    refine hK.out _ _ (by first | (dsimp only; go_keep) | go_keep) (fun hHeld39 => ?_)
    clear hK K hHeld35
    (try dsimp only [Act.put, List.setIfInBounds_toArray, List.set_cons_zero, List.set_cons_succ])
    clear hzwg35 hBwg35 gf21wg35 g21wg35 n21wg35 gf22wg35 g22wg35 n22wg35 gf41wg35 g41wg35 n41wg35 gf42wg35 g42wg35 n42wg35 gf51wg35 g51wg35 n51wg35 gf52wg35 g52wg35 n52wg35 gf61wg35 g61wg35 n61wg35 gf62wg35 g62wg35 n62wg35 gf71wg35 g71wg35 n71wg35 gf72wg35 g72wg35 n72wg35 hbwg35
    refine take_l (i := 40) (v := ?_) rfl (by kernel_rfl) (by kernel_rfl) (by kernel_rfl) (fun _ _ _ h => h) (Or.inl ⟨by kernel_rfl, ?_⟩) (by assumption) ?_
    rotate_left
    · intro w hSw; (try dsimp only at hSw); go_simp; (try with_reducible rfl)
    (try dsimp only [Act.put, List.setIfInBounds_toArray, List.set_cons_zero, List.set_cons_succ])
    refine take_l (i := 41) (v := ?_) rfl (by kernel_rfl) (by kernel_rfl) (by kernel_rfl) (fun _ _ _ h => h) (Or.inl ⟨by kernel_rfl, ?_⟩) (by assumption) ?_
    rotate_left
    · intro w hSw; (try dsimp only at hSw); go_simp; (try with_reducible rfl)
    (try dsimp only [Act.put, List.setIfInBounds_toArray, List.set_cons_zero, List.set_cons_succ])
    refine take_l (i := 42) (v := ?_) rfl (by kernel_rfl) (by kernel_rfl) (by kernel_rfl) (fun _ _ _ h => h) (Or.inl ⟨by kernel_rfl, ?_⟩) (by assumption) ?_
    rotate_left
    · intro w hSw; (try dsimp only at hSw); go_simp; (try with_reducible rfl)
    (try dsimp only [Act.put, List.setIfInBounds_toArray, List.set_cons_zero, List.set_cons_succ])
    refine take_l (i := 43) (v := ?_) rfl (by kernel_rfl) (by kernel_rfl) (by kernel_rfl) (fun _ _ _ h => h) (Or.inl ⟨by kernel_rfl, ?_⟩) (by assumption) ?_
    rotate_left
    · intro w hSw; (try dsimp only at hSw); go_simp; (try with_reducible rfl)
    (try dsimp only [Act.put, List.setIfInBounds_toArray, List.set_cons_zero, List.set_cons_succ])
    refine take_l (i := 44) (v := ?_) rfl (by kernel_rfl) (by kernel_rfl) (by kernel_rfl) (fun _ _ _ h => h) (Or.inl ⟨by kernel_rfl, ?_⟩) (by assumption) ?_
    rotate_left
    · intro w hSw; (try dsimp only at hSw); go_simp; (try with_reducible rfl)
    (try dsimp only [Act.put, List.setIfInBounds_toArray, List.set_cons_zero, List.set_cons_succ])
    refine take_l (i := 45) (v := ?_) rfl (by kernel_rfl) (by kernel_rfl) (by kernel_rfl) (fun _ _ _ h => h) (Or.inl ⟨by kernel_rfl, ?_⟩) (by assumption) ?_
    rotate_left
    · intro w hSw; (try dsimp only at hSw); go_simp; (try with_reducible rfl)
    (try dsimp only [Act.put, List.setIfInBounds_toArray, List.set_cons_zero, List.set_cons_succ])
    refine take_l (i := 47) (v := ?_) rfl (by kernel_rfl) (by kernel_rfl) (by kernel_rfl) (fun _ _ _ h => h) (Or.inl ⟨by kernel_rfl, ?_⟩) (by assumption) ?_
    rotate_left
    · intro w hSw; (try dsimp only at hSw); go_simp; (try with_reducible rfl)
    (try dsimp only [Act.put, List.setIfInBounds_toArray, List.set_cons_zero, List.set_cons_succ])
    refine take_l (i := 48) (v := ?_) rfl (by kernel_rfl) (by kernel_rfl) (by kernel_rfl) (fun _ _ _ h => h) (Or.inl ⟨by kernel_rfl, ?_⟩) (by assumption) ?_
    rotate_left
    · intro w hSw; (try dsimp only at hSw); go_simp; (try with_reducible rfl)
    (try dsimp only [Act.put, List.setIfInBounds_toArray, List.set_cons_zero, List.set_cons_succ])
    refine take_l (i := 49) (v := ?_) rfl (by kernel_rfl) (by kernel_rfl) (by kernel_rfl) (fun _ _ _ h => h) (Or.inl ⟨by kernel_rfl, ?_⟩) (by assumption) ?_
    rotate_left
    · intro w hSw; (try dsimp only at hSw); go_simp; (try with_reducible rfl)
    (try dsimp only [Act.put, List.setIfInBounds_toArray, List.set_cons_zero, List.set_cons_succ])
    refine wpAnyH_ready (rs := [46]) (by kernel_rfl) (by simp) ?_
    refine ready_l rfl (fun K hK => ?_) AllReadyH.nil
    go_simp
    go_at_call 24
    refine (L3.out _).mono ?_
    rintro e wi46 ⟨rfl, hbwi46⟩
    have nAll : Mine wi46 b2 0 (.int .i64 M.1) ∧ Mine wi46 b2 1 (.int .i64 M.2.1) ∧ Mine wi46 (wr.heap.size + 1) 0 (.int .i64 a) ∧ Mine wi46 (wr.heap.size + 1) 1 (.int .i64 b) ∧ Mine wi46 (wr.heap.size + 1 + 1) 0 (.int .i64 c) ∧ Mine wi46 (wr.heap.size + 1 + 1) 1 (.int .i64 d) ∧ Mine wi46 b18 0 (.int .i64 rR.1) ∧ Mine wi46 b18 1 (.int .i64 rR.2.1) ∧ Mine wi46 b20 0 (.int .i64 rR.1) ∧ Mine wi46 b20 1 (.int .i64 rR.2.1) := by
      refine ⟨?_, ?_, ?_, ?_, ?_, ?_, ?_, ?_, ?_, ?_⟩ <;> exact Mine.below (by (repeat first | with_reducible assumption | with_reducible refine Mine.drew ?_ | with_reducible refine Mine.drewN ?_ _ | ((with_reducible refine Mine.new ?_); rfl) | ((with_reducible refine Mine.newAt ?_ ?_) <;> first | rfl | (simp; done) | (simp only [World.size_alloc]; rfl)) | ((with_reducible refine Mine.set ?_ _); repeat first | exact Mine.slot (by with_reducible assumption) | with_reducible refine MineS.drew ?_ | with_reducible refine MineS.drewN ?_ _ | ((with_reducible refine MineS.new ?_); decide) | ((with_reducible refine MineS.newAt ?_ ?_) <;> first | decide | (simp; done)) | with_reducible refine MineS.set ?_ _ _ _ | with_reducible refine MineS.alloc ?_ _) | with_reducible refine Mine.other ?_ _ (by first | (left; omega) | (right; omega) | (simp; done) | (simp; omega)) | with_reducible refine Mine.alloc ?_ _)) hbwi46
    obtain ⟨n21wi46, n22wi46, n41wi46, n42wi46, n51wi46, n52wi46, n61wi46, n62wi46, n71wi46, n72wi46⟩ := nAll
    have g21wi46 := n21wi46.cell; have gf21wi46 := n21wi46.free
    have g22wi46 := n22wi46.cell; have gf22wi46 := n22wi46.free
    have g41wi46 := n41wi46.cell; have gf41wi46 := n41wi46.free
    have g42wi46 := n42wi46.cell; have gf42wi46 := n42wi46.free
    have g51wi46 := n51wi46.cell; have gf51wi46 := n51wi46.free
    have g52wi46 := n52wi46.cell; have gf52wi46 := n52wi46.free
    have g61wi46 := n61wi46.cell; have gf61wi46 := n61wi46.free
    have g62wi46 := n62wi46.cell; have gf62wi46 := n62wi46.free
    have g71wi46 := n71wi46.cell; have gf71wi46 := n71wi46.free
    have g72wi46 := n72wi46.cell; have gf72wi46 := n72wi46.free
    have hBwi46 : Below wr.heap.size wr wi46 := Below.trans (by repeat first | with_reducible exact Below.refl _ _ | with_reducible assumption | with_reducible refine below_drewN ?_ _ | with_reducible refine Below.drew ?_ | with_reducible refine Below.setCell ?_ (by first | exact Nat.le_refl _ | (simp; done) | (simp; omega) | omega) _ | with_reducible refine Below.alloc ?_ (by first | exact Nat.le_refl _ | (simp; done) | (simp; omega) | omega) _ | exact Below.refl _ _ | assumption) (hbwi46.mono (by first | exact Nat.le_refl _ | assumption | (simp; done) | (simp; omega) | omega))
    have hzwi46 := hBwi46.size
    refine hK.out _ _ (by first | (dsimp only; go_keep) | go_keep) (fun hHeld46 => ?_)
    clear hK K hHeld39
    (try dsimp only [Act.put, List.setIfInBounds_toArray, List.set_cons_zero, List.set_cons_succ])
    clear hzwh39 hBwh39 gf21wh39 g21wh39 n21wh39 gf22wh39 g22wh39 n22wh39 gf41wh39 g41wh39 n41wh39 gf42wh39 g42wh39 n42wh39 gf51wh39 g51wh39 n51wh39 gf52wh39 g52wh39 n52wh39 gf61wh39 g61wh39 n61wh39 gf62wh39 g62wh39 n62wh39 gf71wh39 g71wh39 n71wh39 gf72wh39 g72wh39 n72wh39 hbwh39
    refine wpAnyH_ready (rs := [50]) (by kernel_rfl) (by simp) ?_
    refine ready_l rfl (fun K hK => ?_) AllReadyH.nil
    go_simp
    go_at_call 38
    refine (L4.out _).mono ?_
    rintro e wj50 ⟨rfl, hbwj50⟩
    have nAll : Mine wj50 b2 0 (.int .i64 M.1) ∧ Mine wj50 b2 1 (.int .i64 M.2.1) ∧ Mine wj50 (wr.heap.size + 1) 0 (.int .i64 a) ∧ Mine wj50 (wr.heap.size + 1) 1 (.int .i64 b) ∧ Mine wj50 (wr.heap.size + 1 + 1) 0 (.int .i64 c) ∧ Mine wj50 (wr.heap.size + 1 + 1) 1 (.int .i64 d) ∧ Mine wj50 b18 0 (.int .i64 rR.1) ∧ Mine wj50 b18 1 (.int .i64 rR.2.1) ∧ Mine wj50 b20 0 (.int .i64 rR.1) ∧ Mine wj50 b20 1 (.int .i64 rR.2.1) := by
      refine ⟨?_, ?_, ?_, ?_, ?_, ?_, ?_, ?_, ?_, ?_⟩ <;> exact Mine.below (by (repeat first | with_reducible assumption | with_reducible refine Mine.drew ?_ | with_reducible refine Mine.drewN ?_ _ | ((with_reducible refine Mine.new ?_); rfl) | ((with_reducible refine Mine.newAt ?_ ?_) <;> first | rfl | (simp; done) | (simp only [World.size_alloc]; rfl)) | ((with_reducible refine Mine.set ?_ _); repeat first | exact Mine.slot (by with_reducible assumption) | with_reducible refine MineS.drew ?_ | with_reducible refine MineS.drewN ?_ _ | ((with_reducible refine MineS.new ?_); decide) | ((with_reducible refine MineS.newAt ?_ ?_) <;> first | decide | (simp; done)) | with_reducible refine MineS.set ?_ _ _ _ | with_reducible refine MineS.alloc ?_ _) | with_reducible refine Mine.other ?_ _ (by first | (left; omega) | (right; omega) | (simp; done) | (simp; omega)) | with_reducible refine Mine.alloc ?_ _)) hbwj50
    obtain ⟨n21wj50, n22wj50, n41wj50, n42wj50, n51wj50, n52wj50, n61wj50, n62wj50, n71wj50, n72wj50⟩ := nAll
    have g21wj50 := n21wj50.cell; have gf21wj50 := n21wj50.free
    have g22wj50 := n22wj50.cell; have gf22wj50 := n22wj50.free
    have g41wj50 := n41wj50.cell; have gf41wj50 := n41wj50.free
    have g42wj50 := n42wj50.cell; have gf42wj50 := n42wj50.free
    have g51wj50 := n51wj50.cell; have gf51wj50 := n51wj50.free
    have g52wj50 := n52wj50.cell; have gf52wj50 := n52wj50.free
    have g61wj50 := n61wj50.cell; have gf61wj50 := n61wj50.free
    have g62wj50 := n62wj50.cell; have gf62wj50 := n62wj50.free
    have g71wj50 := n71wj50.cell; have gf71wj50 := n71wj50.free
    have g72wj50 := n72wj50.cell; have gf72wj50 := n72wj50.free
    have hBwj50 : Below wr.heap.size wr wj50 := Below.trans (by repeat first | with_reducible exact Below.refl _ _ | with_reducible assumption | with_reducible refine below_drewN ?_ _ | with_reducible refine Below.drew ?_ | with_reducible refine Below.setCell ?_ (by first | exact Nat.le_refl _ | (simp; done) | (simp; omega) | omega) _ | with_reducible refine Below.alloc ?_ (by first | exact Nat.le_refl _ | (simp; done) | (simp; omega) | omega) _ | exact Below.refl _ _ | assumption) (hbwj50.mono (by first | exact Nat.le_refl _ | assumption | (simp; done) | (simp; omega) | omega))
    have hzwj50 := hBwj50.size
    refine hK.out _ _ (by first | (dsimp only; go_keep) | go_keep) (fun hHeld50 => ?_)
    clear hK K hHeld46
    (try dsimp only [Act.put, List.setIfInBounds_toArray, List.set_cons_zero, List.set_cons_succ])
    clear hzwi46 hBwi46 gf21wi46 g21wi46 n21wi46 gf22wi46 g22wi46 n22wi46 gf41wi46 g41wi46 n41wi46 gf42wi46 g42wi46 n42wi46 gf51wi46 g51wi46 n51wi46 gf52wi46 g52wi46 n52wi46 gf61wi46 g61wi46 n61wi46 gf62wi46 g62wi46 n62wi46 gf71wi46 g71wi46 n71wi46 gf72wi46 g72wi46 n72wi46 hbwi46
    refine take_l (i := 51) (v := ?_) rfl (by kernel_rfl) (by kernel_rfl) (by kernel_rfl) (fun _ _ _ h => h) (Or.inl ⟨by kernel_rfl, ?_⟩) (by assumption) ?_
    rotate_left
    · intro w hSw; (try dsimp only at hSw); go_simp; (try with_reducible rfl)
    (try dsimp only [Act.put, List.setIfInBounds_toArray, List.set_cons_zero, List.set_cons_succ])
    refine take_l (i := 52) (v := ?_) rfl (by kernel_rfl) (by kernel_rfl) (by kernel_rfl) (fun _ _ _ h => h) (Or.inl ⟨by kernel_rfl, ?_⟩) (by assumption) ?_
    rotate_left
    · intro w hSw; (try dsimp only at hSw); go_simp; (try with_reducible rfl)
    (try dsimp only [Act.put, List.setIfInBounds_toArray, List.set_cons_zero, List.set_cons_succ])
    refine wpAnyH_done (by kernel_rfl) ?_ _
    refine name_then ?_
    intro y22 hwy22
    have mAll : Mine y22 b2 0 (.int .i64 M.1) ∧ Mine y22 b2 1 (.int .i64 M.2.1) ∧ Mine y22 (wr.heap.size + 1) 0 (.int .i64 a) ∧ Mine y22 (wr.heap.size + 1) 1 (.int .i64 b) ∧ Mine y22 (wr.heap.size + 1 + 1) 0 (.int .i64 c) ∧ Mine y22 (wr.heap.size + 1 + 1) 1 (.int .i64 d) ∧ Mine y22 b18 0 (.int .i64 rR.1) ∧ Mine y22 b18 1 (.int .i64 rR.2.1) ∧ Mine y22 b20 0 (.int .i64 rR.1) ∧ Mine y22 b20 1 (.int .i64 rR.2.1) := by
      rw [hwy22]
      refine ⟨?_, ?_, ?_, ?_, ?_, ?_, ?_, ?_, ?_, ?_⟩ <;> (repeat first | with_reducible assumption | with_reducible refine Mine.drew ?_ | with_reducible refine Mine.drewN ?_ _ | ((with_reducible refine Mine.new ?_); rfl) | ((with_reducible refine Mine.newAt ?_ ?_) <;> first | rfl | (simp; done) | (simp only [World.size_alloc]; rfl)) | ((with_reducible refine Mine.set ?_ _); repeat first | exact Mine.slot (by with_reducible assumption) | with_reducible refine MineS.drew ?_ | with_reducible refine MineS.drewN ?_ _ | ((with_reducible refine MineS.new ?_); decide) | ((with_reducible refine MineS.newAt ?_ ?_) <;> first | decide | (simp; done)) | with_reducible refine MineS.set ?_ _ _ _ | with_reducible refine MineS.alloc ?_ _) | with_reducible refine Mine.other ?_ _ (by first | (left; omega) | (right; omega) | (simp; done) | (simp; omega)) | with_reducible refine Mine.alloc ?_ _)
    clear m21 m22 m41 m42 m51 m52 m61 m62 m71 m72
    obtain ⟨m21, m22, m41, m42, m51, m52, m61, m62, m71, m72⟩ := mAll
    have hBzy22 := hB.size
    replace hB : Below wr.heap.size wr y22 := by rw [hwy22]; exact (by repeat first | with_reducible exact Below.refl _ _ | with_reducible assumption | with_reducible refine below_drewN ?_ _ | with_reducible refine Below.drew ?_ | with_reducible refine Below.setCell ?_ (by first | exact Nat.le_refl _ | (simp; done) | (simp; omega) | omega) _ | with_reducible refine Below.alloc ?_ (by first | exact Nat.le_refl _ | (simp; done) | (simp; omega) | omega) _ | exact Below.refl _ _ | assumption)
    clear hwy22 hBzy22
    clear hHeld50 hzwj50 hBwj50 gf21wj50 g21wj50 n21wj50 gf22wj50 g22wj50 n22wj50 gf41wj50 g41wj50 n41wj50 gf42wj50 g42wj50 n42wj50 gf51wj50 g51wj50 n51wj50 gf52wj50 g52wj50 n52wj50 gf61wj50 g61wj50 n61wj50 gf62wj50 g62wj50 n62wj50 gf71wj50 g71wj50 n71wj50 gf72wj50 g72wj50 n72wj50 hbwj50
    repeat rw [List.setIfInBounds_toArray]
    (try dsimp only [List.set_cons_succ, List.set_cons_zero])
    clear c21 f21 l21 c22 f22 l22 c41 f41 l41 c42 f42 l42 c51 f51 l51 c52 f52 l52 c61 f61 l61 c62 f62 l62 c71 f71 l71 c72 f72 l72
    go_wp2_with fail
    go_roundw
    case rel => exact ⟨i + 1, by omega, by go_num, ⟨hB0.out.trans (hB.mono hBr), m21, m22, fun j hj => (hCr.out j hj).below hB⟩⟩
    case measure => simp [intOf]; omega
end Go.Proofs.YtfojgdlegojdgaaDoor
