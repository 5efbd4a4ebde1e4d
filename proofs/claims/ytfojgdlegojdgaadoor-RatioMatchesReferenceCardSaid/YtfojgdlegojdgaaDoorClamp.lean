/-
  The contracts of ratio.Clamp and of the law's is.
-/
import Derived.Test.YtfojgdlegojdgaaDoorFit3
namespace Go.Proofs.YtfojgdlegojdgaaDoor
open Go.RowKit

theorem Valid_b (n d : Int) (w : World) (hn : I64 n) (hd : I64 d) :
    Calls Tryd.prog 19 #[rv n d] w fun e w' => e = .returned (.bool (vld n d)) ∧ Below w.heap.size w w' :=
  (Valid_any n d w hn hd).mono fun _ _ ⟨he, k, hw⟩ => ⟨he, by rw [hw]; exact below_drewN ((Below.refl _ _).alloc (Nat.le_refl _) _) k⟩

set_option maxHeartbeats 400000 in
theorem is_any (x y : Int) (w : World) :
    Calls Tryd.prog 14 #[.int .i64 x, .int .i64 y] w fun e w' => e = .returned (rv x y) ∧ Below w.heap.size w w' := by
  go_enter Tryd.func14, Tryd.ntmps14
  go_wp2
  exact bodyPost_ret (v := rv x y) (by simp [results, Tryd.results14, go_sem]) rfl ⟨rfl, (by repeat first | with_reducible exact Below.refl _ _ | with_reducible assumption | with_reducible refine below_drewN ?_ _ | with_reducible refine Below.drew ?_ | with_reducible refine Below.setCell ?_ (by first | exact Nat.le_refl _ | (simp; done) | (simp; omega) | omega) _ | with_reducible refine Below.alloc ?_ (by first | exact Nat.le_refl _ | (simp; done) | (simp; omega) | omega) _ | exact Below.refl _ _ | assumption)⟩

set_option maxRecDepth 100000 in
set_option maxHeartbeats 2000000 in
theorem Clamp_any (a b c d g h : Int) (w : World) (ha : I64 a) (hb : I64 b) (hc : I64 c) (hd : I64 d) (he : I64 g) (hf : I64 h) :
    Calls Tryd.prog 24 #[rv a b, rv c d, rv g h] w fun r w' => r = .returned (rv (clampv a b c d g h).1 (clampv a b c d g h).2) ∧ Below w.heap.size w w' := by
  have hB : Below w.heap.size w w := Below.refl _ _
  have v1 := fun w => Valid_b a b w ha hb
  have v2 := fun w => Valid_b c d w hc hd
  have v3 := fun w => Valid_b g h w he hf
  have cc1 := fun w => Compare_any a b c d w ha hb hc hd
  have cc2 := fun w => Compare_any a b g h w ha hb he hf
  have hR : clampv a b c d g h = if vld a b && vld c d && vld g h then if cmpr a b c d < 0 then (c, d) else if 0 < cmpr a b g h then (g, h) else (a, b) else (0, 0) := rfl
  generalize clampv a b c d g h = R at *
  generalize vld a b = x at *
  generalize vld c d = y at *
  generalize vld g h = z at *
  generalize cmpr a b c d = p at *
  generalize cmpr a b g h = q at *
  replace v1 := Lib.hid v1
  replace v2 := Lib.hid v2
  replace v3 := Lib.hid v3
  replace cc1 := Lib.hid cc1
  replace cc2 := Lib.hid cc2
  replace hR := Lib.hid hR
  go_enter Tryd.func24, Tryd.ntmps24
  go_wp2_with fail
  refine name_calls ?_
  intro w1 hww1
  have mAll : Mine w1 w.heap.size 0 (.int .i64 a) ∧ Mine w1 w.heap.size 1 (.int .i64 b) ∧ Mine w1 (w.heap.size + 1) 0 (.int .i64 c) ∧ Mine w1 (w.heap.size + 1) 1 (.int .i64 d) ∧ Mine w1 (w.heap.size + 1 + 1) 0 (.int .i64 g) ∧ Mine w1 (w.heap.size + 1 + 1) 1 (.int .i64 h) ∧ Mine w1 (w.heap.size + 1 + 1 + 1) 0 (.int .i64 0) ∧ Mine w1 (w.heap.size + 1 + 1 + 1) 1 (.int .i64 0) := by
    rw [hww1]
    refine ⟨?_, ?_, ?_, ?_, ?_, ?_, ?_, ?_⟩ <;> (repeat first | with_reducible assumption | with_reducible refine Mine.drew ?_ | with_reducible refine Mine.drewN ?_ _ | ((with_reducible refine Mine.new ?_); rfl) | ((with_reducible refine Mine.newAt ?_ ?_) <;> first | rfl | (simp; done) | (simp only [World.size_alloc]; rfl)) | ((with_reducible refine Mine.set ?_ _); repeat first | exact Mine.slot (by with_reducible assumption) | with_reducible refine MineS.drew ?_ | with_reducible refine MineS.drewN ?_ _ | ((with_reducible refine MineS.new ?_); decide) | ((with_reducible refine MineS.newAt ?_ ?_) <;> first | decide | (simp; done)) | with_reducible refine MineS.set ?_ _ _ _ | with_reducible refine MineS.alloc ?_ _) | with_reducible refine Mine.other ?_ _ (by first | (left; omega) | (right; omega) | (simp; done) | (simp; omega)) | with_reducible refine Mine.alloc ?_ _)
  obtain ⟨m1, m2, m3, m4, m5, m6, m7, m8⟩ := mAll
  have hBzw1 := hB.size
  replace hB : Below w.heap.size w w1 := by rw [hww1]; exact (by repeat first | with_reducible exact Below.refl _ _ | with_reducible assumption | with_reducible refine below_drewN ?_ _ | with_reducible refine Below.drew ?_ | with_reducible refine Below.setCell ?_ (by first | exact Nat.le_refl _ | (simp; done) | (simp; omega) | omega) _ | with_reducible refine Below.alloc ?_ (by first | exact Nat.le_refl _ | (simp; done) | (simp; omega) | omega) _ | exact Below.refl _ _ | assumption)
  clear hww1 hBzw1
  refine (v1.out _).mono ?_
  rintro e w2 ⟨rfl, hb1⟩
  replace m1 := m1.below hb1
  replace m2 := m2.below hb1
  replace m3 := m3.below hb1
  replace m4 := m4.below hb1
  replace m5 := m5.below hb1
  replace m6 := m6.below hb1
  replace m7 := m7.below hb1
  replace m8 := m8.below hb1
  replace hB := hB.trans (hb1.mono hB.size)
  have hb_w2 := hb1
  clear hb1
  cases x
  · have hR1 : R = (0, 0) := by rw [hR.out]; rfl
    clear hR
    replace hR1 := Lib.hid hR1
    have c1 := m1.cell
    have f1 := m1.free
    have l1 := m1.lt
    have c2 := m2.cell
    have f2 := m2.free
    have l2 := m2.lt
    have c3 := m3.cell
    have f3 := m3.free
    have l3 := m3.lt
    have c4 := m4.cell
    have f4 := m4.free
    have l4 := m4.lt
    have c5 := m5.cell
    have f5 := m5.free
    have l5 := m5.lt
    have c6 := m6.cell
    have f6 := m6.free
    have l6 := m6.lt
    have c7 := m7.cell
    have f7 := m7.free
    have l7 := m7.lt
    have c8 := m8.cell
    have f8 := m8.free
    have l8 := m8.lt
    go_wp2
    clear c1 f1 l1
    clear c2 f2 l2
    clear c3 f3 l3
    clear c4 f4 l4
    clear c5 f5 l5
    clear c6 f6 l6
    clear c7 f7 l7
    clear c8 f8 l8
    refine name_post ?_
    intro wz hwwz
    have mAll : Mine wz w.heap.size 0 (.int .i64 a) ∧ Mine wz w.heap.size 1 (.int .i64 b) ∧ Mine wz (w.heap.size + 1) 0 (.int .i64 c) ∧ Mine wz (w.heap.size + 1) 1 (.int .i64 d) ∧ Mine wz (w.heap.size + 1 + 1) 0 (.int .i64 g) ∧ Mine wz (w.heap.size + 1 + 1) 1 (.int .i64 h) ∧ Mine wz (w.heap.size + 1 + 1 + 1) 0 (.int .i64 0) ∧ Mine wz (w.heap.size + 1 + 1 + 1) 1 (.int .i64 0) := by
      rw [hwwz]
      refine ⟨?_, ?_, ?_, ?_, ?_, ?_, ?_, ?_⟩ <;> (repeat first | with_reducible assumption | with_reducible refine Mine.drew ?_ | with_reducible refine Mine.drewN ?_ _ | ((with_reducible refine Mine.new ?_); rfl) | ((with_reducible refine Mine.newAt ?_ ?_) <;> first | rfl | (simp; done) | (simp only [World.size_alloc]; rfl)) | ((with_reducible refine Mine.set ?_ _); repeat first | exact Mine.slot (by with_reducible assumption) | with_reducible refine MineS.drew ?_ | with_reducible refine MineS.drewN ?_ _ | ((with_reducible refine MineS.new ?_); decide) | ((with_reducible refine MineS.newAt ?_ ?_) <;> first | decide | (simp; done)) | with_reducible refine MineS.set ?_ _ _ _ | with_reducible refine MineS.alloc ?_ _) | with_reducible refine Mine.other ?_ _ (by first | (left; omega) | (right; omega) | (simp; done) | (simp; omega)) | with_reducible refine Mine.alloc ?_ _)
    clear m1 m2 m3 m4 m5 m6 m7 m8
    obtain ⟨m1, m2, m3, m4, m5, m6, m7, m8⟩ := mAll
    have hBzwz := hB.size
    replace hB : Below w.heap.size w wz := by rw [hwwz]; exact (by repeat first | with_reducible exact Below.refl _ _ | with_reducible assumption | with_reducible refine below_drewN ?_ _ | with_reducible refine Below.drew ?_ | with_reducible refine Below.setCell ?_ (by first | exact Nat.le_refl _ | (simp; done) | (simp; omega) | omega) _ | with_reducible refine Below.alloc ?_ (by first | exact Nat.le_refl _ | (simp; done) | (simp; omega) | omega) _ | exact Below.refl _ _ | assumption)
    clear hwwz hBzwz
    have e1 := m7.cell
    have e2 := m8.cell
    exact bodyPost_ret (v := rv 0 0) (by simp [results, Tryd.results24, go_sem, e1, e2]) rfl ⟨by rw [hR1.out], hB⟩
  · skip
    have c1 := m1.cell
    have f1 := m1.free
    have l1 := m1.lt
    have c2 := m2.cell
    have f2 := m2.free
    have l2 := m2.lt
    have c3 := m3.cell
    have f3 := m3.free
    have l3 := m3.lt
    have c4 := m4.cell
    have f4 := m4.free
    have l4 := m4.lt
    go_wp2_with fail
    clear c1 f1 l1
    clear c2 f2 l2
    clear c3 f3 l3
    clear c4 f4 l4
    refine (v2.out _).mono ?_
    rintro e w3 ⟨rfl, hb1⟩
    replace m1 := m1.below hb1
    replace m2 := m2.below hb1
    replace m3 := m3.below hb1
    replace m4 := m4.below hb1
    replace m5 := m5.below hb1
    replace m6 := m6.below hb1
    replace m7 := m7.below hb1
    replace m8 := m8.below hb1
    replace hB := hB.trans (hb1.mono hB.size)
    have hb_w3 := hb1
    clear hb1
    cases y
    · have hR1 : R = (0, 0) := by rw [hR.out]; rfl
      clear hR
      replace hR1 := Lib.hid hR1
      have c1 := m1.cell
      have f1 := m1.free
      have l1 := m1.lt
      have c2 := m2.cell
      have f2 := m2.free
      have l2 := m2.lt
      have c3 := m3.cell
      have f3 := m3.free
      have l3 := m3.lt
      have c4 := m4.cell
      have f4 := m4.free
      have l4 := m4.lt
      have c5 := m5.cell
      have f5 := m5.free
      have l5 := m5.lt
      have c6 := m6.cell
      have f6 := m6.free
      have l6 := m6.lt
      have c7 := m7.cell
      have f7 := m7.free
      have l7 := m7.lt
      have c8 := m8.cell
      have f8 := m8.free
      have l8 := m8.lt
      go_wp2
      clear c1 f1 l1
      clear c2 f2 l2
      clear c3 f3 l3
      clear c4 f4 l4
      clear c5 f5 l5
      clear c6 f6 l6
      clear c7 f7 l7
      clear c8 f8 l8
      refine name_post ?_
      intro wz hwwz
      have mAll : Mine wz w.heap.size 0 (.int .i64 a) ∧ Mine wz w.heap.size 1 (.int .i64 b) ∧ Mine wz (w.heap.size + 1) 0 (.int .i64 c) ∧ Mine wz (w.heap.size + 1) 1 (.int .i64 d) ∧ Mine wz (w.heap.size + 1 + 1) 0 (.int .i64 g) ∧ Mine wz (w.heap.size + 1 + 1) 1 (.int .i64 h) ∧ Mine wz (w.heap.size + 1 + 1 + 1) 0 (.int .i64 0) ∧ Mine wz (w.heap.size + 1 + 1 + 1) 1 (.int .i64 0) := by
        rw [hwwz]
        refine ⟨?_, ?_, ?_, ?_, ?_, ?_, ?_, ?_⟩ <;> (repeat first | with_reducible assumption | with_reducible refine Mine.drew ?_ | with_reducible refine Mine.drewN ?_ _ | ((with_reducible refine Mine.new ?_); rfl) | ((with_reducible refine Mine.newAt ?_ ?_) <;> first | rfl | (simp; done) | (simp only [World.size_alloc]; rfl)) | ((with_reducible refine Mine.set ?_ _); repeat first | exact Mine.slot (by with_reducible assumption) | with_reducible refine MineS.drew ?_ | with_reducible refine MineS.drewN ?_ _ | ((with_reducible refine MineS.new ?_); decide) | ((with_reducible refine MineS.newAt ?_ ?_) <;> first | decide | (simp; done)) | with_reducible refine MineS.set ?_ _ _ _ | with_reducible refine MineS.alloc ?_ _) | with_reducible refine Mine.other ?_ _ (by first | (left; omega) | (right; omega) | (simp; done) | (simp; omega)) | with_reducible refine Mine.alloc ?_ _)
      clear m1 m2 m3 m4 m5 m6 m7 m8
      obtain ⟨m1, m2, m3, m4, m5, m6, m7, m8⟩ := mAll
      have hBzwz := hB.size
      replace hB : Below w.heap.size w wz := by rw [hwwz]; exact (by repeat first | with_reducible exact Below.refl _ _ | with_reducible assumption | with_reducible refine below_drewN ?_ _ | with_reducible refine Below.drew ?_ | with_reducible refine Below.setCell ?_ (by first | exact Nat.le_refl _ | (simp; done) | (simp; omega) | omega) _ | with_reducible refine Below.alloc ?_ (by first | exact Nat.le_refl _ | (simp; done) | (simp; omega) | omega) _ | exact Below.refl _ _ | assumption)
      clear hwwz hBzwz
      have e1 := m7.cell
      have e2 := m8.cell
      exact bodyPost_ret (v := rv 0 0) (by simp [results, Tryd.results24, go_sem, e1, e2]) rfl ⟨by rw [hR1.out], hB⟩
    · skip
      have c1 := m1.cell
      have f1 := m1.free
      have l1 := m1.lt
      have c2 := m2.cell
      have f2 := m2.free
      have l2 := m2.lt
      have c3 := m3.cell
      have f3 := m3.free
      have l3 := m3.lt
      have c4 := m4.cell
      have f4 := m4.free
      have l4 := m4.lt
      have c5 := m5.cell
      have f5 := m5.free
      have l5 := m5.lt
      have c6 := m6.cell
      have f6 := m6.free
      have l6 := m6.lt
      go_wp2_with fail
      clear c1 f1 l1
      clear c2 f2 l2
      clear c3 f3 l3
      clear c4 f4 l4
      clear c5 f5 l5
      clear c6 f6 l6
      refine (v3.out _).mono ?_
      rintro e w4 ⟨rfl, hb1⟩
      replace m1 := m1.below hb1
      replace m2 := m2.below hb1
      replace m3 := m3.below hb1
      replace m4 := m4.below hb1
      replace m5 := m5.below hb1
      replace m6 := m6.below hb1
      replace m7 := m7.below hb1
      replace m8 := m8.below hb1
      replace hB := hB.trans (hb1.mono hB.size)
      have hb_w4 := hb1
      clear hb1
      cases z
      · have hR1 : R = (0, 0) := by rw [hR.out]; rfl
        clear hR
        replace hR1 := Lib.hid hR1
        have c1 := m1.cell
        have f1 := m1.free
        have l1 := m1.lt
        have c2 := m2.cell
        have f2 := m2.free
        have l2 := m2.lt
        have c3 := m3.cell
        have f3 := m3.free
        have l3 := m3.lt
        have c4 := m4.cell
        have f4 := m4.free
        have l4 := m4.lt
        have c5 := m5.cell
        have f5 := m5.free
        have l5 := m5.lt
        have c6 := m6.cell
        have f6 := m6.free
        have l6 := m6.lt
        have c7 := m7.cell
        have f7 := m7.free
        have l7 := m7.lt
        have c8 := m8.cell
        have f8 := m8.free
        have l8 := m8.lt
        go_wp2
        clear c1 f1 l1
        clear c2 f2 l2
        clear c3 f3 l3
        clear c4 f4 l4
        clear c5 f5 l5
        clear c6 f6 l6
        clear c7 f7 l7
        clear c8 f8 l8
        refine name_post ?_
        intro wz hwwz
        have mAll : Mine wz w.heap.size 0 (.int .i64 a) ∧ Mine wz w.heap.size 1 (.int .i64 b) ∧ Mine wz (w.heap.size + 1) 0 (.int .i64 c) ∧ Mine wz (w.heap.size + 1) 1 (.int .i64 d) ∧ Mine wz (w.heap.size + 1 + 1) 0 (.int .i64 g) ∧ Mine wz (w.heap.size + 1 + 1) 1 (.int .i64 h) ∧ Mine wz (w.heap.size + 1 + 1 + 1) 0 (.int .i64 0) ∧ Mine wz (w.heap.size + 1 + 1 + 1) 1 (.int .i64 0) := by
          rw [hwwz]
          refine ⟨?_, ?_, ?_, ?_, ?_, ?_, ?_, ?_⟩ <;> (repeat first | with_reducible assumption | with_reducible refine Mine.drew ?_ | with_reducible refine Mine.drewN ?_ _ | ((with_reducible refine Mine.new ?_); rfl) | ((with_reducible refine Mine.newAt ?_ ?_) <;> first | rfl | (simp; done) | (simp only [World.size_alloc]; rfl)) | ((with_reducible refine Mine.set ?_ _); repeat first | exact Mine.slot (by with_reducible assumption) | with_reducible refine MineS.drew ?_ | with_reducible refine MineS.drewN ?_ _ | ((with_reducible refine MineS.new ?_); decide) | ((with_reducible refine MineS.newAt ?_ ?_) <;> first | decide | (simp; done)) | with_reducible refine MineS.set ?_ _ _ _ | with_reducible refine MineS.alloc ?_ _) | with_reducible refine Mine.other ?_ _ (by first | (left; omega) | (right; omega) | (simp; done) | (simp; omega)) | with_reducible refine Mine.alloc ?_ _)
        clear m1 m2 m3 m4 m5 m6 m7 m8
        obtain ⟨m1, m2, m3, m4, m5, m6, m7, m8⟩ := mAll
        have hBzwz := hB.size
        replace hB : Below w.heap.size w wz := by rw [hwwz]; exact (by repeat first | with_reducible exact Below.refl _ _ | with_reducible assumption | with_reducible refine below_drewN ?_ _ | with_reducible refine Below.drew ?_ | with_reducible refine Below.setCell ?_ (by first | exact Nat.le_refl _ | (simp; done) | (simp; omega) | omega) _ | with_reducible refine Below.alloc ?_ (by first | exact Nat.le_refl _ | (simp; done) | (simp; omega) | omega) _ | exact Below.refl _ _ | assumption)
        clear hwwz hBzwz
        have e1 := m7.cell
        have e2 := m8.cell
        exact bodyPost_ret (v := rv 0 0) (by simp [results, Tryd.results24, go_sem, e1, e2]) rfl ⟨by rw [hR1.out], hB⟩
      · skip
        have c1 := m1.cell
        have f1 := m1.free
        have l1 := m1.lt
        have c2 := m2.cell
        have f2 := m2.free
        have l2 := m2.lt
        have c3 := m3.cell
        have f3 := m3.free
        have l3 := m3.lt
        have c4 := m4.cell
        have f4 := m4.free
        have l4 := m4.lt
        go_wp2_with fail
        clear c1 f1 l1
        clear c2 f2 l2
        clear c3 f3 l3
        clear c4 f4 l4
        refine (cc1.out _).mono ?_
        rintro e w5 ⟨rfl, hb1⟩
        replace m1 := m1.below hb1
        replace m2 := m2.below hb1
        replace m3 := m3.below hb1
        replace m4 := m4.below hb1
        replace m5 := m5.below hb1
        replace m6 := m6.below hb1
        replace m7 := m7.below hb1
        replace m8 := m8.below hb1
        replace hB := hB.trans (hb1.mono hB.size)
        have hb_w5 := hb1
        clear hb1
        by_cases hp : p < 0
        · have hR1 : R = (c, d) := by rw [hR.out]; simp [hp]
          have hd1 : decide (p < 0) = true := by simpa using hp
          clear hR
          replace hR1 := Lib.hid hR1
          have c1 := m1.cell
          have f1 := m1.free
          have l1 := m1.lt
          have c2 := m2.cell
          have f2 := m2.free
          have l2 := m2.lt
          have c3 := m3.cell
          have f3 := m3.free
          have l3 := m3.lt
          have c4 := m4.cell
          have f4 := m4.free
          have l4 := m4.lt
          have c5 := m5.cell
          have f5 := m5.free
          have l5 := m5.lt
          have c6 := m6.cell
          have f6 := m6.free
          have l6 := m6.lt
          have c7 := m7.cell
          have f7 := m7.free
          have l7 := m7.lt
          have c8 := m8.cell
          have f8 := m8.free
          have l8 := m8.lt
          go_wp2
          clear c1 f1 l1
          clear c2 f2 l2
          clear c3 f3 l3
          clear c4 f4 l4
          clear c5 f5 l5
          clear c6 f6 l6
          clear c7 f7 l7
          clear c8 f8 l8
          refine name_post ?_
          intro wz hwwz
          have mAll : Mine wz w.heap.size 0 (.int .i64 a) ∧ Mine wz w.heap.size 1 (.int .i64 b) ∧ Mine wz (w.heap.size + 1) 0 (.int .i64 c) ∧ Mine wz (w.heap.size + 1) 1 (.int .i64 d) ∧ Mine wz (w.heap.size + 1 + 1) 0 (.int .i64 g) ∧ Mine wz (w.heap.size + 1 + 1) 1 (.int .i64 h) ∧ Mine wz (w.heap.size + 1 + 1 + 1) 0 (.int .i64 c) ∧ Mine wz (w.heap.size + 1 + 1 + 1) 1 (.int .i64 d) := by
            rw [hwwz]
            refine ⟨?_, ?_, ?_, ?_, ?_, ?_, ?_, ?_⟩ <;> (repeat first | with_reducible assumption | with_reducible refine Mine.drew ?_ | with_reducible refine Mine.drewN ?_ _ | ((with_reducible refine Mine.new ?_); rfl) | ((with_reducible refine Mine.newAt ?_ ?_) <;> first | rfl | (simp; done) | (simp only [World.size_alloc]; rfl)) | ((with_reducible refine Mine.set ?_ _); repeat first | exact Mine.slot (by with_reducible assumption) | with_reducible refine MineS.drew ?_ | with_reducible refine MineS.drewN ?_ _ | ((with_reducible refine MineS.new ?_); decide) | ((with_reducible refine MineS.newAt ?_ ?_) <;> first | decide | (simp; done)) | with_reducible refine MineS.set ?_ _ _ _ | with_reducible refine MineS.alloc ?_ _) | with_reducible refine Mine.other ?_ _ (by first | (left; omega) | (right; omega) | (simp; done) | (simp; omega)) | with_reducible refine Mine.alloc ?_ _)
          clear m1 m2 m3 m4 m5 m6 m7 m8
          obtain ⟨m1, m2, m3, m4, m5, m6, m7, m8⟩ := mAll
          have hBzwz := hB.size
          replace hB : Below w.heap.size w wz := by rw [hwwz]; exact (by repeat first | with_reducible exact Below.refl _ _ | with_reducible assumption | with_reducible refine below_drewN ?_ _ | with_reducible refine Below.drew ?_ | with_reducible refine Below.setCell ?_ (by first | exact Nat.le_refl _ | (simp; done) | (simp; omega) | omega) _ | with_reducible refine Below.alloc ?_ (by first | exact Nat.le_refl _ | (simp; done) | (simp; omega) | omega) _ | exact Below.refl _ _ | assumption)
          clear hwwz hBzwz
          have e1 := m7.cell
          have e2 := m8.cell
          exact bodyPost_ret (v := rv c d) (by simp [results, Tryd.results24, go_sem, e1, e2]) rfl ⟨by rw [hR1.out], hB⟩
        · have hd1 : decide (p < 0) = false := by simpa using hp
          replace hR : R = if 0 < q then (g, h) else (a, b) := by rw [hR.out]; simp [hp]
          replace hR := Lib.hid hR
          have c1 := m1.cell
          have f1 := m1.free
          have l1 := m1.lt
          have c2 := m2.cell
          have f2 := m2.free
          have l2 := m2.lt
          have c5 := m5.cell
          have f5 := m5.free
          have l5 := m5.lt
          have c6 := m6.cell
          have f6 := m6.free
          have l6 := m6.lt
          go_wp2_with fail
          clear c1 f1 l1
          clear c2 f2 l2
          clear c5 f5 l5
          clear c6 f6 l6
          refine (cc2.out _).mono ?_
          rintro e w6 ⟨rfl, hb1⟩
          replace m1 := m1.below hb1
          replace m2 := m2.below hb1
          replace m3 := m3.below hb1
          replace m4 := m4.below hb1
          replace m5 := m5.below hb1
          replace m6 := m6.below hb1
          replace m7 := m7.below hb1
          replace m8 := m8.below hb1
          replace hB := hB.trans (hb1.mono hB.size)
          have hb_w6 := hb1
          clear hb1
          by_cases hq : 0 < q
          · have hR1 : R = (g, h) := by rw [hR.out]; simp [hq]
            have hd2 : decide (0 < q) = true := by simpa using hq
            clear hR
            replace hR1 := Lib.hid hR1
            have c1 := m1.cell
            have f1 := m1.free
            have l1 := m1.lt
            have c2 := m2.cell
            have f2 := m2.free
            have l2 := m2.lt
            have c3 := m3.cell
            have f3 := m3.free
            have l3 := m3.lt
            have c4 := m4.cell
            have f4 := m4.free
            have l4 := m4.lt
            have c5 := m5.cell
            have f5 := m5.free
            have l5 := m5.lt
            have c6 := m6.cell
            have f6 := m6.free
            have l6 := m6.lt
            have c7 := m7.cell
            have f7 := m7.free
            have l7 := m7.lt
            have c8 := m8.cell
            have f8 := m8.free
            have l8 := m8.lt
            go_wp2
            clear c1 f1 l1
            clear c2 f2 l2
            clear c3 f3 l3
            clear c4 f4 l4
            clear c5 f5 l5
            clear c6 f6 l6
            clear c7 f7 l7
            clear c8 f8 l8
            refine name_post ?_
            intro wz hwwz
            have mAll : Mine wz w.heap.size 0 (.int .i64 a) ∧ Mine wz w.heap.size 1 (.int .i64 b) ∧ Mine wz (w.heap.size + 1) 0 (.int .i64 c) ∧ Mine wz (w.heap.size + 1) 1 (.int .i64 d) ∧ Mine wz (w.heap.size + 1 + 1) 0 (.int .i64 g) ∧ Mine wz (w.heap.size + 1 + 1) 1 (.int .i64 h) ∧ Mine wz (w.heap.size + 1 + 1 + 1) 0 (.int .i64 g) ∧ Mine wz (w.heap.size + 1 + 1 + 1) 1 (.int .i64 h) := by
              rw [hwwz]
              refine ⟨?_, ?_, ?_, ?_, ?_, ?_, ?_, ?_⟩ <;> (repeat first | with_reducible assumption | with_reducible refine Mine.drew ?_ | with_reducible refine Mine.drewN ?_ _ | ((with_reducible refine Mine.new ?_); rfl) | ((with_reducible refine Mine.newAt ?_ ?_) <;> first | rfl | (simp; done) | (simp only [World.size_alloc]; rfl)) | ((with_reducible refine Mine.set ?_ _); repeat first | exact Mine.slot (by with_reducible assumption) | with_reducible refine MineS.drew ?_ | with_reducible refine MineS.drewN ?_ _ | ((with_reducible refine MineS.new ?_); decide) | ((with_reducible refine MineS.newAt ?_ ?_) <;> first | decide | (simp; done)) | with_reducible refine MineS.set ?_ _ _ _ | with_reducible refine MineS.alloc ?_ _) | with_reducible refine Mine.other ?_ _ (by first | (left; omega) | (right; omega) | (simp; done) | (simp; omega)) | with_reducible refine Mine.alloc ?_ _)
            clear m1 m2 m3 m4 m5 m6 m7 m8
            obtain ⟨m1, m2, m3, m4, m5, m6, m7, m8⟩ := mAll
            have hBzwz := hB.size
            replace hB : Below w.heap.size w wz := by rw [hwwz]; exact (by repeat first | with_reducible exact Below.refl _ _ | with_reducible assumption | with_reducible refine below_drewN ?_ _ | with_reducible refine Below.drew ?_ | with_reducible refine Below.setCell ?_ (by first | exact Nat.le_refl _ | (simp; done) | (simp; omega) | omega) _ | with_reducible refine Below.alloc ?_ (by first | exact Nat.le_refl _ | (simp; done) | (simp; omega) | omega) _ | exact Below.refl _ _ | assumption)
            clear hwwz hBzwz
            have e1 := m7.cell
            have e2 := m8.cell
            exact bodyPost_ret (v := rv g h) (by simp [results, Tryd.results24, go_sem, e1, e2]) rfl ⟨by rw [hR1.out], hB⟩
          · have hR1 : R = (a, b) := by rw [hR.out]; simp [hq]
            have hd2 : decide (0 < q) = false := by simpa using hq
            clear hR
            replace hR1 := Lib.hid hR1
            have c1 := m1.cell
            have f1 := m1.free
            have l1 := m1.lt
            have c2 := m2.cell
            have f2 := m2.free
            have l2 := m2.lt
            have c3 := m3.cell
            have f3 := m3.free
            have l3 := m3.lt
            have c4 := m4.cell
            have f4 := m4.free
            have l4 := m4.lt
            have c5 := m5.cell
            have f5 := m5.free
            have l5 := m5.lt
            have c6 := m6.cell
            have f6 := m6.free
            have l6 := m6.lt
            have c7 := m7.cell
            have f7 := m7.free
            have l7 := m7.lt
            have c8 := m8.cell
            have f8 := m8.free
            have l8 := m8.lt
            go_wp2
            clear c1 f1 l1
            clear c2 f2 l2
            clear c3 f3 l3
            clear c4 f4 l4
            clear c5 f5 l5
            clear c6 f6 l6
            clear c7 f7 l7
            clear c8 f8 l8
            refine name_post ?_
            intro wz hwwz
            have mAll : Mine wz w.heap.size 0 (.int .i64 a) ∧ Mine wz w.heap.size 1 (.int .i64 b) ∧ Mine wz (w.heap.size + 1) 0 (.int .i64 c) ∧ Mine wz (w.heap.size + 1) 1 (.int .i64 d) ∧ Mine wz (w.heap.size + 1 + 1) 0 (.int .i64 g) ∧ Mine wz (w.heap.size + 1 + 1) 1 (.int .i64 h) ∧ Mine wz (w.heap.size + 1 + 1 + 1) 0 (.int .i64 a) ∧ Mine wz (w.heap.size + 1 + 1 + 1) 1 (.int .i64 b) := by
              rw [hwwz]
              refine ⟨?_, ?_, ?_, ?_, ?_, ?_, ?_, ?_⟩ <;> (repeat first | with_reducible assumption | with_reducible refine Mine.drew ?_ | with_reducible refine Mine.drewN ?_ _ | ((with_reducible refine Mine.new ?_); rfl) | ((with_reducible refine Mine.newAt ?_ ?_) <;> first | rfl | (simp; done) | (simp only [World.size_alloc]; rfl)) | ((with_reducible refine Mine.set ?_ _); repeat first | exact Mine.slot (by with_reducible assumption) | with_reducible refine MineS.drew ?_ | with_reducible refine MineS.drewN ?_ _ | ((with_reducible refine MineS.new ?_); decide) | ((with_reducible refine MineS.newAt ?_ ?_) <;> first | decide | (simp; done)) | with_reducible refine MineS.set ?_ _ _ _ | with_reducible refine MineS.alloc ?_ _) | with_reducible refine Mine.other ?_ _ (by first | (left; omega) | (right; omega) | (simp; done) | (simp; omega)) | with_reducible refine Mine.alloc ?_ _)
            clear m1 m2 m3 m4 m5 m6 m7 m8
            obtain ⟨m1, m2, m3, m4, m5, m6, m7, m8⟩ := mAll
            have hBzwz := hB.size
            replace hB : Below w.heap.size w wz := by rw [hwwz]; exact (by repeat first | with_reducible exact Below.refl _ _ | with_reducible assumption | with_reducible refine below_drewN ?_ _ | with_reducible refine Below.drew ?_ | with_reducible refine Below.setCell ?_ (by first | exact Nat.le_refl _ | (simp; done) | (simp; omega) | omega) _ | with_reducible refine Below.alloc ?_ (by first | exact Nat.le_refl _ | (simp; done) | (simp; omega) | omega) _ | exact Below.refl _ _ | assumption)
            clear hwwz hBzwz
            have e1 := m7.cell
            have e2 := m8.cell
            exact bodyPost_ret (v := rv a b) (by simp [results, Tryd.results24, go_sem, e1, e2]) rfl ⟨by rw [hR1.out], hB⟩
end Go.Proofs.YtfojgdlegojdgaaDoor
