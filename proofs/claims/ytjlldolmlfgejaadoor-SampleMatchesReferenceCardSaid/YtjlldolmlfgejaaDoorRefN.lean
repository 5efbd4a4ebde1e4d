/-
  The references Needed and Bound of layer 16.
-/
import Derived.Test.YtjlldolmlfgejaaDoorRef16
import Derived.Test.YtjlldolmlfgejaaDoorRef03
import Derived.Test.YtjlldolmlfgejaaDoorMath2
namespace Go.Proofs.YtjlldolmlfgejaaDoor
open Go.RowKit

set_option maxRecDepth 100000 in
set_option maxHeartbeats 1000000 in
theorem refNeeded_bad (n x p q : Int) (w : World) (ip : I64 p) (iq : I64 q) (h : (pop n [x] && lvl p q) = false) :
    Calls Tryd.prog 17 #[.int .i64 n, .int .i64 x, rv p q] w fun e w' => e = .returned (.tuple #[.int .i64 0, .int .i64 160]) ∧ Below w.heap.size w w' := by
  have hB : Below w.heap.size w w := Below.refl _ _
  rw [pop_wtn1] at h
  have v1 := fun w => Level_any p q w ip iq
  have a1 := within_any n 1 24
  have a2 := within_any x 0 n
  cases g0 : lvl p q with
  | false =>
    simp only [g0] at v1
    replace v1 := Lib.hid v1
    clear h a1 a2
    go_enter Tryd.func17, Tryd.ntmps17
    go_wp2_with fail
    refine name_calls ?_
    intro w1 hww1
    replace m1 : Mine w1 w.heap.size 0 (.int .i64 p) := by rw [hww1]; (repeat first | with_reducible assumption | with_reducible refine Mine.drew ?_ | with_reducible refine Mine.drewN ?_ _ | ((with_reducible refine Mine.new ?_); rfl) | ((with_reducible refine Mine.newAt ?_ ?_) <;> first | rfl | (simp; done) | (simp only [World.size_alloc]; rfl)) | ((with_reducible refine Mine.set ?_ _); repeat first | exact Mine.slot (by with_reducible assumption) | with_reducible refine MineS.drew ?_ | with_reducible refine MineS.drewN ?_ _ | exact MineS.new (by decide) | exact MineS.newAt (by decide) (by simp) | with_reducible refine MineS.set ?_ _ _ _ | with_reducible refine MineS.alloc ?_ _) | with_reducible refine Mine.other ?_ _ (by first | (left; omega) | (right; omega) | (simp; done) | (simp; omega)) | with_reducible refine Mine.alloc ?_ _)
    replace m2 : Mine w1 w.heap.size 1 (.int .i64 q) := by rw [hww1]; (repeat first | with_reducible assumption | with_reducible refine Mine.drew ?_ | with_reducible refine Mine.drewN ?_ _ | ((with_reducible refine Mine.new ?_); rfl) | ((with_reducible refine Mine.newAt ?_ ?_) <;> first | rfl | (simp; done) | (simp only [World.size_alloc]; rfl)) | ((with_reducible refine Mine.set ?_ _); repeat first | exact Mine.slot (by with_reducible assumption) | with_reducible refine MineS.drew ?_ | with_reducible refine MineS.drewN ?_ _ | exact MineS.new (by decide) | exact MineS.newAt (by decide) (by simp) | with_reducible refine MineS.set ?_ _ _ _ | with_reducible refine MineS.alloc ?_ _) | with_reducible refine Mine.other ?_ _ (by first | (left; omega) | (right; omega) | (simp; done) | (simp; omega)) | with_reducible refine Mine.alloc ?_ _)
    have hBzw1 := hB.size
    replace hB : Below w.heap.size w w1 := by rw [hww1]; exact (by repeat first | exact Below.refl _ _ | assumption | refine below_drewN ?_ _ | refine Below.drew ?_ | refine Below.setCell ?_ (by first | exact Nat.le_refl _ | (simp; done) | (simp; omega) | omega) _ | refine Below.alloc ?_ (by first | exact Nat.le_refl _ | (simp; done) | (simp; omega) | omega) _)
    clear hww1 hBzw1
    refine (v1.out _).mono ?_
    rintro e w2 ⟨rfl, hb1⟩
    replace m1 := m1.below hb1
    replace m2 := m2.below hb1
    replace hB := hB.trans (hb1.mono hB.size)
    have hb_w2 := hb1
    clear hb1
    go_wp2
    exact bodyPost_ret (v := .tuple #[.int .i64 0, .int .i64 160]) (by simp [results, Tryd.results17, go_sem]) rfl ⟨rfl, hB⟩
  | true =>
    simp only [g0] at v1
    rw [g0] at h
    replace v1 := Lib.hid v1
    cases g1 : wtn n 1 24 with
    | false =>
      rw [g1] at a1
      replace a1 := Lib.hid a1
      clear h a2
      go_enter Tryd.func17, Tryd.ntmps17
      go_wp2_with fail
      refine name_calls ?_
      intro w1 hww1
      replace m1 : Mine w1 w.heap.size 0 (.int .i64 p) := by rw [hww1]; (repeat first | with_reducible assumption | with_reducible refine Mine.drew ?_ | with_reducible refine Mine.drewN ?_ _ | ((with_reducible refine Mine.new ?_); rfl) | ((with_reducible refine Mine.newAt ?_ ?_) <;> first | rfl | (simp; done) | (simp only [World.size_alloc]; rfl)) | ((with_reducible refine Mine.set ?_ _); repeat first | exact Mine.slot (by with_reducible assumption) | with_reducible refine MineS.drew ?_ | with_reducible refine MineS.drewN ?_ _ | exact MineS.new (by decide) | exact MineS.newAt (by decide) (by simp) | with_reducible refine MineS.set ?_ _ _ _ | with_reducible refine MineS.alloc ?_ _) | with_reducible refine Mine.other ?_ _ (by first | (left; omega) | (right; omega) | (simp; done) | (simp; omega)) | with_reducible refine Mine.alloc ?_ _)
      replace m2 : Mine w1 w.heap.size 1 (.int .i64 q) := by rw [hww1]; (repeat first | with_reducible assumption | with_reducible refine Mine.drew ?_ | with_reducible refine Mine.drewN ?_ _ | ((with_reducible refine Mine.new ?_); rfl) | ((with_reducible refine Mine.newAt ?_ ?_) <;> first | rfl | (simp; done) | (simp only [World.size_alloc]; rfl)) | ((with_reducible refine Mine.set ?_ _); repeat first | exact Mine.slot (by with_reducible assumption) | with_reducible refine MineS.drew ?_ | with_reducible refine MineS.drewN ?_ _ | exact MineS.new (by decide) | exact MineS.newAt (by decide) (by simp) | with_reducible refine MineS.set ?_ _ _ _ | with_reducible refine MineS.alloc ?_ _) | with_reducible refine Mine.other ?_ _ (by first | (left; omega) | (right; omega) | (simp; done) | (simp; omega)) | with_reducible refine Mine.alloc ?_ _)
      have hBzw1 := hB.size
      replace hB : Below w.heap.size w w1 := by rw [hww1]; exact (by repeat first | exact Below.refl _ _ | assumption | refine below_drewN ?_ _ | refine Below.drew ?_ | refine Below.setCell ?_ (by first | exact Nat.le_refl _ | (simp; done) | (simp; omega) | omega) _ | refine Below.alloc ?_ (by first | exact Nat.le_refl _ | (simp; done) | (simp; omega) | omega) _)
      clear hww1 hBzw1
      refine (v1.out _).mono ?_
      rintro e w2 ⟨rfl, hb1⟩
      replace m1 := m1.below hb1
      replace m2 := m2.below hb1
      replace hB := hB.trans (hb1.mono hB.size)
      have hb_w2 := hb1
      clear hb1
      go_wp2_with fail
      refine (a1.out _).mono ?_; rintro e w1 ⟨rfl, rfl⟩
      go_wp2
      exact bodyPost_ret (v := .tuple #[.int .i64 0, .int .i64 160]) (by simp [results, Tryd.results17, go_sem]) rfl ⟨rfl, hB⟩
    | true =>
      rw [g1] at a1 h
      replace a1 := Lib.hid a1
      have g2 : wtn x 0 n = false := by simpa using h
      rw [g2] at a2
      replace a2 := Lib.hid a2
      clear h
      go_enter Tryd.func17, Tryd.ntmps17
      go_wp2_with fail
      refine name_calls ?_
      intro w1 hww1
      replace m1 : Mine w1 w.heap.size 0 (.int .i64 p) := by rw [hww1]; (repeat first | with_reducible assumption | with_reducible refine Mine.drew ?_ | with_reducible refine Mine.drewN ?_ _ | ((with_reducible refine Mine.new ?_); rfl) | ((with_reducible refine Mine.newAt ?_ ?_) <;> first | rfl | (simp; done) | (simp only [World.size_alloc]; rfl)) | ((with_reducible refine Mine.set ?_ _); repeat first | exact Mine.slot (by with_reducible assumption) | with_reducible refine MineS.drew ?_ | with_reducible refine MineS.drewN ?_ _ | exact MineS.new (by decide) | exact MineS.newAt (by decide) (by simp) | with_reducible refine MineS.set ?_ _ _ _ | with_reducible refine MineS.alloc ?_ _) | with_reducible refine Mine.other ?_ _ (by first | (left; omega) | (right; omega) | (simp; done) | (simp; omega)) | with_reducible refine Mine.alloc ?_ _)
      replace m2 : Mine w1 w.heap.size 1 (.int .i64 q) := by rw [hww1]; (repeat first | with_reducible assumption | with_reducible refine Mine.drew ?_ | with_reducible refine Mine.drewN ?_ _ | ((with_reducible refine Mine.new ?_); rfl) | ((with_reducible refine Mine.newAt ?_ ?_) <;> first | rfl | (simp; done) | (simp only [World.size_alloc]; rfl)) | ((with_reducible refine Mine.set ?_ _); repeat first | exact Mine.slot (by with_reducible assumption) | with_reducible refine MineS.drew ?_ | with_reducible refine MineS.drewN ?_ _ | exact MineS.new (by decide) | exact MineS.newAt (by decide) (by simp) | with_reducible refine MineS.set ?_ _ _ _ | with_reducible refine MineS.alloc ?_ _) | with_reducible refine Mine.other ?_ _ (by first | (left; omega) | (right; omega) | (simp; done) | (simp; omega)) | with_reducible refine Mine.alloc ?_ _)
      have hBzw1 := hB.size
      replace hB : Below w.heap.size w w1 := by rw [hww1]; exact (by repeat first | exact Below.refl _ _ | assumption | refine below_drewN ?_ _ | refine Below.drew ?_ | refine Below.setCell ?_ (by first | exact Nat.le_refl _ | (simp; done) | (simp; omega) | omega) _ | refine Below.alloc ?_ (by first | exact Nat.le_refl _ | (simp; done) | (simp; omega) | omega) _)
      clear hww1 hBzw1
      refine (v1.out _).mono ?_
      rintro e w2 ⟨rfl, hb1⟩
      replace m1 := m1.below hb1
      replace m2 := m2.below hb1
      replace hB := hB.trans (hb1.mono hB.size)
      have hb_w2 := hb1
      clear hb1
      go_wp2_with fail
      refine (a1.out _).mono ?_; rintro e w1 ⟨rfl, rfl⟩
      go_wp2_with fail
      refine (a2.out _).mono ?_; rintro e w1 ⟨rfl, rfl⟩
      go_wp2
      exact bodyPost_ret (v := .tuple #[.int .i64 0, .int .i64 160]) (by simp [results, Tryd.results17, go_sem]) rfl ⟨rfl, hB⟩

set_option maxRecDepth 100000 in
set_option maxHeartbeats 1000000 in
theorem refBound_bad (n x p q : Int) (w : World) (ip : I64 p) (iq : I64 q) (h : (pop n [x] && lvl p q && !(p == 0)) = false) :
    Calls Tryd.prog 19 #[.int .i64 n, .int .i64 x, rv p q] w fun e w' => e = .returned (.tuple #[.int .i64 0, .int .i64 160]) ∧ Below w.heap.size w w' := by
  have hB : Below w.heap.size w w := Below.refl _ _
  rw [pop_wtn1] at h
  have v1 := fun w => Level_any p q w ip iq
  have a1 := within_any n 1 24
  have a2 := within_any x 0 n
  cases g0 : lvl p q with
  | false =>
    simp only [g0] at v1
    replace v1 := Lib.hid v1
    clear h a1 a2
    go_enter Tryd.func19, Tryd.ntmps19
    go_wp2_with fail
    refine name_calls ?_
    intro w1 hww1
    replace m1 : Mine w1 w.heap.size 0 (.int .i64 p) := by rw [hww1]; (repeat first | with_reducible assumption | with_reducible refine Mine.drew ?_ | with_reducible refine Mine.drewN ?_ _ | ((with_reducible refine Mine.new ?_); rfl) | ((with_reducible refine Mine.newAt ?_ ?_) <;> first | rfl | (simp; done) | (simp only [World.size_alloc]; rfl)) | ((with_reducible refine Mine.set ?_ _); repeat first | exact Mine.slot (by with_reducible assumption) | with_reducible refine MineS.drew ?_ | with_reducible refine MineS.drewN ?_ _ | exact MineS.new (by decide) | exact MineS.newAt (by decide) (by simp) | with_reducible refine MineS.set ?_ _ _ _ | with_reducible refine MineS.alloc ?_ _) | with_reducible refine Mine.other ?_ _ (by first | (left; omega) | (right; omega) | (simp; done) | (simp; omega)) | with_reducible refine Mine.alloc ?_ _)
    replace m2 : Mine w1 w.heap.size 1 (.int .i64 q) := by rw [hww1]; (repeat first | with_reducible assumption | with_reducible refine Mine.drew ?_ | with_reducible refine Mine.drewN ?_ _ | ((with_reducible refine Mine.new ?_); rfl) | ((with_reducible refine Mine.newAt ?_ ?_) <;> first | rfl | (simp; done) | (simp only [World.size_alloc]; rfl)) | ((with_reducible refine Mine.set ?_ _); repeat first | exact Mine.slot (by with_reducible assumption) | with_reducible refine MineS.drew ?_ | with_reducible refine MineS.drewN ?_ _ | exact MineS.new (by decide) | exact MineS.newAt (by decide) (by simp) | with_reducible refine MineS.set ?_ _ _ _ | with_reducible refine MineS.alloc ?_ _) | with_reducible refine Mine.other ?_ _ (by first | (left; omega) | (right; omega) | (simp; done) | (simp; omega)) | with_reducible refine Mine.alloc ?_ _)
    have hBzw1 := hB.size
    replace hB : Below w.heap.size w w1 := by rw [hww1]; exact (by repeat first | exact Below.refl _ _ | assumption | refine below_drewN ?_ _ | refine Below.drew ?_ | refine Below.setCell ?_ (by first | exact Nat.le_refl _ | (simp; done) | (simp; omega) | omega) _ | refine Below.alloc ?_ (by first | exact Nat.le_refl _ | (simp; done) | (simp; omega) | omega) _)
    clear hww1 hBzw1
    refine (v1.out _).mono ?_
    rintro e w2 ⟨rfl, hb1⟩
    replace m1 := m1.below hb1
    replace m2 := m2.below hb1
    replace hB := hB.trans (hb1.mono hB.size)
    have hb_w2 := hb1
    clear hb1
    go_wp2
    exact bodyPost_ret (v := .tuple #[.int .i64 0, .int .i64 160]) (by simp [results, Tryd.results19, go_sem]) rfl ⟨rfl, hB⟩
  | true =>
    simp only [g0] at v1
    rw [g0] at h
    by_cases g9 : 0 < p
    · have e9 : decide (0 < p) = true := by simpa using g9
      have e8 : (p == 0) = false := by simp; omega
      rw [e8] at h
      simp only [e9] at v1
      replace v1 := Lib.hid v1
      cases g1 : wtn n 1 24 with
      | false =>
        rw [g1] at a1
        replace a1 := Lib.hid a1
        clear h a2
        go_enter Tryd.func19, Tryd.ntmps19
        go_wp2_with fail
        refine name_calls ?_
        intro w1 hww1
        replace m1 : Mine w1 w.heap.size 0 (.int .i64 p) := by rw [hww1]; (repeat first | with_reducible assumption | with_reducible refine Mine.drew ?_ | with_reducible refine Mine.drewN ?_ _ | ((with_reducible refine Mine.new ?_); rfl) | ((with_reducible refine Mine.newAt ?_ ?_) <;> first | rfl | (simp; done) | (simp only [World.size_alloc]; rfl)) | ((with_reducible refine Mine.set ?_ _); repeat first | exact Mine.slot (by with_reducible assumption) | with_reducible refine MineS.drew ?_ | with_reducible refine MineS.drewN ?_ _ | exact MineS.new (by decide) | exact MineS.newAt (by decide) (by simp) | with_reducible refine MineS.set ?_ _ _ _ | with_reducible refine MineS.alloc ?_ _) | with_reducible refine Mine.other ?_ _ (by first | (left; omega) | (right; omega) | (simp; done) | (simp; omega)) | with_reducible refine Mine.alloc ?_ _)
        replace m2 : Mine w1 w.heap.size 1 (.int .i64 q) := by rw [hww1]; (repeat first | with_reducible assumption | with_reducible refine Mine.drew ?_ | with_reducible refine Mine.drewN ?_ _ | ((with_reducible refine Mine.new ?_); rfl) | ((with_reducible refine Mine.newAt ?_ ?_) <;> first | rfl | (simp; done) | (simp only [World.size_alloc]; rfl)) | ((with_reducible refine Mine.set ?_ _); repeat first | exact Mine.slot (by with_reducible assumption) | with_reducible refine MineS.drew ?_ | with_reducible refine MineS.drewN ?_ _ | exact MineS.new (by decide) | exact MineS.newAt (by decide) (by simp) | with_reducible refine MineS.set ?_ _ _ _ | with_reducible refine MineS.alloc ?_ _) | with_reducible refine Mine.other ?_ _ (by first | (left; omega) | (right; omega) | (simp; done) | (simp; omega)) | with_reducible refine Mine.alloc ?_ _)
        have hBzw1 := hB.size
        replace hB : Below w.heap.size w w1 := by rw [hww1]; exact (by repeat first | exact Below.refl _ _ | assumption | refine below_drewN ?_ _ | refine Below.drew ?_ | refine Below.setCell ?_ (by first | exact Nat.le_refl _ | (simp; done) | (simp; omega) | omega) _ | refine Below.alloc ?_ (by first | exact Nat.le_refl _ | (simp; done) | (simp; omega) | omega) _)
        clear hww1 hBzw1
        refine (v1.out _).mono ?_
        rintro e w2 ⟨rfl, hb1⟩
        replace m1 := m1.below hb1
        replace m2 := m2.below hb1
        replace hB := hB.trans (hb1.mono hB.size)
        have hb_w2 := hb1
        clear hb1
        go_wp2_with fail
        refine (a1.out _).mono ?_; rintro e w1 ⟨rfl, rfl⟩
        go_wp2
        exact bodyPost_ret (v := .tuple #[.int .i64 0, .int .i64 160]) (by simp [results, Tryd.results19, go_sem]) rfl ⟨rfl, hB⟩
      | true =>
        rw [g1] at a1 h
        replace a1 := Lib.hid a1
        have g2 : wtn x 0 n = false := by simpa using h
        rw [g2] at a2
        replace a2 := Lib.hid a2
        clear h
        go_enter Tryd.func19, Tryd.ntmps19
        go_wp2_with fail
        refine name_calls ?_
        intro w1 hww1
        replace m1 : Mine w1 w.heap.size 0 (.int .i64 p) := by rw [hww1]; (repeat first | with_reducible assumption | with_reducible refine Mine.drew ?_ | with_reducible refine Mine.drewN ?_ _ | ((with_reducible refine Mine.new ?_); rfl) | ((with_reducible refine Mine.newAt ?_ ?_) <;> first | rfl | (simp; done) | (simp only [World.size_alloc]; rfl)) | ((with_reducible refine Mine.set ?_ _); repeat first | exact Mine.slot (by with_reducible assumption) | with_reducible refine MineS.drew ?_ | with_reducible refine MineS.drewN ?_ _ | exact MineS.new (by decide) | exact MineS.newAt (by decide) (by simp) | with_reducible refine MineS.set ?_ _ _ _ | with_reducible refine MineS.alloc ?_ _) | with_reducible refine Mine.other ?_ _ (by first | (left; omega) | (right; omega) | (simp; done) | (simp; omega)) | with_reducible refine Mine.alloc ?_ _)
        replace m2 : Mine w1 w.heap.size 1 (.int .i64 q) := by rw [hww1]; (repeat first | with_reducible assumption | with_reducible refine Mine.drew ?_ | with_reducible refine Mine.drewN ?_ _ | ((with_reducible refine Mine.new ?_); rfl) | ((with_reducible refine Mine.newAt ?_ ?_) <;> first | rfl | (simp; done) | (simp only [World.size_alloc]; rfl)) | ((with_reducible refine Mine.set ?_ _); repeat first | exact Mine.slot (by with_reducible assumption) | with_reducible refine MineS.drew ?_ | with_reducible refine MineS.drewN ?_ _ | exact MineS.new (by decide) | exact MineS.newAt (by decide) (by simp) | with_reducible refine MineS.set ?_ _ _ _ | with_reducible refine MineS.alloc ?_ _) | with_reducible refine Mine.other ?_ _ (by first | (left; omega) | (right; omega) | (simp; done) | (simp; omega)) | with_reducible refine Mine.alloc ?_ _)
        have hBzw1 := hB.size
        replace hB : Below w.heap.size w w1 := by rw [hww1]; exact (by repeat first | exact Below.refl _ _ | assumption | refine below_drewN ?_ _ | refine Below.drew ?_ | refine Below.setCell ?_ (by first | exact Nat.le_refl _ | (simp; done) | (simp; omega) | omega) _ | refine Below.alloc ?_ (by first | exact Nat.le_refl _ | (simp; done) | (simp; omega) | omega) _)
        clear hww1 hBzw1
        refine (v1.out _).mono ?_
        rintro e w2 ⟨rfl, hb1⟩
        replace m1 := m1.below hb1
        replace m2 := m2.below hb1
        replace hB := hB.trans (hb1.mono hB.size)
        have hb_w2 := hb1
        clear hb1
        go_wp2_with fail
        refine (a1.out _).mono ?_; rintro e w1 ⟨rfl, rfl⟩
        go_wp2_with fail
        refine (a2.out _).mono ?_; rintro e w1 ⟨rfl, rfl⟩
        go_wp2
        exact bodyPost_ret (v := .tuple #[.int .i64 0, .int .i64 160]) (by simp [results, Tryd.results19, go_sem]) rfl ⟨rfl, hB⟩
    · have e9 : decide (0 < p) = false := by simpa using g9
      simp only [e9] at v1
      replace v1 := Lib.hid v1
      clear h a1 a2
      go_enter Tryd.func19, Tryd.ntmps19
      go_wp2_with fail
      refine name_calls ?_
      intro w1 hww1
      replace m1 : Mine w1 w.heap.size 0 (.int .i64 p) := by rw [hww1]; (repeat first | with_reducible assumption | with_reducible refine Mine.drew ?_ | with_reducible refine Mine.drewN ?_ _ | ((with_reducible refine Mine.new ?_); rfl) | ((with_reducible refine Mine.newAt ?_ ?_) <;> first | rfl | (simp; done) | (simp only [World.size_alloc]; rfl)) | ((with_reducible refine Mine.set ?_ _); repeat first | exact Mine.slot (by with_reducible assumption) | with_reducible refine MineS.drew ?_ | with_reducible refine MineS.drewN ?_ _ | exact MineS.new (by decide) | exact MineS.newAt (by decide) (by simp) | with_reducible refine MineS.set ?_ _ _ _ | with_reducible refine MineS.alloc ?_ _) | with_reducible refine Mine.other ?_ _ (by first | (left; omega) | (right; omega) | (simp; done) | (simp; omega)) | with_reducible refine Mine.alloc ?_ _)
      replace m2 : Mine w1 w.heap.size 1 (.int .i64 q) := by rw [hww1]; (repeat first | with_reducible assumption | with_reducible refine Mine.drew ?_ | with_reducible refine Mine.drewN ?_ _ | ((with_reducible refine Mine.new ?_); rfl) | ((with_reducible refine Mine.newAt ?_ ?_) <;> first | rfl | (simp; done) | (simp only [World.size_alloc]; rfl)) | ((with_reducible refine Mine.set ?_ _); repeat first | exact Mine.slot (by with_reducible assumption) | with_reducible refine MineS.drew ?_ | with_reducible refine MineS.drewN ?_ _ | exact MineS.new (by decide) | exact MineS.newAt (by decide) (by simp) | with_reducible refine MineS.set ?_ _ _ _ | with_reducible refine MineS.alloc ?_ _) | with_reducible refine Mine.other ?_ _ (by first | (left; omega) | (right; omega) | (simp; done) | (simp; omega)) | with_reducible refine Mine.alloc ?_ _)
      have hBzw1 := hB.size
      replace hB : Below w.heap.size w w1 := by rw [hww1]; exact (by repeat first | exact Below.refl _ _ | assumption | refine below_drewN ?_ _ | refine Below.drew ?_ | refine Below.setCell ?_ (by first | exact Nat.le_refl _ | (simp; done) | (simp; omega) | omega) _ | refine Below.alloc ?_ (by first | exact Nat.le_refl _ | (simp; done) | (simp; omega) | omega) _)
      clear hww1 hBzw1
      refine (v1.out _).mono ?_
      rintro e w2 ⟨rfl, hb1⟩
      replace m1 := m1.below hb1
      replace m2 := m2.below hb1
      replace hB := hB.trans (hb1.mono hB.size)
      have hb_w2 := hb1
      clear hb1
      go_wp2
      exact bodyPost_ret (v := .tuple #[.int .i64 0, .int .i64 160]) (by simp [results, Tryd.results19, go_sem]) rfl ⟨rfl, hB⟩

set_option maxRecDepth 100000 in
set_option maxHeartbeats 1000000 in
theorem refNeeded_ok (n bad : Nat) (p q : Int) (w : World) (hn1 : 1 ≤ n) (hn : n ≤ 24) (hb : bad ≤ n) (hl : lvl p q = true) :
    Calls Tryd.prog 17 #[.int .i64 n, .int .i64 bad, rv p q] w fun e w' => e = .returned (.tuple #[.int .i64 (needv n bad p q).1, .int .i64 (needv n bad p q).2]) ∧ Below w.heap.size w w' := by
  have hB : Below w.heap.size w w := Below.refl _ _
  have hvp := (lvl_vld hl).1
  have ip : I64 p := I64.of_num hvp
  have iq : I64 q := I64.of_den hvp
  have v1 := fun w => Level_any p q w ip iq
  simp only [hl] at v1
  have a1 := within_any n 1 24
  have a2 := within_any bad 0 n
  rw [show wtn n 1 24 = true from by simp [wtn]; omega] at a1
  rw [show wtn bad 0 n = true from by simp [wtn]; omega] at a2
  have hpop : pop (n : Int) [(bad : Int)] = true := by rw [pop_wtn1]; simp [wtn]; omega
  have hnv : needv n bad p q = match firstv (fun k => hit n bad k p q) n with
    | some k => ((k : Int), 0)
    | none => (0, 160) := by simp [needv, hpop, hl]; rfl
  replace hnv := Lib.hid hnv
  generalize needv n bad p q = R at *
  replace v1 := Lib.hid v1
  replace a1 := Lib.hid a1
  replace a2 := Lib.hid a2
  clear hpop hvp
  go_enter Tryd.func17, Tryd.ntmps17
  go_wp2_with fail
  refine name_calls ?_
  intro w1 hww1
  replace m1 : Mine w1 w.heap.size 0 (.int .i64 p) := by rw [hww1]; (repeat first | with_reducible assumption | with_reducible refine Mine.drew ?_ | with_reducible refine Mine.drewN ?_ _ | ((with_reducible refine Mine.new ?_); rfl) | ((with_reducible refine Mine.newAt ?_ ?_) <;> first | rfl | (simp; done) | (simp only [World.size_alloc]; rfl)) | ((with_reducible refine Mine.set ?_ _); repeat first | exact Mine.slot (by with_reducible assumption) | with_reducible refine MineS.drew ?_ | with_reducible refine MineS.drewN ?_ _ | exact MineS.new (by decide) | exact MineS.newAt (by decide) (by simp) | with_reducible refine MineS.set ?_ _ _ _ | with_reducible refine MineS.alloc ?_ _) | with_reducible refine Mine.other ?_ _ (by first | (left; omega) | (right; omega) | (simp; done) | (simp; omega)) | with_reducible refine Mine.alloc ?_ _)
  replace m2 : Mine w1 w.heap.size 1 (.int .i64 q) := by rw [hww1]; (repeat first | with_reducible assumption | with_reducible refine Mine.drew ?_ | with_reducible refine Mine.drewN ?_ _ | ((with_reducible refine Mine.new ?_); rfl) | ((with_reducible refine Mine.newAt ?_ ?_) <;> first | rfl | (simp; done) | (simp only [World.size_alloc]; rfl)) | ((with_reducible refine Mine.set ?_ _); repeat first | exact Mine.slot (by with_reducible assumption) | with_reducible refine MineS.drew ?_ | with_reducible refine MineS.drewN ?_ _ | exact MineS.new (by decide) | exact MineS.newAt (by decide) (by simp) | with_reducible refine MineS.set ?_ _ _ _ | with_reducible refine MineS.alloc ?_ _) | with_reducible refine Mine.other ?_ _ (by first | (left; omega) | (right; omega) | (simp; done) | (simp; omega)) | with_reducible refine Mine.alloc ?_ _)
  have hBzw1 := hB.size
  replace hB : Below w.heap.size w w1 := by rw [hww1]; exact (by repeat first | exact Below.refl _ _ | assumption | refine below_drewN ?_ _ | refine Below.drew ?_ | refine Below.setCell ?_ (by first | exact Nat.le_refl _ | (simp; done) | (simp; omega) | omega) _ | refine Below.alloc ?_ (by first | exact Nat.le_refl _ | (simp; done) | (simp; omega) | omega) _)
  clear hww1 hBzw1
  refine (v1.out _).mono ?_
  rintro e w2 ⟨rfl, hb1⟩
  replace m1 := m1.below hb1
  replace m2 := m2.below hb1
  replace hB := hB.trans (hb1.mono hB.size)
  have hb_w2 := hb1
  clear hb1
  go_wp2_with fail
  refine (a1.out _).mono ?_; rintro e w3 ⟨rfl, rfl⟩
  go_wp2_with fail
  refine (a2.out _).mono ?_; rintro e w3 ⟨rfl, rfl⟩
  go_wp2_with fail
  go_loopw [10] (fun v wr => ∃ k : Nat, k ≤ n + 1 ∧ v = .int .i64 k ∧ Hid (∀ y, y < k → hit n bad y p q = false) ∧ Below w.heap.size w wr ∧ Mine wr w.heap.size 0 (.int .i64 p) ∧ Mine wr w.heap.size 1 (.int .i64 q)) (fun v _ => n + 1 - (intOf v).toNat)
  case atStart => exact ⟨0, by omega, rfl, fun y hy => by omega, hB, m1, m2⟩
  case round =>
    clear hB m1 m2
    obtain ⟨k, hk, rfl, hno, hB, m1, m2⟩ := hrel
    by_cases hlt : k ≤ n
    · have hd : decide ((k : Int) ≤ (n : Int)) = true := by simpa using hlt
      have hD := fun w => refDetect_ok n bad k w hn1 hn hb hlt
      have hvD := det_vld hn hb hlt
      have iz : I64 (det n bad k).1 := I64.of_num hvD
      have iw : I64 (det n bad k).2.1 := I64.of_den hvD
      have hC := fun w => refCompare_any (det n bad k).1 (det n bad k).2.1 p q w iz iw ip iq
      have hh : Hid (hit n bad k p q = decide (0 ≤ cmpr (det n bad k).1 (det n bad k).2.1 p q)) := by show _ = _; rfl
      clear hvD iz iw
      generalize det n bad k = D at *
      generalize cmpr D.1 D.2.1 p q = c at *
      replace hD := Lib.hid hD
      replace hC := Lib.hid hC
      go_wp2_with fail
      refine (hD.out _).mono ?_
      rintro e w4 ⟨rfl, hb1⟩
      replace m1 := m1.below hb1
      replace m2 := m2.below hb1
      replace hB := hB.trans (hb1.mono hB.size)
      have hb_w4 := hb1
      clear hb1
      have c1 := m1.cell
      have f1 := m1.free
      have l1 := m1.lt
      have c2 := m2.cell
      have f2 := m2.free
      have l2 := m2.lt
      go_wp2_with fail
      clear c1 f1 l1
      clear c2 f2 l2
      refine name_calls ?_
      intro w5 hww5
      replace m1 : Mine w5 w.heap.size 0 (.int .i64 p) := by rw [hww5]; (repeat first | with_reducible assumption | with_reducible refine Mine.drew ?_ | with_reducible refine Mine.drewN ?_ _ | ((with_reducible refine Mine.new ?_); rfl) | ((with_reducible refine Mine.newAt ?_ ?_) <;> first | rfl | (simp; done) | (simp only [World.size_alloc]; rfl)) | ((with_reducible refine Mine.set ?_ _); repeat first | exact Mine.slot (by with_reducible assumption) | with_reducible refine MineS.drew ?_ | with_reducible refine MineS.drewN ?_ _ | exact MineS.new (by decide) | exact MineS.newAt (by decide) (by simp) | with_reducible refine MineS.set ?_ _ _ _ | with_reducible refine MineS.alloc ?_ _) | with_reducible refine Mine.other ?_ _ (by first | (left; omega) | (right; omega) | (simp; done) | (simp; omega)) | with_reducible refine Mine.alloc ?_ _)
      replace m2 : Mine w5 w.heap.size 1 (.int .i64 q) := by rw [hww5]; (repeat first | with_reducible assumption | with_reducible refine Mine.drew ?_ | with_reducible refine Mine.drewN ?_ _ | ((with_reducible refine Mine.new ?_); rfl) | ((with_reducible refine Mine.newAt ?_ ?_) <;> first | rfl | (simp; done) | (simp only [World.size_alloc]; rfl)) | ((with_reducible refine Mine.set ?_ _); repeat first | exact Mine.slot (by with_reducible assumption) | with_reducible refine MineS.drew ?_ | with_reducible refine MineS.drewN ?_ _ | exact MineS.new (by decide) | exact MineS.newAt (by decide) (by simp) | with_reducible refine MineS.set ?_ _ _ _ | with_reducible refine MineS.alloc ?_ _) | with_reducible refine Mine.other ?_ _ (by first | (left; omega) | (right; omega) | (simp; done) | (simp; omega)) | with_reducible refine Mine.alloc ?_ _)
      have hBzw5 := hB.size
      replace hB : Below w.heap.size w w5 := by rw [hww5]; exact (by repeat first | exact Below.refl _ _ | assumption | refine below_drewN ?_ _ | refine Below.drew ?_ | refine Below.setCell ?_ (by first | exact Nat.le_refl _ | (simp; done) | (simp; omega) | omega) _ | refine Below.alloc ?_ (by first | exact Nat.le_refl _ | (simp; done) | (simp; omega) | omega) _)
      clear hww5 hBzw5
      refine (hC.out _).mono ?_
      rintro e w6 ⟨rfl, hb1⟩
      replace m1 := m1.below hb1
      replace m2 := m2.below hb1
      replace hB := hB.trans (hb1.mono hB.size)
      have hb_w6 := hb1
      clear hb1
      by_cases hc : 0 ≤ c
      · have hd2 : decide (0 ≤ c) = true := by simpa using hc
        go_wp2
        have hf : firstv (fun k => hit n bad k p q) n = some k := firstv_some hlt (by rw [hh.out, hd2]) hno.out
        have hR : R = ((k : Int), 0) := by rw [hnv.out, hf]
        exact bodyPost_ret (v := .tuple #[.int .i64 k, .int .i64 0]) (by simp [results, Tryd.results17, go_sem]) rfl ⟨by rw [hR], hB⟩
      · have hd2 : decide (0 ≤ c) = false := by simpa using hc
        go_wp2
        go_roundw
        case rel =>
          refine ⟨k + 1, by omega, by go_num, fun y hy => ?_, hB, m1, m2⟩
          by_cases e : y = k
          · rw [e, hh.out, hd2]
          · exact hno.out y (by omega)
        case measure => simp [intOf]; omega
    · have hd : decide ((k : Int) ≤ (n : Int)) = false := by simpa using hlt
      go_wp2
      have hf : firstv (fun k => hit n bad k p q) n = none := firstv_none (fun y hy => hno.out y (by omega))
      have hR : R = (0, 160) := by rw [hnv.out, hf]
      exact bodyPost_ret (v := .tuple #[.int .i64 0, .int .i64 160]) (by simp [results, Tryd.results17, go_sem]) rfl ⟨by rw [hR], hB⟩

theorem bound_of {n k b : Nat} {p q : Int} (hn1 : 1 ≤ n) (hn : n ≤ 24) (hk : k ≤ n) (hl : lvl p q = true) (h0 : p ≠ 0) (hb : b ≤ n) (hf : hit n b k p q = false) (ht : ∀ y, b < y → y < n + 1 → hit n y k p q = true) :
    boundv n k p q = ((b : Int), 0) := by
  have hpop : pop (n : Int) [(k : Int)] = true := by rw [pop_wtn1]; simp [wtn]; omega
  have hlow : ∀ y, y ≤ b → hit n y k p q = false := fun y hy => by
    cases e : hit n y k p q with
    | false => rfl
    | true => rw [hit_le hn hk hy hb hl e] at hf; cases hf
  have e0 : (p == 0) = false := by simpa using h0
  by_cases hbn : b = n
  · have hf2 : firstv (fun bad => hit n bad k p q) n = none := firstv_none (fun y hy => hlow y (by omega))
    simp [boundv, hpop, hl, e0, hf2, hbn]
  · have hf2 : firstv (fun bad => hit n bad k p q) n = some (b + 1) := firstv_some (by omega) (ht _ (by omega) (by omega)) (fun y hy => hlow y (by omega))
    simp [boundv, hpop, hl, e0, hf2]

/-- What the reference's loop keeps: the last number of bad elements without a hit. -/
def RbRel (n k : Nat) (p q : Int) (j b : Nat) : Prop := (j = 0 → b = 0) ∧ (0 < j → b < j ∧ hit n b k p q = false ∧ ∀ y, b < y → y < j → hit n y k p q = true)

set_option maxRecDepth 100000 in
set_option maxHeartbeats 1000000 in
theorem refBound_ok (n k : Nat) (p q : Int) (w : World) (hn1 : 1 ≤ n) (hn : n ≤ 24) (hk : k ≤ n) (hl : lvl p q = true) (h0 : p ≠ 0) :
    Calls Tryd.prog 19 #[.int .i64 n, .int .i64 k, rv p q] w fun e w' => e = .returned (.tuple #[.int .i64 (boundv n k p q).1, .int .i64 (boundv n k p q).2]) ∧ Below w.heap.size w w' := by
  have hB : Below w.heap.size w w := Below.refl _ _
  have hvp := lvl_vld hl
  have ip : I64 p := I64.of_num hvp.1
  have iq : I64 q := I64.of_den hvp.1
  have v1 := fun w => Level_any p q w ip iq
  have hpp : decide (0 < p) = true := by simp; omega
  simp only [hl, hpp] at v1
  have a1 := within_any n 1 24
  have a2 := within_any k 0 n
  rw [show wtn n 1 24 = true from by simp [wtn]; omega] at a1
  rw [show wtn k 0 n = true from by simp [wtn]; omega] at a2
  have hbo := Lib.hid (fun b hb hf ht => bound_of (b := b) hn1 hn hk hl h0 hb hf ht)
  have hz0 := Lib.hid (hit_none (k := k) hn hk hl h0)
  generalize boundv n k p q = R at *
  replace v1 := Lib.hid v1
  replace a1 := Lib.hid a1
  replace a2 := Lib.hid a2
  clear hvp hpp
  go_enter Tryd.func19, Tryd.ntmps19
  go_wp2_with fail
  refine name_calls ?_
  intro w1 hww1
  replace m1 : Mine w1 w.heap.size 0 (.int .i64 p) := by rw [hww1]; (repeat first | with_reducible assumption | with_reducible refine Mine.drew ?_ | with_reducible refine Mine.drewN ?_ _ | ((with_reducible refine Mine.new ?_); rfl) | ((with_reducible refine Mine.newAt ?_ ?_) <;> first | rfl | (simp; done) | (simp only [World.size_alloc]; rfl)) | ((with_reducible refine Mine.set ?_ _); repeat first | exact Mine.slot (by with_reducible assumption) | with_reducible refine MineS.drew ?_ | with_reducible refine MineS.drewN ?_ _ | exact MineS.new (by decide) | exact MineS.newAt (by decide) (by simp) | with_reducible refine MineS.set ?_ _ _ _ | with_reducible refine MineS.alloc ?_ _) | with_reducible refine Mine.other ?_ _ (by first | (left; omega) | (right; omega) | (simp; done) | (simp; omega)) | with_reducible refine Mine.alloc ?_ _)
  replace m2 : Mine w1 w.heap.size 1 (.int .i64 q) := by rw [hww1]; (repeat first | with_reducible assumption | with_reducible refine Mine.drew ?_ | with_reducible refine Mine.drewN ?_ _ | ((with_reducible refine Mine.new ?_); rfl) | ((with_reducible refine Mine.newAt ?_ ?_) <;> first | rfl | (simp; done) | (simp only [World.size_alloc]; rfl)) | ((with_reducible refine Mine.set ?_ _); repeat first | exact Mine.slot (by with_reducible assumption) | with_reducible refine MineS.drew ?_ | with_reducible refine MineS.drewN ?_ _ | exact MineS.new (by decide) | exact MineS.newAt (by decide) (by simp) | with_reducible refine MineS.set ?_ _ _ _ | with_reducible refine MineS.alloc ?_ _) | with_reducible refine Mine.other ?_ _ (by first | (left; omega) | (right; omega) | (simp; done) | (simp; omega)) | with_reducible refine Mine.alloc ?_ _)
  have hBzw1 := hB.size
  replace hB : Below w.heap.size w w1 := by rw [hww1]; exact (by repeat first | exact Below.refl _ _ | assumption | refine below_drewN ?_ _ | refine Below.drew ?_ | refine Below.setCell ?_ (by first | exact Nat.le_refl _ | (simp; done) | (simp; omega) | omega) _ | refine Below.alloc ?_ (by first | exact Nat.le_refl _ | (simp; done) | (simp; omega) | omega) _)
  clear hww1 hBzw1
  refine (v1.out _).mono ?_
  rintro e w2 ⟨rfl, hb1⟩
  replace m1 := m1.below hb1
  replace m2 := m2.below hb1
  replace hB := hB.trans (hb1.mono hB.size)
  have hb_w2 := hb1
  clear hb1
  go_wp2_with fail
  refine (a1.out _).mono ?_; rintro e w3 ⟨rfl, rfl⟩
  go_wp2_with fail
  refine (a2.out _).mono ?_; rintro e w3 ⟨rfl, rfl⟩
  go_wp2_with fail
  go_loopw [10, 11] (fun u v wr => ∃ j b : Nat, j ≤ n + 1 ∧ v = .int .i64 j ∧ u = .int .i64 b ∧ RbRel n k p q j b ∧ Below w.heap.size w wr ∧ Mine wr w.heap.size 0 (.int .i64 p) ∧ Mine wr w.heap.size 1 (.int .i64 q)) (fun _ v _ => n + 1 - (intOf v).toNat)
  case atStart => exact ⟨0, 0, by omega, rfl, rfl, ⟨fun _ => rfl, fun h => absurd h (by omega)⟩, hB, m1, m2⟩
  case round =>
    clear hB m1 m2
    obtain ⟨j, b, hj, rfl, rfl, hR, hB, m1, m2⟩ := hrel
    by_cases hlt : j ≤ n
    · have hd : decide ((j : Int) ≤ (n : Int)) = true := by simpa using hlt
      have hD := fun w => refDetect_ok n j k w hn1 hn hlt hk
      have hvD := det_vld hn hlt hk
      have iz : I64 (det n j k).1 := I64.of_num hvD
      have iw : I64 (det n j k).2.1 := I64.of_den hvD
      have hC := fun w => refCompare_any (det n j k).1 (det n j k).2.1 p q w iz iw ip iq
      have hh : Hid (hit n j k p q = decide (0 ≤ cmpr (det n j k).1 (det n j k).2.1 p q)) := by show _ = _; rfl
      clear hvD iz iw
      generalize det n j k = D at *
      generalize cmpr D.1 D.2.1 p q = c at *
      replace hD := Lib.hid hD
      replace hC := Lib.hid hC
      go_wp2_with fail
      refine (hD.out _).mono ?_
      rintro e w4 ⟨rfl, hb1⟩
      replace m1 := m1.below hb1
      replace m2 := m2.below hb1
      replace hB := hB.trans (hb1.mono hB.size)
      have hb_w4 := hb1
      clear hb1
      have c1 := m1.cell
      have f1 := m1.free
      have l1 := m1.lt
      have c2 := m2.cell
      have f2 := m2.free
      have l2 := m2.lt
      go_wp2_with fail
      clear c1 f1 l1
      clear c2 f2 l2
      refine name_calls ?_
      intro w5 hww5
      replace m1 : Mine w5 w.heap.size 0 (.int .i64 p) := by rw [hww5]; (repeat first | with_reducible assumption | with_reducible refine Mine.drew ?_ | with_reducible refine Mine.drewN ?_ _ | ((with_reducible refine Mine.new ?_); rfl) | ((with_reducible refine Mine.newAt ?_ ?_) <;> first | rfl | (simp; done) | (simp only [World.size_alloc]; rfl)) | ((with_reducible refine Mine.set ?_ _); repeat first | exact Mine.slot (by with_reducible assumption) | with_reducible refine MineS.drew ?_ | with_reducible refine MineS.drewN ?_ _ | exact MineS.new (by decide) | exact MineS.newAt (by decide) (by simp) | with_reducible refine MineS.set ?_ _ _ _ | with_reducible refine MineS.alloc ?_ _) | with_reducible refine Mine.other ?_ _ (by first | (left; omega) | (right; omega) | (simp; done) | (simp; omega)) | with_reducible refine Mine.alloc ?_ _)
      replace m2 : Mine w5 w.heap.size 1 (.int .i64 q) := by rw [hww5]; (repeat first | with_reducible assumption | with_reducible refine Mine.drew ?_ | with_reducible refine Mine.drewN ?_ _ | ((with_reducible refine Mine.new ?_); rfl) | ((with_reducible refine Mine.newAt ?_ ?_) <;> first | rfl | (simp; done) | (simp only [World.size_alloc]; rfl)) | ((with_reducible refine Mine.set ?_ _); repeat first | exact Mine.slot (by with_reducible assumption) | with_reducible refine MineS.drew ?_ | with_reducible refine MineS.drewN ?_ _ | exact MineS.new (by decide) | exact MineS.newAt (by decide) (by simp) | with_reducible refine MineS.set ?_ _ _ _ | with_reducible refine MineS.alloc ?_ _) | with_reducible refine Mine.other ?_ _ (by first | (left; omega) | (right; omega) | (simp; done) | (simp; omega)) | with_reducible refine Mine.alloc ?_ _)
      have hBzw5 := hB.size
      replace hB : Below w.heap.size w w5 := by rw [hww5]; exact (by repeat first | exact Below.refl _ _ | assumption | refine below_drewN ?_ _ | refine Below.drew ?_ | refine Below.setCell ?_ (by first | exact Nat.le_refl _ | (simp; done) | (simp; omega) | omega) _ | refine Below.alloc ?_ (by first | exact Nat.le_refl _ | (simp; done) | (simp; omega) | omega) _)
      clear hww5 hBzw5
      refine (hC.out _).mono ?_
      rintro e w6 ⟨rfl, hb1⟩
      replace m1 := m1.below hb1
      replace m2 := m2.below hb1
      replace hB := hB.trans (hb1.mono hB.size)
      have hb_w6 := hb1
      clear hb1
      by_cases hc : c < 0
      · have hd2 : decide (c < 0) = true := by simpa using hc
        go_wp2
        go_roundw
        case rel =>
          refine ⟨j + 1, j, by omega, by go_num, rfl, ⟨fun h => by omega, fun _ => ⟨by omega, ?_, fun y h1 h2 => by omega⟩⟩, hB, m1, m2⟩
          rw [hh.out]; simpa using hc
        case measure => simp [intOf]; omega
      · have hd2 : decide (c < 0) = false := by simpa using hc
        go_wp2
        go_roundw
        case rel =>
          have hhj : hit n j k p q = true := by rw [hh.out]; simpa using hc
          have hj0 : 0 < j := by
            apply Nat.pos_of_ne_zero
            intro e
            rw [e, hz0.out] at hhj
            cases hhj
          obtain ⟨r1, r2, r3⟩ := hR.2 hj0
          refine ⟨j + 1, b, by omega, by go_num, rfl, ⟨fun h => by omega, fun _ => ⟨by omega, r2, fun y h1 h2 => ?_⟩⟩, hB, m1, m2⟩
          by_cases e : y = j
          · rw [e]; exact hhj
          · exact r3 y h1 (by omega)
        case measure => simp [intOf]; omega
    · have hd : decide ((j : Int) ≤ (n : Int)) = false := by simpa using hlt
      obtain ⟨r1, r2, r3⟩ := hR.2 (by omega)
      have hRe := hbo.out b (by omega) r2 (fun y h1 h2 => r3 y h1 (by omega))
      replace hRe := Lib.hid hRe
      clear hR r2 r3 hbo hz0
      go_wp2
      exact bodyPost_ret (v := .tuple #[.int .i64 b, .int .i64 0]) (by simp [results, Tryd.results19, go_sem]) rfl ⟨by rw [hRe.out], hB⟩

theorem refNeeded_any (n bad p q : Int) (w : World) (ip : I64 p) (iq : I64 q) :
    Calls Tryd.prog 17 #[.int .i64 n, .int .i64 bad, rv p q] w fun e w' => e = .returned (.tuple #[.int .i64 (needv n bad p q).1, .int .i64 (needv n bad p q).2]) ∧ Below w.heap.size w w' := by
  cases h : (pop n [bad] && lvl p q) with
  | false =>
    have hv : needv n bad p q = (0, 160) := by simp [needv, h]
    rw [hv]
    exact refNeeded_bad n bad p q w ip iq h
  | true =>
    rw [Bool.and_eq_true] at h
    have hn1 : 1 ≤ n := by have := h.1; rw [pop_wtn1] at this; simp [wtn] at this; omega
    obtain ⟨n', b', rfl, rfl, h1, h2⟩ := pop_one h.1
    exact refNeeded_ok n' b' p q w (by omega) h1 h2 h.2

theorem refBound_any (n k p q : Int) (w : World) (ip : I64 p) (iq : I64 q) :
    Calls Tryd.prog 19 #[.int .i64 n, .int .i64 k, rv p q] w fun e w' => e = .returned (.tuple #[.int .i64 (boundv n k p q).1, .int .i64 (boundv n k p q).2]) ∧ Below w.heap.size w w' := by
  cases h : (pop n [k] && lvl p q && !(p == 0)) with
  | false =>
    have hv : boundv n k p q = (0, 160) := by simp only [boundv, h]; rfl
    rw [hv]
    exact refBound_bad n k p q w ip iq h
  | true =>
    rw [Bool.and_eq_true, Bool.and_eq_true] at h
    have hn1 : 1 ≤ n := by have := h.1.1; rw [pop_wtn1] at this; simp [wtn] at this; omega
    have h0 : p ≠ 0 := by simpa using h.2
    obtain ⟨n', k', rfl, rfl, h1, h2⟩ := pop_one h.1.1
    exact refBound_ok n' k' p q w (by omega) h1 h2 h.1.2 h0
end Go.Proofs.YtjlldolmlfgejaaDoor
