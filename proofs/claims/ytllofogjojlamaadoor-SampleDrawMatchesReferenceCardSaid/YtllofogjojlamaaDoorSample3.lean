/-
  The contracts of sample.Detect, level.
-/
import Derived.Test.YtllofogjojlamaaDoorSample2
namespace Go.Proofs.YtllofogjojlamaaDoor
open Go.RowKit

theorem two_cells {w : World} {b : Nat} {x y : Int} (h0 : Mine w b 0 (.int .i64 x)) (h1 : Mine w b 1 (.int .i64 y)) : ∀ k, k < [x, y].length → w.cell? ⟨b, 0 + k, none⟩ = some (.int .i64 ([x, y].getD k 0)) := by
  intro k hk
  match k, hk with
  | 0, _ => exact h0.cell
  | 1, _ => exact h1.cell

set_option maxHeartbeats 400000 in
theorem Detect_any (n bad k : Int) (w : World) :
    Calls Tryd.prog 9 #[.int .i64 n, .int .i64 bad, .int .i64 k] w fun e w' => e = .returned (.tuple #[rv (detv n bad k).1 (detv n bad k).2.1, .int .i64 (detv n bad k).2.2]) ∧ Below w.heap.size w w' := by
  have hB : Below w.heap.size w w := Below.refl _ _
  by_cases hp : pop n [bad, k] = true
  · obtain ⟨n', b', k', rfl, rfl, rfl, h1, h2, h3⟩ := pop_two hp
    have hv : Hid (detv n' b' k' = ((det n' b' k').1, (det n' b' k').2.1, 0)) := by show _ = _; simp [detv, hp]
    go_enter Tryd.func9, Tryd.ntmps9
    go_wp2_with fail
    refine name_calls ?_
    intro w1 hww1
    have mAll : Mine w1 w.heap.size 0 (.int .i64 0) ∧ Mine w1 w.heap.size 1 (.int .i64 0) ∧ Mine w1 (w.heap.size + 1) 0 (.int .i64 b') ∧ Mine w1 (w.heap.size + 1) 1 (.int .i64 k') := by
      rw [hww1]
      refine ⟨?_, ?_, ?_, ?_⟩ <;> (repeat first | with_reducible assumption | with_reducible refine Mine.drew ?_ | with_reducible refine Mine.drewN ?_ _ | ((with_reducible refine Mine.new ?_); rfl) | ((with_reducible refine Mine.newAt ?_ ?_) <;> first | rfl | (simp; done) | (simp only [World.size_alloc]; rfl)) | ((with_reducible refine Mine.set ?_ _); repeat first | exact Mine.slot (by with_reducible assumption) | with_reducible refine MineS.drew ?_ | with_reducible refine MineS.drewN ?_ _ | ((with_reducible refine MineS.new ?_); decide) | ((with_reducible refine MineS.newAt ?_ ?_) <;> first | decide | (simp; done)) | with_reducible refine MineS.set ?_ _ _ _ | with_reducible refine MineS.alloc ?_ _) | with_reducible refine Mine.other ?_ _ (by first | (left; omega) | (right; omega) | (simp; done) | (simp; omega)) | with_reducible refine Mine.alloc ?_ _)
    obtain ⟨m1, m2, m3, m4⟩ := mAll
    have hBzw1 := hB.size
    replace hB : Below w.heap.size w w1 := by rw [hww1]; exact (by repeat first | with_reducible exact Below.refl _ _ | with_reducible assumption | with_reducible refine below_drewN ?_ _ | with_reducible refine Below.drew ?_ | with_reducible refine Below.setCell ?_ (by first | exact Nat.le_refl _ | (simp; done) | (simp; omega) | omega) _ | with_reducible refine Below.alloc ?_ (by first | exact Nat.le_refl _ | (simp; done) | (simp; omega) | omega) _ | exact Below.refl _ _ | assumption)
    clear hww1 hBzw1
    refine (population_any _ [(b' : Int), (k' : Int)] _ 0 _ _ (by simp) (two_cells m3 m4)).mono ?_
    rintro e wc1 ⟨rfl, hb1⟩
    replace m1 := m1.below hb1
    replace m2 := m2.below hb1
    replace m3 := m3.below hb1
    replace m4 := m4.below hb1
    replace hB := hB.trans (hb1.mono hB.size)
    have hb_wc1 := hb1
    clear hb1
    go_wp2_with fail
    refine (ways_any _).mono ?_
    rintro e w2 ⟨rfl, hb1, ht⟩
    replace m1 := m1.below hb1
    replace m2 := m2.below hb1
    replace hB := hB.trans (hb1.mono hB.size)
    have hb_w2 := hb1
    clear hb1
    go_wp2_with fail
    refine (detect_any _ n' b' k' _ h1 h2 (by omega) ht).mono ?_
    rintro e wc2 ⟨rfl, hb1⟩
    replace m1 := m1.below hb1
    replace m2 := m2.below hb1
    replace hB := hB.trans (hb1.mono hB.size)
    have hb_wc2 := hb1
    clear hb1
    have c1 := m1.cell
    have f1 := m1.free
    have l1 := m1.lt
    have c2 := m2.cell
    have f2 := m2.free
    have l2 := m2.lt
    go_wp2
    clear c1 f1 l1
    clear c2 f2 l2
    refine name_post ?_
    intro w4 hww4
    have mAll : Mine w4 w.heap.size 0 (.int .i64 (det n' b' k').1) ∧ Mine w4 w.heap.size 1 (.int .i64 (det n' b' k').2.1) := by
      rw [hww4]
      refine ⟨?_, ?_⟩ <;> (repeat first | with_reducible assumption | with_reducible refine Mine.drew ?_ | with_reducible refine Mine.drewN ?_ _ | ((with_reducible refine Mine.new ?_); rfl) | ((with_reducible refine Mine.newAt ?_ ?_) <;> first | rfl | (simp; done) | (simp only [World.size_alloc]; rfl)) | ((with_reducible refine Mine.set ?_ _); repeat first | exact Mine.slot (by with_reducible assumption) | with_reducible refine MineS.drew ?_ | with_reducible refine MineS.drewN ?_ _ | ((with_reducible refine MineS.new ?_); decide) | ((with_reducible refine MineS.newAt ?_ ?_) <;> first | decide | (simp; done)) | with_reducible refine MineS.set ?_ _ _ _ | with_reducible refine MineS.alloc ?_ _) | with_reducible refine Mine.other ?_ _ (by first | (left; omega) | (right; omega) | (simp; done) | (simp; omega)) | with_reducible refine Mine.alloc ?_ _)
    clear m1 m2
    obtain ⟨m1, m2⟩ := mAll
    have hBzw4 := hB.size
    replace hB : Below w.heap.size w w4 := by rw [hww4]; exact (by repeat first | with_reducible exact Below.refl _ _ | with_reducible assumption | with_reducible refine below_drewN ?_ _ | with_reducible refine Below.drew ?_ | with_reducible refine Below.setCell ?_ (by first | exact Nat.le_refl _ | (simp; done) | (simp; omega) | omega) _ | with_reducible refine Below.alloc ?_ (by first | exact Nat.le_refl _ | (simp; done) | (simp; omega) | omega) _ | exact Below.refl _ _ | assumption)
    clear hww4 hBzw4
    have e1 := m1.cell
    have e2 := m2.cell
    exact bodyPost_ret (v := .tuple #[rv (det n' b' k').1 (det n' b' k').2.1, .int .i64 0]) (by simp [results, Tryd.results9, go_sem, e1, e2]) rfl ⟨by rw [hv.out], hB⟩
  · have hp' : pop n [bad, k] = false := by simpa using hp
    have hv : Hid (detv n bad k = (0, 0, 160)) := by show _ = _; simp [detv, hp']
    clear hp
    go_enter Tryd.func9, Tryd.ntmps9
    go_wp2_with fail
    refine name_calls ?_
    intro w1 hww1
    have mAll : Mine w1 w.heap.size 0 (.int .i64 0) ∧ Mine w1 w.heap.size 1 (.int .i64 0) ∧ Mine w1 (w.heap.size + 1) 0 (.int .i64 bad) ∧ Mine w1 (w.heap.size + 1) 1 (.int .i64 k) := by
      rw [hww1]
      refine ⟨?_, ?_, ?_, ?_⟩ <;> (repeat first | with_reducible assumption | with_reducible refine Mine.drew ?_ | with_reducible refine Mine.drewN ?_ _ | ((with_reducible refine Mine.new ?_); rfl) | ((with_reducible refine Mine.newAt ?_ ?_) <;> first | rfl | (simp; done) | (simp only [World.size_alloc]; rfl)) | ((with_reducible refine Mine.set ?_ _); repeat first | exact Mine.slot (by with_reducible assumption) | with_reducible refine MineS.drew ?_ | with_reducible refine MineS.drewN ?_ _ | ((with_reducible refine MineS.new ?_); decide) | ((with_reducible refine MineS.newAt ?_ ?_) <;> first | decide | (simp; done)) | with_reducible refine MineS.set ?_ _ _ _ | with_reducible refine MineS.alloc ?_ _) | with_reducible refine Mine.other ?_ _ (by first | (left; omega) | (right; omega) | (simp; done) | (simp; omega)) | with_reducible refine Mine.alloc ?_ _)
    obtain ⟨m1, m2, m3, m4⟩ := mAll
    have hBzw1 := hB.size
    replace hB : Below w.heap.size w w1 := by rw [hww1]; exact (by repeat first | with_reducible exact Below.refl _ _ | with_reducible assumption | with_reducible refine below_drewN ?_ _ | with_reducible refine Below.drew ?_ | with_reducible refine Below.setCell ?_ (by first | exact Nat.le_refl _ | (simp; done) | (simp; omega) | omega) _ | with_reducible refine Below.alloc ?_ (by first | exact Nat.le_refl _ | (simp; done) | (simp; omega) | omega) _ | exact Below.refl _ _ | assumption)
    clear hww1 hBzw1
    refine (population_any _ [bad, k] _ 0 _ _ (by simp) (two_cells m3 m4)).mono ?_
    rintro e wc3 ⟨rfl, hb1⟩
    replace m1 := m1.below hb1
    replace m2 := m2.below hb1
    replace m3 := m3.below hb1
    replace m4 := m4.below hb1
    replace hB := hB.trans (hb1.mono hB.size)
    have hb_wc3 := hb1
    clear hb1
    have c1 := m1.cell
    have f1 := m1.free
    have l1 := m1.lt
    have c2 := m2.cell
    have f2 := m2.free
    have l2 := m2.lt
    go_wp2
    clear c1 f1 l1
    clear c2 f2 l2
    refine name_post ?_
    intro w4 hww4
    have mAll : Mine w4 w.heap.size 0 (.int .i64 0) ∧ Mine w4 w.heap.size 1 (.int .i64 0) := by
      rw [hww4]
      refine ⟨?_, ?_⟩ <;> (repeat first | with_reducible assumption | with_reducible refine Mine.drew ?_ | with_reducible refine Mine.drewN ?_ _ | ((with_reducible refine Mine.new ?_); rfl) | ((with_reducible refine Mine.newAt ?_ ?_) <;> first | rfl | (simp; done) | (simp only [World.size_alloc]; rfl)) | ((with_reducible refine Mine.set ?_ _); repeat first | exact Mine.slot (by with_reducible assumption) | with_reducible refine MineS.drew ?_ | with_reducible refine MineS.drewN ?_ _ | ((with_reducible refine MineS.new ?_); decide) | ((with_reducible refine MineS.newAt ?_ ?_) <;> first | decide | (simp; done)) | with_reducible refine MineS.set ?_ _ _ _ | with_reducible refine MineS.alloc ?_ _) | with_reducible refine Mine.other ?_ _ (by first | (left; omega) | (right; omega) | (simp; done) | (simp; omega)) | with_reducible refine Mine.alloc ?_ _)
    clear m1 m2
    obtain ⟨m1, m2⟩ := mAll
    have hBzw4 := hB.size
    replace hB : Below w.heap.size w w4 := by rw [hww4]; exact (by repeat first | with_reducible exact Below.refl _ _ | with_reducible assumption | with_reducible refine below_drewN ?_ _ | with_reducible refine Below.drew ?_ | with_reducible refine Below.setCell ?_ (by first | exact Nat.le_refl _ | (simp; done) | (simp; omega) | omega) _ | with_reducible refine Below.alloc ?_ (by first | exact Nat.le_refl _ | (simp; done) | (simp; omega) | omega) _ | exact Below.refl _ _ | assumption)
    clear hww4 hBzw4
    have e1 := m1.cell
    have e2 := m2.cell
    exact bodyPost_ret (v := .tuple #[rv 0 0, .int .i64 160]) (by simp [results, Tryd.results9, go_sem, e1, e2]) rfl ⟨by rw [hv.out], hB⟩

/-- P16.1: a level. -/
def lvl (p q : Int) : Bool := vld p q && decide (0 ≤ p) && decide (p ≤ q)
set_option maxHeartbeats 400000 in
theorem level_any (p q : Int) (w : World) (hp : I64 p) (hq : I64 q) :
    Calls Tryd.prog 24 #[rv p q] w fun e w' => e = .returned (.bool (lvl p q)) ∧ Below w.heap.size w w' := by
  by_cases h1 : vld p q = true
  · by_cases h2 : 0 ≤ p
    · have hv : Hid (lvl p q = decide (p ≤ q)) := by show _ = _; simp [lvl, h1, h2]
      have e2 : decide (0 ≤ p) = true := by simpa using h2
      go_enter Tryd.func24, Tryd.ntmps24
      go_wp2_with fail
      refine (Valid_any _ _ _ hp hq).mono ?_; rintro e w1 ⟨rfl, k1, rfl⟩
      go_wp2
      go_ret
      exact ⟨ret_bool hv.out.symm, (by repeat first | with_reducible exact Below.refl _ _ | with_reducible assumption | with_reducible refine below_drewN ?_ _ | with_reducible refine Below.drew ?_ | with_reducible refine Below.setCell ?_ (by first | exact Nat.le_refl _ | (simp; done) | (simp; omega) | omega) _ | with_reducible refine Below.alloc ?_ (by first | exact Nat.le_refl _ | (simp; done) | (simp; omega) | omega) _ | exact Below.refl _ _ | assumption)⟩
    · have hv : Hid (lvl p q = false) := by show _ = _; simp [lvl, h1, h2]
      have e2 : decide (0 ≤ p) = false := by simpa using h2
      go_enter Tryd.func24, Tryd.ntmps24
      go_wp2_with fail
      refine (Valid_any _ _ _ hp hq).mono ?_; rintro e w1 ⟨rfl, k1, rfl⟩
      go_wp2
      go_ret
      exact ⟨ret_bool hv.out.symm, (by repeat first | with_reducible exact Below.refl _ _ | with_reducible assumption | with_reducible refine below_drewN ?_ _ | with_reducible refine Below.drew ?_ | with_reducible refine Below.setCell ?_ (by first | exact Nat.le_refl _ | (simp; done) | (simp; omega) | omega) _ | with_reducible refine Below.alloc ?_ (by first | exact Nat.le_refl _ | (simp; done) | (simp; omega) | omega) _ | exact Below.refl _ _ | assumption)⟩
  · have h1' : vld p q = false := by simpa using h1
    have hv : Hid (lvl p q = false) := by show _ = _; simp [lvl, h1']
    clear h1
    go_enter Tryd.func24, Tryd.ntmps24
    go_wp2_with fail
    refine (Valid_any _ _ _ hp hq).mono ?_; rintro e w1 ⟨rfl, k1, rfl⟩
    go_wp2
    go_ret
    exact ⟨ret_bool hv.out.symm, (by repeat first | with_reducible exact Below.refl _ _ | with_reducible assumption | with_reducible refine below_drewN ?_ _ | with_reducible refine Below.drew ?_ | with_reducible refine Below.setCell ?_ (by first | exact Nat.le_refl _ | (simp; done) | (simp; omega) | omega) _ | with_reducible refine Below.alloc ?_ (by first | exact Nat.le_refl _ | (simp; done) | (simp; omega) | omega) _ | exact Below.refl _ _ | assumption)⟩
end Go.Proofs.YtllofogjojlamaaDoor
