/-
  RatioText: the walk.
-/
import Derived.Test.YtfojgdlegojdgaaDoorEqR
namespace Go.Proofs.YtfojgdlegojdgaaDoor
open Go.RowKit

set_option maxRecDepth 100000 in
set_option maxHeartbeats 8000000 in
theorem TxtLaw (x0 x1 x2 x3 x4 x5 : Int) (s : ByteArray) (w : World) (i0 : I64 x0) (i1 : I64 x1) (i2 : I64 x2) (i3 : I64 x3) (i4 : I64 x4) (i5 : I64 x5) (hs : s.size ≤ 9223372036854775807) (hE : Env w) :
    Calls Tryd.prog 6 #[sixv x0 x1 x2 x3 x4 x5, .string s] w fun e w' => e = .returned (.bool true) ∧ Below w.heap.size w w' := by
  have hB : Below w.heap.size w w := Below.refl _ _
  have hMade := fun w => made_law x0 x1 x2 x3 x4 x5 w i0 i1 i2 i3 i4 i5
  replace hMade := Lib.hid hMade
  clear i0 i1 i2 i3 i4 i5
  go_enter Tryd.func6, Tryd.ntmps6
  go_wp2_with fail
  refine name_calls ?_
  intro w1 hww1
  replace m10 : Mine w1 w.heap.size 0 (.int .i64 x0) := by rw [hww1]; (repeat first | with_reducible assumption | with_reducible refine Mine.drew ?_ | with_reducible refine Mine.drewN ?_ _ | ((with_reducible refine Mine.new ?_); rfl) | ((with_reducible refine Mine.newAt ?_ ?_) <;> first | rfl | (simp; done) | (simp only [World.size_alloc]; rfl)) | ((with_reducible refine Mine.set ?_ _); repeat first | exact Mine.slot (by with_reducible assumption) | with_reducible refine MineS.drew ?_ | with_reducible refine MineS.drewN ?_ _ | ((with_reducible refine MineS.new ?_); decide) | ((with_reducible refine MineS.newAt ?_ ?_) <;> first | decide | (simp; done)) | with_reducible refine MineS.set ?_ _ _ _ | with_reducible refine MineS.alloc ?_ _) | with_reducible refine Mine.other ?_ _ (by first | (left; omega) | (right; omega) | (simp; done) | (simp; omega)) | with_reducible refine Mine.alloc ?_ _)
  replace m11 : Mine w1 w.heap.size 1 (.int .i64 x1) := by rw [hww1]; (repeat first | with_reducible assumption | with_reducible refine Mine.drew ?_ | with_reducible refine Mine.drewN ?_ _ | ((with_reducible refine Mine.new ?_); rfl) | ((with_reducible refine Mine.newAt ?_ ?_) <;> first | rfl | (simp; done) | (simp only [World.size_alloc]; rfl)) | ((with_reducible refine Mine.set ?_ _); repeat first | exact Mine.slot (by with_reducible assumption) | with_reducible refine MineS.drew ?_ | with_reducible refine MineS.drewN ?_ _ | ((with_reducible refine MineS.new ?_); decide) | ((with_reducible refine MineS.newAt ?_ ?_) <;> first | decide | (simp; done)) | with_reducible refine MineS.set ?_ _ _ _ | with_reducible refine MineS.alloc ?_ _) | with_reducible refine Mine.other ?_ _ (by first | (left; omega) | (right; omega) | (simp; done) | (simp; omega)) | with_reducible refine Mine.alloc ?_ _)
  replace m12 : Mine w1 w.heap.size 2 (.int .i64 x2) := by rw [hww1]; (repeat first | with_reducible assumption | with_reducible refine Mine.drew ?_ | with_reducible refine Mine.drewN ?_ _ | ((with_reducible refine Mine.new ?_); rfl) | ((with_reducible refine Mine.newAt ?_ ?_) <;> first | rfl | (simp; done) | (simp only [World.size_alloc]; rfl)) | ((with_reducible refine Mine.set ?_ _); repeat first | exact Mine.slot (by with_reducible assumption) | with_reducible refine MineS.drew ?_ | with_reducible refine MineS.drewN ?_ _ | ((with_reducible refine MineS.new ?_); decide) | ((with_reducible refine MineS.newAt ?_ ?_) <;> first | decide | (simp; done)) | with_reducible refine MineS.set ?_ _ _ _ | with_reducible refine MineS.alloc ?_ _) | with_reducible refine Mine.other ?_ _ (by first | (left; omega) | (right; omega) | (simp; done) | (simp; omega)) | with_reducible refine Mine.alloc ?_ _)
  replace m13 : Mine w1 w.heap.size 3 (.int .i64 x3) := by rw [hww1]; (repeat first | with_reducible assumption | with_reducible refine Mine.drew ?_ | with_reducible refine Mine.drewN ?_ _ | ((with_reducible refine Mine.new ?_); rfl) | ((with_reducible refine Mine.newAt ?_ ?_) <;> first | rfl | (simp; done) | (simp only [World.size_alloc]; rfl)) | ((with_reducible refine Mine.set ?_ _); repeat first | exact Mine.slot (by with_reducible assumption) | with_reducible refine MineS.drew ?_ | with_reducible refine MineS.drewN ?_ _ | ((with_reducible refine MineS.new ?_); decide) | ((with_reducible refine MineS.newAt ?_ ?_) <;> first | decide | (simp; done)) | with_reducible refine MineS.set ?_ _ _ _ | with_reducible refine MineS.alloc ?_ _) | with_reducible refine Mine.other ?_ _ (by first | (left; omega) | (right; omega) | (simp; done) | (simp; omega)) | with_reducible refine Mine.alloc ?_ _)
  replace m14 : Mine w1 w.heap.size 4 (.int .i64 x4) := by rw [hww1]; (repeat first | with_reducible assumption | with_reducible refine Mine.drew ?_ | with_reducible refine Mine.drewN ?_ _ | ((with_reducible refine Mine.new ?_); rfl) | ((with_reducible refine Mine.newAt ?_ ?_) <;> first | rfl | (simp; done) | (simp only [World.size_alloc]; rfl)) | ((with_reducible refine Mine.set ?_ _); repeat first | exact Mine.slot (by with_reducible assumption) | with_reducible refine MineS.drew ?_ | with_reducible refine MineS.drewN ?_ _ | ((with_reducible refine MineS.new ?_); decide) | ((with_reducible refine MineS.newAt ?_ ?_) <;> first | decide | (simp; done)) | with_reducible refine MineS.set ?_ _ _ _ | with_reducible refine MineS.alloc ?_ _) | with_reducible refine Mine.other ?_ _ (by first | (left; omega) | (right; omega) | (simp; done) | (simp; omega)) | with_reducible refine Mine.alloc ?_ _)
  replace m15 : Mine w1 w.heap.size 5 (.int .i64 x5) := by rw [hww1]; (repeat first | with_reducible assumption | with_reducible refine Mine.drew ?_ | with_reducible refine Mine.drewN ?_ _ | ((with_reducible refine Mine.new ?_); rfl) | ((with_reducible refine Mine.newAt ?_ ?_) <;> first | rfl | (simp; done) | (simp only [World.size_alloc]; rfl)) | ((with_reducible refine Mine.set ?_ _); repeat first | exact Mine.slot (by with_reducible assumption) | with_reducible refine MineS.drew ?_ | with_reducible refine MineS.drewN ?_ _ | ((with_reducible refine MineS.new ?_); decide) | ((with_reducible refine MineS.newAt ?_ ?_) <;> first | decide | (simp; done)) | with_reducible refine MineS.set ?_ _ _ _ | with_reducible refine MineS.alloc ?_ _) | with_reducible refine Mine.other ?_ _ (by first | (left; omega) | (right; omega) | (simp; done) | (simp; omega)) | with_reducible refine Mine.alloc ?_ _)
  have hBzw1 := hB.size
  replace hB : Below w.heap.size w w1 := by rw [hww1]; exact (by repeat first | with_reducible exact Below.refl _ _ | with_reducible assumption | with_reducible refine below_drewN ?_ _ | with_reducible refine Below.drew ?_ | with_reducible refine Below.setCell ?_ (by first | exact Nat.le_refl _ | (simp; done) | (simp; omega) | omega) _ | with_reducible refine Below.alloc ?_ (by first | exact Nat.le_refl _ | (simp; done) | (simp; omega) | omega) _ | exact Below.refl _ _ | assumption)
  clear hww1 hBzw1
  refine (sane_any _ (hE.below hB)).mono ?_
  rintro e v1 ⟨rfl, hb1⟩
  replace m10 := m10.below hb1
  replace m11 := m11.below hb1
  replace m12 := m12.below hb1
  replace m13 := m13.below hb1
  replace m14 := m14.below hb1
  replace m15 := m15.below hb1
  replace hB := hB.trans (hb1.mono hB.size)
  have hb_v1 := hb1
  clear hb1
  go_wp2_with fail
  have hts : (s.extract 0 (min (s.size : Int) 60).toNat).size ≤ 60 := by rw [ByteArray.size_extract]; omega
  generalize s.extract 0 (min (s.size : Int) 60).toNat = t at *
  have hPa := fun w hE => Parse_any t w (by omega) hE
  have hsp := parse_spec t.data.toList
  generalize parsev t.data.toList = R at *
  replace hPa := Lib.hid hPa
  clear hs
  have hNEd : ∀ w, (binOp .neq 27 (.agg #[.int .i64 0, .int .i64 0]) (.agg #[.int .i64 0, .int .i64 0])).run Tryd.prog w = .ok (.bool false) w := fun w => by rw [run_ne_rv]; rfl
  refine name_calls ?_
  intro w2 hww2
  replace m10 : Mine w2 w.heap.size 0 (.int .i64 x0) := by rw [hww2]; (repeat first | with_reducible assumption | with_reducible refine Mine.drew ?_ | with_reducible refine Mine.drewN ?_ _ | ((with_reducible refine Mine.new ?_); rfl) | ((with_reducible refine Mine.newAt ?_ ?_) <;> first | rfl | (simp; done) | (simp only [World.size_alloc]; rfl)) | ((with_reducible refine Mine.set ?_ _); repeat first | exact Mine.slot (by with_reducible assumption) | with_reducible refine MineS.drew ?_ | with_reducible refine MineS.drewN ?_ _ | ((with_reducible refine MineS.new ?_); decide) | ((with_reducible refine MineS.newAt ?_ ?_) <;> first | decide | (simp; done)) | with_reducible refine MineS.set ?_ _ _ _ | with_reducible refine MineS.alloc ?_ _) | with_reducible refine Mine.other ?_ _ (by first | (left; omega) | (right; omega) | (simp; done) | (simp; omega)) | with_reducible refine Mine.alloc ?_ _)
  replace m11 : Mine w2 w.heap.size 1 (.int .i64 x1) := by rw [hww2]; (repeat first | with_reducible assumption | with_reducible refine Mine.drew ?_ | with_reducible refine Mine.drewN ?_ _ | ((with_reducible refine Mine.new ?_); rfl) | ((with_reducible refine Mine.newAt ?_ ?_) <;> first | rfl | (simp; done) | (simp only [World.size_alloc]; rfl)) | ((with_reducible refine Mine.set ?_ _); repeat first | exact Mine.slot (by with_reducible assumption) | with_reducible refine MineS.drew ?_ | with_reducible refine MineS.drewN ?_ _ | ((with_reducible refine MineS.new ?_); decide) | ((with_reducible refine MineS.newAt ?_ ?_) <;> first | decide | (simp; done)) | with_reducible refine MineS.set ?_ _ _ _ | with_reducible refine MineS.alloc ?_ _) | with_reducible refine Mine.other ?_ _ (by first | (left; omega) | (right; omega) | (simp; done) | (simp; omega)) | with_reducible refine Mine.alloc ?_ _)
  replace m12 : Mine w2 w.heap.size 2 (.int .i64 x2) := by rw [hww2]; (repeat first | with_reducible assumption | with_reducible refine Mine.drew ?_ | with_reducible refine Mine.drewN ?_ _ | ((with_reducible refine Mine.new ?_); rfl) | ((with_reducible refine Mine.newAt ?_ ?_) <;> first | rfl | (simp; done) | (simp only [World.size_alloc]; rfl)) | ((with_reducible refine Mine.set ?_ _); repeat first | exact Mine.slot (by with_reducible assumption) | with_reducible refine MineS.drew ?_ | with_reducible refine MineS.drewN ?_ _ | ((with_reducible refine MineS.new ?_); decide) | ((with_reducible refine MineS.newAt ?_ ?_) <;> first | decide | (simp; done)) | with_reducible refine MineS.set ?_ _ _ _ | with_reducible refine MineS.alloc ?_ _) | with_reducible refine Mine.other ?_ _ (by first | (left; omega) | (right; omega) | (simp; done) | (simp; omega)) | with_reducible refine Mine.alloc ?_ _)
  replace m13 : Mine w2 w.heap.size 3 (.int .i64 x3) := by rw [hww2]; (repeat first | with_reducible assumption | with_reducible refine Mine.drew ?_ | with_reducible refine Mine.drewN ?_ _ | ((with_reducible refine Mine.new ?_); rfl) | ((with_reducible refine Mine.newAt ?_ ?_) <;> first | rfl | (simp; done) | (simp only [World.size_alloc]; rfl)) | ((with_reducible refine Mine.set ?_ _); repeat first | exact Mine.slot (by with_reducible assumption) | with_reducible refine MineS.drew ?_ | with_reducible refine MineS.drewN ?_ _ | ((with_reducible refine MineS.new ?_); decide) | ((with_reducible refine MineS.newAt ?_ ?_) <;> first | decide | (simp; done)) | with_reducible refine MineS.set ?_ _ _ _ | with_reducible refine MineS.alloc ?_ _) | with_reducible refine Mine.other ?_ _ (by first | (left; omega) | (right; omega) | (simp; done) | (simp; omega)) | with_reducible refine Mine.alloc ?_ _)
  replace m14 : Mine w2 w.heap.size 4 (.int .i64 x4) := by rw [hww2]; (repeat first | with_reducible assumption | with_reducible refine Mine.drew ?_ | with_reducible refine Mine.drewN ?_ _ | ((with_reducible refine Mine.new ?_); rfl) | ((with_reducible refine Mine.newAt ?_ ?_) <;> first | rfl | (simp; done) | (simp only [World.size_alloc]; rfl)) | ((with_reducible refine Mine.set ?_ _); repeat first | exact Mine.slot (by with_reducible assumption) | with_reducible refine MineS.drew ?_ | with_reducible refine MineS.drewN ?_ _ | ((with_reducible refine MineS.new ?_); decide) | ((with_reducible refine MineS.newAt ?_ ?_) <;> first | decide | (simp; done)) | with_reducible refine MineS.set ?_ _ _ _ | with_reducible refine MineS.alloc ?_ _) | with_reducible refine Mine.other ?_ _ (by first | (left; omega) | (right; omega) | (simp; done) | (simp; omega)) | with_reducible refine Mine.alloc ?_ _)
  replace m15 : Mine w2 w.heap.size 5 (.int .i64 x5) := by rw [hww2]; (repeat first | with_reducible assumption | with_reducible refine Mine.drew ?_ | with_reducible refine Mine.drewN ?_ _ | ((with_reducible refine Mine.new ?_); rfl) | ((with_reducible refine Mine.newAt ?_ ?_) <;> first | rfl | (simp; done) | (simp only [World.size_alloc]; rfl)) | ((with_reducible refine Mine.set ?_ _); repeat first | exact Mine.slot (by with_reducible assumption) | with_reducible refine MineS.drew ?_ | with_reducible refine MineS.drewN ?_ _ | ((with_reducible refine MineS.new ?_); decide) | ((with_reducible refine MineS.newAt ?_ ?_) <;> first | decide | (simp; done)) | with_reducible refine MineS.set ?_ _ _ _ | with_reducible refine MineS.alloc ?_ _) | with_reducible refine Mine.other ?_ _ (by first | (left; omega) | (right; omega) | (simp; done) | (simp; omega)) | with_reducible refine Mine.alloc ?_ _)
  have hBzw2 := hB.size
  replace hB : Below w.heap.size w w2 := by rw [hww2]; exact (by repeat first | with_reducible exact Below.refl _ _ | with_reducible assumption | with_reducible refine below_drewN ?_ _ | with_reducible refine Below.drew ?_ | with_reducible refine Below.setCell ?_ (by first | exact Nat.le_refl _ | (simp; done) | (simp; omega) | omega) _ | with_reducible refine Below.alloc ?_ (by first | exact Nat.le_refl _ | (simp; done) | (simp; omega) | omega) _ | exact Below.refl _ _ | assumption)
  clear hww2 hBzw2
  refine (hPa.out _ (hE.below hB)).mono ?_
  rintro e v2a ⟨rfl, hb1⟩
  replace m10 := m10.below hb1
  replace m11 := m11.below hb1
  replace m12 := m12.below hb1
  replace m13 := m13.below hb1
  replace m14 := m14.below hb1
  replace m15 := m15.below hb1
  replace hB := hB.trans (hb1.mono hB.size)
  have hb_v2a := hb1
  clear hb1
  clear hPa
  rcases hsp with ⟨rfl, _⟩ | ⟨n, d, rfl, hvd, hpt⟩
  · have hPr := fun w hE => Print_any 0 0 w ⟨by omega, by omega⟩ ⟨by omega, by omega⟩ hE
    rw [show prtv 0 0 = ([], 30) by decide +kernel] at hPr
    replace hPr := Lib.hid hPr
    go_wp2_with fail
    refine name_calls ?_
    intro wz hwwz
    replace m10 : Mine wz w.heap.size 0 (.int .i64 x0) := by rw [hwwz]; (repeat first | with_reducible assumption | with_reducible refine Mine.drew ?_ | with_reducible refine Mine.drewN ?_ _ | ((with_reducible refine Mine.new ?_); rfl) | ((with_reducible refine Mine.newAt ?_ ?_) <;> first | rfl | (simp; done) | (simp only [World.size_alloc]; rfl)) | ((with_reducible refine Mine.set ?_ _); repeat first | exact Mine.slot (by with_reducible assumption) | with_reducible refine MineS.drew ?_ | with_reducible refine MineS.drewN ?_ _ | ((with_reducible refine MineS.new ?_); decide) | ((with_reducible refine MineS.newAt ?_ ?_) <;> first | decide | (simp; done)) | with_reducible refine MineS.set ?_ _ _ _ | with_reducible refine MineS.alloc ?_ _) | with_reducible refine Mine.other ?_ _ (by first | (left; omega) | (right; omega) | (simp; done) | (simp; omega)) | with_reducible refine Mine.alloc ?_ _)
    replace m11 : Mine wz w.heap.size 1 (.int .i64 x1) := by rw [hwwz]; (repeat first | with_reducible assumption | with_reducible refine Mine.drew ?_ | with_reducible refine Mine.drewN ?_ _ | ((with_reducible refine Mine.new ?_); rfl) | ((with_reducible refine Mine.newAt ?_ ?_) <;> first | rfl | (simp; done) | (simp only [World.size_alloc]; rfl)) | ((with_reducible refine Mine.set ?_ _); repeat first | exact Mine.slot (by with_reducible assumption) | with_reducible refine MineS.drew ?_ | with_reducible refine MineS.drewN ?_ _ | ((with_reducible refine MineS.new ?_); decide) | ((with_reducible refine MineS.newAt ?_ ?_) <;> first | decide | (simp; done)) | with_reducible refine MineS.set ?_ _ _ _ | with_reducible refine MineS.alloc ?_ _) | with_reducible refine Mine.other ?_ _ (by first | (left; omega) | (right; omega) | (simp; done) | (simp; omega)) | with_reducible refine Mine.alloc ?_ _)
    replace m12 : Mine wz w.heap.size 2 (.int .i64 x2) := by rw [hwwz]; (repeat first | with_reducible assumption | with_reducible refine Mine.drew ?_ | with_reducible refine Mine.drewN ?_ _ | ((with_reducible refine Mine.new ?_); rfl) | ((with_reducible refine Mine.newAt ?_ ?_) <;> first | rfl | (simp; done) | (simp only [World.size_alloc]; rfl)) | ((with_reducible refine Mine.set ?_ _); repeat first | exact Mine.slot (by with_reducible assumption) | with_reducible refine MineS.drew ?_ | with_reducible refine MineS.drewN ?_ _ | ((with_reducible refine MineS.new ?_); decide) | ((with_reducible refine MineS.newAt ?_ ?_) <;> first | decide | (simp; done)) | with_reducible refine MineS.set ?_ _ _ _ | with_reducible refine MineS.alloc ?_ _) | with_reducible refine Mine.other ?_ _ (by first | (left; omega) | (right; omega) | (simp; done) | (simp; omega)) | with_reducible refine Mine.alloc ?_ _)
    replace m13 : Mine wz w.heap.size 3 (.int .i64 x3) := by rw [hwwz]; (repeat first | with_reducible assumption | with_reducible refine Mine.drew ?_ | with_reducible refine Mine.drewN ?_ _ | ((with_reducible refine Mine.new ?_); rfl) | ((with_reducible refine Mine.newAt ?_ ?_) <;> first | rfl | (simp; done) | (simp only [World.size_alloc]; rfl)) | ((with_reducible refine Mine.set ?_ _); repeat first | exact Mine.slot (by with_reducible assumption) | with_reducible refine MineS.drew ?_ | with_reducible refine MineS.drewN ?_ _ | ((with_reducible refine MineS.new ?_); decide) | ((with_reducible refine MineS.newAt ?_ ?_) <;> first | decide | (simp; done)) | with_reducible refine MineS.set ?_ _ _ _ | with_reducible refine MineS.alloc ?_ _) | with_reducible refine Mine.other ?_ _ (by first | (left; omega) | (right; omega) | (simp; done) | (simp; omega)) | with_reducible refine Mine.alloc ?_ _)
    replace m14 : Mine wz w.heap.size 4 (.int .i64 x4) := by rw [hwwz]; (repeat first | with_reducible assumption | with_reducible refine Mine.drew ?_ | with_reducible refine Mine.drewN ?_ _ | ((with_reducible refine Mine.new ?_); rfl) | ((with_reducible refine Mine.newAt ?_ ?_) <;> first | rfl | (simp; done) | (simp only [World.size_alloc]; rfl)) | ((with_reducible refine Mine.set ?_ _); repeat first | exact Mine.slot (by with_reducible assumption) | with_reducible refine MineS.drew ?_ | with_reducible refine MineS.drewN ?_ _ | ((with_reducible refine MineS.new ?_); decide) | ((with_reducible refine MineS.newAt ?_ ?_) <;> first | decide | (simp; done)) | with_reducible refine MineS.set ?_ _ _ _ | with_reducible refine MineS.alloc ?_ _) | with_reducible refine Mine.other ?_ _ (by first | (left; omega) | (right; omega) | (simp; done) | (simp; omega)) | with_reducible refine Mine.alloc ?_ _)
    replace m15 : Mine wz w.heap.size 5 (.int .i64 x5) := by rw [hwwz]; (repeat first | with_reducible assumption | with_reducible refine Mine.drew ?_ | with_reducible refine Mine.drewN ?_ _ | ((with_reducible refine Mine.new ?_); rfl) | ((with_reducible refine Mine.newAt ?_ ?_) <;> first | rfl | (simp; done) | (simp only [World.size_alloc]; rfl)) | ((with_reducible refine Mine.set ?_ _); repeat first | exact Mine.slot (by with_reducible assumption) | with_reducible refine MineS.drew ?_ | with_reducible refine MineS.drewN ?_ _ | ((with_reducible refine MineS.new ?_); decide) | ((with_reducible refine MineS.newAt ?_ ?_) <;> first | decide | (simp; done)) | with_reducible refine MineS.set ?_ _ _ _ | with_reducible refine MineS.alloc ?_ _) | with_reducible refine Mine.other ?_ _ (by first | (left; omega) | (right; omega) | (simp; done) | (simp; omega)) | with_reducible refine Mine.alloc ?_ _)
    replace mz1 : Mine wz v2a.heap.size 0 (.int .i64 0) := by rw [hwwz]; (repeat first | with_reducible assumption | with_reducible refine Mine.drew ?_ | with_reducible refine Mine.drewN ?_ _ | ((with_reducible refine Mine.new ?_); rfl) | ((with_reducible refine Mine.newAt ?_ ?_) <;> first | rfl | (simp; done) | (simp only [World.size_alloc]; rfl)) | ((with_reducible refine Mine.set ?_ _); repeat first | exact Mine.slot (by with_reducible assumption) | with_reducible refine MineS.drew ?_ | with_reducible refine MineS.drewN ?_ _ | ((with_reducible refine MineS.new ?_); decide) | ((with_reducible refine MineS.newAt ?_ ?_) <;> first | decide | (simp; done)) | with_reducible refine MineS.set ?_ _ _ _ | with_reducible refine MineS.alloc ?_ _) | with_reducible refine Mine.other ?_ _ (by first | (left; omega) | (right; omega) | (simp; done) | (simp; omega)) | with_reducible refine Mine.alloc ?_ _)
    replace mz2 : Mine wz v2a.heap.size 1 (.int .i64 0) := by rw [hwwz]; (repeat first | with_reducible assumption | with_reducible refine Mine.drew ?_ | with_reducible refine Mine.drewN ?_ _ | ((with_reducible refine Mine.new ?_); rfl) | ((with_reducible refine Mine.newAt ?_ ?_) <;> first | rfl | (simp; done) | (simp only [World.size_alloc]; rfl)) | ((with_reducible refine Mine.set ?_ _); repeat first | exact Mine.slot (by with_reducible assumption) | with_reducible refine MineS.drew ?_ | with_reducible refine MineS.drewN ?_ _ | ((with_reducible refine MineS.new ?_); decide) | ((with_reducible refine MineS.newAt ?_ ?_) <;> first | decide | (simp; done)) | with_reducible refine MineS.set ?_ _ _ _ | with_reducible refine MineS.alloc ?_ _) | with_reducible refine Mine.other ?_ _ (by first | (left; omega) | (right; omega) | (simp; done) | (simp; omega)) | with_reducible refine Mine.alloc ?_ _)
    have hBzwz := hB.size
    replace hB : Below w.heap.size w wz := by rw [hwwz]; exact (by repeat first | with_reducible exact Below.refl _ _ | with_reducible assumption | with_reducible refine below_drewN ?_ _ | with_reducible refine Below.drew ?_ | with_reducible refine Below.setCell ?_ (by first | exact Nat.le_refl _ | (simp; done) | (simp; omega) | omega) _ | with_reducible refine Below.alloc ?_ (by first | exact Nat.le_refl _ | (simp; done) | (simp; omega) | omega) _ | exact Below.refl _ _ | assumption)
    clear hwwz hBzwz
    generalize v2a.heap.size = bz at *
    refine (hPr.out _ (hE.below hB)).mono ?_
    rintro e v2b ⟨rfl, hb1⟩
    replace m10 := m10.below hb1
    replace m11 := m11.below hb1
    replace m12 := m12.below hb1
    replace m13 := m13.below hb1
    replace m14 := m14.below hb1
    replace m15 := m15.below hb1
    replace mz1 := mz1.below hb1
    replace mz2 := mz2.below hb1
    replace hB := hB.trans (hb1.mono hB.size)
    have hb_v2b := hb1
    clear hb1
    clear hPr hb_v1 hb_v2a hb_v2b
    go_wp2_with fail
    have hzd : w.heap.size ≤ v2b.heap.size := hB.size
    have hzq : w.heap.size ≤ v2b.drew.heap.size := hB.size
    have cz1 := mz1.cell
    have fz1 := mz1.free
    have lz1 := mz1.lt
    have cz2 := mz2.cell
    have fz2 := mz2.free
    have lz2 := mz2.lt
    refine wp_region_held_drew (S := fun w' => w'.cell? ⟨bz, 0, none⟩ = some (.int .i64 0) ∧ w'.cell? ⟨bz, 1, none⟩ = some (.int .i64 0)) (by kernel_rfl) (by first | (dsimp only; go_keep) | go_keep) (fun hHeld => ?_)
    refine take_l (i := 0) (v := ?_) rfl (by kernel_rfl) (by kernel_rfl) (by kernel_rfl) (fun _ _ _ h => h) (Or.inl ⟨by kernel_rfl, ?_⟩) (by assumption) ?_
    rotate_left
    · intro w hSw; (try dsimp only at hSw); go_simp; (try with_reducible rfl)
    (try dsimp only [Act.put, List.setIfInBounds_toArray, List.set_cons_zero, List.set_cons_succ])
    refine take_l (i := 1) (v := ?_) rfl (by kernel_rfl) (by kernel_rfl) (by kernel_rfl) (fun _ _ _ h => h) (Or.inl ⟨by kernel_rfl, ?_⟩) (by assumption) ?_
    rotate_left
    · intro w hSw; (try dsimp only at hSw); go_simp; (try with_reducible rfl)
    (try dsimp only [Act.put, List.setIfInBounds_toArray, List.set_cons_zero, List.set_cons_succ])
    refine take_l (i := 2) (v := ?_) rfl (by kernel_rfl) (by kernel_rfl) (by kernel_rfl) (fun _ _ _ h => h) (Or.inl ⟨by kernel_rfl, ?_⟩) (by assumption) ?_
    rotate_left
    · intro w hSw; (try dsimp only at hSw); go_simp; (try with_reducible rfl)
    (try dsimp only [Act.put, List.setIfInBounds_toArray, List.set_cons_zero, List.set_cons_succ])
    refine take_l (i := 3) (v := ?_) rfl (by kernel_rfl) (by kernel_rfl) (by kernel_rfl) (fun _ _ _ h => h) (Or.inl ⟨by kernel_rfl, ?_⟩) (by assumption) ?_
    rotate_left
    · intro w hSw; (try dsimp only at hSw); go_simp; (try with_reducible rfl)
    (try dsimp only [Act.put, List.setIfInBounds_toArray, List.set_cons_zero, List.set_cons_succ])
    refine take_l (i := 4) (v := ?_) rfl (by kernel_rfl) (by kernel_rfl) (by kernel_rfl) (fun _ _ _ h => h) (Or.inl ⟨by kernel_rfl, ?_⟩) (by assumption) ?_
    rotate_left
    · intro w hSw; (try dsimp only at hSw); go_simp; (try with_reducible rfl)
    (try dsimp only [Act.put, List.setIfInBounds_toArray, List.set_cons_zero, List.set_cons_succ])
    refine take_l (i := 5) (v := ?_) rfl (by kernel_rfl) (by kernel_rfl) (by kernel_rfl) (fun _ _ _ h => h) (Or.inl ⟨by kernel_rfl, ?_⟩) (by assumption) ?_
    rotate_left
    · intro w hSw; (try dsimp only at hSw); go_simp; (try with_reducible rfl)
    (try dsimp only [Act.put, List.setIfInBounds_toArray, List.set_cons_zero, List.set_cons_succ])
    refine take_l (i := 6) (v := ?_) rfl (by kernel_rfl) (by kernel_rfl) (by kernel_rfl) (fun _ _ _ h => h) (Or.inl ⟨by kernel_rfl, ?_⟩) (by assumption) ?_
    rotate_left
    · intro w hSw; (try dsimp only at hSw); go_simp; (try with_reducible rfl)
    (try dsimp only [Act.put, List.setIfInBounds_toArray, List.set_cons_zero, List.set_cons_succ])
    refine take_l (i := 7) (v := ?_) rfl (by kernel_rfl) (by kernel_rfl) (by kernel_rfl) (fun _ _ _ h => h) (Or.inl ⟨by kernel_rfl, ?_⟩) (by assumption) ?_
    rotate_left
    · intro w hSw; (try dsimp only at hSw); go_simp; (try with_reducible rfl)
    (try dsimp only [Act.put, List.setIfInBounds_toArray, List.set_cons_zero, List.set_cons_succ])
    refine take_l (i := 8) (v := ?_) rfl (by kernel_rfl) (by kernel_rfl) (by kernel_rfl) (fun _ _ _ h => h) (Or.inl ⟨by kernel_rfl, ?_⟩) (by assumption) ?_
    rotate_left
    · intro w hSw; (try dsimp only at hSw); go_simp; (try with_reducible rfl)
    (try dsimp only [Act.put, List.setIfInBounds_toArray, List.set_cons_zero, List.set_cons_succ])
    refine take_l (i := 9) (v := undef) rfl (by kernel_rfl) (by kernel_rfl) (by kernel_rfl) (fun _ _ _ h => h) (Or.inr ⟨by kernel_rfl, rfl⟩) (by assumption) ?_
    (try dsimp only [Act.put, List.setIfInBounds_toArray, List.set_cons_zero, List.set_cons_succ])
    refine take_l (i := 10) (v := undef) rfl (by kernel_rfl) (by kernel_rfl) (by kernel_rfl) (fun _ _ _ h => h) (Or.inr ⟨by kernel_rfl, rfl⟩) (by assumption) ?_
    (try dsimp only [Act.put, List.setIfInBounds_toArray, List.set_cons_zero, List.set_cons_succ])
    refine take_l (i := 11) (v := undef) rfl (by kernel_rfl) (by kernel_rfl) (by kernel_rfl) (fun _ _ _ h => h) (Or.inr ⟨by kernel_rfl, rfl⟩) (by assumption) ?_
    (try dsimp only [Act.put, List.setIfInBounds_toArray, List.set_cons_zero, List.set_cons_succ])
    refine take_l (i := 12) (v := ?_) rfl (by kernel_rfl) (by kernel_rfl) (by kernel_rfl) (fun _ _ _ h => h) (Or.inl ⟨by kernel_rfl, ?_⟩) (by assumption) ?_
    rotate_left
    · intro w hSw; (try dsimp only at hSw); go_simp; (try with_reducible rfl)
    (try dsimp only [Act.put, List.setIfInBounds_toArray, List.set_cons_zero, List.set_cons_succ])
    refine take_l (i := 13) (v := ?_) rfl (by kernel_rfl) (by kernel_rfl) (by kernel_rfl) (fun _ _ _ h => h) (Or.inl ⟨by kernel_rfl, ?_⟩) (by assumption) ?_
    rotate_left
    · intro w hSw; (try dsimp only at hSw); go_simp; (try with_reducible rfl)
    (try dsimp only [Act.put, List.setIfInBounds_toArray, List.set_cons_zero, List.set_cons_succ])
    refine take_l (i := 14) (v := ?_) rfl (by kernel_rfl) (by kernel_rfl) (by kernel_rfl) (fun _ _ _ h => h) (Or.inl ⟨by kernel_rfl, ?_⟩) (by assumption) ?_
    rotate_left
    · intro w hSw; (try dsimp only at hSw); go_simp; (try with_reducible rfl)
    (try dsimp only [Act.put, List.setIfInBounds_toArray, List.set_cons_zero, List.set_cons_succ])
    refine take_l (i := 15) (v := ?_) rfl (by kernel_rfl) (by kernel_rfl) (by kernel_rfl) (fun _ _ _ h => h) (Or.inl ⟨by kernel_rfl, ?_⟩) (by assumption) ?_
    rotate_left
    · intro w hSw; (try dsimp only at hSw); go_simp; (try with_reducible rfl)
    (try dsimp only [Act.put, List.setIfInBounds_toArray, List.set_cons_zero, List.set_cons_succ])
    refine take_l (i := 16) (v := ?_) rfl (by kernel_rfl) (by kernel_rfl) (by kernel_rfl) (fun _ _ _ h => h) (Or.inl ⟨by kernel_rfl, ?_⟩) (by assumption) ?_
    rotate_left
    · intro w hSw; (try dsimp only at hSw); go_simp; (try with_reducible rfl)
    (try dsimp only [Act.put, List.setIfInBounds_toArray, List.set_cons_zero, List.set_cons_succ])
    refine take_l (i := 17) (v := ?_) rfl (by kernel_rfl) (by kernel_rfl) (by kernel_rfl) (fun _ _ _ h => h) (Or.inl ⟨by kernel_rfl, ?_⟩) (by assumption) ?_
    rotate_left
    · intro w hSw; (try dsimp only at hSw); go_simp; (try with_reducible rfl)
    (try dsimp only [Act.put, List.setIfInBounds_toArray, List.set_cons_zero, List.set_cons_succ])
    refine take_l (i := 18) (v := ?_) rfl (by kernel_rfl) (by kernel_rfl) (by kernel_rfl) (fun _ _ _ h => h) (Or.inl ⟨by kernel_rfl, ?_⟩) (by assumption) ?_
    rotate_left
    · intro w hSw; (try dsimp only at hSw); go_simp; (try with_reducible rfl)
    (try dsimp only [Act.put, List.setIfInBounds_toArray, List.set_cons_zero, List.set_cons_succ])
    refine wpAnyH_ready (rs := [19]) (by kernel_rfl) (by simp) ?_
    refine ready_l rfl (fun K hK => ?_) AllReadyH.nil
    go_simp
    (go_at_call 14; refine (is_any _ _ _).mono ?_; rintro e wi ⟨rfl, hbwi⟩; have n10wi : Mine wi w.heap.size 0 (.int .i64 x0) := Mine.below (by (repeat first | with_reducible assumption | with_reducible refine Mine.drew ?_ | with_reducible refine Mine.drewN ?_ _ | ((with_reducible refine Mine.new ?_); rfl) | ((with_reducible refine Mine.newAt ?_ ?_) <;> first | rfl | (simp; done) | (simp only [World.size_alloc]; rfl)) | ((with_reducible refine Mine.set ?_ _); repeat first | exact Mine.slot (by with_reducible assumption) | with_reducible refine MineS.drew ?_ | with_reducible refine MineS.drewN ?_ _ | ((with_reducible refine MineS.new ?_); decide) | ((with_reducible refine MineS.newAt ?_ ?_) <;> first | decide | (simp; done)) | with_reducible refine MineS.set ?_ _ _ _ | with_reducible refine MineS.alloc ?_ _) | with_reducible refine Mine.other ?_ _ (by first | (left; omega) | (right; omega) | (simp; done) | (simp; omega)) | with_reducible refine Mine.alloc ?_ _)) hbwi; have g10wi := n10wi.cell; have gf10wi := n10wi.free; have n11wi : Mine wi w.heap.size 1 (.int .i64 x1) := Mine.below (by (repeat first | with_reducible assumption | with_reducible refine Mine.drew ?_ | with_reducible refine Mine.drewN ?_ _ | ((with_reducible refine Mine.new ?_); rfl) | ((with_reducible refine Mine.newAt ?_ ?_) <;> first | rfl | (simp; done) | (simp only [World.size_alloc]; rfl)) | ((with_reducible refine Mine.set ?_ _); repeat first | exact Mine.slot (by with_reducible assumption) | with_reducible refine MineS.drew ?_ | with_reducible refine MineS.drewN ?_ _ | ((with_reducible refine MineS.new ?_); decide) | ((with_reducible refine MineS.newAt ?_ ?_) <;> first | decide | (simp; done)) | with_reducible refine MineS.set ?_ _ _ _ | with_reducible refine MineS.alloc ?_ _) | with_reducible refine Mine.other ?_ _ (by first | (left; omega) | (right; omega) | (simp; done) | (simp; omega)) | with_reducible refine Mine.alloc ?_ _)) hbwi; have g11wi := n11wi.cell; have gf11wi := n11wi.free; have n12wi : Mine wi w.heap.size 2 (.int .i64 x2) := Mine.below (by (repeat first | with_reducible assumption | with_reducible refine Mine.drew ?_ | with_reducible refine Mine.drewN ?_ _ | ((with_reducible refine Mine.new ?_); rfl) | ((with_reducible refine Mine.newAt ?_ ?_) <;> first | rfl | (simp; done) | (simp only [World.size_alloc]; rfl)) | ((with_reducible refine Mine.set ?_ _); repeat first | exact Mine.slot (by with_reducible assumption) | with_reducible refine MineS.drew ?_ | with_reducible refine MineS.drewN ?_ _ | ((with_reducible refine MineS.new ?_); decide) | ((with_reducible refine MineS.newAt ?_ ?_) <;> first | decide | (simp; done)) | with_reducible refine MineS.set ?_ _ _ _ | with_reducible refine MineS.alloc ?_ _) | with_reducible refine Mine.other ?_ _ (by first | (left; omega) | (right; omega) | (simp; done) | (simp; omega)) | with_reducible refine Mine.alloc ?_ _)) hbwi; have g12wi := n12wi.cell; have gf12wi := n12wi.free; have n13wi : Mine wi w.heap.size 3 (.int .i64 x3) := Mine.below (by (repeat first | with_reducible assumption | with_reducible refine Mine.drew ?_ | with_reducible refine Mine.drewN ?_ _ | ((with_reducible refine Mine.new ?_); rfl) | ((with_reducible refine Mine.newAt ?_ ?_) <;> first | rfl | (simp; done) | (simp only [World.size_alloc]; rfl)) | ((with_reducible refine Mine.set ?_ _); repeat first | exact Mine.slot (by with_reducible assumption) | with_reducible refine MineS.drew ?_ | with_reducible refine MineS.drewN ?_ _ | ((with_reducible refine MineS.new ?_); decide) | ((with_reducible refine MineS.newAt ?_ ?_) <;> first | decide | (simp; done)) | with_reducible refine MineS.set ?_ _ _ _ | with_reducible refine MineS.alloc ?_ _) | with_reducible refine Mine.other ?_ _ (by first | (left; omega) | (right; omega) | (simp; done) | (simp; omega)) | with_reducible refine Mine.alloc ?_ _)) hbwi; have g13wi := n13wi.cell; have gf13wi := n13wi.free; have n14wi : Mine wi w.heap.size 4 (.int .i64 x4) := Mine.below (by (repeat first | with_reducible assumption | with_reducible refine Mine.drew ?_ | with_reducible refine Mine.drewN ?_ _ | ((with_reducible refine Mine.new ?_); rfl) | ((with_reducible refine Mine.newAt ?_ ?_) <;> first | rfl | (simp; done) | (simp only [World.size_alloc]; rfl)) | ((with_reducible refine Mine.set ?_ _); repeat first | exact Mine.slot (by with_reducible assumption) | with_reducible refine MineS.drew ?_ | with_reducible refine MineS.drewN ?_ _ | ((with_reducible refine MineS.new ?_); decide) | ((with_reducible refine MineS.newAt ?_ ?_) <;> first | decide | (simp; done)) | with_reducible refine MineS.set ?_ _ _ _ | with_reducible refine MineS.alloc ?_ _) | with_reducible refine Mine.other ?_ _ (by first | (left; omega) | (right; omega) | (simp; done) | (simp; omega)) | with_reducible refine Mine.alloc ?_ _)) hbwi; have g14wi := n14wi.cell; have gf14wi := n14wi.free; have n15wi : Mine wi w.heap.size 5 (.int .i64 x5) := Mine.below (by (repeat first | with_reducible assumption | with_reducible refine Mine.drew ?_ | with_reducible refine Mine.drewN ?_ _ | ((with_reducible refine Mine.new ?_); rfl) | ((with_reducible refine Mine.newAt ?_ ?_) <;> first | rfl | (simp; done) | (simp only [World.size_alloc]; rfl)) | ((with_reducible refine Mine.set ?_ _); repeat first | exact Mine.slot (by with_reducible assumption) | with_reducible refine MineS.drew ?_ | with_reducible refine MineS.drewN ?_ _ | ((with_reducible refine MineS.new ?_); decide) | ((with_reducible refine MineS.newAt ?_ ?_) <;> first | decide | (simp; done)) | with_reducible refine MineS.set ?_ _ _ _ | with_reducible refine MineS.alloc ?_ _) | with_reducible refine Mine.other ?_ _ (by first | (left; omega) | (right; omega) | (simp; done) | (simp; omega)) | with_reducible refine Mine.alloc ?_ _)) hbwi; have g15wi := n15wi.cell; have gf15wi := n15wi.free; have nz1wi : Mine wi bz 0 (.int .i64 0) := Mine.below (by (repeat first | with_reducible assumption | with_reducible refine Mine.drew ?_ | with_reducible refine Mine.drewN ?_ _ | ((with_reducible refine Mine.new ?_); rfl) | ((with_reducible refine Mine.newAt ?_ ?_) <;> first | rfl | (simp; done) | (simp only [World.size_alloc]; rfl)) | ((with_reducible refine Mine.set ?_ _); repeat first | exact Mine.slot (by with_reducible assumption) | with_reducible refine MineS.drew ?_ | with_reducible refine MineS.drewN ?_ _ | ((with_reducible refine MineS.new ?_); decide) | ((with_reducible refine MineS.newAt ?_ ?_) <;> first | decide | (simp; done)) | with_reducible refine MineS.set ?_ _ _ _ | with_reducible refine MineS.alloc ?_ _) | with_reducible refine Mine.other ?_ _ (by first | (left; omega) | (right; omega) | (simp; done) | (simp; omega)) | with_reducible refine Mine.alloc ?_ _)) hbwi; have gz1wi := nz1wi.cell; have gfz1wi := nz1wi.free; have nz2wi : Mine wi bz 1 (.int .i64 0) := Mine.below (by (repeat first | with_reducible assumption | with_reducible refine Mine.drew ?_ | with_reducible refine Mine.drewN ?_ _ | ((with_reducible refine Mine.new ?_); rfl) | ((with_reducible refine Mine.newAt ?_ ?_) <;> first | rfl | (simp; done) | (simp only [World.size_alloc]; rfl)) | ((with_reducible refine Mine.set ?_ _); repeat first | exact Mine.slot (by with_reducible assumption) | with_reducible refine MineS.drew ?_ | with_reducible refine MineS.drewN ?_ _ | ((with_reducible refine MineS.new ?_); decide) | ((with_reducible refine MineS.newAt ?_ ?_) <;> first | decide | (simp; done)) | with_reducible refine MineS.set ?_ _ _ _ | with_reducible refine MineS.alloc ?_ _) | with_reducible refine Mine.other ?_ _ (by first | (left; omega) | (right; omega) | (simp; done) | (simp; omega)) | with_reducible refine Mine.alloc ?_ _)) hbwi; have gz2wi := nz2wi.cell; have gfz2wi := nz2wi.free; have hBwi : Below w.heap.size w wi := Below.trans (by repeat first | with_reducible exact Below.refl _ _ | with_reducible assumption | with_reducible refine below_drewN ?_ _ | with_reducible refine Below.drew ?_ | with_reducible refine Below.setCell ?_ (by first | exact Nat.le_refl _ | (simp; done) | (simp; omega) | omega) _ | with_reducible refine Below.alloc ?_ (by first | exact Nat.le_refl _ | (simp; done) | (simp; omega) | omega) _ | exact Below.refl _ _ | assumption) (hbwi.mono (by first | exact Nat.le_refl _ | assumption | (simp; done) | (simp; omega) | omega)); have hzwi := hbwi.size; )
    refine hK.out _ _ (by first | (dsimp only; go_keep) | go_keep) (fun hHeld => ?_)
    clear hK K
    (try dsimp only [Act.put, List.setIfInBounds_toArray, List.set_cons_zero, List.set_cons_succ])
    refine take_l (i := 20) (v := ?_) rfl (by kernel_rfl) (by kernel_rfl) (by kernel_rfl) (fun _ _ _ h => h) (Or.inl ⟨by kernel_rfl, ?_⟩) (by assumption) ?_
    rotate_left
    · intro w hSw; (try dsimp only at hSw); go_simp; (try with_reducible rfl)
    (try dsimp only [Act.put, List.setIfInBounds_toArray, List.set_cons_zero, List.set_cons_succ])
    refine take_l (i := 21) (v := ?_) rfl (by kernel_rfl) (by kernel_rfl) (by kernel_rfl) (fun _ _ _ h => h) (Or.inl ⟨by kernel_rfl, ?_⟩) (by assumption) ?_
    rotate_left
    · intro w hSw; (try dsimp only at hSw); go_simp; (try with_reducible rfl)
    (try dsimp only [Act.put, List.setIfInBounds_toArray, List.set_cons_zero, List.set_cons_succ])
    refine take_l (i := 22) (v := ?_) rfl (by kernel_rfl) (by kernel_rfl) (by kernel_rfl) (fun _ _ _ h => h) (Or.inl ⟨by kernel_rfl, ?_⟩) (by assumption) ?_
    rotate_left
    · intro w hSw; (try dsimp only at hSw); go_simp; (try with_reducible rfl)
    (try dsimp only [Act.put, List.setIfInBounds_toArray, List.set_cons_zero, List.set_cons_succ])
    refine wpAnyH_done (by kernel_rfl) ?_ _
    have hzx := hB.size
    clear cz1 fz1 lz1
    clear cz2 fz2 lz2
    clear hNEd
    have c10 := m10.cell
    have f10 := m10.free
    have l10 := m10.lt
    have c11 := m11.cell
    have f11 := m11.free
    have l11 := m11.lt
    have c12 := m12.cell
    have f12 := m12.free
    have l12 := m12.lt
    have c13 := m13.cell
    have f13 := m13.free
    have l13 := m13.lt
    have c14 := m14.cell
    have f14 := m14.free
    have l14 := m14.lt
    have c15 := m15.cell
    have f15 := m15.free
    have l15 := m15.lt
    go_wp2_with fail
    clear c10 f10 l10
    clear c11 f11 l11
    clear c12 f12 l12
    clear c13 f13 l13
    clear c14 f14 l14
    clear c15 f15 l15
    refine name_calls ?_
    intro wm hwwm
    replace m10 : Mine wm w.heap.size 0 (.int .i64 x0) := by rw [hwwm]; (repeat first | with_reducible assumption | with_reducible refine Mine.drew ?_ | with_reducible refine Mine.drewN ?_ _ | ((with_reducible refine Mine.new ?_); rfl) | ((with_reducible refine Mine.newAt ?_ ?_) <;> first | rfl | (simp; done) | (simp only [World.size_alloc]; rfl)) | ((with_reducible refine Mine.set ?_ _); repeat first | exact Mine.slot (by with_reducible assumption) | with_reducible refine MineS.drew ?_ | with_reducible refine MineS.drewN ?_ _ | ((with_reducible refine MineS.new ?_); decide) | ((with_reducible refine MineS.newAt ?_ ?_) <;> first | decide | (simp; done)) | with_reducible refine MineS.set ?_ _ _ _ | with_reducible refine MineS.alloc ?_ _) | with_reducible refine Mine.other ?_ _ (by first | (left; omega) | (right; omega) | (simp; done) | (simp; omega)) | with_reducible refine Mine.alloc ?_ _)
    replace m11 : Mine wm w.heap.size 1 (.int .i64 x1) := by rw [hwwm]; (repeat first | with_reducible assumption | with_reducible refine Mine.drew ?_ | with_reducible refine Mine.drewN ?_ _ | ((with_reducible refine Mine.new ?_); rfl) | ((with_reducible refine Mine.newAt ?_ ?_) <;> first | rfl | (simp; done) | (simp only [World.size_alloc]; rfl)) | ((with_reducible refine Mine.set ?_ _); repeat first | exact Mine.slot (by with_reducible assumption) | with_reducible refine MineS.drew ?_ | with_reducible refine MineS.drewN ?_ _ | ((with_reducible refine MineS.new ?_); decide) | ((with_reducible refine MineS.newAt ?_ ?_) <;> first | decide | (simp; done)) | with_reducible refine MineS.set ?_ _ _ _ | with_reducible refine MineS.alloc ?_ _) | with_reducible refine Mine.other ?_ _ (by first | (left; omega) | (right; omega) | (simp; done) | (simp; omega)) | with_reducible refine Mine.alloc ?_ _)
    replace m12 : Mine wm w.heap.size 2 (.int .i64 x2) := by rw [hwwm]; (repeat first | with_reducible assumption | with_reducible refine Mine.drew ?_ | with_reducible refine Mine.drewN ?_ _ | ((with_reducible refine Mine.new ?_); rfl) | ((with_reducible refine Mine.newAt ?_ ?_) <;> first | rfl | (simp; done) | (simp only [World.size_alloc]; rfl)) | ((with_reducible refine Mine.set ?_ _); repeat first | exact Mine.slot (by with_reducible assumption) | with_reducible refine MineS.drew ?_ | with_reducible refine MineS.drewN ?_ _ | ((with_reducible refine MineS.new ?_); decide) | ((with_reducible refine MineS.newAt ?_ ?_) <;> first | decide | (simp; done)) | with_reducible refine MineS.set ?_ _ _ _ | with_reducible refine MineS.alloc ?_ _) | with_reducible refine Mine.other ?_ _ (by first | (left; omega) | (right; omega) | (simp; done) | (simp; omega)) | with_reducible refine Mine.alloc ?_ _)
    replace m13 : Mine wm w.heap.size 3 (.int .i64 x3) := by rw [hwwm]; (repeat first | with_reducible assumption | with_reducible refine Mine.drew ?_ | with_reducible refine Mine.drewN ?_ _ | ((with_reducible refine Mine.new ?_); rfl) | ((with_reducible refine Mine.newAt ?_ ?_) <;> first | rfl | (simp; done) | (simp only [World.size_alloc]; rfl)) | ((with_reducible refine Mine.set ?_ _); repeat first | exact Mine.slot (by with_reducible assumption) | with_reducible refine MineS.drew ?_ | with_reducible refine MineS.drewN ?_ _ | ((with_reducible refine MineS.new ?_); decide) | ((with_reducible refine MineS.newAt ?_ ?_) <;> first | decide | (simp; done)) | with_reducible refine MineS.set ?_ _ _ _ | with_reducible refine MineS.alloc ?_ _) | with_reducible refine Mine.other ?_ _ (by first | (left; omega) | (right; omega) | (simp; done) | (simp; omega)) | with_reducible refine Mine.alloc ?_ _)
    replace m14 : Mine wm w.heap.size 4 (.int .i64 x4) := by rw [hwwm]; (repeat first | with_reducible assumption | with_reducible refine Mine.drew ?_ | with_reducible refine Mine.drewN ?_ _ | ((with_reducible refine Mine.new ?_); rfl) | ((with_reducible refine Mine.newAt ?_ ?_) <;> first | rfl | (simp; done) | (simp only [World.size_alloc]; rfl)) | ((with_reducible refine Mine.set ?_ _); repeat first | exact Mine.slot (by with_reducible assumption) | with_reducible refine MineS.drew ?_ | with_reducible refine MineS.drewN ?_ _ | ((with_reducible refine MineS.new ?_); decide) | ((with_reducible refine MineS.newAt ?_ ?_) <;> first | decide | (simp; done)) | with_reducible refine MineS.set ?_ _ _ _ | with_reducible refine MineS.alloc ?_ _) | with_reducible refine Mine.other ?_ _ (by first | (left; omega) | (right; omega) | (simp; done) | (simp; omega)) | with_reducible refine Mine.alloc ?_ _)
    replace m15 : Mine wm w.heap.size 5 (.int .i64 x5) := by rw [hwwm]; (repeat first | with_reducible assumption | with_reducible refine Mine.drew ?_ | with_reducible refine Mine.drewN ?_ _ | ((with_reducible refine Mine.new ?_); rfl) | ((with_reducible refine Mine.newAt ?_ ?_) <;> first | rfl | (simp; done) | (simp only [World.size_alloc]; rfl)) | ((with_reducible refine Mine.set ?_ _); repeat first | exact Mine.slot (by with_reducible assumption) | with_reducible refine MineS.drew ?_ | with_reducible refine MineS.drewN ?_ _ | ((with_reducible refine MineS.new ?_); decide) | ((with_reducible refine MineS.newAt ?_ ?_) <;> first | decide | (simp; done)) | with_reducible refine MineS.set ?_ _ _ _ | with_reducible refine MineS.alloc ?_ _) | with_reducible refine Mine.other ?_ _ (by first | (left; omega) | (right; omega) | (simp; done) | (simp; omega)) | with_reducible refine Mine.alloc ?_ _)
    have hBzwm := hB.size
    replace hB : Below w.heap.size w wm := by rw [hwwm]; exact (by repeat first | with_reducible exact Below.refl _ _ | with_reducible assumption | with_reducible refine below_drewN ?_ _ | with_reducible refine Below.drew ?_ | with_reducible refine Below.setCell ?_ (by first | exact Nat.le_refl _ | (simp; done) | (simp; omega) | omega) _ | with_reducible refine Below.alloc ?_ (by first | exact Nat.le_refl _ | (simp; done) | (simp; omega) | omega) _ | exact Below.refl _ _ | assumption)
    clear hwwm hBzwm
    refine (hMade.out _).mono ?_
    rintro e v2 ⟨hm, hb1⟩
    replace m10 := m10.below hb1
    replace m11 := m11.below hb1
    replace m12 := m12.below hb1
    replace m13 := m13.below hb1
    replace m14 := m14.below hb1
    replace m15 := m15.below hb1
    replace hB := hB.trans (hb1.mono hB.size)
    have hb_v2 := hb1
    clear hb1
    clear m10 m11 m12 m13 m14 m15 hMade
    rcases hm with ⟨a, b, c, d, g, h, v1, v2x, v3, rfl⟩ | ⟨a, b, c, d, g, h, rfl⟩
    rotate_left
    · have hBz := hB.size
      go_wp2
      go_ret
      exact ⟨rfl, (by repeat first | with_reducible exact Below.refl _ _ | with_reducible assumption | with_reducible refine below_drewN ?_ _ | with_reducible refine Below.drew ?_ | with_reducible refine Below.setCell ?_ (by first | exact Nat.le_refl _ | (simp; done) | (simp; omega) | omega) _ | with_reducible refine Below.alloc ?_ (by first | exact Nat.le_refl _ | (simp; done) | (simp; omega) | omega) _ | exact Below.refl _ _ | assumption)⟩
    have K := clamp_in v1 v2x v3
    obtain ⟨k1, k2, hk⟩ : ∃ k1 k2, clampv a b c d g h = (k1, k2) := ⟨_, _, rfl⟩
    rw [hk] at K
    obtain ⟨K1, K2⟩ := K
    have ia := I64.num v1
    have ib := I64.den v1
    have ic := I64.num v2x
    have id := I64.den v2x
    have ig := I64.num v3
    have ih := I64.den v3
    have vk : vld k1 k2 = true := by
      rcases K2 with K2 | K2 | K2 <;> (simp only [Prod.mk.injEq] at K2; obtain ⟨rfl, rfl⟩ := K2; assumption)
    have Pn := fun w hE => Print_any a b w ia ib hE
    rw [show prtv a b = (prt a b, 0) by simp [prtv, v1]] at Pn
    have Ps := fun w hE => Parse_any (str (prt a b)) w (by have := prt_le v1; rw [str_size]; omega) hE
    rw [str_list, parse_prt v1] at Ps
    have Cl := fun w => Clamp_any a b c d g h w ia ib ic id ig ih
    rw [hk] at Cl
    have C1 := fun w => Compare_any c d g h w ic id ig ih
    have C2 := fun w => Compare_any c d k1 k2 w ic id (I64.num vk) (I64.den vk)
    have C3 := fun w => Compare_any k1 k2 g h w (I64.num vk) (I64.den vk) ig ih
    generalize cmpr c d g h = p at *
    dsimp only at K1 K2 C2 C3 Cl
    generalize cmpr c d k1 k2 = q1 at *
    generalize cmpr k1 k2 g h = q2 at *
    have E0 := fun w => run_eq_rv a b a b w
    rw [show (a == a && b == b) = true by simp] at E0
    have E1 := fun w => run_eq_rv k1 k2 a b w
    have E2 := fun w => run_eq_rv k1 k2 c d w
    have E3 := fun w => run_eq_rv k1 k2 g h w
    have hB3 : (k1 == a && k2 == b) = true ∨ ((k1 == a && k2 == b) = false ∧ (k1 == c && k2 == d) = true) ∨ ((k1 == a && k2 == b) = false ∧ (k1 == c && k2 == d) = false ∧ (k1 == g && k2 == h) = true) := by
      simp only [Prod.mk.injEq] at K2
      cases z1 : (k1 == a && k2 == b)
      · cases z2 : (k1 == c && k2 == d)
        · right; right
          rcases K2 with ⟨rfl, rfl⟩ | ⟨rfl, rfl⟩ | ⟨rfl, rfl⟩
          · simp at z1
          · simp at z2
          · simp
        · right; left; simp
      · left; rfl
    generalize (k1 == a && k2 == b) = B1 at *
    generalize (k1 == c && k2 == d) = B2 at *
    generalize (k1 == g && k2 == h) = B3 at *
    clear K2 hk vk ia ib ic id ig ih v1 v2x v3
    replace K1 := Lib.hid K1
    replace Pn := Lib.hid Pn
    replace Ps := Lib.hid Ps
    replace Cl := Lib.hid Cl
    replace C1 := Lib.hid C1
    replace C2 := Lib.hid C2
    replace C3 := Lib.hid C3
    generalize prt a b = tx at *
    go_wp2_with fail
    refine name_calls ?_
    intro w3 hww3
    replace m30 : Mine w3 v2.heap.size 0 (.int .i64 a) := by rw [hww3]; (repeat first | with_reducible assumption | with_reducible refine Mine.drew ?_ | with_reducible refine Mine.drewN ?_ _ | ((with_reducible refine Mine.new ?_); rfl) | ((with_reducible refine Mine.newAt ?_ ?_) <;> first | rfl | (simp; done) | (simp only [World.size_alloc]; rfl)) | ((with_reducible refine Mine.set ?_ _); repeat first | exact Mine.slot (by with_reducible assumption) | with_reducible refine MineS.drew ?_ | with_reducible refine MineS.drewN ?_ _ | ((with_reducible refine MineS.new ?_); decide) | ((with_reducible refine MineS.newAt ?_ ?_) <;> first | decide | (simp; done)) | with_reducible refine MineS.set ?_ _ _ _ | with_reducible refine MineS.alloc ?_ _) | with_reducible refine Mine.other ?_ _ (by first | (left; omega) | (right; omega) | (simp; done) | (simp; omega)) | with_reducible refine Mine.alloc ?_ _)
    replace m31 : Mine w3 v2.heap.size 1 (.int .i64 b) := by rw [hww3]; (repeat first | with_reducible assumption | with_reducible refine Mine.drew ?_ | with_reducible refine Mine.drewN ?_ _ | ((with_reducible refine Mine.new ?_); rfl) | ((with_reducible refine Mine.newAt ?_ ?_) <;> first | rfl | (simp; done) | (simp only [World.size_alloc]; rfl)) | ((with_reducible refine Mine.set ?_ _); repeat first | exact Mine.slot (by with_reducible assumption) | with_reducible refine MineS.drew ?_ | with_reducible refine MineS.drewN ?_ _ | ((with_reducible refine MineS.new ?_); decide) | ((with_reducible refine MineS.newAt ?_ ?_) <;> first | decide | (simp; done)) | with_reducible refine MineS.set ?_ _ _ _ | with_reducible refine MineS.alloc ?_ _) | with_reducible refine Mine.other ?_ _ (by first | (left; omega) | (right; omega) | (simp; done) | (simp; omega)) | with_reducible refine Mine.alloc ?_ _)
    replace m32 : Mine w3 v2.heap.size 2 (.int .i64 c) := by rw [hww3]; (repeat first | with_reducible assumption | with_reducible refine Mine.drew ?_ | with_reducible refine Mine.drewN ?_ _ | ((with_reducible refine Mine.new ?_); rfl) | ((with_reducible refine Mine.newAt ?_ ?_) <;> first | rfl | (simp; done) | (simp only [World.size_alloc]; rfl)) | ((with_reducible refine Mine.set ?_ _); repeat first | exact Mine.slot (by with_reducible assumption) | with_reducible refine MineS.drew ?_ | with_reducible refine MineS.drewN ?_ _ | ((with_reducible refine MineS.new ?_); decide) | ((with_reducible refine MineS.newAt ?_ ?_) <;> first | decide | (simp; done)) | with_reducible refine MineS.set ?_ _ _ _ | with_reducible refine MineS.alloc ?_ _) | with_reducible refine Mine.other ?_ _ (by first | (left; omega) | (right; omega) | (simp; done) | (simp; omega)) | with_reducible refine Mine.alloc ?_ _)
    replace m33 : Mine w3 v2.heap.size 3 (.int .i64 d) := by rw [hww3]; (repeat first | with_reducible assumption | with_reducible refine Mine.drew ?_ | with_reducible refine Mine.drewN ?_ _ | ((with_reducible refine Mine.new ?_); rfl) | ((with_reducible refine Mine.newAt ?_ ?_) <;> first | rfl | (simp; done) | (simp only [World.size_alloc]; rfl)) | ((with_reducible refine Mine.set ?_ _); repeat first | exact Mine.slot (by with_reducible assumption) | with_reducible refine MineS.drew ?_ | with_reducible refine MineS.drewN ?_ _ | ((with_reducible refine MineS.new ?_); decide) | ((with_reducible refine MineS.newAt ?_ ?_) <;> first | decide | (simp; done)) | with_reducible refine MineS.set ?_ _ _ _ | with_reducible refine MineS.alloc ?_ _) | with_reducible refine Mine.other ?_ _ (by first | (left; omega) | (right; omega) | (simp; done) | (simp; omega)) | with_reducible refine Mine.alloc ?_ _)
    replace m34 : Mine w3 v2.heap.size 4 (.int .i64 g) := by rw [hww3]; (repeat first | with_reducible assumption | with_reducible refine Mine.drew ?_ | with_reducible refine Mine.drewN ?_ _ | ((with_reducible refine Mine.new ?_); rfl) | ((with_reducible refine Mine.newAt ?_ ?_) <;> first | rfl | (simp; done) | (simp only [World.size_alloc]; rfl)) | ((with_reducible refine Mine.set ?_ _); repeat first | exact Mine.slot (by with_reducible assumption) | with_reducible refine MineS.drew ?_ | with_reducible refine MineS.drewN ?_ _ | ((with_reducible refine MineS.new ?_); decide) | ((with_reducible refine MineS.newAt ?_ ?_) <;> first | decide | (simp; done)) | with_reducible refine MineS.set ?_ _ _ _ | with_reducible refine MineS.alloc ?_ _) | with_reducible refine Mine.other ?_ _ (by first | (left; omega) | (right; omega) | (simp; done) | (simp; omega)) | with_reducible refine Mine.alloc ?_ _)
    replace m35 : Mine w3 v2.heap.size 5 (.int .i64 h) := by rw [hww3]; (repeat first | with_reducible assumption | with_reducible refine Mine.drew ?_ | with_reducible refine Mine.drewN ?_ _ | ((with_reducible refine Mine.new ?_); rfl) | ((with_reducible refine Mine.newAt ?_ ?_) <;> first | rfl | (simp; done) | (simp only [World.size_alloc]; rfl)) | ((with_reducible refine Mine.set ?_ _); repeat first | exact Mine.slot (by with_reducible assumption) | with_reducible refine MineS.drew ?_ | with_reducible refine MineS.drewN ?_ _ | ((with_reducible refine MineS.new ?_); decide) | ((with_reducible refine MineS.newAt ?_ ?_) <;> first | decide | (simp; done)) | with_reducible refine MineS.set ?_ _ _ _ | with_reducible refine MineS.alloc ?_ _) | with_reducible refine Mine.other ?_ _ (by first | (left; omega) | (right; omega) | (simp; done) | (simp; omega)) | with_reducible refine Mine.alloc ?_ _)
    have hBzw3 := hB.size
    replace hB : Below w.heap.size w w3 := by rw [hww3]; exact (by repeat first | with_reducible exact Below.refl _ _ | with_reducible assumption | with_reducible refine below_drewN ?_ _ | with_reducible refine Below.drew ?_ | with_reducible refine Below.setCell ?_ (by first | exact Nat.le_refl _ | (simp; done) | (simp; omega) | omega) _ | with_reducible refine Below.alloc ?_ (by first | exact Nat.le_refl _ | (simp; done) | (simp; omega) | omega) _ | exact Below.refl _ _ | assumption)
    clear hww3 hBzw3
    generalize v2.heap.size = bL at *
    refine (Pn.out _ (hE.below hB)).mono ?_
    rintro e n3 ⟨rfl, hb1⟩
    replace m30 := m30.below hb1
    replace m31 := m31.below hb1
    replace m32 := m32.below hb1
    replace m33 := m33.below hb1
    replace m34 := m34.below hb1
    replace m35 := m35.below hb1
    replace hB := hB.trans (hb1.mono hB.size)
    have hb_n3 := hb1
    clear hb1
    have c30 := m30.cell
    have f30 := m30.free
    have l30 := m30.lt
    have c31 := m31.cell
    have f31 := m31.free
    have l31 := m31.lt
    have c32 := m32.cell
    have f32 := m32.free
    have l32 := m32.lt
    have c33 := m33.cell
    have f33 := m33.free
    have l33 := m33.lt
    have c34 := m34.cell
    have f34 := m34.free
    have l34 := m34.lt
    have c35 := m35.cell
    have f35 := m35.free
    have l35 := m35.lt
    go_wp2_with fail
    clear c30 f30 l30
    clear c31 f31 l31
    clear c32 f32 l32
    clear c33 f33 l33
    clear c34 f34 l34
    clear c35 f35 l35
    refine (Ps.out _ (hE.below hB)).mono ?_
    rintro e n4 ⟨rfl, hb1⟩
    replace m30 := m30.below hb1
    replace m31 := m31.below hb1
    replace m32 := m32.below hb1
    replace m33 := m33.below hb1
    replace m34 := m34.below hb1
    replace m35 := m35.below hb1
    replace hB := hB.trans (hb1.mono hB.size)
    have hb_n4 := hb1
    clear hb1
    have c30 := m30.cell
    have f30 := m30.free
    have l30 := m30.lt
    have c31 := m31.cell
    have f31 := m31.free
    have l31 := m31.lt
    have c32 := m32.cell
    have f32 := m32.free
    have l32 := m32.lt
    have c33 := m33.cell
    have f33 := m33.free
    have l33 := m33.lt
    have c34 := m34.cell
    have f34 := m34.free
    have l34 := m34.lt
    have c35 := m35.cell
    have f35 := m35.free
    have l35 := m35.lt
    go_wp2_with fail
    clear c30 f30 l30
    clear c31 f31 l31
    clear c32 f32 l32
    clear c33 f33 l33
    clear c34 f34 l34
    clear c35 f35 l35
    refine name_calls ?_
    intro w4 hww4
    replace m30 : Mine w4 bL 0 (.int .i64 a) := by rw [hww4]; (repeat first | with_reducible assumption | with_reducible refine Mine.drew ?_ | with_reducible refine Mine.drewN ?_ _ | ((with_reducible refine Mine.new ?_); rfl) | ((with_reducible refine Mine.newAt ?_ ?_) <;> first | rfl | (simp; done) | (simp only [World.size_alloc]; rfl)) | ((with_reducible refine Mine.set ?_ _); repeat first | exact Mine.slot (by with_reducible assumption) | with_reducible refine MineS.drew ?_ | with_reducible refine MineS.drewN ?_ _ | ((with_reducible refine MineS.new ?_); decide) | ((with_reducible refine MineS.newAt ?_ ?_) <;> first | decide | (simp; done)) | with_reducible refine MineS.set ?_ _ _ _ | with_reducible refine MineS.alloc ?_ _) | with_reducible refine Mine.other ?_ _ (by first | (left; omega) | (right; omega) | (simp; done) | (simp; omega)) | with_reducible refine Mine.alloc ?_ _)
    replace m31 : Mine w4 bL 1 (.int .i64 b) := by rw [hww4]; (repeat first | with_reducible assumption | with_reducible refine Mine.drew ?_ | with_reducible refine Mine.drewN ?_ _ | ((with_reducible refine Mine.new ?_); rfl) | ((with_reducible refine Mine.newAt ?_ ?_) <;> first | rfl | (simp; done) | (simp only [World.size_alloc]; rfl)) | ((with_reducible refine Mine.set ?_ _); repeat first | exact Mine.slot (by with_reducible assumption) | with_reducible refine MineS.drew ?_ | with_reducible refine MineS.drewN ?_ _ | ((with_reducible refine MineS.new ?_); decide) | ((with_reducible refine MineS.newAt ?_ ?_) <;> first | decide | (simp; done)) | with_reducible refine MineS.set ?_ _ _ _ | with_reducible refine MineS.alloc ?_ _) | with_reducible refine Mine.other ?_ _ (by first | (left; omega) | (right; omega) | (simp; done) | (simp; omega)) | with_reducible refine Mine.alloc ?_ _)
    replace m32 : Mine w4 bL 2 (.int .i64 c) := by rw [hww4]; (repeat first | with_reducible assumption | with_reducible refine Mine.drew ?_ | with_reducible refine Mine.drewN ?_ _ | ((with_reducible refine Mine.new ?_); rfl) | ((with_reducible refine Mine.newAt ?_ ?_) <;> first | rfl | (simp; done) | (simp only [World.size_alloc]; rfl)) | ((with_reducible refine Mine.set ?_ _); repeat first | exact Mine.slot (by with_reducible assumption) | with_reducible refine MineS.drew ?_ | with_reducible refine MineS.drewN ?_ _ | ((with_reducible refine MineS.new ?_); decide) | ((with_reducible refine MineS.newAt ?_ ?_) <;> first | decide | (simp; done)) | with_reducible refine MineS.set ?_ _ _ _ | with_reducible refine MineS.alloc ?_ _) | with_reducible refine Mine.other ?_ _ (by first | (left; omega) | (right; omega) | (simp; done) | (simp; omega)) | with_reducible refine Mine.alloc ?_ _)
    replace m33 : Mine w4 bL 3 (.int .i64 d) := by rw [hww4]; (repeat first | with_reducible assumption | with_reducible refine Mine.drew ?_ | with_reducible refine Mine.drewN ?_ _ | ((with_reducible refine Mine.new ?_); rfl) | ((with_reducible refine Mine.newAt ?_ ?_) <;> first | rfl | (simp; done) | (simp only [World.size_alloc]; rfl)) | ((with_reducible refine Mine.set ?_ _); repeat first | exact Mine.slot (by with_reducible assumption) | with_reducible refine MineS.drew ?_ | with_reducible refine MineS.drewN ?_ _ | ((with_reducible refine MineS.new ?_); decide) | ((with_reducible refine MineS.newAt ?_ ?_) <;> first | decide | (simp; done)) | with_reducible refine MineS.set ?_ _ _ _ | with_reducible refine MineS.alloc ?_ _) | with_reducible refine Mine.other ?_ _ (by first | (left; omega) | (right; omega) | (simp; done) | (simp; omega)) | with_reducible refine Mine.alloc ?_ _)
    replace m34 : Mine w4 bL 4 (.int .i64 g) := by rw [hww4]; (repeat first | with_reducible assumption | with_reducible refine Mine.drew ?_ | with_reducible refine Mine.drewN ?_ _ | ((with_reducible refine Mine.new ?_); rfl) | ((with_reducible refine Mine.newAt ?_ ?_) <;> first | rfl | (simp; done) | (simp only [World.size_alloc]; rfl)) | ((with_reducible refine Mine.set ?_ _); repeat first | exact Mine.slot (by with_reducible assumption) | with_reducible refine MineS.drew ?_ | with_reducible refine MineS.drewN ?_ _ | ((with_reducible refine MineS.new ?_); decide) | ((with_reducible refine MineS.newAt ?_ ?_) <;> first | decide | (simp; done)) | with_reducible refine MineS.set ?_ _ _ _ | with_reducible refine MineS.alloc ?_ _) | with_reducible refine Mine.other ?_ _ (by first | (left; omega) | (right; omega) | (simp; done) | (simp; omega)) | with_reducible refine Mine.alloc ?_ _)
    replace m35 : Mine w4 bL 5 (.int .i64 h) := by rw [hww4]; (repeat first | with_reducible assumption | with_reducible refine Mine.drew ?_ | with_reducible refine Mine.drewN ?_ _ | ((with_reducible refine Mine.new ?_); rfl) | ((with_reducible refine Mine.newAt ?_ ?_) <;> first | rfl | (simp; done) | (simp only [World.size_alloc]; rfl)) | ((with_reducible refine Mine.set ?_ _); repeat first | exact Mine.slot (by with_reducible assumption) | with_reducible refine MineS.drew ?_ | with_reducible refine MineS.drewN ?_ _ | ((with_reducible refine MineS.new ?_); decide) | ((with_reducible refine MineS.newAt ?_ ?_) <;> first | decide | (simp; done)) | with_reducible refine MineS.set ?_ _ _ _ | with_reducible refine MineS.alloc ?_ _) | with_reducible refine Mine.other ?_ _ (by first | (left; omega) | (right; omega) | (simp; done) | (simp; omega)) | with_reducible refine Mine.alloc ?_ _)
    replace mb1 : Mine w4 n4.heap.size 0 (.int .i64 a) := by rw [hww4]; (repeat first | with_reducible assumption | with_reducible refine Mine.drew ?_ | with_reducible refine Mine.drewN ?_ _ | ((with_reducible refine Mine.new ?_); rfl) | ((with_reducible refine Mine.newAt ?_ ?_) <;> first | rfl | (simp; done) | (simp only [World.size_alloc]; rfl)) | ((with_reducible refine Mine.set ?_ _); repeat first | exact Mine.slot (by with_reducible assumption) | with_reducible refine MineS.drew ?_ | with_reducible refine MineS.drewN ?_ _ | ((with_reducible refine MineS.new ?_); decide) | ((with_reducible refine MineS.newAt ?_ ?_) <;> first | decide | (simp; done)) | with_reducible refine MineS.set ?_ _ _ _ | with_reducible refine MineS.alloc ?_ _) | with_reducible refine Mine.other ?_ _ (by first | (left; omega) | (right; omega) | (simp; done) | (simp; omega)) | with_reducible refine Mine.alloc ?_ _)
    replace mb2 : Mine w4 n4.heap.size 1 (.int .i64 b) := by rw [hww4]; (repeat first | with_reducible assumption | with_reducible refine Mine.drew ?_ | with_reducible refine Mine.drewN ?_ _ | ((with_reducible refine Mine.new ?_); rfl) | ((with_reducible refine Mine.newAt ?_ ?_) <;> first | rfl | (simp; done) | (simp only [World.size_alloc]; rfl)) | ((with_reducible refine Mine.set ?_ _); repeat first | exact Mine.slot (by with_reducible assumption) | with_reducible refine MineS.drew ?_ | with_reducible refine MineS.drewN ?_ _ | ((with_reducible refine MineS.new ?_); decide) | ((with_reducible refine MineS.newAt ?_ ?_) <;> first | decide | (simp; done)) | with_reducible refine MineS.set ?_ _ _ _ | with_reducible refine MineS.alloc ?_ _) | with_reducible refine Mine.other ?_ _ (by first | (left; omega) | (right; omega) | (simp; done) | (simp; omega)) | with_reducible refine Mine.alloc ?_ _)
    have hBzw4 := hB.size
    replace hB : Below w.heap.size w w4 := by rw [hww4]; exact (by repeat first | with_reducible exact Below.refl _ _ | with_reducible assumption | with_reducible refine below_drewN ?_ _ | with_reducible refine Below.drew ?_ | with_reducible refine Below.setCell ?_ (by first | exact Nat.le_refl _ | (simp; done) | (simp; omega) | omega) _ | with_reducible refine Below.alloc ?_ (by first | exact Nat.le_refl _ | (simp; done) | (simp; omega) | omega) _ | exact Below.refl _ _ | assumption)
    clear hww4 hBzw4
    generalize n4.heap.size = bb at *
    refine (Cl.out _).mono ?_
    rintro e n5 ⟨rfl, hb1⟩
    replace m30 := m30.below hb1
    replace m31 := m31.below hb1
    replace m32 := m32.below hb1
    replace m33 := m33.below hb1
    replace m34 := m34.below hb1
    replace m35 := m35.below hb1
    replace mb1 := mb1.below hb1
    replace mb2 := mb2.below hb1
    replace hB := hB.trans (hb1.mono hB.size)
    have hb_n5 := hb1
    clear hb1
    have c30 := m30.cell
    have f30 := m30.free
    have l30 := m30.lt
    have c31 := m31.cell
    have f31 := m31.free
    have l31 := m31.lt
    have c32 := m32.cell
    have f32 := m32.free
    have l32 := m32.lt
    have c33 := m33.cell
    have f33 := m33.free
    have l33 := m33.lt
    have c34 := m34.cell
    have f34 := m34.free
    have l34 := m34.lt
    have c35 := m35.cell
    have f35 := m35.free
    have l35 := m35.lt
    go_wp2_with fail
    clear c30 f30 l30
    clear c31 f31 l31
    clear c32 f32 l32
    clear c33 f33 l33
    clear c34 f34 l34
    clear c35 f35 l35
    refine name_calls ?_
    intro w5 hww5
    replace m30 : Mine w5 bL 0 (.int .i64 a) := by rw [hww5]; (repeat first | with_reducible assumption | with_reducible refine Mine.drew ?_ | with_reducible refine Mine.drewN ?_ _ | ((with_reducible refine Mine.new ?_); rfl) | ((with_reducible refine Mine.newAt ?_ ?_) <;> first | rfl | (simp; done) | (simp only [World.size_alloc]; rfl)) | ((with_reducible refine Mine.set ?_ _); repeat first | exact Mine.slot (by with_reducible assumption) | with_reducible refine MineS.drew ?_ | with_reducible refine MineS.drewN ?_ _ | ((with_reducible refine MineS.new ?_); decide) | ((with_reducible refine MineS.newAt ?_ ?_) <;> first | decide | (simp; done)) | with_reducible refine MineS.set ?_ _ _ _ | with_reducible refine MineS.alloc ?_ _) | with_reducible refine Mine.other ?_ _ (by first | (left; omega) | (right; omega) | (simp; done) | (simp; omega)) | with_reducible refine Mine.alloc ?_ _)
    replace m31 : Mine w5 bL 1 (.int .i64 b) := by rw [hww5]; (repeat first | with_reducible assumption | with_reducible refine Mine.drew ?_ | with_reducible refine Mine.drewN ?_ _ | ((with_reducible refine Mine.new ?_); rfl) | ((with_reducible refine Mine.newAt ?_ ?_) <;> first | rfl | (simp; done) | (simp only [World.size_alloc]; rfl)) | ((with_reducible refine Mine.set ?_ _); repeat first | exact Mine.slot (by with_reducible assumption) | with_reducible refine MineS.drew ?_ | with_reducible refine MineS.drewN ?_ _ | ((with_reducible refine MineS.new ?_); decide) | ((with_reducible refine MineS.newAt ?_ ?_) <;> first | decide | (simp; done)) | with_reducible refine MineS.set ?_ _ _ _ | with_reducible refine MineS.alloc ?_ _) | with_reducible refine Mine.other ?_ _ (by first | (left; omega) | (right; omega) | (simp; done) | (simp; omega)) | with_reducible refine Mine.alloc ?_ _)
    replace m32 : Mine w5 bL 2 (.int .i64 c) := by rw [hww5]; (repeat first | with_reducible assumption | with_reducible refine Mine.drew ?_ | with_reducible refine Mine.drewN ?_ _ | ((with_reducible refine Mine.new ?_); rfl) | ((with_reducible refine Mine.newAt ?_ ?_) <;> first | rfl | (simp; done) | (simp only [World.size_alloc]; rfl)) | ((with_reducible refine Mine.set ?_ _); repeat first | exact Mine.slot (by with_reducible assumption) | with_reducible refine MineS.drew ?_ | with_reducible refine MineS.drewN ?_ _ | ((with_reducible refine MineS.new ?_); decide) | ((with_reducible refine MineS.newAt ?_ ?_) <;> first | decide | (simp; done)) | with_reducible refine MineS.set ?_ _ _ _ | with_reducible refine MineS.alloc ?_ _) | with_reducible refine Mine.other ?_ _ (by first | (left; omega) | (right; omega) | (simp; done) | (simp; omega)) | with_reducible refine Mine.alloc ?_ _)
    replace m33 : Mine w5 bL 3 (.int .i64 d) := by rw [hww5]; (repeat first | with_reducible assumption | with_reducible refine Mine.drew ?_ | with_reducible refine Mine.drewN ?_ _ | ((with_reducible refine Mine.new ?_); rfl) | ((with_reducible refine Mine.newAt ?_ ?_) <;> first | rfl | (simp; done) | (simp only [World.size_alloc]; rfl)) | ((with_reducible refine Mine.set ?_ _); repeat first | exact Mine.slot (by with_reducible assumption) | with_reducible refine MineS.drew ?_ | with_reducible refine MineS.drewN ?_ _ | ((with_reducible refine MineS.new ?_); decide) | ((with_reducible refine MineS.newAt ?_ ?_) <;> first | decide | (simp; done)) | with_reducible refine MineS.set ?_ _ _ _ | with_reducible refine MineS.alloc ?_ _) | with_reducible refine Mine.other ?_ _ (by first | (left; omega) | (right; omega) | (simp; done) | (simp; omega)) | with_reducible refine Mine.alloc ?_ _)
    replace m34 : Mine w5 bL 4 (.int .i64 g) := by rw [hww5]; (repeat first | with_reducible assumption | with_reducible refine Mine.drew ?_ | with_reducible refine Mine.drewN ?_ _ | ((with_reducible refine Mine.new ?_); rfl) | ((with_reducible refine Mine.newAt ?_ ?_) <;> first | rfl | (simp; done) | (simp only [World.size_alloc]; rfl)) | ((with_reducible refine Mine.set ?_ _); repeat first | exact Mine.slot (by with_reducible assumption) | with_reducible refine MineS.drew ?_ | with_reducible refine MineS.drewN ?_ _ | ((with_reducible refine MineS.new ?_); decide) | ((with_reducible refine MineS.newAt ?_ ?_) <;> first | decide | (simp; done)) | with_reducible refine MineS.set ?_ _ _ _ | with_reducible refine MineS.alloc ?_ _) | with_reducible refine Mine.other ?_ _ (by first | (left; omega) | (right; omega) | (simp; done) | (simp; omega)) | with_reducible refine Mine.alloc ?_ _)
    replace m35 : Mine w5 bL 5 (.int .i64 h) := by rw [hww5]; (repeat first | with_reducible assumption | with_reducible refine Mine.drew ?_ | with_reducible refine Mine.drewN ?_ _ | ((with_reducible refine Mine.new ?_); rfl) | ((with_reducible refine Mine.newAt ?_ ?_) <;> first | rfl | (simp; done) | (simp only [World.size_alloc]; rfl)) | ((with_reducible refine Mine.set ?_ _); repeat first | exact Mine.slot (by with_reducible assumption) | with_reducible refine MineS.drew ?_ | with_reducible refine MineS.drewN ?_ _ | ((with_reducible refine MineS.new ?_); decide) | ((with_reducible refine MineS.newAt ?_ ?_) <;> first | decide | (simp; done)) | with_reducible refine MineS.set ?_ _ _ _ | with_reducible refine MineS.alloc ?_ _) | with_reducible refine Mine.other ?_ _ (by first | (left; omega) | (right; omega) | (simp; done) | (simp; omega)) | with_reducible refine Mine.alloc ?_ _)
    replace mb1 : Mine w5 bb 0 (.int .i64 a) := by rw [hww5]; (repeat first | with_reducible assumption | with_reducible refine Mine.drew ?_ | with_reducible refine Mine.drewN ?_ _ | ((with_reducible refine Mine.new ?_); rfl) | ((with_reducible refine Mine.newAt ?_ ?_) <;> first | rfl | (simp; done) | (simp only [World.size_alloc]; rfl)) | ((with_reducible refine Mine.set ?_ _); repeat first | exact Mine.slot (by with_reducible assumption) | with_reducible refine MineS.drew ?_ | with_reducible refine MineS.drewN ?_ _ | ((with_reducible refine MineS.new ?_); decide) | ((with_reducible refine MineS.newAt ?_ ?_) <;> first | decide | (simp; done)) | with_reducible refine MineS.set ?_ _ _ _ | with_reducible refine MineS.alloc ?_ _) | with_reducible refine Mine.other ?_ _ (by first | (left; omega) | (right; omega) | (simp; done) | (simp; omega)) | with_reducible refine Mine.alloc ?_ _)
    replace mb2 : Mine w5 bb 1 (.int .i64 b) := by rw [hww5]; (repeat first | with_reducible assumption | with_reducible refine Mine.drew ?_ | with_reducible refine Mine.drewN ?_ _ | ((with_reducible refine Mine.new ?_); rfl) | ((with_reducible refine Mine.newAt ?_ ?_) <;> first | rfl | (simp; done) | (simp only [World.size_alloc]; rfl)) | ((with_reducible refine Mine.set ?_ _); repeat first | exact Mine.slot (by with_reducible assumption) | with_reducible refine MineS.drew ?_ | with_reducible refine MineS.drewN ?_ _ | ((with_reducible refine MineS.new ?_); decide) | ((with_reducible refine MineS.newAt ?_ ?_) <;> first | decide | (simp; done)) | with_reducible refine MineS.set ?_ _ _ _ | with_reducible refine MineS.alloc ?_ _) | with_reducible refine Mine.other ?_ _ (by first | (left; omega) | (right; omega) | (simp; done) | (simp; omega)) | with_reducible refine Mine.alloc ?_ _)
    replace mk1 : Mine w5 n5.heap.size 0 (.int .i64 k1) := by rw [hww5]; (repeat first | with_reducible assumption | with_reducible refine Mine.drew ?_ | with_reducible refine Mine.drewN ?_ _ | ((with_reducible refine Mine.new ?_); rfl) | ((with_reducible refine Mine.newAt ?_ ?_) <;> first | rfl | (simp; done) | (simp only [World.size_alloc]; rfl)) | ((with_reducible refine Mine.set ?_ _); repeat first | exact Mine.slot (by with_reducible assumption) | with_reducible refine MineS.drew ?_ | with_reducible refine MineS.drewN ?_ _ | ((with_reducible refine MineS.new ?_); decide) | ((with_reducible refine MineS.newAt ?_ ?_) <;> first | decide | (simp; done)) | with_reducible refine MineS.set ?_ _ _ _ | with_reducible refine MineS.alloc ?_ _) | with_reducible refine Mine.other ?_ _ (by first | (left; omega) | (right; omega) | (simp; done) | (simp; omega)) | with_reducible refine Mine.alloc ?_ _)
    replace mk2 : Mine w5 n5.heap.size 1 (.int .i64 k2) := by rw [hww5]; (repeat first | with_reducible assumption | with_reducible refine Mine.drew ?_ | with_reducible refine Mine.drewN ?_ _ | ((with_reducible refine Mine.new ?_); rfl) | ((with_reducible refine Mine.newAt ?_ ?_) <;> first | rfl | (simp; done) | (simp only [World.size_alloc]; rfl)) | ((with_reducible refine Mine.set ?_ _); repeat first | exact Mine.slot (by with_reducible assumption) | with_reducible refine MineS.drew ?_ | with_reducible refine MineS.drewN ?_ _ | ((with_reducible refine MineS.new ?_); decide) | ((with_reducible refine MineS.newAt ?_ ?_) <;> first | decide | (simp; done)) | with_reducible refine MineS.set ?_ _ _ _ | with_reducible refine MineS.alloc ?_ _) | with_reducible refine Mine.other ?_ _ (by first | (left; omega) | (right; omega) | (simp; done) | (simp; omega)) | with_reducible refine Mine.alloc ?_ _)
    have hBzw5 := hB.size
    replace hB : Below w.heap.size w w5 := by rw [hww5]; exact (by repeat first | with_reducible exact Below.refl _ _ | with_reducible assumption | with_reducible refine below_drewN ?_ _ | with_reducible refine Below.drew ?_ | with_reducible refine Below.setCell ?_ (by first | exact Nat.le_refl _ | (simp; done) | (simp; omega) | omega) _ | with_reducible refine Below.alloc ?_ (by first | exact Nat.le_refl _ | (simp; done) | (simp; omega) | omega) _ | exact Below.refl _ _ | assumption)
    clear hww5 hBzw5
    generalize n5.heap.size = bk at *
    refine (C1.out _).mono ?_
    rintro e n6 ⟨rfl, hb1⟩
    replace m30 := m30.below hb1
    replace m31 := m31.below hb1
    replace m32 := m32.below hb1
    replace m33 := m33.below hb1
    replace m34 := m34.below hb1
    replace m35 := m35.below hb1
    replace mb1 := mb1.below hb1
    replace mb2 := mb2.below hb1
    replace mk1 := mk1.below hb1
    replace mk2 := mk2.below hb1
    replace hB := hB.trans (hb1.mono hB.size)
    have hb_n6 := hb1
    clear hb1
    rcases hB3 with rfl | ⟨rfl, rfl⟩ | ⟨rfl, rfl, rfl⟩
    · skip
      by_cases hp : 0 < p
      · have hd : decide (0 < p) = true := by simpa using hp
        have c30 := m30.cell
        have f30 := m30.free
        have l30 := m30.lt
        have c31 := m31.cell
        have f31 := m31.free
        have l31 := m31.lt
        have c32 := m32.cell
        have f32 := m32.free
        have l32 := m32.lt
        have c33 := m33.cell
        have f33 := m33.free
        have l33 := m33.lt
        have c34 := m34.cell
        have f34 := m34.free
        have l34 := m34.lt
        have c35 := m35.cell
        have f35 := m35.free
        have l35 := m35.lt
        have cb1 := mb1.cell
        have fb1 := mb1.free
        have lb1 := mb1.lt
        have cb2 := mb2.cell
        have fb2 := mb2.free
        have lb2 := mb2.lt
        have ck1 := mk1.cell
        have fk1 := mk1.free
        have lk1 := mk1.lt
        have ck2 := mk2.cell
        have fk2 := mk2.free
        have lk2 := mk2.lt
        have hBz := hB.size
        go_wp2
        go_ret
        exact ⟨rfl, (by repeat first | with_reducible exact Below.refl _ _ | with_reducible assumption | with_reducible refine below_drewN ?_ _ | with_reducible refine Below.drew ?_ | with_reducible refine Below.setCell ?_ (by first | exact Nat.le_refl _ | (simp; done) | (simp; omega) | omega) _ | with_reducible refine Below.alloc ?_ (by first | exact Nat.le_refl _ | (simp; done) | (simp; omega) | omega) _ | exact Below.refl _ _ | assumption)⟩
      · have hd : decide (0 < p) = false := by simpa using hp
        have hq1 : q1 ≤ 0 := by have := K1.out; omega
        have hq2 : q2 ≤ 0 := by have := K1.out; omega
        have d1 : decide (q1 ≤ 0) = true := by simpa using hq1
        have d2 : decide (q2 ≤ 0) = true := by simpa using hq2
        clear hq1 hq2 hp
        have c30 := m30.cell
        have f30 := m30.free
        have l30 := m30.lt
        have c31 := m31.cell
        have f31 := m31.free
        have l31 := m31.lt
        have c32 := m32.cell
        have f32 := m32.free
        have l32 := m32.lt
        have c33 := m33.cell
        have f33 := m33.free
        have l33 := m33.lt
        have c34 := m34.cell
        have f34 := m34.free
        have l34 := m34.lt
        have c35 := m35.cell
        have f35 := m35.free
        have l35 := m35.lt
        have cb1 := mb1.cell
        have fb1 := mb1.free
        have lb1 := mb1.lt
        have cb2 := mb2.cell
        have fb2 := mb2.free
        have lb2 := mb2.lt
        have ck1 := mk1.cell
        have fk1 := mk1.free
        have lk1 := mk1.lt
        have ck2 := mk2.cell
        have fk2 := mk2.free
        have lk2 := mk2.lt
        go_wp2_with fail
        clear c30 f30 l30
        clear c31 f31 l31
        clear c32 f32 l32
        clear c33 f33 l33
        clear c34 f34 l34
        clear c35 f35 l35
        clear cb1 fb1 lb1
        clear cb2 fb2 lb2
        clear ck1 fk1 lk1
        clear ck2 fk2 lk2
        refine (C2.out _).mono ?_
        rintro e n7 ⟨rfl, hb1⟩
        replace m30 := m30.below hb1
        replace m31 := m31.below hb1
        replace m32 := m32.below hb1
        replace m33 := m33.below hb1
        replace m34 := m34.below hb1
        replace m35 := m35.below hb1
        replace mb1 := mb1.below hb1
        replace mb2 := mb2.below hb1
        replace mk1 := mk1.below hb1
        replace mk2 := mk2.below hb1
        replace hB := hB.trans (hb1.mono hB.size)
        have hb_n7 := hb1
        clear hb1
        have c30 := m30.cell
        have f30 := m30.free
        have l30 := m30.lt
        have c31 := m31.cell
        have f31 := m31.free
        have l31 := m31.lt
        have c32 := m32.cell
        have f32 := m32.free
        have l32 := m32.lt
        have c33 := m33.cell
        have f33 := m33.free
        have l33 := m33.lt
        have c34 := m34.cell
        have f34 := m34.free
        have l34 := m34.lt
        have c35 := m35.cell
        have f35 := m35.free
        have l35 := m35.lt
        have cb1 := mb1.cell
        have fb1 := mb1.free
        have lb1 := mb1.lt
        have cb2 := mb2.cell
        have fb2 := mb2.free
        have lb2 := mb2.lt
        have ck1 := mk1.cell
        have fk1 := mk1.free
        have lk1 := mk1.lt
        have ck2 := mk2.cell
        have fk2 := mk2.free
        have lk2 := mk2.lt
        go_wp2_with fail
        clear c30 f30 l30
        clear c31 f31 l31
        clear c32 f32 l32
        clear c33 f33 l33
        clear c34 f34 l34
        clear c35 f35 l35
        clear cb1 fb1 lb1
        clear cb2 fb2 lb2
        clear ck1 fk1 lk1
        clear ck2 fk2 lk2
        refine (C3.out _).mono ?_
        rintro e n8 ⟨rfl, hb1⟩
        replace m30 := m30.below hb1
        replace m31 := m31.below hb1
        replace m32 := m32.below hb1
        replace m33 := m33.below hb1
        replace m34 := m34.below hb1
        replace m35 := m35.below hb1
        replace mb1 := mb1.below hb1
        replace mb2 := mb2.below hb1
        replace mk1 := mk1.below hb1
        replace mk2 := mk2.below hb1
        replace hB := hB.trans (hb1.mono hB.size)
        have hb_n8 := hb1
        clear hb1
        have c30 := m30.cell
        have f30 := m30.free
        have l30 := m30.lt
        have c31 := m31.cell
        have f31 := m31.free
        have l31 := m31.lt
        have c32 := m32.cell
        have f32 := m32.free
        have l32 := m32.lt
        have c33 := m33.cell
        have f33 := m33.free
        have l33 := m33.lt
        have c34 := m34.cell
        have f34 := m34.free
        have l34 := m34.lt
        have c35 := m35.cell
        have f35 := m35.free
        have l35 := m35.lt
        have cb1 := mb1.cell
        have fb1 := mb1.free
        have lb1 := mb1.lt
        have cb2 := mb2.cell
        have fb2 := mb2.free
        have lb2 := mb2.lt
        have ck1 := mk1.cell
        have fk1 := mk1.free
        have lk1 := mk1.lt
        have ck2 := mk2.cell
        have fk2 := mk2.free
        have lk2 := mk2.lt
        have hBz := hB.size
        go_wp2
        go_ret
        exact ⟨rfl, (by repeat first | with_reducible exact Below.refl _ _ | with_reducible assumption | with_reducible refine below_drewN ?_ _ | with_reducible refine Below.drew ?_ | with_reducible refine Below.setCell ?_ (by first | exact Nat.le_refl _ | (simp; done) | (simp; omega) | omega) _ | with_reducible refine Below.alloc ?_ (by first | exact Nat.le_refl _ | (simp; done) | (simp; omega) | omega) _ | exact Below.refl _ _ | assumption)⟩
    · skip
      by_cases hp : 0 < p
      · have hd : decide (0 < p) = true := by simpa using hp
        have c30 := m30.cell
        have f30 := m30.free
        have l30 := m30.lt
        have c31 := m31.cell
        have f31 := m31.free
        have l31 := m31.lt
        have c32 := m32.cell
        have f32 := m32.free
        have l32 := m32.lt
        have c33 := m33.cell
        have f33 := m33.free
        have l33 := m33.lt
        have c34 := m34.cell
        have f34 := m34.free
        have l34 := m34.lt
        have c35 := m35.cell
        have f35 := m35.free
        have l35 := m35.lt
        have cb1 := mb1.cell
        have fb1 := mb1.free
        have lb1 := mb1.lt
        have cb2 := mb2.cell
        have fb2 := mb2.free
        have lb2 := mb2.lt
        have ck1 := mk1.cell
        have fk1 := mk1.free
        have lk1 := mk1.lt
        have ck2 := mk2.cell
        have fk2 := mk2.free
        have lk2 := mk2.lt
        have hBz := hB.size
        go_wp2
        go_ret
        exact ⟨rfl, (by repeat first | with_reducible exact Below.refl _ _ | with_reducible assumption | with_reducible refine below_drewN ?_ _ | with_reducible refine Below.drew ?_ | with_reducible refine Below.setCell ?_ (by first | exact Nat.le_refl _ | (simp; done) | (simp; omega) | omega) _ | with_reducible refine Below.alloc ?_ (by first | exact Nat.le_refl _ | (simp; done) | (simp; omega) | omega) _ | exact Below.refl _ _ | assumption)⟩
      · have hd : decide (0 < p) = false := by simpa using hp
        have hq1 : q1 ≤ 0 := by have := K1.out; omega
        have hq2 : q2 ≤ 0 := by have := K1.out; omega
        have d1 : decide (q1 ≤ 0) = true := by simpa using hq1
        have d2 : decide (q2 ≤ 0) = true := by simpa using hq2
        clear hq1 hq2 hp
        have c30 := m30.cell
        have f30 := m30.free
        have l30 := m30.lt
        have c31 := m31.cell
        have f31 := m31.free
        have l31 := m31.lt
        have c32 := m32.cell
        have f32 := m32.free
        have l32 := m32.lt
        have c33 := m33.cell
        have f33 := m33.free
        have l33 := m33.lt
        have c34 := m34.cell
        have f34 := m34.free
        have l34 := m34.lt
        have c35 := m35.cell
        have f35 := m35.free
        have l35 := m35.lt
        have cb1 := mb1.cell
        have fb1 := mb1.free
        have lb1 := mb1.lt
        have cb2 := mb2.cell
        have fb2 := mb2.free
        have lb2 := mb2.lt
        have ck1 := mk1.cell
        have fk1 := mk1.free
        have lk1 := mk1.lt
        have ck2 := mk2.cell
        have fk2 := mk2.free
        have lk2 := mk2.lt
        go_wp2_with fail
        clear c30 f30 l30
        clear c31 f31 l31
        clear c32 f32 l32
        clear c33 f33 l33
        clear c34 f34 l34
        clear c35 f35 l35
        clear cb1 fb1 lb1
        clear cb2 fb2 lb2
        clear ck1 fk1 lk1
        clear ck2 fk2 lk2
        refine (C2.out _).mono ?_
        rintro e n7 ⟨rfl, hb1⟩
        replace m30 := m30.below hb1
        replace m31 := m31.below hb1
        replace m32 := m32.below hb1
        replace m33 := m33.below hb1
        replace m34 := m34.below hb1
        replace m35 := m35.below hb1
        replace mb1 := mb1.below hb1
        replace mb2 := mb2.below hb1
        replace mk1 := mk1.below hb1
        replace mk2 := mk2.below hb1
        replace hB := hB.trans (hb1.mono hB.size)
        have hb_n7 := hb1
        clear hb1
        have c30 := m30.cell
        have f30 := m30.free
        have l30 := m30.lt
        have c31 := m31.cell
        have f31 := m31.free
        have l31 := m31.lt
        have c32 := m32.cell
        have f32 := m32.free
        have l32 := m32.lt
        have c33 := m33.cell
        have f33 := m33.free
        have l33 := m33.lt
        have c34 := m34.cell
        have f34 := m34.free
        have l34 := m34.lt
        have c35 := m35.cell
        have f35 := m35.free
        have l35 := m35.lt
        have cb1 := mb1.cell
        have fb1 := mb1.free
        have lb1 := mb1.lt
        have cb2 := mb2.cell
        have fb2 := mb2.free
        have lb2 := mb2.lt
        have ck1 := mk1.cell
        have fk1 := mk1.free
        have lk1 := mk1.lt
        have ck2 := mk2.cell
        have fk2 := mk2.free
        have lk2 := mk2.lt
        go_wp2_with fail
        clear c30 f30 l30
        clear c31 f31 l31
        clear c32 f32 l32
        clear c33 f33 l33
        clear c34 f34 l34
        clear c35 f35 l35
        clear cb1 fb1 lb1
        clear cb2 fb2 lb2
        clear ck1 fk1 lk1
        clear ck2 fk2 lk2
        refine (C3.out _).mono ?_
        rintro e n8 ⟨rfl, hb1⟩
        replace m30 := m30.below hb1
        replace m31 := m31.below hb1
        replace m32 := m32.below hb1
        replace m33 := m33.below hb1
        replace m34 := m34.below hb1
        replace m35 := m35.below hb1
        replace mb1 := mb1.below hb1
        replace mb2 := mb2.below hb1
        replace mk1 := mk1.below hb1
        replace mk2 := mk2.below hb1
        replace hB := hB.trans (hb1.mono hB.size)
        have hb_n8 := hb1
        clear hb1
        have c30 := m30.cell
        have f30 := m30.free
        have l30 := m30.lt
        have c31 := m31.cell
        have f31 := m31.free
        have l31 := m31.lt
        have c32 := m32.cell
        have f32 := m32.free
        have l32 := m32.lt
        have c33 := m33.cell
        have f33 := m33.free
        have l33 := m33.lt
        have c34 := m34.cell
        have f34 := m34.free
        have l34 := m34.lt
        have c35 := m35.cell
        have f35 := m35.free
        have l35 := m35.lt
        have cb1 := mb1.cell
        have fb1 := mb1.free
        have lb1 := mb1.lt
        have cb2 := mb2.cell
        have fb2 := mb2.free
        have lb2 := mb2.lt
        have ck1 := mk1.cell
        have fk1 := mk1.free
        have lk1 := mk1.lt
        have ck2 := mk2.cell
        have fk2 := mk2.free
        have lk2 := mk2.lt
        have hBz := hB.size
        go_wp2
        go_ret
        exact ⟨rfl, (by repeat first | with_reducible exact Below.refl _ _ | with_reducible assumption | with_reducible refine below_drewN ?_ _ | with_reducible refine Below.drew ?_ | with_reducible refine Below.setCell ?_ (by first | exact Nat.le_refl _ | (simp; done) | (simp; omega) | omega) _ | with_reducible refine Below.alloc ?_ (by first | exact Nat.le_refl _ | (simp; done) | (simp; omega) | omega) _ | exact Below.refl _ _ | assumption)⟩
    · skip
      by_cases hp : 0 < p
      · have hd : decide (0 < p) = true := by simpa using hp
        have c30 := m30.cell
        have f30 := m30.free
        have l30 := m30.lt
        have c31 := m31.cell
        have f31 := m31.free
        have l31 := m31.lt
        have c32 := m32.cell
        have f32 := m32.free
        have l32 := m32.lt
        have c33 := m33.cell
        have f33 := m33.free
        have l33 := m33.lt
        have c34 := m34.cell
        have f34 := m34.free
        have l34 := m34.lt
        have c35 := m35.cell
        have f35 := m35.free
        have l35 := m35.lt
        have cb1 := mb1.cell
        have fb1 := mb1.free
        have lb1 := mb1.lt
        have cb2 := mb2.cell
        have fb2 := mb2.free
        have lb2 := mb2.lt
        have ck1 := mk1.cell
        have fk1 := mk1.free
        have lk1 := mk1.lt
        have ck2 := mk2.cell
        have fk2 := mk2.free
        have lk2 := mk2.lt
        have hBz := hB.size
        go_wp2
        go_ret
        exact ⟨rfl, (by repeat first | with_reducible exact Below.refl _ _ | with_reducible assumption | with_reducible refine below_drewN ?_ _ | with_reducible refine Below.drew ?_ | with_reducible refine Below.setCell ?_ (by first | exact Nat.le_refl _ | (simp; done) | (simp; omega) | omega) _ | with_reducible refine Below.alloc ?_ (by first | exact Nat.le_refl _ | (simp; done) | (simp; omega) | omega) _ | exact Below.refl _ _ | assumption)⟩
      · have hd : decide (0 < p) = false := by simpa using hp
        have hq1 : q1 ≤ 0 := by have := K1.out; omega
        have hq2 : q2 ≤ 0 := by have := K1.out; omega
        have d1 : decide (q1 ≤ 0) = true := by simpa using hq1
        have d2 : decide (q2 ≤ 0) = true := by simpa using hq2
        clear hq1 hq2 hp
        have c30 := m30.cell
        have f30 := m30.free
        have l30 := m30.lt
        have c31 := m31.cell
        have f31 := m31.free
        have l31 := m31.lt
        have c32 := m32.cell
        have f32 := m32.free
        have l32 := m32.lt
        have c33 := m33.cell
        have f33 := m33.free
        have l33 := m33.lt
        have c34 := m34.cell
        have f34 := m34.free
        have l34 := m34.lt
        have c35 := m35.cell
        have f35 := m35.free
        have l35 := m35.lt
        have cb1 := mb1.cell
        have fb1 := mb1.free
        have lb1 := mb1.lt
        have cb2 := mb2.cell
        have fb2 := mb2.free
        have lb2 := mb2.lt
        have ck1 := mk1.cell
        have fk1 := mk1.free
        have lk1 := mk1.lt
        have ck2 := mk2.cell
        have fk2 := mk2.free
        have lk2 := mk2.lt
        go_wp2_with fail
        clear c30 f30 l30
        clear c31 f31 l31
        clear c32 f32 l32
        clear c33 f33 l33
        clear c34 f34 l34
        clear c35 f35 l35
        clear cb1 fb1 lb1
        clear cb2 fb2 lb2
        clear ck1 fk1 lk1
        clear ck2 fk2 lk2
        refine (C2.out _).mono ?_
        rintro e n7 ⟨rfl, hb1⟩
        replace m30 := m30.below hb1
        replace m31 := m31.below hb1
        replace m32 := m32.below hb1
        replace m33 := m33.below hb1
        replace m34 := m34.below hb1
        replace m35 := m35.below hb1
        replace mb1 := mb1.below hb1
        replace mb2 := mb2.below hb1
        replace mk1 := mk1.below hb1
        replace mk2 := mk2.below hb1
        replace hB := hB.trans (hb1.mono hB.size)
        have hb_n7 := hb1
        clear hb1
        have c30 := m30.cell
        have f30 := m30.free
        have l30 := m30.lt
        have c31 := m31.cell
        have f31 := m31.free
        have l31 := m31.lt
        have c32 := m32.cell
        have f32 := m32.free
        have l32 := m32.lt
        have c33 := m33.cell
        have f33 := m33.free
        have l33 := m33.lt
        have c34 := m34.cell
        have f34 := m34.free
        have l34 := m34.lt
        have c35 := m35.cell
        have f35 := m35.free
        have l35 := m35.lt
        have cb1 := mb1.cell
        have fb1 := mb1.free
        have lb1 := mb1.lt
        have cb2 := mb2.cell
        have fb2 := mb2.free
        have lb2 := mb2.lt
        have ck1 := mk1.cell
        have fk1 := mk1.free
        have lk1 := mk1.lt
        have ck2 := mk2.cell
        have fk2 := mk2.free
        have lk2 := mk2.lt
        go_wp2_with fail
        clear c30 f30 l30
        clear c31 f31 l31
        clear c32 f32 l32
        clear c33 f33 l33
        clear c34 f34 l34
        clear c35 f35 l35
        clear cb1 fb1 lb1
        clear cb2 fb2 lb2
        clear ck1 fk1 lk1
        clear ck2 fk2 lk2
        refine (C3.out _).mono ?_
        rintro e n8 ⟨rfl, hb1⟩
        replace m30 := m30.below hb1
        replace m31 := m31.below hb1
        replace m32 := m32.below hb1
        replace m33 := m33.below hb1
        replace m34 := m34.below hb1
        replace m35 := m35.below hb1
        replace mb1 := mb1.below hb1
        replace mb2 := mb2.below hb1
        replace mk1 := mk1.below hb1
        replace mk2 := mk2.below hb1
        replace hB := hB.trans (hb1.mono hB.size)
        have hb_n8 := hb1
        clear hb1
        have c30 := m30.cell
        have f30 := m30.free
        have l30 := m30.lt
        have c31 := m31.cell
        have f31 := m31.free
        have l31 := m31.lt
        have c32 := m32.cell
        have f32 := m32.free
        have l32 := m32.lt
        have c33 := m33.cell
        have f33 := m33.free
        have l33 := m33.lt
        have c34 := m34.cell
        have f34 := m34.free
        have l34 := m34.lt
        have c35 := m35.cell
        have f35 := m35.free
        have l35 := m35.lt
        have cb1 := mb1.cell
        have fb1 := mb1.free
        have lb1 := mb1.lt
        have cb2 := mb2.cell
        have fb2 := mb2.free
        have lb2 := mb2.lt
        have ck1 := mk1.cell
        have fk1 := mk1.free
        have lk1 := mk1.lt
        have ck2 := mk2.cell
        have fk2 := mk2.free
        have lk2 := mk2.lt
        have hBz := hB.size
        go_wp2
        go_ret
        exact ⟨rfl, (by repeat first | with_reducible exact Below.refl _ _ | with_reducible assumption | with_reducible refine below_drewN ?_ _ | with_reducible refine Below.drew ?_ | with_reducible refine Below.setCell ?_ (by first | exact Nat.le_refl _ | (simp; done) | (simp; omega) | omega) _ | with_reducible refine Below.alloc ?_ (by first | exact Nat.le_refl _ | (simp; done) | (simp; omega) | omega) _ | exact Below.refl _ _ | assumption)⟩
  · skip
    have hPr := fun w hE => Print_any n d w (I64.num hvd) (I64.den hvd) hE
    rw [show prtv n d = (t.data.toList, 0) by simp [prtv, hvd, hpt], show str (t.data.toList, (0 : Int)).1 = t from rfl] at hPr
    replace hPr := Lib.hid hPr
    clear hvd hpt hNEd
    go_wp2_with fail
    refine name_calls ?_
    intro wz hwwz
    replace m10 : Mine wz w.heap.size 0 (.int .i64 x0) := by rw [hwwz]; (repeat first | with_reducible assumption | with_reducible refine Mine.drew ?_ | with_reducible refine Mine.drewN ?_ _ | ((with_reducible refine Mine.new ?_); rfl) | ((with_reducible refine Mine.newAt ?_ ?_) <;> first | rfl | (simp; done) | (simp only [World.size_alloc]; rfl)) | ((with_reducible refine Mine.set ?_ _); repeat first | exact Mine.slot (by with_reducible assumption) | with_reducible refine MineS.drew ?_ | with_reducible refine MineS.drewN ?_ _ | ((with_reducible refine MineS.new ?_); decide) | ((with_reducible refine MineS.newAt ?_ ?_) <;> first | decide | (simp; done)) | with_reducible refine MineS.set ?_ _ _ _ | with_reducible refine MineS.alloc ?_ _) | with_reducible refine Mine.other ?_ _ (by first | (left; omega) | (right; omega) | (simp; done) | (simp; omega)) | with_reducible refine Mine.alloc ?_ _)
    replace m11 : Mine wz w.heap.size 1 (.int .i64 x1) := by rw [hwwz]; (repeat first | with_reducible assumption | with_reducible refine Mine.drew ?_ | with_reducible refine Mine.drewN ?_ _ | ((with_reducible refine Mine.new ?_); rfl) | ((with_reducible refine Mine.newAt ?_ ?_) <;> first | rfl | (simp; done) | (simp only [World.size_alloc]; rfl)) | ((with_reducible refine Mine.set ?_ _); repeat first | exact Mine.slot (by with_reducible assumption) | with_reducible refine MineS.drew ?_ | with_reducible refine MineS.drewN ?_ _ | ((with_reducible refine MineS.new ?_); decide) | ((with_reducible refine MineS.newAt ?_ ?_) <;> first | decide | (simp; done)) | with_reducible refine MineS.set ?_ _ _ _ | with_reducible refine MineS.alloc ?_ _) | with_reducible refine Mine.other ?_ _ (by first | (left; omega) | (right; omega) | (simp; done) | (simp; omega)) | with_reducible refine Mine.alloc ?_ _)
    replace m12 : Mine wz w.heap.size 2 (.int .i64 x2) := by rw [hwwz]; (repeat first | with_reducible assumption | with_reducible refine Mine.drew ?_ | with_reducible refine Mine.drewN ?_ _ | ((with_reducible refine Mine.new ?_); rfl) | ((with_reducible refine Mine.newAt ?_ ?_) <;> first | rfl | (simp; done) | (simp only [World.size_alloc]; rfl)) | ((with_reducible refine Mine.set ?_ _); repeat first | exact Mine.slot (by with_reducible assumption) | with_reducible refine MineS.drew ?_ | with_reducible refine MineS.drewN ?_ _ | ((with_reducible refine MineS.new ?_); decide) | ((with_reducible refine MineS.newAt ?_ ?_) <;> first | decide | (simp; done)) | with_reducible refine MineS.set ?_ _ _ _ | with_reducible refine MineS.alloc ?_ _) | with_reducible refine Mine.other ?_ _ (by first | (left; omega) | (right; omega) | (simp; done) | (simp; omega)) | with_reducible refine Mine.alloc ?_ _)
    replace m13 : Mine wz w.heap.size 3 (.int .i64 x3) := by rw [hwwz]; (repeat first | with_reducible assumption | with_reducible refine Mine.drew ?_ | with_reducible refine Mine.drewN ?_ _ | ((with_reducible refine Mine.new ?_); rfl) | ((with_reducible refine Mine.newAt ?_ ?_) <;> first | rfl | (simp; done) | (simp only [World.size_alloc]; rfl)) | ((with_reducible refine Mine.set ?_ _); repeat first | exact Mine.slot (by with_reducible assumption) | with_reducible refine MineS.drew ?_ | with_reducible refine MineS.drewN ?_ _ | ((with_reducible refine MineS.new ?_); decide) | ((with_reducible refine MineS.newAt ?_ ?_) <;> first | decide | (simp; done)) | with_reducible refine MineS.set ?_ _ _ _ | with_reducible refine MineS.alloc ?_ _) | with_reducible refine Mine.other ?_ _ (by first | (left; omega) | (right; omega) | (simp; done) | (simp; omega)) | with_reducible refine Mine.alloc ?_ _)
    replace m14 : Mine wz w.heap.size 4 (.int .i64 x4) := by rw [hwwz]; (repeat first | with_reducible assumption | with_reducible refine Mine.drew ?_ | with_reducible refine Mine.drewN ?_ _ | ((with_reducible refine Mine.new ?_); rfl) | ((with_reducible refine Mine.newAt ?_ ?_) <;> first | rfl | (simp; done) | (simp only [World.size_alloc]; rfl)) | ((with_reducible refine Mine.set ?_ _); repeat first | exact Mine.slot (by with_reducible assumption) | with_reducible refine MineS.drew ?_ | with_reducible refine MineS.drewN ?_ _ | ((with_reducible refine MineS.new ?_); decide) | ((with_reducible refine MineS.newAt ?_ ?_) <;> first | decide | (simp; done)) | with_reducible refine MineS.set ?_ _ _ _ | with_reducible refine MineS.alloc ?_ _) | with_reducible refine Mine.other ?_ _ (by first | (left; omega) | (right; omega) | (simp; done) | (simp; omega)) | with_reducible refine Mine.alloc ?_ _)
    replace m15 : Mine wz w.heap.size 5 (.int .i64 x5) := by rw [hwwz]; (repeat first | with_reducible assumption | with_reducible refine Mine.drew ?_ | with_reducible refine Mine.drewN ?_ _ | ((with_reducible refine Mine.new ?_); rfl) | ((with_reducible refine Mine.newAt ?_ ?_) <;> first | rfl | (simp; done) | (simp only [World.size_alloc]; rfl)) | ((with_reducible refine Mine.set ?_ _); repeat first | exact Mine.slot (by with_reducible assumption) | with_reducible refine MineS.drew ?_ | with_reducible refine MineS.drewN ?_ _ | ((with_reducible refine MineS.new ?_); decide) | ((with_reducible refine MineS.newAt ?_ ?_) <;> first | decide | (simp; done)) | with_reducible refine MineS.set ?_ _ _ _ | with_reducible refine MineS.alloc ?_ _) | with_reducible refine Mine.other ?_ _ (by first | (left; omega) | (right; omega) | (simp; done) | (simp; omega)) | with_reducible refine Mine.alloc ?_ _)
    replace mz1 : Mine wz v2a.heap.size 0 (.int .i64 n) := by rw [hwwz]; (repeat first | with_reducible assumption | with_reducible refine Mine.drew ?_ | with_reducible refine Mine.drewN ?_ _ | ((with_reducible refine Mine.new ?_); rfl) | ((with_reducible refine Mine.newAt ?_ ?_) <;> first | rfl | (simp; done) | (simp only [World.size_alloc]; rfl)) | ((with_reducible refine Mine.set ?_ _); repeat first | exact Mine.slot (by with_reducible assumption) | with_reducible refine MineS.drew ?_ | with_reducible refine MineS.drewN ?_ _ | ((with_reducible refine MineS.new ?_); decide) | ((with_reducible refine MineS.newAt ?_ ?_) <;> first | decide | (simp; done)) | with_reducible refine MineS.set ?_ _ _ _ | with_reducible refine MineS.alloc ?_ _) | with_reducible refine Mine.other ?_ _ (by first | (left; omega) | (right; omega) | (simp; done) | (simp; omega)) | with_reducible refine Mine.alloc ?_ _)
    replace mz2 : Mine wz v2a.heap.size 1 (.int .i64 d) := by rw [hwwz]; (repeat first | with_reducible assumption | with_reducible refine Mine.drew ?_ | with_reducible refine Mine.drewN ?_ _ | ((with_reducible refine Mine.new ?_); rfl) | ((with_reducible refine Mine.newAt ?_ ?_) <;> first | rfl | (simp; done) | (simp only [World.size_alloc]; rfl)) | ((with_reducible refine Mine.set ?_ _); repeat first | exact Mine.slot (by with_reducible assumption) | with_reducible refine MineS.drew ?_ | with_reducible refine MineS.drewN ?_ _ | ((with_reducible refine MineS.new ?_); decide) | ((with_reducible refine MineS.newAt ?_ ?_) <;> first | decide | (simp; done)) | with_reducible refine MineS.set ?_ _ _ _ | with_reducible refine MineS.alloc ?_ _) | with_reducible refine Mine.other ?_ _ (by first | (left; omega) | (right; omega) | (simp; done) | (simp; omega)) | with_reducible refine Mine.alloc ?_ _)
    have hBzwz := hB.size
    replace hB : Below w.heap.size w wz := by rw [hwwz]; exact (by repeat first | with_reducible exact Below.refl _ _ | with_reducible assumption | with_reducible refine below_drewN ?_ _ | with_reducible refine Below.drew ?_ | with_reducible refine Below.setCell ?_ (by first | exact Nat.le_refl _ | (simp; done) | (simp; omega) | omega) _ | with_reducible refine Below.alloc ?_ (by first | exact Nat.le_refl _ | (simp; done) | (simp; omega) | omega) _ | exact Below.refl _ _ | assumption)
    clear hwwz hBzwz
    generalize v2a.heap.size = bz at *
    refine (hPr.out _ (hE.below hB)).mono ?_
    rintro e v2b ⟨rfl, hb1⟩
    replace m10 := m10.below hb1
    replace m11 := m11.below hb1
    replace m12 := m12.below hb1
    replace m13 := m13.below hb1
    replace m14 := m14.below hb1
    replace m15 := m15.below hb1
    replace mz1 := mz1.below hb1
    replace mz2 := mz2.below hb1
    replace hB := hB.trans (hb1.mono hB.size)
    have hb_v2b := hb1
    clear hb1
    clear hPr hb_v1 hb_v2a hb_v2b
    go_wp2_with fail
    go_quiet (fail)
    have c10 := m10.cell
    have f10 := m10.free
    have l10 := m10.lt
    have c11 := m11.cell
    have f11 := m11.free
    have l11 := m11.lt
    have c12 := m12.cell
    have f12 := m12.free
    have l12 := m12.lt
    have c13 := m13.cell
    have f13 := m13.free
    have l13 := m13.lt
    have c14 := m14.cell
    have f14 := m14.free
    have l14 := m14.lt
    have c15 := m15.cell
    have f15 := m15.free
    have l15 := m15.lt
    go_wp2_with fail
    clear c10 f10 l10
    clear c11 f11 l11
    clear c12 f12 l12
    clear c13 f13 l13
    clear c14 f14 l14
    clear c15 f15 l15
    refine name_calls ?_
    intro wm hwwm
    replace m10 : Mine wm w.heap.size 0 (.int .i64 x0) := by rw [hwwm]; (repeat first | with_reducible assumption | with_reducible refine Mine.drew ?_ | with_reducible refine Mine.drewN ?_ _ | ((with_reducible refine Mine.new ?_); rfl) | ((with_reducible refine Mine.newAt ?_ ?_) <;> first | rfl | (simp; done) | (simp only [World.size_alloc]; rfl)) | ((with_reducible refine Mine.set ?_ _); repeat first | exact Mine.slot (by with_reducible assumption) | with_reducible refine MineS.drew ?_ | with_reducible refine MineS.drewN ?_ _ | ((with_reducible refine MineS.new ?_); decide) | ((with_reducible refine MineS.newAt ?_ ?_) <;> first | decide | (simp; done)) | with_reducible refine MineS.set ?_ _ _ _ | with_reducible refine MineS.alloc ?_ _) | with_reducible refine Mine.other ?_ _ (by first | (left; omega) | (right; omega) | (simp; done) | (simp; omega)) | with_reducible refine Mine.alloc ?_ _)
    replace m11 : Mine wm w.heap.size 1 (.int .i64 x1) := by rw [hwwm]; (repeat first | with_reducible assumption | with_reducible refine Mine.drew ?_ | with_reducible refine Mine.drewN ?_ _ | ((with_reducible refine Mine.new ?_); rfl) | ((with_reducible refine Mine.newAt ?_ ?_) <;> first | rfl | (simp; done) | (simp only [World.size_alloc]; rfl)) | ((with_reducible refine Mine.set ?_ _); repeat first | exact Mine.slot (by with_reducible assumption) | with_reducible refine MineS.drew ?_ | with_reducible refine MineS.drewN ?_ _ | ((with_reducible refine MineS.new ?_); decide) | ((with_reducible refine MineS.newAt ?_ ?_) <;> first | decide | (simp; done)) | with_reducible refine MineS.set ?_ _ _ _ | with_reducible refine MineS.alloc ?_ _) | with_reducible refine Mine.other ?_ _ (by first | (left; omega) | (right; omega) | (simp; done) | (simp; omega)) | with_reducible refine Mine.alloc ?_ _)
    replace m12 : Mine wm w.heap.size 2 (.int .i64 x2) := by rw [hwwm]; (repeat first | with_reducible assumption | with_reducible refine Mine.drew ?_ | with_reducible refine Mine.drewN ?_ _ | ((with_reducible refine Mine.new ?_); rfl) | ((with_reducible refine Mine.newAt ?_ ?_) <;> first | rfl | (simp; done) | (simp only [World.size_alloc]; rfl)) | ((with_reducible refine Mine.set ?_ _); repeat first | exact Mine.slot (by with_reducible assumption) | with_reducible refine MineS.drew ?_ | with_reducible refine MineS.drewN ?_ _ | ((with_reducible refine MineS.new ?_); decide) | ((with_reducible refine MineS.newAt ?_ ?_) <;> first | decide | (simp; done)) | with_reducible refine MineS.set ?_ _ _ _ | with_reducible refine MineS.alloc ?_ _) | with_reducible refine Mine.other ?_ _ (by first | (left; omega) | (right; omega) | (simp; done) | (simp; omega)) | with_reducible refine Mine.alloc ?_ _)
    replace m13 : Mine wm w.heap.size 3 (.int .i64 x3) := by rw [hwwm]; (repeat first | with_reducible assumption | with_reducible refine Mine.drew ?_ | with_reducible refine Mine.drewN ?_ _ | ((with_reducible refine Mine.new ?_); rfl) | ((with_reducible refine Mine.newAt ?_ ?_) <;> first | rfl | (simp; done) | (simp only [World.size_alloc]; rfl)) | ((with_reducible refine Mine.set ?_ _); repeat first | exact Mine.slot (by with_reducible assumption) | with_reducible refine MineS.drew ?_ | with_reducible refine MineS.drewN ?_ _ | ((with_reducible refine MineS.new ?_); decide) | ((with_reducible refine MineS.newAt ?_ ?_) <;> first | decide | (simp; done)) | with_reducible refine MineS.set ?_ _ _ _ | with_reducible refine MineS.alloc ?_ _) | with_reducible refine Mine.other ?_ _ (by first | (left; omega) | (right; omega) | (simp; done) | (simp; omega)) | with_reducible refine Mine.alloc ?_ _)
    replace m14 : Mine wm w.heap.size 4 (.int .i64 x4) := by rw [hwwm]; (repeat first | with_reducible assumption | with_reducible refine Mine.drew ?_ | with_reducible refine Mine.drewN ?_ _ | ((with_reducible refine Mine.new ?_); rfl) | ((with_reducible refine Mine.newAt ?_ ?_) <;> first | rfl | (simp; done) | (simp only [World.size_alloc]; rfl)) | ((with_reducible refine Mine.set ?_ _); repeat first | exact Mine.slot (by with_reducible assumption) | with_reducible refine MineS.drew ?_ | with_reducible refine MineS.drewN ?_ _ | ((with_reducible refine MineS.new ?_); decide) | ((with_reducible refine MineS.newAt ?_ ?_) <;> first | decide | (simp; done)) | with_reducible refine MineS.set ?_ _ _ _ | with_reducible refine MineS.alloc ?_ _) | with_reducible refine Mine.other ?_ _ (by first | (left; omega) | (right; omega) | (simp; done) | (simp; omega)) | with_reducible refine Mine.alloc ?_ _)
    replace m15 : Mine wm w.heap.size 5 (.int .i64 x5) := by rw [hwwm]; (repeat first | with_reducible assumption | with_reducible refine Mine.drew ?_ | with_reducible refine Mine.drewN ?_ _ | ((with_reducible refine Mine.new ?_); rfl) | ((with_reducible refine Mine.newAt ?_ ?_) <;> first | rfl | (simp; done) | (simp only [World.size_alloc]; rfl)) | ((with_reducible refine Mine.set ?_ _); repeat first | exact Mine.slot (by with_reducible assumption) | with_reducible refine MineS.drew ?_ | with_reducible refine MineS.drewN ?_ _ | ((with_reducible refine MineS.new ?_); decide) | ((with_reducible refine MineS.newAt ?_ ?_) <;> first | decide | (simp; done)) | with_reducible refine MineS.set ?_ _ _ _ | with_reducible refine MineS.alloc ?_ _) | with_reducible refine Mine.other ?_ _ (by first | (left; omega) | (right; omega) | (simp; done) | (simp; omega)) | with_reducible refine Mine.alloc ?_ _)
    have hBzwm := hB.size
    replace hB : Below w.heap.size w wm := by rw [hwwm]; exact (by repeat first | with_reducible exact Below.refl _ _ | with_reducible assumption | with_reducible refine below_drewN ?_ _ | with_reducible refine Below.drew ?_ | with_reducible refine Below.setCell ?_ (by first | exact Nat.le_refl _ | (simp; done) | (simp; omega) | omega) _ | with_reducible refine Below.alloc ?_ (by first | exact Nat.le_refl _ | (simp; done) | (simp; omega) | omega) _ | exact Below.refl _ _ | assumption)
    clear hwwm hBzwm
    refine (hMade.out _).mono ?_
    rintro e v2 ⟨hm, hb1⟩
    replace m10 := m10.below hb1
    replace m11 := m11.below hb1
    replace m12 := m12.below hb1
    replace m13 := m13.below hb1
    replace m14 := m14.below hb1
    replace m15 := m15.below hb1
    replace hB := hB.trans (hb1.mono hB.size)
    have hb_v2 := hb1
    clear hb1
    clear m10 m11 m12 m13 m14 m15 hMade
    rcases hm with ⟨a, b, c, d, g, h, v1, v2x, v3, rfl⟩ | ⟨a, b, c, d, g, h, rfl⟩
    rotate_left
    · have hBz := hB.size
      go_wp2
      go_ret
      exact ⟨rfl, (by repeat first | with_reducible exact Below.refl _ _ | with_reducible assumption | with_reducible refine below_drewN ?_ _ | with_reducible refine Below.drew ?_ | with_reducible refine Below.setCell ?_ (by first | exact Nat.le_refl _ | (simp; done) | (simp; omega) | omega) _ | with_reducible refine Below.alloc ?_ (by first | exact Nat.le_refl _ | (simp; done) | (simp; omega) | omega) _ | exact Below.refl _ _ | assumption)⟩
    have K := clamp_in v1 v2x v3
    obtain ⟨k1, k2, hk⟩ : ∃ k1 k2, clampv a b c d g h = (k1, k2) := ⟨_, _, rfl⟩
    rw [hk] at K
    obtain ⟨K1, K2⟩ := K
    have ia := I64.num v1
    have ib := I64.den v1
    have ic := I64.num v2x
    have id := I64.den v2x
    have ig := I64.num v3
    have ih := I64.den v3
    have vk : vld k1 k2 = true := by
      rcases K2 with K2 | K2 | K2 <;> (simp only [Prod.mk.injEq] at K2; obtain ⟨rfl, rfl⟩ := K2; assumption)
    have Pn := fun w hE => Print_any a b w ia ib hE
    rw [show prtv a b = (prt a b, 0) by simp [prtv, v1]] at Pn
    have Ps := fun w hE => Parse_any (str (prt a b)) w (by have := prt_le v1; rw [str_size]; omega) hE
    rw [str_list, parse_prt v1] at Ps
    have Cl := fun w => Clamp_any a b c d g h w ia ib ic id ig ih
    rw [hk] at Cl
    have C1 := fun w => Compare_any c d g h w ic id ig ih
    have C2 := fun w => Compare_any c d k1 k2 w ic id (I64.num vk) (I64.den vk)
    have C3 := fun w => Compare_any k1 k2 g h w (I64.num vk) (I64.den vk) ig ih
    generalize cmpr c d g h = p at *
    dsimp only at K1 K2 C2 C3 Cl
    generalize cmpr c d k1 k2 = q1 at *
    generalize cmpr k1 k2 g h = q2 at *
    have E0 := fun w => run_eq_rv a b a b w
    rw [show (a == a && b == b) = true by simp] at E0
    have E1 := fun w => run_eq_rv k1 k2 a b w
    have E2 := fun w => run_eq_rv k1 k2 c d w
    have E3 := fun w => run_eq_rv k1 k2 g h w
    have hB3 : (k1 == a && k2 == b) = true ∨ ((k1 == a && k2 == b) = false ∧ (k1 == c && k2 == d) = true) ∨ ((k1 == a && k2 == b) = false ∧ (k1 == c && k2 == d) = false ∧ (k1 == g && k2 == h) = true) := by
      simp only [Prod.mk.injEq] at K2
      cases z1 : (k1 == a && k2 == b)
      · cases z2 : (k1 == c && k2 == d)
        · right; right
          rcases K2 with ⟨rfl, rfl⟩ | ⟨rfl, rfl⟩ | ⟨rfl, rfl⟩
          · simp at z1
          · simp at z2
          · simp
        · right; left; simp
      · left; rfl
    generalize (k1 == a && k2 == b) = B1 at *
    generalize (k1 == c && k2 == d) = B2 at *
    generalize (k1 == g && k2 == h) = B3 at *
    clear K2 hk vk ia ib ic id ig ih v1 v2x v3
    replace K1 := Lib.hid K1
    replace Pn := Lib.hid Pn
    replace Ps := Lib.hid Ps
    replace Cl := Lib.hid Cl
    replace C1 := Lib.hid C1
    replace C2 := Lib.hid C2
    replace C3 := Lib.hid C3
    generalize prt a b = tx at *
    go_wp2_with fail
    refine name_calls ?_
    intro w3 hww3
    replace m30 : Mine w3 v2.heap.size 0 (.int .i64 a) := by rw [hww3]; (repeat first | with_reducible assumption | with_reducible refine Mine.drew ?_ | with_reducible refine Mine.drewN ?_ _ | ((with_reducible refine Mine.new ?_); rfl) | ((with_reducible refine Mine.newAt ?_ ?_) <;> first | rfl | (simp; done) | (simp only [World.size_alloc]; rfl)) | ((with_reducible refine Mine.set ?_ _); repeat first | exact Mine.slot (by with_reducible assumption) | with_reducible refine MineS.drew ?_ | with_reducible refine MineS.drewN ?_ _ | ((with_reducible refine MineS.new ?_); decide) | ((with_reducible refine MineS.newAt ?_ ?_) <;> first | decide | (simp; done)) | with_reducible refine MineS.set ?_ _ _ _ | with_reducible refine MineS.alloc ?_ _) | with_reducible refine Mine.other ?_ _ (by first | (left; omega) | (right; omega) | (simp; done) | (simp; omega)) | with_reducible refine Mine.alloc ?_ _)
    replace m31 : Mine w3 v2.heap.size 1 (.int .i64 b) := by rw [hww3]; (repeat first | with_reducible assumption | with_reducible refine Mine.drew ?_ | with_reducible refine Mine.drewN ?_ _ | ((with_reducible refine Mine.new ?_); rfl) | ((with_reducible refine Mine.newAt ?_ ?_) <;> first | rfl | (simp; done) | (simp only [World.size_alloc]; rfl)) | ((with_reducible refine Mine.set ?_ _); repeat first | exact Mine.slot (by with_reducible assumption) | with_reducible refine MineS.drew ?_ | with_reducible refine MineS.drewN ?_ _ | ((with_reducible refine MineS.new ?_); decide) | ((with_reducible refine MineS.newAt ?_ ?_) <;> first | decide | (simp; done)) | with_reducible refine MineS.set ?_ _ _ _ | with_reducible refine MineS.alloc ?_ _) | with_reducible refine Mine.other ?_ _ (by first | (left; omega) | (right; omega) | (simp; done) | (simp; omega)) | with_reducible refine Mine.alloc ?_ _)
    replace m32 : Mine w3 v2.heap.size 2 (.int .i64 c) := by rw [hww3]; (repeat first | with_reducible assumption | with_reducible refine Mine.drew ?_ | with_reducible refine Mine.drewN ?_ _ | ((with_reducible refine Mine.new ?_); rfl) | ((with_reducible refine Mine.newAt ?_ ?_) <;> first | rfl | (simp; done) | (simp only [World.size_alloc]; rfl)) | ((with_reducible refine Mine.set ?_ _); repeat first | exact Mine.slot (by with_reducible assumption) | with_reducible refine MineS.drew ?_ | with_reducible refine MineS.drewN ?_ _ | ((with_reducible refine MineS.new ?_); decide) | ((with_reducible refine MineS.newAt ?_ ?_) <;> first | decide | (simp; done)) | with_reducible refine MineS.set ?_ _ _ _ | with_reducible refine MineS.alloc ?_ _) | with_reducible refine Mine.other ?_ _ (by first | (left; omega) | (right; omega) | (simp; done) | (simp; omega)) | with_reducible refine Mine.alloc ?_ _)
    replace m33 : Mine w3 v2.heap.size 3 (.int .i64 d) := by rw [hww3]; (repeat first | with_reducible assumption | with_reducible refine Mine.drew ?_ | with_reducible refine Mine.drewN ?_ _ | ((with_reducible refine Mine.new ?_); rfl) | ((with_reducible refine Mine.newAt ?_ ?_) <;> first | rfl | (simp; done) | (simp only [World.size_alloc]; rfl)) | ((with_reducible refine Mine.set ?_ _); repeat first | exact Mine.slot (by with_reducible assumption) | with_reducible refine MineS.drew ?_ | with_reducible refine MineS.drewN ?_ _ | ((with_reducible refine MineS.new ?_); decide) | ((with_reducible refine MineS.newAt ?_ ?_) <;> first | decide | (simp; done)) | with_reducible refine MineS.set ?_ _ _ _ | with_reducible refine MineS.alloc ?_ _) | with_reducible refine Mine.other ?_ _ (by first | (left; omega) | (right; omega) | (simp; done) | (simp; omega)) | with_reducible refine Mine.alloc ?_ _)
    replace m34 : Mine w3 v2.heap.size 4 (.int .i64 g) := by rw [hww3]; (repeat first | with_reducible assumption | with_reducible refine Mine.drew ?_ | with_reducible refine Mine.drewN ?_ _ | ((with_reducible refine Mine.new ?_); rfl) | ((with_reducible refine Mine.newAt ?_ ?_) <;> first | rfl | (simp; done) | (simp only [World.size_alloc]; rfl)) | ((with_reducible refine Mine.set ?_ _); repeat first | exact Mine.slot (by with_reducible assumption) | with_reducible refine MineS.drew ?_ | with_reducible refine MineS.drewN ?_ _ | ((with_reducible refine MineS.new ?_); decide) | ((with_reducible refine MineS.newAt ?_ ?_) <;> first | decide | (simp; done)) | with_reducible refine MineS.set ?_ _ _ _ | with_reducible refine MineS.alloc ?_ _) | with_reducible refine Mine.other ?_ _ (by first | (left; omega) | (right; omega) | (simp; done) | (simp; omega)) | with_reducible refine Mine.alloc ?_ _)
    replace m35 : Mine w3 v2.heap.size 5 (.int .i64 h) := by rw [hww3]; (repeat first | with_reducible assumption | with_reducible refine Mine.drew ?_ | with_reducible refine Mine.drewN ?_ _ | ((with_reducible refine Mine.new ?_); rfl) | ((with_reducible refine Mine.newAt ?_ ?_) <;> first | rfl | (simp; done) | (simp only [World.size_alloc]; rfl)) | ((with_reducible refine Mine.set ?_ _); repeat first | exact Mine.slot (by with_reducible assumption) | with_reducible refine MineS.drew ?_ | with_reducible refine MineS.drewN ?_ _ | ((with_reducible refine MineS.new ?_); decide) | ((with_reducible refine MineS.newAt ?_ ?_) <;> first | decide | (simp; done)) | with_reducible refine MineS.set ?_ _ _ _ | with_reducible refine MineS.alloc ?_ _) | with_reducible refine Mine.other ?_ _ (by first | (left; omega) | (right; omega) | (simp; done) | (simp; omega)) | with_reducible refine Mine.alloc ?_ _)
    have hBzw3 := hB.size
    replace hB : Below w.heap.size w w3 := by rw [hww3]; exact (by repeat first | with_reducible exact Below.refl _ _ | with_reducible assumption | with_reducible refine below_drewN ?_ _ | with_reducible refine Below.drew ?_ | with_reducible refine Below.setCell ?_ (by first | exact Nat.le_refl _ | (simp; done) | (simp; omega) | omega) _ | with_reducible refine Below.alloc ?_ (by first | exact Nat.le_refl _ | (simp; done) | (simp; omega) | omega) _ | exact Below.refl _ _ | assumption)
    clear hww3 hBzw3
    generalize v2.heap.size = bL at *
    refine (Pn.out _ (hE.below hB)).mono ?_
    rintro e n3 ⟨rfl, hb1⟩
    replace m30 := m30.below hb1
    replace m31 := m31.below hb1
    replace m32 := m32.below hb1
    replace m33 := m33.below hb1
    replace m34 := m34.below hb1
    replace m35 := m35.below hb1
    replace hB := hB.trans (hb1.mono hB.size)
    have hb_n3 := hb1
    clear hb1
    have c30 := m30.cell
    have f30 := m30.free
    have l30 := m30.lt
    have c31 := m31.cell
    have f31 := m31.free
    have l31 := m31.lt
    have c32 := m32.cell
    have f32 := m32.free
    have l32 := m32.lt
    have c33 := m33.cell
    have f33 := m33.free
    have l33 := m33.lt
    have c34 := m34.cell
    have f34 := m34.free
    have l34 := m34.lt
    have c35 := m35.cell
    have f35 := m35.free
    have l35 := m35.lt
    go_wp2_with fail
    clear c30 f30 l30
    clear c31 f31 l31
    clear c32 f32 l32
    clear c33 f33 l33
    clear c34 f34 l34
    clear c35 f35 l35
    refine (Ps.out _ (hE.below hB)).mono ?_
    rintro e n4 ⟨rfl, hb1⟩
    replace m30 := m30.below hb1
    replace m31 := m31.below hb1
    replace m32 := m32.below hb1
    replace m33 := m33.below hb1
    replace m34 := m34.below hb1
    replace m35 := m35.below hb1
    replace hB := hB.trans (hb1.mono hB.size)
    have hb_n4 := hb1
    clear hb1
    have c30 := m30.cell
    have f30 := m30.free
    have l30 := m30.lt
    have c31 := m31.cell
    have f31 := m31.free
    have l31 := m31.lt
    have c32 := m32.cell
    have f32 := m32.free
    have l32 := m32.lt
    have c33 := m33.cell
    have f33 := m33.free
    have l33 := m33.lt
    have c34 := m34.cell
    have f34 := m34.free
    have l34 := m34.lt
    have c35 := m35.cell
    have f35 := m35.free
    have l35 := m35.lt
    go_wp2_with fail
    clear c30 f30 l30
    clear c31 f31 l31
    clear c32 f32 l32
    clear c33 f33 l33
    clear c34 f34 l34
    clear c35 f35 l35
    refine name_calls ?_
    intro w4 hww4
    replace m30 : Mine w4 bL 0 (.int .i64 a) := by rw [hww4]; (repeat first | with_reducible assumption | with_reducible refine Mine.drew ?_ | with_reducible refine Mine.drewN ?_ _ | ((with_reducible refine Mine.new ?_); rfl) | ((with_reducible refine Mine.newAt ?_ ?_) <;> first | rfl | (simp; done) | (simp only [World.size_alloc]; rfl)) | ((with_reducible refine Mine.set ?_ _); repeat first | exact Mine.slot (by with_reducible assumption) | with_reducible refine MineS.drew ?_ | with_reducible refine MineS.drewN ?_ _ | ((with_reducible refine MineS.new ?_); decide) | ((with_reducible refine MineS.newAt ?_ ?_) <;> first | decide | (simp; done)) | with_reducible refine MineS.set ?_ _ _ _ | with_reducible refine MineS.alloc ?_ _) | with_reducible refine Mine.other ?_ _ (by first | (left; omega) | (right; omega) | (simp; done) | (simp; omega)) | with_reducible refine Mine.alloc ?_ _)
    replace m31 : Mine w4 bL 1 (.int .i64 b) := by rw [hww4]; (repeat first | with_reducible assumption | with_reducible refine Mine.drew ?_ | with_reducible refine Mine.drewN ?_ _ | ((with_reducible refine Mine.new ?_); rfl) | ((with_reducible refine Mine.newAt ?_ ?_) <;> first | rfl | (simp; done) | (simp only [World.size_alloc]; rfl)) | ((with_reducible refine Mine.set ?_ _); repeat first | exact Mine.slot (by with_reducible assumption) | with_reducible refine MineS.drew ?_ | with_reducible refine MineS.drewN ?_ _ | ((with_reducible refine MineS.new ?_); decide) | ((with_reducible refine MineS.newAt ?_ ?_) <;> first | decide | (simp; done)) | with_reducible refine MineS.set ?_ _ _ _ | with_reducible refine MineS.alloc ?_ _) | with_reducible refine Mine.other ?_ _ (by first | (left; omega) | (right; omega) | (simp; done) | (simp; omega)) | with_reducible refine Mine.alloc ?_ _)
    replace m32 : Mine w4 bL 2 (.int .i64 c) := by rw [hww4]; (repeat first | with_reducible assumption | with_reducible refine Mine.drew ?_ | with_reducible refine Mine.drewN ?_ _ | ((with_reducible refine Mine.new ?_); rfl) | ((with_reducible refine Mine.newAt ?_ ?_) <;> first | rfl | (simp; done) | (simp only [World.size_alloc]; rfl)) | ((with_reducible refine Mine.set ?_ _); repeat first | exact Mine.slot (by with_reducible assumption) | with_reducible refine MineS.drew ?_ | with_reducible refine MineS.drewN ?_ _ | ((with_reducible refine MineS.new ?_); decide) | ((with_reducible refine MineS.newAt ?_ ?_) <;> first | decide | (simp; done)) | with_reducible refine MineS.set ?_ _ _ _ | with_reducible refine MineS.alloc ?_ _) | with_reducible refine Mine.other ?_ _ (by first | (left; omega) | (right; omega) | (simp; done) | (simp; omega)) | with_reducible refine Mine.alloc ?_ _)
    replace m33 : Mine w4 bL 3 (.int .i64 d) := by rw [hww4]; (repeat first | with_reducible assumption | with_reducible refine Mine.drew ?_ | with_reducible refine Mine.drewN ?_ _ | ((with_reducible refine Mine.new ?_); rfl) | ((with_reducible refine Mine.newAt ?_ ?_) <;> first | rfl | (simp; done) | (simp only [World.size_alloc]; rfl)) | ((with_reducible refine Mine.set ?_ _); repeat first | exact Mine.slot (by with_reducible assumption) | with_reducible refine MineS.drew ?_ | with_reducible refine MineS.drewN ?_ _ | ((with_reducible refine MineS.new ?_); decide) | ((with_reducible refine MineS.newAt ?_ ?_) <;> first | decide | (simp; done)) | with_reducible refine MineS.set ?_ _ _ _ | with_reducible refine MineS.alloc ?_ _) | with_reducible refine Mine.other ?_ _ (by first | (left; omega) | (right; omega) | (simp; done) | (simp; omega)) | with_reducible refine Mine.alloc ?_ _)
    replace m34 : Mine w4 bL 4 (.int .i64 g) := by rw [hww4]; (repeat first | with_reducible assumption | with_reducible refine Mine.drew ?_ | with_reducible refine Mine.drewN ?_ _ | ((with_reducible refine Mine.new ?_); rfl) | ((with_reducible refine Mine.newAt ?_ ?_) <;> first | rfl | (simp; done) | (simp only [World.size_alloc]; rfl)) | ((with_reducible refine Mine.set ?_ _); repeat first | exact Mine.slot (by with_reducible assumption) | with_reducible refine MineS.drew ?_ | with_reducible refine MineS.drewN ?_ _ | ((with_reducible refine MineS.new ?_); decide) | ((with_reducible refine MineS.newAt ?_ ?_) <;> first | decide | (simp; done)) | with_reducible refine MineS.set ?_ _ _ _ | with_reducible refine MineS.alloc ?_ _) | with_reducible refine Mine.other ?_ _ (by first | (left; omega) | (right; omega) | (simp; done) | (simp; omega)) | with_reducible refine Mine.alloc ?_ _)
    replace m35 : Mine w4 bL 5 (.int .i64 h) := by rw [hww4]; (repeat first | with_reducible assumption | with_reducible refine Mine.drew ?_ | with_reducible refine Mine.drewN ?_ _ | ((with_reducible refine Mine.new ?_); rfl) | ((with_reducible refine Mine.newAt ?_ ?_) <;> first | rfl | (simp; done) | (simp only [World.size_alloc]; rfl)) | ((with_reducible refine Mine.set ?_ _); repeat first | exact Mine.slot (by with_reducible assumption) | with_reducible refine MineS.drew ?_ | with_reducible refine MineS.drewN ?_ _ | ((with_reducible refine MineS.new ?_); decide) | ((with_reducible refine MineS.newAt ?_ ?_) <;> first | decide | (simp; done)) | with_reducible refine MineS.set ?_ _ _ _ | with_reducible refine MineS.alloc ?_ _) | with_reducible refine Mine.other ?_ _ (by first | (left; omega) | (right; omega) | (simp; done) | (simp; omega)) | with_reducible refine Mine.alloc ?_ _)
    replace mb1 : Mine w4 n4.heap.size 0 (.int .i64 a) := by rw [hww4]; (repeat first | with_reducible assumption | with_reducible refine Mine.drew ?_ | with_reducible refine Mine.drewN ?_ _ | ((with_reducible refine Mine.new ?_); rfl) | ((with_reducible refine Mine.newAt ?_ ?_) <;> first | rfl | (simp; done) | (simp only [World.size_alloc]; rfl)) | ((with_reducible refine Mine.set ?_ _); repeat first | exact Mine.slot (by with_reducible assumption) | with_reducible refine MineS.drew ?_ | with_reducible refine MineS.drewN ?_ _ | ((with_reducible refine MineS.new ?_); decide) | ((with_reducible refine MineS.newAt ?_ ?_) <;> first | decide | (simp; done)) | with_reducible refine MineS.set ?_ _ _ _ | with_reducible refine MineS.alloc ?_ _) | with_reducible refine Mine.other ?_ _ (by first | (left; omega) | (right; omega) | (simp; done) | (simp; omega)) | with_reducible refine Mine.alloc ?_ _)
    replace mb2 : Mine w4 n4.heap.size 1 (.int .i64 b) := by rw [hww4]; (repeat first | with_reducible assumption | with_reducible refine Mine.drew ?_ | with_reducible refine Mine.drewN ?_ _ | ((with_reducible refine Mine.new ?_); rfl) | ((with_reducible refine Mine.newAt ?_ ?_) <;> first | rfl | (simp; done) | (simp only [World.size_alloc]; rfl)) | ((with_reducible refine Mine.set ?_ _); repeat first | exact Mine.slot (by with_reducible assumption) | with_reducible refine MineS.drew ?_ | with_reducible refine MineS.drewN ?_ _ | ((with_reducible refine MineS.new ?_); decide) | ((with_reducible refine MineS.newAt ?_ ?_) <;> first | decide | (simp; done)) | with_reducible refine MineS.set ?_ _ _ _ | with_reducible refine MineS.alloc ?_ _) | with_reducible refine Mine.other ?_ _ (by first | (left; omega) | (right; omega) | (simp; done) | (simp; omega)) | with_reducible refine Mine.alloc ?_ _)
    have hBzw4 := hB.size
    replace hB : Below w.heap.size w w4 := by rw [hww4]; exact (by repeat first | with_reducible exact Below.refl _ _ | with_reducible assumption | with_reducible refine below_drewN ?_ _ | with_reducible refine Below.drew ?_ | with_reducible refine Below.setCell ?_ (by first | exact Nat.le_refl _ | (simp; done) | (simp; omega) | omega) _ | with_reducible refine Below.alloc ?_ (by first | exact Nat.le_refl _ | (simp; done) | (simp; omega) | omega) _ | exact Below.refl _ _ | assumption)
    clear hww4 hBzw4
    generalize n4.heap.size = bb at *
    refine (Cl.out _).mono ?_
    rintro e n5 ⟨rfl, hb1⟩
    replace m30 := m30.below hb1
    replace m31 := m31.below hb1
    replace m32 := m32.below hb1
    replace m33 := m33.below hb1
    replace m34 := m34.below hb1
    replace m35 := m35.below hb1
    replace mb1 := mb1.below hb1
    replace mb2 := mb2.below hb1
    replace hB := hB.trans (hb1.mono hB.size)
    have hb_n5 := hb1
    clear hb1
    have c30 := m30.cell
    have f30 := m30.free
    have l30 := m30.lt
    have c31 := m31.cell
    have f31 := m31.free
    have l31 := m31.lt
    have c32 := m32.cell
    have f32 := m32.free
    have l32 := m32.lt
    have c33 := m33.cell
    have f33 := m33.free
    have l33 := m33.lt
    have c34 := m34.cell
    have f34 := m34.free
    have l34 := m34.lt
    have c35 := m35.cell
    have f35 := m35.free
    have l35 := m35.lt
    go_wp2_with fail
    clear c30 f30 l30
    clear c31 f31 l31
    clear c32 f32 l32
    clear c33 f33 l33
    clear c34 f34 l34
    clear c35 f35 l35
    refine name_calls ?_
    intro w5 hww5
    replace m30 : Mine w5 bL 0 (.int .i64 a) := by rw [hww5]; (repeat first | with_reducible assumption | with_reducible refine Mine.drew ?_ | with_reducible refine Mine.drewN ?_ _ | ((with_reducible refine Mine.new ?_); rfl) | ((with_reducible refine Mine.newAt ?_ ?_) <;> first | rfl | (simp; done) | (simp only [World.size_alloc]; rfl)) | ((with_reducible refine Mine.set ?_ _); repeat first | exact Mine.slot (by with_reducible assumption) | with_reducible refine MineS.drew ?_ | with_reducible refine MineS.drewN ?_ _ | ((with_reducible refine MineS.new ?_); decide) | ((with_reducible refine MineS.newAt ?_ ?_) <;> first | decide | (simp; done)) | with_reducible refine MineS.set ?_ _ _ _ | with_reducible refine MineS.alloc ?_ _) | with_reducible refine Mine.other ?_ _ (by first | (left; omega) | (right; omega) | (simp; done) | (simp; omega)) | with_reducible refine Mine.alloc ?_ _)
    replace m31 : Mine w5 bL 1 (.int .i64 b) := by rw [hww5]; (repeat first | with_reducible assumption | with_reducible refine Mine.drew ?_ | with_reducible refine Mine.drewN ?_ _ | ((with_reducible refine Mine.new ?_); rfl) | ((with_reducible refine Mine.newAt ?_ ?_) <;> first | rfl | (simp; done) | (simp only [World.size_alloc]; rfl)) | ((with_reducible refine Mine.set ?_ _); repeat first | exact Mine.slot (by with_reducible assumption) | with_reducible refine MineS.drew ?_ | with_reducible refine MineS.drewN ?_ _ | ((with_reducible refine MineS.new ?_); decide) | ((with_reducible refine MineS.newAt ?_ ?_) <;> first | decide | (simp; done)) | with_reducible refine MineS.set ?_ _ _ _ | with_reducible refine MineS.alloc ?_ _) | with_reducible refine Mine.other ?_ _ (by first | (left; omega) | (right; omega) | (simp; done) | (simp; omega)) | with_reducible refine Mine.alloc ?_ _)
    replace m32 : Mine w5 bL 2 (.int .i64 c) := by rw [hww5]; (repeat first | with_reducible assumption | with_reducible refine Mine.drew ?_ | with_reducible refine Mine.drewN ?_ _ | ((with_reducible refine Mine.new ?_); rfl) | ((with_reducible refine Mine.newAt ?_ ?_) <;> first | rfl | (simp; done) | (simp only [World.size_alloc]; rfl)) | ((with_reducible refine Mine.set ?_ _); repeat first | exact Mine.slot (by with_reducible assumption) | with_reducible refine MineS.drew ?_ | with_reducible refine MineS.drewN ?_ _ | ((with_reducible refine MineS.new ?_); decide) | ((with_reducible refine MineS.newAt ?_ ?_) <;> first | decide | (simp; done)) | with_reducible refine MineS.set ?_ _ _ _ | with_reducible refine MineS.alloc ?_ _) | with_reducible refine Mine.other ?_ _ (by first | (left; omega) | (right; omega) | (simp; done) | (simp; omega)) | with_reducible refine Mine.alloc ?_ _)
    replace m33 : Mine w5 bL 3 (.int .i64 d) := by rw [hww5]; (repeat first | with_reducible assumption | with_reducible refine Mine.drew ?_ | with_reducible refine Mine.drewN ?_ _ | ((with_reducible refine Mine.new ?_); rfl) | ((with_reducible refine Mine.newAt ?_ ?_) <;> first | rfl | (simp; done) | (simp only [World.size_alloc]; rfl)) | ((with_reducible refine Mine.set ?_ _); repeat first | exact Mine.slot (by with_reducible assumption) | with_reducible refine MineS.drew ?_ | with_reducible refine MineS.drewN ?_ _ | ((with_reducible refine MineS.new ?_); decide) | ((with_reducible refine MineS.newAt ?_ ?_) <;> first | decide | (simp; done)) | with_reducible refine MineS.set ?_ _ _ _ | with_reducible refine MineS.alloc ?_ _) | with_reducible refine Mine.other ?_ _ (by first | (left; omega) | (right; omega) | (simp; done) | (simp; omega)) | with_reducible refine Mine.alloc ?_ _)
    replace m34 : Mine w5 bL 4 (.int .i64 g) := by rw [hww5]; (repeat first | with_reducible assumption | with_reducible refine Mine.drew ?_ | with_reducible refine Mine.drewN ?_ _ | ((with_reducible refine Mine.new ?_); rfl) | ((with_reducible refine Mine.newAt ?_ ?_) <;> first | rfl | (simp; done) | (simp only [World.size_alloc]; rfl)) | ((with_reducible refine Mine.set ?_ _); repeat first | exact Mine.slot (by with_reducible assumption) | with_reducible refine MineS.drew ?_ | with_reducible refine MineS.drewN ?_ _ | ((with_reducible refine MineS.new ?_); decide) | ((with_reducible refine MineS.newAt ?_ ?_) <;> first | decide | (simp; done)) | with_reducible refine MineS.set ?_ _ _ _ | with_reducible refine MineS.alloc ?_ _) | with_reducible refine Mine.other ?_ _ (by first | (left; omega) | (right; omega) | (simp; done) | (simp; omega)) | with_reducible refine Mine.alloc ?_ _)
    replace m35 : Mine w5 bL 5 (.int .i64 h) := by rw [hww5]; (repeat first | with_reducible assumption | with_reducible refine Mine.drew ?_ | with_reducible refine Mine.drewN ?_ _ | ((with_reducible refine Mine.new ?_); rfl) | ((with_reducible refine Mine.newAt ?_ ?_) <;> first | rfl | (simp; done) | (simp only [World.size_alloc]; rfl)) | ((with_reducible refine Mine.set ?_ _); repeat first | exact Mine.slot (by with_reducible assumption) | with_reducible refine MineS.drew ?_ | with_reducible refine MineS.drewN ?_ _ | ((with_reducible refine MineS.new ?_); decide) | ((with_reducible refine MineS.newAt ?_ ?_) <;> first | decide | (simp; done)) | with_reducible refine MineS.set ?_ _ _ _ | with_reducible refine MineS.alloc ?_ _) | with_reducible refine Mine.other ?_ _ (by first | (left; omega) | (right; omega) | (simp; done) | (simp; omega)) | with_reducible refine Mine.alloc ?_ _)
    replace mb1 : Mine w5 bb 0 (.int .i64 a) := by rw [hww5]; (repeat first | with_reducible assumption | with_reducible refine Mine.drew ?_ | with_reducible refine Mine.drewN ?_ _ | ((with_reducible refine Mine.new ?_); rfl) | ((with_reducible refine Mine.newAt ?_ ?_) <;> first | rfl | (simp; done) | (simp only [World.size_alloc]; rfl)) | ((with_reducible refine Mine.set ?_ _); repeat first | exact Mine.slot (by with_reducible assumption) | with_reducible refine MineS.drew ?_ | with_reducible refine MineS.drewN ?_ _ | ((with_reducible refine MineS.new ?_); decide) | ((with_reducible refine MineS.newAt ?_ ?_) <;> first | decide | (simp; done)) | with_reducible refine MineS.set ?_ _ _ _ | with_reducible refine MineS.alloc ?_ _) | with_reducible refine Mine.other ?_ _ (by first | (left; omega) | (right; omega) | (simp; done) | (simp; omega)) | with_reducible refine Mine.alloc ?_ _)
    replace mb2 : Mine w5 bb 1 (.int .i64 b) := by rw [hww5]; (repeat first | with_reducible assumption | with_reducible refine Mine.drew ?_ | with_reducible refine Mine.drewN ?_ _ | ((with_reducible refine Mine.new ?_); rfl) | ((with_reducible refine Mine.newAt ?_ ?_) <;> first | rfl | (simp; done) | (simp only [World.size_alloc]; rfl)) | ((with_reducible refine Mine.set ?_ _); repeat first | exact Mine.slot (by with_reducible assumption) | with_reducible refine MineS.drew ?_ | with_reducible refine MineS.drewN ?_ _ | ((with_reducible refine MineS.new ?_); decide) | ((with_reducible refine MineS.newAt ?_ ?_) <;> first | decide | (simp; done)) | with_reducible refine MineS.set ?_ _ _ _ | with_reducible refine MineS.alloc ?_ _) | with_reducible refine Mine.other ?_ _ (by first | (left; omega) | (right; omega) | (simp; done) | (simp; omega)) | with_reducible refine Mine.alloc ?_ _)
    replace mk1 : Mine w5 n5.heap.size 0 (.int .i64 k1) := by rw [hww5]; (repeat first | with_reducible assumption | with_reducible refine Mine.drew ?_ | with_reducible refine Mine.drewN ?_ _ | ((with_reducible refine Mine.new ?_); rfl) | ((with_reducible refine Mine.newAt ?_ ?_) <;> first | rfl | (simp; done) | (simp only [World.size_alloc]; rfl)) | ((with_reducible refine Mine.set ?_ _); repeat first | exact Mine.slot (by with_reducible assumption) | with_reducible refine MineS.drew ?_ | with_reducible refine MineS.drewN ?_ _ | ((with_reducible refine MineS.new ?_); decide) | ((with_reducible refine MineS.newAt ?_ ?_) <;> first | decide | (simp; done)) | with_reducible refine MineS.set ?_ _ _ _ | with_reducible refine MineS.alloc ?_ _) | with_reducible refine Mine.other ?_ _ (by first | (left; omega) | (right; omega) | (simp; done) | (simp; omega)) | with_reducible refine Mine.alloc ?_ _)
    replace mk2 : Mine w5 n5.heap.size 1 (.int .i64 k2) := by rw [hww5]; (repeat first | with_reducible assumption | with_reducible refine Mine.drew ?_ | with_reducible refine Mine.drewN ?_ _ | ((with_reducible refine Mine.new ?_); rfl) | ((with_reducible refine Mine.newAt ?_ ?_) <;> first | rfl | (simp; done) | (simp only [World.size_alloc]; rfl)) | ((with_reducible refine Mine.set ?_ _); repeat first | exact Mine.slot (by with_reducible assumption) | with_reducible refine MineS.drew ?_ | with_reducible refine MineS.drewN ?_ _ | ((with_reducible refine MineS.new ?_); decide) | ((with_reducible refine MineS.newAt ?_ ?_) <;> first | decide | (simp; done)) | with_reducible refine MineS.set ?_ _ _ _ | with_reducible refine MineS.alloc ?_ _) | with_reducible refine Mine.other ?_ _ (by first | (left; omega) | (right; omega) | (simp; done) | (simp; omega)) | with_reducible refine Mine.alloc ?_ _)
    have hBzw5 := hB.size
    replace hB : Below w.heap.size w w5 := by rw [hww5]; exact (by repeat first | with_reducible exact Below.refl _ _ | with_reducible assumption | with_reducible refine below_drewN ?_ _ | with_reducible refine Below.drew ?_ | with_reducible refine Below.setCell ?_ (by first | exact Nat.le_refl _ | (simp; done) | (simp; omega) | omega) _ | with_reducible refine Below.alloc ?_ (by first | exact Nat.le_refl _ | (simp; done) | (simp; omega) | omega) _ | exact Below.refl _ _ | assumption)
    clear hww5 hBzw5
    generalize n5.heap.size = bk at *
    refine (C1.out _).mono ?_
    rintro e n6 ⟨rfl, hb1⟩
    replace m30 := m30.below hb1
    replace m31 := m31.below hb1
    replace m32 := m32.below hb1
    replace m33 := m33.below hb1
    replace m34 := m34.below hb1
    replace m35 := m35.below hb1
    replace mb1 := mb1.below hb1
    replace mb2 := mb2.below hb1
    replace mk1 := mk1.below hb1
    replace mk2 := mk2.below hb1
    replace hB := hB.trans (hb1.mono hB.size)
    have hb_n6 := hb1
    clear hb1
    rcases hB3 with rfl | ⟨rfl, rfl⟩ | ⟨rfl, rfl, rfl⟩
    · skip
      by_cases hp : 0 < p
      · have hd : decide (0 < p) = true := by simpa using hp
        have c30 := m30.cell
        have f30 := m30.free
        have l30 := m30.lt
        have c31 := m31.cell
        have f31 := m31.free
        have l31 := m31.lt
        have c32 := m32.cell
        have f32 := m32.free
        have l32 := m32.lt
        have c33 := m33.cell
        have f33 := m33.free
        have l33 := m33.lt
        have c34 := m34.cell
        have f34 := m34.free
        have l34 := m34.lt
        have c35 := m35.cell
        have f35 := m35.free
        have l35 := m35.lt
        have cb1 := mb1.cell
        have fb1 := mb1.free
        have lb1 := mb1.lt
        have cb2 := mb2.cell
        have fb2 := mb2.free
        have lb2 := mb2.lt
        have ck1 := mk1.cell
        have fk1 := mk1.free
        have lk1 := mk1.lt
        have ck2 := mk2.cell
        have fk2 := mk2.free
        have lk2 := mk2.lt
        have hBz := hB.size
        go_wp2
        go_ret
        exact ⟨rfl, (by repeat first | with_reducible exact Below.refl _ _ | with_reducible assumption | with_reducible refine below_drewN ?_ _ | with_reducible refine Below.drew ?_ | with_reducible refine Below.setCell ?_ (by first | exact Nat.le_refl _ | (simp; done) | (simp; omega) | omega) _ | with_reducible refine Below.alloc ?_ (by first | exact Nat.le_refl _ | (simp; done) | (simp; omega) | omega) _ | exact Below.refl _ _ | assumption)⟩
      · have hd : decide (0 < p) = false := by simpa using hp
        have hq1 : q1 ≤ 0 := by have := K1.out; omega
        have hq2 : q2 ≤ 0 := by have := K1.out; omega
        have d1 : decide (q1 ≤ 0) = true := by simpa using hq1
        have d2 : decide (q2 ≤ 0) = true := by simpa using hq2
        clear hq1 hq2 hp
        have c30 := m30.cell
        have f30 := m30.free
        have l30 := m30.lt
        have c31 := m31.cell
        have f31 := m31.free
        have l31 := m31.lt
        have c32 := m32.cell
        have f32 := m32.free
        have l32 := m32.lt
        have c33 := m33.cell
        have f33 := m33.free
        have l33 := m33.lt
        have c34 := m34.cell
        have f34 := m34.free
        have l34 := m34.lt
        have c35 := m35.cell
        have f35 := m35.free
        have l35 := m35.lt
        have cb1 := mb1.cell
        have fb1 := mb1.free
        have lb1 := mb1.lt
        have cb2 := mb2.cell
        have fb2 := mb2.free
        have lb2 := mb2.lt
        have ck1 := mk1.cell
        have fk1 := mk1.free
        have lk1 := mk1.lt
        have ck2 := mk2.cell
        have fk2 := mk2.free
        have lk2 := mk2.lt
        go_wp2_with fail
        clear c30 f30 l30
        clear c31 f31 l31
        clear c32 f32 l32
        clear c33 f33 l33
        clear c34 f34 l34
        clear c35 f35 l35
        clear cb1 fb1 lb1
        clear cb2 fb2 lb2
        clear ck1 fk1 lk1
        clear ck2 fk2 lk2
        refine (C2.out _).mono ?_
        rintro e n7 ⟨rfl, hb1⟩
        replace m30 := m30.below hb1
        replace m31 := m31.below hb1
        replace m32 := m32.below hb1
        replace m33 := m33.below hb1
        replace m34 := m34.below hb1
        replace m35 := m35.below hb1
        replace mb1 := mb1.below hb1
        replace mb2 := mb2.below hb1
        replace mk1 := mk1.below hb1
        replace mk2 := mk2.below hb1
        replace hB := hB.trans (hb1.mono hB.size)
        have hb_n7 := hb1
        clear hb1
        have c30 := m30.cell
        have f30 := m30.free
        have l30 := m30.lt
        have c31 := m31.cell
        have f31 := m31.free
        have l31 := m31.lt
        have c32 := m32.cell
        have f32 := m32.free
        have l32 := m32.lt
        have c33 := m33.cell
        have f33 := m33.free
        have l33 := m33.lt
        have c34 := m34.cell
        have f34 := m34.free
        have l34 := m34.lt
        have c35 := m35.cell
        have f35 := m35.free
        have l35 := m35.lt
        have cb1 := mb1.cell
        have fb1 := mb1.free
        have lb1 := mb1.lt
        have cb2 := mb2.cell
        have fb2 := mb2.free
        have lb2 := mb2.lt
        have ck1 := mk1.cell
        have fk1 := mk1.free
        have lk1 := mk1.lt
        have ck2 := mk2.cell
        have fk2 := mk2.free
        have lk2 := mk2.lt
        go_wp2_with fail
        clear c30 f30 l30
        clear c31 f31 l31
        clear c32 f32 l32
        clear c33 f33 l33
        clear c34 f34 l34
        clear c35 f35 l35
        clear cb1 fb1 lb1
        clear cb2 fb2 lb2
        clear ck1 fk1 lk1
        clear ck2 fk2 lk2
        refine (C3.out _).mono ?_
        rintro e n8 ⟨rfl, hb1⟩
        replace m30 := m30.below hb1
        replace m31 := m31.below hb1
        replace m32 := m32.below hb1
        replace m33 := m33.below hb1
        replace m34 := m34.below hb1
        replace m35 := m35.below hb1
        replace mb1 := mb1.below hb1
        replace mb2 := mb2.below hb1
        replace mk1 := mk1.below hb1
        replace mk2 := mk2.below hb1
        replace hB := hB.trans (hb1.mono hB.size)
        have hb_n8 := hb1
        clear hb1
        have c30 := m30.cell
        have f30 := m30.free
        have l30 := m30.lt
        have c31 := m31.cell
        have f31 := m31.free
        have l31 := m31.lt
        have c32 := m32.cell
        have f32 := m32.free
        have l32 := m32.lt
        have c33 := m33.cell
        have f33 := m33.free
        have l33 := m33.lt
        have c34 := m34.cell
        have f34 := m34.free
        have l34 := m34.lt
        have c35 := m35.cell
        have f35 := m35.free
        have l35 := m35.lt
        have cb1 := mb1.cell
        have fb1 := mb1.free
        have lb1 := mb1.lt
        have cb2 := mb2.cell
        have fb2 := mb2.free
        have lb2 := mb2.lt
        have ck1 := mk1.cell
        have fk1 := mk1.free
        have lk1 := mk1.lt
        have ck2 := mk2.cell
        have fk2 := mk2.free
        have lk2 := mk2.lt
        have hBz := hB.size
        go_wp2
        go_ret
        exact ⟨rfl, (by repeat first | with_reducible exact Below.refl _ _ | with_reducible assumption | with_reducible refine below_drewN ?_ _ | with_reducible refine Below.drew ?_ | with_reducible refine Below.setCell ?_ (by first | exact Nat.le_refl _ | (simp; done) | (simp; omega) | omega) _ | with_reducible refine Below.alloc ?_ (by first | exact Nat.le_refl _ | (simp; done) | (simp; omega) | omega) _ | exact Below.refl _ _ | assumption)⟩
    · skip
      by_cases hp : 0 < p
      · have hd : decide (0 < p) = true := by simpa using hp
        have c30 := m30.cell
        have f30 := m30.free
        have l30 := m30.lt
        have c31 := m31.cell
        have f31 := m31.free
        have l31 := m31.lt
        have c32 := m32.cell
        have f32 := m32.free
        have l32 := m32.lt
        have c33 := m33.cell
        have f33 := m33.free
        have l33 := m33.lt
        have c34 := m34.cell
        have f34 := m34.free
        have l34 := m34.lt
        have c35 := m35.cell
        have f35 := m35.free
        have l35 := m35.lt
        have cb1 := mb1.cell
        have fb1 := mb1.free
        have lb1 := mb1.lt
        have cb2 := mb2.cell
        have fb2 := mb2.free
        have lb2 := mb2.lt
        have ck1 := mk1.cell
        have fk1 := mk1.free
        have lk1 := mk1.lt
        have ck2 := mk2.cell
        have fk2 := mk2.free
        have lk2 := mk2.lt
        have hBz := hB.size
        go_wp2
        go_ret
        exact ⟨rfl, (by repeat first | with_reducible exact Below.refl _ _ | with_reducible assumption | with_reducible refine below_drewN ?_ _ | with_reducible refine Below.drew ?_ | with_reducible refine Below.setCell ?_ (by first | exact Nat.le_refl _ | (simp; done) | (simp; omega) | omega) _ | with_reducible refine Below.alloc ?_ (by first | exact Nat.le_refl _ | (simp; done) | (simp; omega) | omega) _ | exact Below.refl _ _ | assumption)⟩
      · have hd : decide (0 < p) = false := by simpa using hp
        have hq1 : q1 ≤ 0 := by have := K1.out; omega
        have hq2 : q2 ≤ 0 := by have := K1.out; omega
        have d1 : decide (q1 ≤ 0) = true := by simpa using hq1
        have d2 : decide (q2 ≤ 0) = true := by simpa using hq2
        clear hq1 hq2 hp
        have c30 := m30.cell
        have f30 := m30.free
        have l30 := m30.lt
        have c31 := m31.cell
        have f31 := m31.free
        have l31 := m31.lt
        have c32 := m32.cell
        have f32 := m32.free
        have l32 := m32.lt
        have c33 := m33.cell
        have f33 := m33.free
        have l33 := m33.lt
        have c34 := m34.cell
        have f34 := m34.free
        have l34 := m34.lt
        have c35 := m35.cell
        have f35 := m35.free
        have l35 := m35.lt
        have cb1 := mb1.cell
        have fb1 := mb1.free
        have lb1 := mb1.lt
        have cb2 := mb2.cell
        have fb2 := mb2.free
        have lb2 := mb2.lt
        have ck1 := mk1.cell
        have fk1 := mk1.free
        have lk1 := mk1.lt
        have ck2 := mk2.cell
        have fk2 := mk2.free
        have lk2 := mk2.lt
        go_wp2_with fail
        clear c30 f30 l30
        clear c31 f31 l31
        clear c32 f32 l32
        clear c33 f33 l33
        clear c34 f34 l34
        clear c35 f35 l35
        clear cb1 fb1 lb1
        clear cb2 fb2 lb2
        clear ck1 fk1 lk1
        clear ck2 fk2 lk2
        refine (C2.out _).mono ?_
        rintro e n7 ⟨rfl, hb1⟩
        replace m30 := m30.below hb1
        replace m31 := m31.below hb1
        replace m32 := m32.below hb1
        replace m33 := m33.below hb1
        replace m34 := m34.below hb1
        replace m35 := m35.below hb1
        replace mb1 := mb1.below hb1
        replace mb2 := mb2.below hb1
        replace mk1 := mk1.below hb1
        replace mk2 := mk2.below hb1
        replace hB := hB.trans (hb1.mono hB.size)
        have hb_n7 := hb1
        clear hb1
        have c30 := m30.cell
        have f30 := m30.free
        have l30 := m30.lt
        have c31 := m31.cell
        have f31 := m31.free
        have l31 := m31.lt
        have c32 := m32.cell
        have f32 := m32.free
        have l32 := m32.lt
        have c33 := m33.cell
        have f33 := m33.free
        have l33 := m33.lt
        have c34 := m34.cell
        have f34 := m34.free
        have l34 := m34.lt
        have c35 := m35.cell
        have f35 := m35.free
        have l35 := m35.lt
        have cb1 := mb1.cell
        have fb1 := mb1.free
        have lb1 := mb1.lt
        have cb2 := mb2.cell
        have fb2 := mb2.free
        have lb2 := mb2.lt
        have ck1 := mk1.cell
        have fk1 := mk1.free
        have lk1 := mk1.lt
        have ck2 := mk2.cell
        have fk2 := mk2.free
        have lk2 := mk2.lt
        go_wp2_with fail
        clear c30 f30 l30
        clear c31 f31 l31
        clear c32 f32 l32
        clear c33 f33 l33
        clear c34 f34 l34
        clear c35 f35 l35
        clear cb1 fb1 lb1
        clear cb2 fb2 lb2
        clear ck1 fk1 lk1
        clear ck2 fk2 lk2
        refine (C3.out _).mono ?_
        rintro e n8 ⟨rfl, hb1⟩
        replace m30 := m30.below hb1
        replace m31 := m31.below hb1
        replace m32 := m32.below hb1
        replace m33 := m33.below hb1
        replace m34 := m34.below hb1
        replace m35 := m35.below hb1
        replace mb1 := mb1.below hb1
        replace mb2 := mb2.below hb1
        replace mk1 := mk1.below hb1
        replace mk2 := mk2.below hb1
        replace hB := hB.trans (hb1.mono hB.size)
        have hb_n8 := hb1
        clear hb1
        have c30 := m30.cell
        have f30 := m30.free
        have l30 := m30.lt
        have c31 := m31.cell
        have f31 := m31.free
        have l31 := m31.lt
        have c32 := m32.cell
        have f32 := m32.free
        have l32 := m32.lt
        have c33 := m33.cell
        have f33 := m33.free
        have l33 := m33.lt
        have c34 := m34.cell
        have f34 := m34.free
        have l34 := m34.lt
        have c35 := m35.cell
        have f35 := m35.free
        have l35 := m35.lt
        have cb1 := mb1.cell
        have fb1 := mb1.free
        have lb1 := mb1.lt
        have cb2 := mb2.cell
        have fb2 := mb2.free
        have lb2 := mb2.lt
        have ck1 := mk1.cell
        have fk1 := mk1.free
        have lk1 := mk1.lt
        have ck2 := mk2.cell
        have fk2 := mk2.free
        have lk2 := mk2.lt
        have hBz := hB.size
        go_wp2
        go_ret
        exact ⟨rfl, (by repeat first | with_reducible exact Below.refl _ _ | with_reducible assumption | with_reducible refine below_drewN ?_ _ | with_reducible refine Below.drew ?_ | with_reducible refine Below.setCell ?_ (by first | exact Nat.le_refl _ | (simp; done) | (simp; omega) | omega) _ | with_reducible refine Below.alloc ?_ (by first | exact Nat.le_refl _ | (simp; done) | (simp; omega) | omega) _ | exact Below.refl _ _ | assumption)⟩
    · skip
      by_cases hp : 0 < p
      · have hd : decide (0 < p) = true := by simpa using hp
        have c30 := m30.cell
        have f30 := m30.free
        have l30 := m30.lt
        have c31 := m31.cell
        have f31 := m31.free
        have l31 := m31.lt
        have c32 := m32.cell
        have f32 := m32.free
        have l32 := m32.lt
        have c33 := m33.cell
        have f33 := m33.free
        have l33 := m33.lt
        have c34 := m34.cell
        have f34 := m34.free
        have l34 := m34.lt
        have c35 := m35.cell
        have f35 := m35.free
        have l35 := m35.lt
        have cb1 := mb1.cell
        have fb1 := mb1.free
        have lb1 := mb1.lt
        have cb2 := mb2.cell
        have fb2 := mb2.free
        have lb2 := mb2.lt
        have ck1 := mk1.cell
        have fk1 := mk1.free
        have lk1 := mk1.lt
        have ck2 := mk2.cell
        have fk2 := mk2.free
        have lk2 := mk2.lt
        have hBz := hB.size
        go_wp2
        go_ret
        exact ⟨rfl, (by repeat first | with_reducible exact Below.refl _ _ | with_reducible assumption | with_reducible refine below_drewN ?_ _ | with_reducible refine Below.drew ?_ | with_reducible refine Below.setCell ?_ (by first | exact Nat.le_refl _ | (simp; done) | (simp; omega) | omega) _ | with_reducible refine Below.alloc ?_ (by first | exact Nat.le_refl _ | (simp; done) | (simp; omega) | omega) _ | exact Below.refl _ _ | assumption)⟩
      · have hd : decide (0 < p) = false := by simpa using hp
        have hq1 : q1 ≤ 0 := by have := K1.out; omega
        have hq2 : q2 ≤ 0 := by have := K1.out; omega
        have d1 : decide (q1 ≤ 0) = true := by simpa using hq1
        have d2 : decide (q2 ≤ 0) = true := by simpa using hq2
        clear hq1 hq2 hp
        have c30 := m30.cell
        have f30 := m30.free
        have l30 := m30.lt
        have c31 := m31.cell
        have f31 := m31.free
        have l31 := m31.lt
        have c32 := m32.cell
        have f32 := m32.free
        have l32 := m32.lt
        have c33 := m33.cell
        have f33 := m33.free
        have l33 := m33.lt
        have c34 := m34.cell
        have f34 := m34.free
        have l34 := m34.lt
        have c35 := m35.cell
        have f35 := m35.free
        have l35 := m35.lt
        have cb1 := mb1.cell
        have fb1 := mb1.free
        have lb1 := mb1.lt
        have cb2 := mb2.cell
        have fb2 := mb2.free
        have lb2 := mb2.lt
        have ck1 := mk1.cell
        have fk1 := mk1.free
        have lk1 := mk1.lt
        have ck2 := mk2.cell
        have fk2 := mk2.free
        have lk2 := mk2.lt
        go_wp2_with fail
        clear c30 f30 l30
        clear c31 f31 l31
        clear c32 f32 l32
        clear c33 f33 l33
        clear c34 f34 l34
        clear c35 f35 l35
        clear cb1 fb1 lb1
        clear cb2 fb2 lb2
        clear ck1 fk1 lk1
        clear ck2 fk2 lk2
        refine (C2.out _).mono ?_
        rintro e n7 ⟨rfl, hb1⟩
        replace m30 := m30.below hb1
        replace m31 := m31.below hb1
        replace m32 := m32.below hb1
        replace m33 := m33.below hb1
        replace m34 := m34.below hb1
        replace m35 := m35.below hb1
        replace mb1 := mb1.below hb1
        replace mb2 := mb2.below hb1
        replace mk1 := mk1.below hb1
        replace mk2 := mk2.below hb1
        replace hB := hB.trans (hb1.mono hB.size)
        have hb_n7 := hb1
        clear hb1
        have c30 := m30.cell
        have f30 := m30.free
        have l30 := m30.lt
        have c31 := m31.cell
        have f31 := m31.free
        have l31 := m31.lt
        have c32 := m32.cell
        have f32 := m32.free
        have l32 := m32.lt
        have c33 := m33.cell
        have f33 := m33.free
        have l33 := m33.lt
        have c34 := m34.cell
        have f34 := m34.free
        have l34 := m34.lt
        have c35 := m35.cell
        have f35 := m35.free
        have l35 := m35.lt
        have cb1 := mb1.cell
        have fb1 := mb1.free
        have lb1 := mb1.lt
        have cb2 := mb2.cell
        have fb2 := mb2.free
        have lb2 := mb2.lt
        have ck1 := mk1.cell
        have fk1 := mk1.free
        have lk1 := mk1.lt
        have ck2 := mk2.cell
        have fk2 := mk2.free
        have lk2 := mk2.lt
        go_wp2_with fail
        clear c30 f30 l30
        clear c31 f31 l31
        clear c32 f32 l32
        clear c33 f33 l33
        clear c34 f34 l34
        clear c35 f35 l35
        clear cb1 fb1 lb1
        clear cb2 fb2 lb2
        clear ck1 fk1 lk1
        clear ck2 fk2 lk2
        refine (C3.out _).mono ?_
        rintro e n8 ⟨rfl, hb1⟩
        replace m30 := m30.below hb1
        replace m31 := m31.below hb1
        replace m32 := m32.below hb1
        replace m33 := m33.below hb1
        replace m34 := m34.below hb1
        replace m35 := m35.below hb1
        replace mb1 := mb1.below hb1
        replace mb2 := mb2.below hb1
        replace mk1 := mk1.below hb1
        replace mk2 := mk2.below hb1
        replace hB := hB.trans (hb1.mono hB.size)
        have hb_n8 := hb1
        clear hb1
        have c30 := m30.cell
        have f30 := m30.free
        have l30 := m30.lt
        have c31 := m31.cell
        have f31 := m31.free
        have l31 := m31.lt
        have c32 := m32.cell
        have f32 := m32.free
        have l32 := m32.lt
        have c33 := m33.cell
        have f33 := m33.free
        have l33 := m33.lt
        have c34 := m34.cell
        have f34 := m34.free
        have l34 := m34.lt
        have c35 := m35.cell
        have f35 := m35.free
        have l35 := m35.lt
        have cb1 := mb1.cell
        have fb1 := mb1.free
        have lb1 := mb1.lt
        have cb2 := mb2.cell
        have fb2 := mb2.free
        have lb2 := mb2.lt
        have ck1 := mk1.cell
        have fk1 := mk1.free
        have lk1 := mk1.lt
        have ck2 := mk2.cell
        have fk2 := mk2.free
        have lk2 := mk2.lt
        have hBz := hB.size
        go_wp2
        go_ret
        exact ⟨rfl, (by repeat first | with_reducible exact Below.refl _ _ | with_reducible assumption | with_reducible refine below_drewN ?_ _ | with_reducible refine Below.drew ?_ | with_reducible refine Below.setCell ?_ (by first | exact Nat.le_refl _ | (simp; done) | (simp; omega) | omega) _ | with_reducible refine Below.alloc ?_ (by first | exact Nat.le_refl _ | (simp; done) | (simp; omega) | omega) _ | exact Below.refl _ _ | assumption)⟩
end Go.Proofs.YtfojgdlegojdgaaDoor
