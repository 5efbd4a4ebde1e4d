/-
  The contract of the law's sane: it returns true.
-/
import Derived.Test.YtllofogjojlamaaDoorLaw0
import Derived.Test.YtllofogjojlamaaDoorDraw2
import Derived.Test.YtllofogjojlamaaDoorBound
import Derived.Deep.RegionHeld3
namespace Go.Proofs.YtllofogjojlamaaDoor
open Go.RowKit

set_option maxRecDepth 100000 in
set_option maxHeartbeats 4000000 in
theorem sane_any (w : World) (hG : w.rangeAt 0 0 (u32s KS)) :
    Calls Tryd.prog 4 #[] w fun e w' => e = .returned (.bool true) ∧ Below w.heap.size w w' := by
  have hB : Below w.heap.size w w := Below.refl _ _
  have h0w : 0 < w.heap.size := World.block_lt_of_cell? w _ (hG 0 _ rfl)
  have D1 := Detect_any 10 1 3
  have D2 := Detect_any 10 2 3
  have D3 := Detect_any 10 8 3
  have D4 := Detect_any 25 1 1
  rw [show detv 10 1 3 = (3, 10, 0) by decide +kernel] at D1
  rw [show detv 10 2 3 = (8, 15, 0) by decide +kernel] at D2
  rw [show detv 10 8 3 = (1, 1, 0) by decide +kernel] at D3
  rw [show detv 25 1 1 = (0, 0, 160) by decide +kernel] at D4
  have N1 := Needed_any 10 2 1 2
  have N2 := Needed_any 10 0 1 2
  have B1 := Bound_any 10 3 1 2
  have B2 := Bound_any 10 0 1 1
  have B3 := Bound_any 10 3 0 1
  rw [show needv 10 2 1 2 = (3, 0) by decide +kernel] at N1
  rw [show needv 10 0 1 2 = (0, 160) by decide +kernel] at N2
  rw [show boundv 10 3 1 2 = (1, 0) by decide +kernel] at B1
  rw [show boundv 10 0 1 1 = (10, 0) by decide +kernel] at B2
  rw [show boundv 10 3 0 1 = (0, 160) by decide +kernel] at B3
  replace D1 := Lib.hid D1
  replace D2 := Lib.hid D2
  replace D3 := Lib.hid D3
  replace D4 := Lib.hid D4
  replace N1 := Lib.hid N1
  replace N2 := Lib.hid N2
  replace B1 := Lib.hid B1
  replace B2 := Lib.hid B2
  replace B3 := Lib.hid B3
  have i0 : I64 0 := ⟨by omega, by omega⟩
  have i1 : I64 1 := ⟨by omega, by omega⟩
  have i2 : I64 2 := ⟨by omega, by omega⟩
  go_enter Tryd.func4, Tryd.ntmps4
  go_wp2_with fail
  refine (D1.out _).mono ?_
  rintro e wc1 ⟨rfl, hb1⟩
  replace hB := hB.trans (hb1.mono hB.size)
  have hb_wc1 := hb1
  clear hb1
  go_wp2_with fail
  refine name_calls ?_
  intro w1 hww1
  have mAll : Mine w1 wc1.heap.size 0 (.int .i64 3) ∧ Mine w1 wc1.heap.size 1 (.int .i64 10) := by
    rw [hww1]
    refine ⟨?_, ?_⟩ <;> (repeat first | with_reducible assumption | with_reducible refine Mine.drew ?_ | with_reducible refine Mine.drewN ?_ _ | ((with_reducible refine Mine.new ?_); rfl) | ((with_reducible refine Mine.newAt ?_ ?_) <;> first | rfl | (simp; done) | (simp only [World.size_alloc]; rfl)) | ((with_reducible refine Mine.set ?_ _); repeat first | exact Mine.slot (by with_reducible assumption) | with_reducible refine MineS.drew ?_ | with_reducible refine MineS.drewN ?_ _ | ((with_reducible refine MineS.new ?_); decide) | ((with_reducible refine MineS.newAt ?_ ?_) <;> first | decide | (simp; done)) | with_reducible refine MineS.set ?_ _ _ _ | with_reducible refine MineS.alloc ?_ _) | with_reducible refine Mine.other ?_ _ (by first | (left; omega) | (right; omega) | (simp; done) | (simp; omega)) | with_reducible refine Mine.alloc ?_ _)
  obtain ⟨m13, m14⟩ := mAll
  have hBzw1 := hB.size
  replace hB : Below w.heap.size w w1 := by rw [hww1]; exact (by repeat first | with_reducible exact Below.refl _ _ | with_reducible assumption | with_reducible refine below_drewN ?_ _ | with_reducible refine Below.drew ?_ | with_reducible refine Below.setCell ?_ (by first | exact Nat.le_refl _ | (simp; done) | (simp; omega) | omega) _ | with_reducible refine Below.alloc ?_ (by first | exact Nat.le_refl _ | (simp; done) | (simp; omega) | omega) _ | exact Below.refl _ _ | assumption)
  clear hww1 hBzw1
  have l1 := m13.lt
  generalize wc1.heap.size = b1 at *
  refine (D2.out _).mono ?_
  rintro e wc2 ⟨rfl, hb1⟩
  replace m13 := m13.below hb1
  replace m14 := m14.below hb1
  replace hB := hB.trans (hb1.mono hB.size)
  have hb_wc2 := hb1
  clear hb1
  go_wp2_with fail
  refine name_calls ?_
  intro w2 hww2
  have mAll : Mine w2 b1 0 (.int .i64 3) ∧ Mine w2 b1 1 (.int .i64 10) ∧ Mine w2 wc2.heap.size 0 (.int .i64 8) ∧ Mine w2 wc2.heap.size 1 (.int .i64 15) := by
    rw [hww2]
    refine ⟨?_, ?_, ?_, ?_⟩ <;> (repeat first | with_reducible assumption | with_reducible refine Mine.drew ?_ | with_reducible refine Mine.drewN ?_ _ | ((with_reducible refine Mine.new ?_); rfl) | ((with_reducible refine Mine.newAt ?_ ?_) <;> first | rfl | (simp; done) | (simp only [World.size_alloc]; rfl)) | ((with_reducible refine Mine.set ?_ _); repeat first | exact Mine.slot (by with_reducible assumption) | with_reducible refine MineS.drew ?_ | with_reducible refine MineS.drewN ?_ _ | ((with_reducible refine MineS.new ?_); decide) | ((with_reducible refine MineS.newAt ?_ ?_) <;> first | decide | (simp; done)) | with_reducible refine MineS.set ?_ _ _ _ | with_reducible refine MineS.alloc ?_ _) | with_reducible refine Mine.other ?_ _ (by first | (left; omega) | (right; omega) | (simp; done) | (simp; omega)) | with_reducible refine Mine.alloc ?_ _)
  clear m13 m14
  obtain ⟨m13, m14, m15, m16⟩ := mAll
  have hBzw2 := hB.size
  replace hB : Below w.heap.size w w2 := by rw [hww2]; exact (by repeat first | with_reducible exact Below.refl _ _ | with_reducible assumption | with_reducible refine below_drewN ?_ _ | with_reducible refine Below.drew ?_ | with_reducible refine Below.setCell ?_ (by first | exact Nat.le_refl _ | (simp; done) | (simp; omega) | omega) _ | with_reducible refine Below.alloc ?_ (by first | exact Nat.le_refl _ | (simp; done) | (simp; omega) | omega) _ | exact Below.refl _ _ | assumption)
  clear hww2 hBzw2
  have l2 := m15.lt
  generalize wc2.heap.size = b2 at *
  refine (D3.out _).mono ?_
  rintro e wc3 ⟨rfl, hb1⟩
  replace m13 := m13.below hb1
  replace m14 := m14.below hb1
  replace m15 := m15.below hb1
  replace m16 := m16.below hb1
  replace hB := hB.trans (hb1.mono hB.size)
  have hb_wc3 := hb1
  clear hb1
  go_wp2_with fail
  refine name_calls ?_
  intro w3 hww3
  have mAll : Mine w3 b1 0 (.int .i64 3) ∧ Mine w3 b1 1 (.int .i64 10) ∧ Mine w3 b2 0 (.int .i64 8) ∧ Mine w3 b2 1 (.int .i64 15) ∧ Mine w3 wc3.heap.size 0 (.int .i64 1) ∧ Mine w3 wc3.heap.size 1 (.int .i64 1) := by
    rw [hww3]
    refine ⟨?_, ?_, ?_, ?_, ?_, ?_⟩ <;> (repeat first | with_reducible assumption | with_reducible refine Mine.drew ?_ | with_reducible refine Mine.drewN ?_ _ | ((with_reducible refine Mine.new ?_); rfl) | ((with_reducible refine Mine.newAt ?_ ?_) <;> first | rfl | (simp; done) | (simp only [World.size_alloc]; rfl)) | ((with_reducible refine Mine.set ?_ _); repeat first | exact Mine.slot (by with_reducible assumption) | with_reducible refine MineS.drew ?_ | with_reducible refine MineS.drewN ?_ _ | ((with_reducible refine MineS.new ?_); decide) | ((with_reducible refine MineS.newAt ?_ ?_) <;> first | decide | (simp; done)) | with_reducible refine MineS.set ?_ _ _ _ | with_reducible refine MineS.alloc ?_ _) | with_reducible refine Mine.other ?_ _ (by first | (left; omega) | (right; omega) | (simp; done) | (simp; omega)) | with_reducible refine Mine.alloc ?_ _)
  clear m13 m14 m15 m16
  obtain ⟨m13, m14, m15, m16, m17, m18⟩ := mAll
  have hBzw3 := hB.size
  replace hB : Below w.heap.size w w3 := by rw [hww3]; exact (by repeat first | with_reducible exact Below.refl _ _ | with_reducible assumption | with_reducible refine below_drewN ?_ _ | with_reducible refine Below.drew ?_ | with_reducible refine Below.setCell ?_ (by first | exact Nat.le_refl _ | (simp; done) | (simp; omega) | omega) _ | with_reducible refine Below.alloc ?_ (by first | exact Nat.le_refl _ | (simp; done) | (simp; omega) | omega) _ | exact Below.refl _ _ | assumption)
  clear hww3 hBzw3
  have l3 := m17.lt
  generalize wc3.heap.size = b3 at *
  refine (D4.out _).mono ?_
  rintro e wc4 ⟨rfl, hb1⟩
  replace m13 := m13.below hb1
  replace m14 := m14.below hb1
  replace m15 := m15.below hb1
  replace m16 := m16.below hb1
  replace m17 := m17.below hb1
  replace m18 := m18.below hb1
  replace hB := hB.trans (hb1.mono hB.size)
  have hb_wc4 := hb1
  clear hb1
  go_wp2_with fail
  refine name_calls ?_
  intro w4 hww4
  have mAll : Mine w4 b1 0 (.int .i64 3) ∧ Mine w4 b1 1 (.int .i64 10) ∧ Mine w4 b2 0 (.int .i64 8) ∧ Mine w4 b2 1 (.int .i64 15) ∧ Mine w4 b3 0 (.int .i64 1) ∧ Mine w4 b3 1 (.int .i64 1) := by
    rw [hww4]
    refine ⟨?_, ?_, ?_, ?_, ?_, ?_⟩ <;> (repeat first | with_reducible assumption | with_reducible refine Mine.drew ?_ | with_reducible refine Mine.drewN ?_ _ | ((with_reducible refine Mine.new ?_); rfl) | ((with_reducible refine Mine.newAt ?_ ?_) <;> first | rfl | (simp; done) | (simp only [World.size_alloc]; rfl)) | ((with_reducible refine Mine.set ?_ _); repeat first | exact Mine.slot (by with_reducible assumption) | with_reducible refine MineS.drew ?_ | with_reducible refine MineS.drewN ?_ _ | ((with_reducible refine MineS.new ?_); decide) | ((with_reducible refine MineS.newAt ?_ ?_) <;> first | decide | (simp; done)) | with_reducible refine MineS.set ?_ _ _ _ | with_reducible refine MineS.alloc ?_ _) | with_reducible refine Mine.other ?_ _ (by first | (left; omega) | (right; omega) | (simp; done) | (simp; omega)) | with_reducible refine Mine.alloc ?_ _)
  clear m13 m14 m15 m16 m17 m18
  obtain ⟨m13, m14, m15, m16, m17, m18⟩ := mAll
  have hBzw4 := hB.size
  replace hB : Below w.heap.size w w4 := by rw [hww4]; exact (by repeat first | with_reducible exact Below.refl _ _ | with_reducible assumption | with_reducible refine below_drewN ?_ _ | with_reducible refine Below.drew ?_ | with_reducible refine Below.setCell ?_ (by first | exact Nat.le_refl _ | (simp; done) | (simp; omega) | omega) _ | with_reducible refine Below.alloc ?_ (by first | exact Nat.le_refl _ | (simp; done) | (simp; omega) | omega) _ | exact Below.refl _ _ | assumption)
  clear hww4 hBzw4
  refine (is_any _ _ _).mono ?_
  rintro e wc5 ⟨rfl, hb1⟩
  replace m13 := m13.below hb1
  replace m14 := m14.below hb1
  replace m15 := m15.below hb1
  replace m16 := m16.below hb1
  replace m17 := m17.below hb1
  replace m18 := m18.below hb1
  replace hB := hB.trans (hb1.mono hB.size)
  have hb_wc5 := hb1
  clear hb1
  go_wp2_with fail
  refine (N1.out _ i1 i2).mono ?_
  rintro e wc6 ⟨rfl, hb1⟩
  replace m13 := m13.below hb1
  replace m14 := m14.below hb1
  replace m15 := m15.below hb1
  replace m16 := m16.below hb1
  replace m17 := m17.below hb1
  replace m18 := m18.below hb1
  replace hB := hB.trans (hb1.mono hB.size)
  have hb_wc6 := hb1
  clear hb1
  go_wp2_with fail
  refine (is_any _ _ _).mono ?_
  rintro e wc7 ⟨rfl, hb1⟩
  replace m13 := m13.below hb1
  replace m14 := m14.below hb1
  replace m15 := m15.below hb1
  replace m16 := m16.below hb1
  replace m17 := m17.below hb1
  replace m18 := m18.below hb1
  replace hB := hB.trans (hb1.mono hB.size)
  have hb_wc7 := hb1
  clear hb1
  go_wp2_with fail
  refine (N2.out _ i1 i2).mono ?_
  rintro e wc8 ⟨rfl, hb1⟩
  replace m13 := m13.below hb1
  replace m14 := m14.below hb1
  replace m15 := m15.below hb1
  replace m16 := m16.below hb1
  replace m17 := m17.below hb1
  replace m18 := m18.below hb1
  replace hB := hB.trans (hb1.mono hB.size)
  have hb_wc8 := hb1
  clear hb1
  go_wp2_with fail
  refine (is_any _ _ _).mono ?_
  rintro e wc9 ⟨rfl, hb1⟩
  replace m13 := m13.below hb1
  replace m14 := m14.below hb1
  replace m15 := m15.below hb1
  replace m16 := m16.below hb1
  replace m17 := m17.below hb1
  replace m18 := m18.below hb1
  replace hB := hB.trans (hb1.mono hB.size)
  have hb_wc9 := hb1
  clear hb1
  go_wp2_with fail
  refine (B1.out _ i1 i2).mono ?_
  rintro e wc10 ⟨rfl, hb1⟩
  replace m13 := m13.below hb1
  replace m14 := m14.below hb1
  replace m15 := m15.below hb1
  replace m16 := m16.below hb1
  replace m17 := m17.below hb1
  replace m18 := m18.below hb1
  replace hB := hB.trans (hb1.mono hB.size)
  have hb_wc10 := hb1
  clear hb1
  go_wp2_with fail
  refine (is_any _ _ _).mono ?_
  rintro e wc11 ⟨rfl, hb1⟩
  replace m13 := m13.below hb1
  replace m14 := m14.below hb1
  replace m15 := m15.below hb1
  replace m16 := m16.below hb1
  replace m17 := m17.below hb1
  replace m18 := m18.below hb1
  replace hB := hB.trans (hb1.mono hB.size)
  have hb_wc11 := hb1
  clear hb1
  go_wp2_with fail
  refine (B2.out _ i1 i1).mono ?_
  rintro e wc12 ⟨rfl, hb1⟩
  replace m13 := m13.below hb1
  replace m14 := m14.below hb1
  replace m15 := m15.below hb1
  replace m16 := m16.below hb1
  replace m17 := m17.below hb1
  replace m18 := m18.below hb1
  replace hB := hB.trans (hb1.mono hB.size)
  have hb_wc12 := hb1
  clear hb1
  go_wp2_with fail
  refine (is_any _ _ _).mono ?_
  rintro e wc13 ⟨rfl, hb1⟩
  replace m13 := m13.below hb1
  replace m14 := m14.below hb1
  replace m15 := m15.below hb1
  replace m16 := m16.below hb1
  replace m17 := m17.below hb1
  replace m18 := m18.below hb1
  replace hB := hB.trans (hb1.mono hB.size)
  have hb_wc13 := hb1
  clear hb1
  go_wp2_with fail
  refine (B3.out _ i0 i1).mono ?_
  rintro e wc14 ⟨rfl, hb1⟩
  replace m13 := m13.below hb1
  replace m14 := m14.below hb1
  replace m15 := m15.below hb1
  replace m16 := m16.below hb1
  replace m17 := m17.below hb1
  replace m18 := m18.below hb1
  replace hB := hB.trans (hb1.mono hB.size)
  have hb_wc14 := hb1
  clear hb1
  go_wp2_with fail
  have hDr := Draw_yes ⟨#[97]⟩ 10 4
  replace hDr := Lib.hid hDr
  have hG' : ∀ W, Below w.heap.size w W → W.rangeAt 0 0 (u32s KS) := fun W hb j v hv => (hb.cell (p := ⟨0, 0 + j, none⟩) h0w).trans (hG j v hv)
  refine (hDr.out _ (by decide) (by omega) (by omega) (by omega) (hG' _ hB)).mono ?_
  rintro e wd ⟨g, cap, rfl, hg1, hg2, hcx, hb1⟩
  replace m13 := m13.below hb1
  replace m14 := m14.below hb1
  replace m15 := m15.below hb1
  replace m16 := m16.below hb1
  replace m17 := m17.below hb1
  replace m18 := m18.below hb1
  replace hB := hB.trans (hb1.mono hB.size)
  have hb_wd := hb1
  clear hb1
  clear hcx hG' hDr D1 D2 D3 D4 N1 N2 B1 B2 B3 hG
  go_wp2_with fail
  clear hg1 hg2 hb_wd hb_wc14 hb_wc13 hb_wc12 hb_wc11 hb_wc10 hb_wc9 hb_wc8 hb_wc7 hb_wc6 hb_wc5 hb_wc4 hb_wc3 hb_wc2 hb_wc1 i0 i1 i2
  have l1 := m13.lt
  have l2 := m15.lt
  have l3 := m17.lt
  have hzd : w.heap.size ≤ wd.drew.heap.size := hB.size
  have c13 := m13.cell
  have f13 := m13.free
  have l13 := m13.lt
  have c14 := m14.cell
  have f14 := m14.free
  have l14 := m14.lt
  have c15 := m15.cell
  have f15 := m15.free
  have l15 := m15.lt
  have c16 := m16.cell
  have f16 := m16.free
  have l16 := m16.lt
  have c17 := m17.cell
  have f17 := m17.free
  have l17 := m17.lt
  have c18 := m18.cell
  have f18 := m18.free
  have l18 := m18.lt
  first | (go_region_held3 (fun w' => w'.cell? ⟨b1, 0, none⟩ = some (.int .i64 3) ∧ w'.cell? ⟨b1, 1, none⟩ = some (.int .i64 10) ∧ w'.cell? ⟨b2, 0, none⟩ = some (.int .i64 8) ∧ w'.cell? ⟨b2, 1, none⟩ = some (.int .i64 15) ∧ w'.cell? ⟨b3, 0, none⟩ = some (.int .i64 1) ∧ w'.cell? ⟨b3, 1, none⟩ = some (.int .i64 1)) (go_keep)
    (first
      | (go_at_call 11; refine (is_any _ _ _).mono ?_; rintro e wi ⟨rfl, hbwi⟩; have n13wi : Mine wi b1 0 (.int .i64 3) := Mine.below (by (repeat first | with_reducible assumption | with_reducible refine Mine.drew ?_ | with_reducible refine Mine.drewN ?_ _ | ((with_reducible refine Mine.new ?_); rfl) | ((with_reducible refine Mine.newAt ?_ ?_) <;> first | rfl | (simp; done) | (simp only [World.size_alloc]; rfl)) | ((with_reducible refine Mine.set ?_ _); repeat first | exact Mine.slot (by with_reducible assumption) | with_reducible refine MineS.drew ?_ | with_reducible refine MineS.drewN ?_ _ | ((with_reducible refine MineS.new ?_); decide) | ((with_reducible refine MineS.newAt ?_ ?_) <;> first | decide | (simp; done)) | with_reducible refine MineS.set ?_ _ _ _ | with_reducible refine MineS.alloc ?_ _) | with_reducible refine Mine.other ?_ _ (by first | (left; omega) | (right; omega) | (simp; done) | (simp; omega)) | with_reducible refine Mine.alloc ?_ _)) hbwi; have g13wi := n13wi.cell; have gf13wi := n13wi.free; have n14wi : Mine wi b1 1 (.int .i64 10) := Mine.below (by (repeat first | with_reducible assumption | with_reducible refine Mine.drew ?_ | with_reducible refine Mine.drewN ?_ _ | ((with_reducible refine Mine.new ?_); rfl) | ((with_reducible refine Mine.newAt ?_ ?_) <;> first | rfl | (simp; done) | (simp only [World.size_alloc]; rfl)) | ((with_reducible refine Mine.set ?_ _); repeat first | exact Mine.slot (by with_reducible assumption) | with_reducible refine MineS.drew ?_ | with_reducible refine MineS.drewN ?_ _ | ((with_reducible refine MineS.new ?_); decide) | ((with_reducible refine MineS.newAt ?_ ?_) <;> first | decide | (simp; done)) | with_reducible refine MineS.set ?_ _ _ _ | with_reducible refine MineS.alloc ?_ _) | with_reducible refine Mine.other ?_ _ (by first | (left; omega) | (right; omega) | (simp; done) | (simp; omega)) | with_reducible refine Mine.alloc ?_ _)) hbwi; have g14wi := n14wi.cell; have gf14wi := n14wi.free; have n15wi : Mine wi b2 0 (.int .i64 8) := Mine.below (by (repeat first | with_reducible assumption | with_reducible refine Mine.drew ?_ | with_reducible refine Mine.drewN ?_ _ | ((with_reducible refine Mine.new ?_); rfl) | ((with_reducible refine Mine.newAt ?_ ?_) <;> first | rfl | (simp; done) | (simp only [World.size_alloc]; rfl)) | ((with_reducible refine Mine.set ?_ _); repeat first | exact Mine.slot (by with_reducible assumption) | with_reducible refine MineS.drew ?_ | with_reducible refine MineS.drewN ?_ _ | ((with_reducible refine MineS.new ?_); decide) | ((with_reducible refine MineS.newAt ?_ ?_) <;> first | decide | (simp; done)) | with_reducible refine MineS.set ?_ _ _ _ | with_reducible refine MineS.alloc ?_ _) | with_reducible refine Mine.other ?_ _ (by first | (left; omega) | (right; omega) | (simp; done) | (simp; omega)) | with_reducible refine Mine.alloc ?_ _)) hbwi; have g15wi := n15wi.cell; have gf15wi := n15wi.free; have n16wi : Mine wi b2 1 (.int .i64 15) := Mine.below (by (repeat first | with_reducible assumption | with_reducible refine Mine.drew ?_ | with_reducible refine Mine.drewN ?_ _ | ((with_reducible refine Mine.new ?_); rfl) | ((with_reducible refine Mine.newAt ?_ ?_) <;> first | rfl | (simp; done) | (simp only [World.size_alloc]; rfl)) | ((with_reducible refine Mine.set ?_ _); repeat first | exact Mine.slot (by with_reducible assumption) | with_reducible refine MineS.drew ?_ | with_reducible refine MineS.drewN ?_ _ | ((with_reducible refine MineS.new ?_); decide) | ((with_reducible refine MineS.newAt ?_ ?_) <;> first | decide | (simp; done)) | with_reducible refine MineS.set ?_ _ _ _ | with_reducible refine MineS.alloc ?_ _) | with_reducible refine Mine.other ?_ _ (by first | (left; omega) | (right; omega) | (simp; done) | (simp; omega)) | with_reducible refine Mine.alloc ?_ _)) hbwi; have g16wi := n16wi.cell; have gf16wi := n16wi.free; have n17wi : Mine wi b3 0 (.int .i64 1) := Mine.below (by (repeat first | with_reducible assumption | with_reducible refine Mine.drew ?_ | with_reducible refine Mine.drewN ?_ _ | ((with_reducible refine Mine.new ?_); rfl) | ((with_reducible refine Mine.newAt ?_ ?_) <;> first | rfl | (simp; done) | (simp only [World.size_alloc]; rfl)) | ((with_reducible refine Mine.set ?_ _); repeat first | exact Mine.slot (by with_reducible assumption) | with_reducible refine MineS.drew ?_ | with_reducible refine MineS.drewN ?_ _ | ((with_reducible refine MineS.new ?_); decide) | ((with_reducible refine MineS.newAt ?_ ?_) <;> first | decide | (simp; done)) | with_reducible refine MineS.set ?_ _ _ _ | with_reducible refine MineS.alloc ?_ _) | with_reducible refine Mine.other ?_ _ (by first | (left; omega) | (right; omega) | (simp; done) | (simp; omega)) | with_reducible refine Mine.alloc ?_ _)) hbwi; have g17wi := n17wi.cell; have gf17wi := n17wi.free; have n18wi : Mine wi b3 1 (.int .i64 1) := Mine.below (by (repeat first | with_reducible assumption | with_reducible refine Mine.drew ?_ | with_reducible refine Mine.drewN ?_ _ | ((with_reducible refine Mine.new ?_); rfl) | ((with_reducible refine Mine.newAt ?_ ?_) <;> first | rfl | (simp; done) | (simp only [World.size_alloc]; rfl)) | ((with_reducible refine Mine.set ?_ _); repeat first | exact Mine.slot (by with_reducible assumption) | with_reducible refine MineS.drew ?_ | with_reducible refine MineS.drewN ?_ _ | ((with_reducible refine MineS.new ?_); decide) | ((with_reducible refine MineS.newAt ?_ ?_) <;> first | decide | (simp; done)) | with_reducible refine MineS.set ?_ _ _ _ | with_reducible refine MineS.alloc ?_ _) | with_reducible refine Mine.other ?_ _ (by first | (left; omega) | (right; omega) | (simp; done) | (simp; omega)) | with_reducible refine Mine.alloc ?_ _)) hbwi; have g18wi := n18wi.cell; have gf18wi := n18wi.free; have hBwi : Below w.heap.size w wi := Below.trans (by repeat first | with_reducible exact Below.refl _ _ | with_reducible assumption | with_reducible refine below_drewN ?_ _ | with_reducible refine Below.drew ?_ | with_reducible refine Below.setCell ?_ (by first | exact Nat.le_refl _ | (simp; done) | (simp; omega) | omega) _ | with_reducible refine Below.alloc ?_ (by first | exact Nat.le_refl _ | (simp; done) | (simp; omega) | omega) _ | exact Below.refl _ _ | assumption) (hbwi.mono (by first | exact Nat.le_refl _ | assumption | (simp; done) | (simp; omega) | omega)); have hzwi := hbwi.size; ))) | fail
  go_wp2
  go_ret
  exact ⟨rfl, (by repeat first | with_reducible exact Below.refl _ _ | with_reducible assumption | with_reducible refine below_drewN ?_ _ | with_reducible refine Below.drew ?_ | with_reducible refine Below.setCell ?_ (by first | exact Nat.le_refl _ | (simp; done) | (simp; omega) | omega) _ | with_reducible refine Below.alloc ?_ (by first | exact Nat.le_refl _ | (simp; done) | (simp; omega) | omega) _ | exact Below.refl _ _ | assumption)⟩
end Go.Proofs.YtllofogjojlamaaDoor
