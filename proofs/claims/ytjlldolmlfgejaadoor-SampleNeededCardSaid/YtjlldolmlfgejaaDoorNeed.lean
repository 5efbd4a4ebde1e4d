/-
  The walk of SampleNeeded.
-/
import Derived.Test.YtjlldolmlfgejaaDoorSane
import Derived.Test.YtjlldolmlfgejaaDoorMath2
namespace Go.Proofs.YtjlldolmlfgejaaDoor
open Go.RowKit

set_option maxRecDepth 100000 in
set_option maxHeartbeats 4000000 in
theorem NeedLaw_any (a0 a1 a2 a3 : Int) (w : World) (i0 : I64 a0) (i1 : I64 a1) (i2 : I64 a2) (i3 : I64 a3) (hG : w.rangeAt 0 0 (u32s KS)) :
    Calls Tryd.prog 7 #[.int .i64 a0, .int .i64 a1, .int .i64 a2, .int .i64 a3] w fun e w' => e = .returned (.bool true) ∧ Below w.heap.size w w' := by
  have hB : Below w.heap.size w w := Below.refl _ _
  have p0 := pick_any a0 24
  have hm := pickv_lt a0 24 (by omega)
  generalize pickv a0 24 = m at *
  have p1 := pick_any a1 (1 + m + 1)
  have hb := pickv_lt a1 (1 + m + 1) (by omega)
  generalize pickv a1 (1 + m + 1) = bad at *
  obtain ⟨n, hn⟩ : ∃ n, n = 1 + m := ⟨_, rfl⟩
  rw [← hn] at p1 hb
  have hn1 : 1 ≤ n := by omega
  have hn24 : n ≤ 24 := by omega
  have hb' : bad ≤ n := by omega
  have hL := lawLevel_any a2 a3
  have hlv := levelv_lvl a2 a3
  generalize levelv a2 a3 = P at *
  have hvP := (lvl_vld hlv).1
  have ix : I64 P.1 := I64.of_num hvP
  have iy : I64 P.2.1 := I64.of_den hvP
  have hN := Needed_any n bad P.1 P.2.1
  rw [needv_in hn1 hn24 hb' hlv] at hN
  replace p0 := Lib.hid p0
  replace p1 := Lib.hid p1
  replace hL := Lib.hid hL
  replace hn := Lib.hid hn
  cases hf : firstv (fun k => hit n bad k P.1 P.2.1) n with
  | none =>
    rw [hf] at hN
    have hD := Detect_any n bad n
    rw [detv_in hn1 hn24 hb' (Nat.le_refl n)] at hD
    have hC := Compare_any (det n bad n).1 (det n bad n).2.1 P.1 P.2.1
    have hlt := hit_false (firstv_of_none hf n (Nat.le_refl n))
    have hvD := det_vld hn24 hb' (Nat.le_refl n)
    generalize det n bad n = D at *
    generalize cmpr D.1 D.2.1 P.1 P.2.1 = c at *
    have iz : I64 D.1 := I64.of_num hvD
    have iw : I64 D.2.1 := I64.of_den hvD
    have hlt' : decide (c < 0) = true := by simpa using hlt
    replace hN := Lib.hid hN
    replace hD := Lib.hid hD
    replace hC := Lib.hid hC
    clear hf hvD hlt hvP hlv
    go_enter Tryd.func7, Tryd.ntmps7
    go_wp2_with fail
    refine (sane_any _ hG).mono ?_
    rintro e ws ⟨rfl, hb1⟩
    replace hB := hB.trans (hb1.mono hB.size)
    have hb_ws := hb1
    clear hb1
    clear hG
    go_wp2_with fail
    refine (p0.out _ i0 (by omega) (by omega)).mono ?_; rintro e wp ⟨rfl, rfl⟩
    go_wp2_with fail
    rw [show (1 : Int) + (m : Int) = (n : Int) from by have := hn.out; omega]
    rw [show (n : Int) + 1 = ((n + 1 : Nat) : Int) from rfl]
    refine (p1.out _ i1 (by omega) (by omega)).mono ?_; rintro e wp ⟨rfl, rfl⟩
    go_wp2_with fail
    refine (hL.out _ i2 i3).mono ?_
    rintro e wl ⟨rfl, hb1⟩
    replace hB := hB.trans (hb1.mono hB.size)
    have hb_wl := hb1
    clear hb1
    go_wp2_with fail
    refine name_calls ?_
    intro w1 hww1
    replace m1 : Mine w1 wl.heap.size 0 (.int .i64 P.1) := by rw [hww1]; (repeat first | with_reducible assumption | with_reducible refine Mine.drew ?_ | with_reducible refine Mine.drewN ?_ _ | ((with_reducible refine Mine.new ?_); rfl) | ((with_reducible refine Mine.newAt ?_ ?_) <;> first | rfl | (simp; done) | (simp only [World.size_alloc]; rfl)) | ((with_reducible refine Mine.set ?_ _); repeat first | exact Mine.slot (by with_reducible assumption) | with_reducible refine MineS.drew ?_ | with_reducible refine MineS.drewN ?_ _ | exact MineS.new (by decide) | with_reducible refine MineS.set ?_ _ _ _ | with_reducible refine MineS.alloc ?_ _) | with_reducible refine Mine.other ?_ _ (by first | (left; omega) | (right; omega) | (simp; done) | (simp; omega)) | with_reducible refine Mine.alloc ?_ _)
    replace m2 : Mine w1 wl.heap.size 1 (.int .i64 P.2.1) := by rw [hww1]; (repeat first | with_reducible assumption | with_reducible refine Mine.drew ?_ | with_reducible refine Mine.drewN ?_ _ | ((with_reducible refine Mine.new ?_); rfl) | ((with_reducible refine Mine.newAt ?_ ?_) <;> first | rfl | (simp; done) | (simp only [World.size_alloc]; rfl)) | ((with_reducible refine Mine.set ?_ _); repeat first | exact Mine.slot (by with_reducible assumption) | with_reducible refine MineS.drew ?_ | with_reducible refine MineS.drewN ?_ _ | exact MineS.new (by decide) | with_reducible refine MineS.set ?_ _ _ _ | with_reducible refine MineS.alloc ?_ _) | with_reducible refine Mine.other ?_ _ (by first | (left; omega) | (right; omega) | (simp; done) | (simp; omega)) | with_reducible refine Mine.alloc ?_ _)
    have hBzw1 := hB.size
    replace hB : Below w.heap.size w w1 := by rw [hww1]; exact (by repeat first | exact Below.refl _ _ | assumption | refine below_drewN ?_ _ | refine Below.drew ?_ | refine Below.setCell ?_ (by first | exact Nat.le_refl _ | (simp; done) | (simp; omega) | omega) _ | refine Below.alloc ?_ (by first | exact Nat.le_refl _ | (simp; done) | (simp; omega) | omega) _)
    clear hww1 hBzw1
    have l1 := m1.lt
    generalize wl.heap.size = b1 at *
    refine (hN.out _ ix iy).mono ?_
    rintro e wn ⟨rfl, hb1⟩
    replace m1 := m1.below hb1
    replace m2 := m2.below hb1
    replace hB := hB.trans (hb1.mono hB.size)
    have hb_wn := hb1
    clear hb1
    go_wp2_with fail
    refine (hD.out _).mono ?_
    rintro e wd ⟨rfl, hb1⟩
    replace m1 := m1.below hb1
    replace m2 := m2.below hb1
    replace hB := hB.trans (hb1.mono hB.size)
    have hb_wd := hb1
    clear hb1
    have c1 := m1.cell
    have f1 := m1.free
    have l1 := m1.lt
    have c2 := m2.cell
    have f2 := m2.free
    have l2 := m2.lt
    go_wp2_with fail
    clear c1 f1 l1
    clear c2 f2 l2
    refine name_calls ?_
    intro w2 hww2
    replace m1 : Mine w2 b1 0 (.int .i64 P.1) := by rw [hww2]; (repeat first | with_reducible assumption | with_reducible refine Mine.drew ?_ | with_reducible refine Mine.drewN ?_ _ | ((with_reducible refine Mine.new ?_); rfl) | ((with_reducible refine Mine.newAt ?_ ?_) <;> first | rfl | (simp; done) | (simp only [World.size_alloc]; rfl)) | ((with_reducible refine Mine.set ?_ _); repeat first | exact Mine.slot (by with_reducible assumption) | with_reducible refine MineS.drew ?_ | with_reducible refine MineS.drewN ?_ _ | exact MineS.new (by decide) | with_reducible refine MineS.set ?_ _ _ _ | with_reducible refine MineS.alloc ?_ _) | with_reducible refine Mine.other ?_ _ (by first | (left; omega) | (right; omega) | (simp; done) | (simp; omega)) | with_reducible refine Mine.alloc ?_ _)
    replace m2 : Mine w2 b1 1 (.int .i64 P.2.1) := by rw [hww2]; (repeat first | with_reducible assumption | with_reducible refine Mine.drew ?_ | with_reducible refine Mine.drewN ?_ _ | ((with_reducible refine Mine.new ?_); rfl) | ((with_reducible refine Mine.newAt ?_ ?_) <;> first | rfl | (simp; done) | (simp only [World.size_alloc]; rfl)) | ((with_reducible refine Mine.set ?_ _); repeat first | exact Mine.slot (by with_reducible assumption) | with_reducible refine MineS.drew ?_ | with_reducible refine MineS.drewN ?_ _ | exact MineS.new (by decide) | with_reducible refine MineS.set ?_ _ _ _ | with_reducible refine MineS.alloc ?_ _) | with_reducible refine Mine.other ?_ _ (by first | (left; omega) | (right; omega) | (simp; done) | (simp; omega)) | with_reducible refine Mine.alloc ?_ _)
    replace m3 : Mine w2 wd.heap.size 0 (.int .i64 D.1) := by rw [hww2]; (repeat first | with_reducible assumption | with_reducible refine Mine.drew ?_ | with_reducible refine Mine.drewN ?_ _ | ((with_reducible refine Mine.new ?_); rfl) | ((with_reducible refine Mine.newAt ?_ ?_) <;> first | rfl | (simp; done) | (simp only [World.size_alloc]; rfl)) | ((with_reducible refine Mine.set ?_ _); repeat first | exact Mine.slot (by with_reducible assumption) | with_reducible refine MineS.drew ?_ | with_reducible refine MineS.drewN ?_ _ | exact MineS.new (by decide) | with_reducible refine MineS.set ?_ _ _ _ | with_reducible refine MineS.alloc ?_ _) | with_reducible refine Mine.other ?_ _ (by first | (left; omega) | (right; omega) | (simp; done) | (simp; omega)) | with_reducible refine Mine.alloc ?_ _)
    replace m4 : Mine w2 wd.heap.size 1 (.int .i64 D.2.1) := by rw [hww2]; (repeat first | with_reducible assumption | with_reducible refine Mine.drew ?_ | with_reducible refine Mine.drewN ?_ _ | ((with_reducible refine Mine.new ?_); rfl) | ((with_reducible refine Mine.newAt ?_ ?_) <;> first | rfl | (simp; done) | (simp only [World.size_alloc]; rfl)) | ((with_reducible refine Mine.set ?_ _); repeat first | exact Mine.slot (by with_reducible assumption) | with_reducible refine MineS.drew ?_ | with_reducible refine MineS.drewN ?_ _ | exact MineS.new (by decide) | with_reducible refine MineS.set ?_ _ _ _ | with_reducible refine MineS.alloc ?_ _) | with_reducible refine Mine.other ?_ _ (by first | (left; omega) | (right; omega) | (simp; done) | (simp; omega)) | with_reducible refine Mine.alloc ?_ _)
    have hBzw2 := hB.size
    replace hB : Below w.heap.size w w2 := by rw [hww2]; exact (by repeat first | exact Below.refl _ _ | assumption | refine below_drewN ?_ _ | refine Below.drew ?_ | refine Below.setCell ?_ (by first | exact Nat.le_refl _ | (simp; done) | (simp; omega) | omega) _ | refine Below.alloc ?_ (by first | exact Nat.le_refl _ | (simp; done) | (simp; omega) | omega) _)
    clear hww2 hBzw2
    refine (hC.out _ iz iw ix iy).mono ?_
    rintro e wc ⟨rfl, hb1⟩
    replace m1 := m1.below hb1
    replace m2 := m2.below hb1
    replace m3 := m3.below hb1
    replace m4 := m4.below hb1
    replace hB := hB.trans (hb1.mono hB.size)
    have hb_wc := hb1
    clear hb1
    go_wp2
    go_ret
    exact ⟨rfl, hB⟩
  | some k =>
    rw [hf] at hN
    obtain ⟨hkn, hhit, hno⟩ := firstv_of_some hf
    have hD := Detect_any n bad k
    rw [detv_in hn1 hn24 hb' hkn] at hD
    have hC := Compare_any (det n bad k).1 (det n bad k).2.1 P.1 P.2.1
    have hge := hit_true hhit
    have hvD := det_vld hn24 hb' hkn
    generalize det n bad k = D at *
    generalize cmpr D.1 D.2.1 P.1 P.2.1 = c at *
    have iz : I64 D.1 := I64.of_num hvD
    have iw : I64 D.2.1 := I64.of_den hvD
    have hge' : decide (c < 0) = false := by simpa using hge
    replace hN := Lib.hid hN
    replace hD := Lib.hid hD
    replace hC := Lib.hid hC
    replace hno := Lib.hid hno
    clear hf hvD hge hvP hlv hhit
    go_enter Tryd.func7, Tryd.ntmps7
    go_wp2_with fail
    refine (sane_any _ hG).mono ?_
    rintro e ws ⟨rfl, hb1⟩
    replace hB := hB.trans (hb1.mono hB.size)
    have hb_ws := hb1
    clear hb1
    clear hG
    go_wp2_with fail
    refine (p0.out _ i0 (by omega) (by omega)).mono ?_; rintro e wp ⟨rfl, rfl⟩
    go_wp2_with fail
    rw [show (1 : Int) + (m : Int) = (n : Int) from by have := hn.out; omega]
    rw [show (n : Int) + 1 = ((n + 1 : Nat) : Int) from rfl]
    refine (p1.out _ i1 (by omega) (by omega)).mono ?_; rintro e wp ⟨rfl, rfl⟩
    go_wp2_with fail
    refine (hL.out _ i2 i3).mono ?_
    rintro e wl ⟨rfl, hb1⟩
    replace hB := hB.trans (hb1.mono hB.size)
    have hb_wl := hb1
    clear hb1
    go_wp2_with fail
    refine name_calls ?_
    intro w1 hww1
    replace m1 : Mine w1 wl.heap.size 0 (.int .i64 P.1) := by rw [hww1]; (repeat first | with_reducible assumption | with_reducible refine Mine.drew ?_ | with_reducible refine Mine.drewN ?_ _ | ((with_reducible refine Mine.new ?_); rfl) | ((with_reducible refine Mine.newAt ?_ ?_) <;> first | rfl | (simp; done) | (simp only [World.size_alloc]; rfl)) | ((with_reducible refine Mine.set ?_ _); repeat first | exact Mine.slot (by with_reducible assumption) | with_reducible refine MineS.drew ?_ | with_reducible refine MineS.drewN ?_ _ | exact MineS.new (by decide) | with_reducible refine MineS.set ?_ _ _ _ | with_reducible refine MineS.alloc ?_ _) | with_reducible refine Mine.other ?_ _ (by first | (left; omega) | (right; omega) | (simp; done) | (simp; omega)) | with_reducible refine Mine.alloc ?_ _)
    replace m2 : Mine w1 wl.heap.size 1 (.int .i64 P.2.1) := by rw [hww1]; (repeat first | with_reducible assumption | with_reducible refine Mine.drew ?_ | with_reducible refine Mine.drewN ?_ _ | ((with_reducible refine Mine.new ?_); rfl) | ((with_reducible refine Mine.newAt ?_ ?_) <;> first | rfl | (simp; done) | (simp only [World.size_alloc]; rfl)) | ((with_reducible refine Mine.set ?_ _); repeat first | exact Mine.slot (by with_reducible assumption) | with_reducible refine MineS.drew ?_ | with_reducible refine MineS.drewN ?_ _ | exact MineS.new (by decide) | with_reducible refine MineS.set ?_ _ _ _ | with_reducible refine MineS.alloc ?_ _) | with_reducible refine Mine.other ?_ _ (by first | (left; omega) | (right; omega) | (simp; done) | (simp; omega)) | with_reducible refine Mine.alloc ?_ _)
    have hBzw1 := hB.size
    replace hB : Below w.heap.size w w1 := by rw [hww1]; exact (by repeat first | exact Below.refl _ _ | assumption | refine below_drewN ?_ _ | refine Below.drew ?_ | refine Below.setCell ?_ (by first | exact Nat.le_refl _ | (simp; done) | (simp; omega) | omega) _ | refine Below.alloc ?_ (by first | exact Nat.le_refl _ | (simp; done) | (simp; omega) | omega) _)
    clear hww1 hBzw1
    have l1 := m1.lt
    generalize wl.heap.size = b1 at *
    refine (hN.out _ ix iy).mono ?_
    rintro e wn ⟨rfl, hb1⟩
    replace m1 := m1.below hb1
    replace m2 := m2.below hb1
    replace hB := hB.trans (hb1.mono hB.size)
    have hb_wn := hb1
    clear hb1
    go_wp2_with fail
    refine (hD.out _).mono ?_
    rintro e wd ⟨rfl, hb1⟩
    replace m1 := m1.below hb1
    replace m2 := m2.below hb1
    replace hB := hB.trans (hb1.mono hB.size)
    have hb_wd := hb1
    clear hb1
    have c1 := m1.cell
    have f1 := m1.free
    have l1 := m1.lt
    have c2 := m2.cell
    have f2 := m2.free
    have l2 := m2.lt
    go_wp2_with fail
    clear c1 f1 l1
    clear c2 f2 l2
    refine name_calls ?_
    intro w2 hww2
    replace m1 : Mine w2 b1 0 (.int .i64 P.1) := by rw [hww2]; (repeat first | with_reducible assumption | with_reducible refine Mine.drew ?_ | with_reducible refine Mine.drewN ?_ _ | ((with_reducible refine Mine.new ?_); rfl) | ((with_reducible refine Mine.newAt ?_ ?_) <;> first | rfl | (simp; done) | (simp only [World.size_alloc]; rfl)) | ((with_reducible refine Mine.set ?_ _); repeat first | exact Mine.slot (by with_reducible assumption) | with_reducible refine MineS.drew ?_ | with_reducible refine MineS.drewN ?_ _ | exact MineS.new (by decide) | with_reducible refine MineS.set ?_ _ _ _ | with_reducible refine MineS.alloc ?_ _) | with_reducible refine Mine.other ?_ _ (by first | (left; omega) | (right; omega) | (simp; done) | (simp; omega)) | with_reducible refine Mine.alloc ?_ _)
    replace m2 : Mine w2 b1 1 (.int .i64 P.2.1) := by rw [hww2]; (repeat first | with_reducible assumption | with_reducible refine Mine.drew ?_ | with_reducible refine Mine.drewN ?_ _ | ((with_reducible refine Mine.new ?_); rfl) | ((with_reducible refine Mine.newAt ?_ ?_) <;> first | rfl | (simp; done) | (simp only [World.size_alloc]; rfl)) | ((with_reducible refine Mine.set ?_ _); repeat first | exact Mine.slot (by with_reducible assumption) | with_reducible refine MineS.drew ?_ | with_reducible refine MineS.drewN ?_ _ | exact MineS.new (by decide) | with_reducible refine MineS.set ?_ _ _ _ | with_reducible refine MineS.alloc ?_ _) | with_reducible refine Mine.other ?_ _ (by first | (left; omega) | (right; omega) | (simp; done) | (simp; omega)) | with_reducible refine Mine.alloc ?_ _)
    replace m3 : Mine w2 wd.heap.size 0 (.int .i64 D.1) := by rw [hww2]; (repeat first | with_reducible assumption | with_reducible refine Mine.drew ?_ | with_reducible refine Mine.drewN ?_ _ | ((with_reducible refine Mine.new ?_); rfl) | ((with_reducible refine Mine.newAt ?_ ?_) <;> first | rfl | (simp; done) | (simp only [World.size_alloc]; rfl)) | ((with_reducible refine Mine.set ?_ _); repeat first | exact Mine.slot (by with_reducible assumption) | with_reducible refine MineS.drew ?_ | with_reducible refine MineS.drewN ?_ _ | exact MineS.new (by decide) | with_reducible refine MineS.set ?_ _ _ _ | with_reducible refine MineS.alloc ?_ _) | with_reducible refine Mine.other ?_ _ (by first | (left; omega) | (right; omega) | (simp; done) | (simp; omega)) | with_reducible refine Mine.alloc ?_ _)
    replace m4 : Mine w2 wd.heap.size 1 (.int .i64 D.2.1) := by rw [hww2]; (repeat first | with_reducible assumption | with_reducible refine Mine.drew ?_ | with_reducible refine Mine.drewN ?_ _ | ((with_reducible refine Mine.new ?_); rfl) | ((with_reducible refine Mine.newAt ?_ ?_) <;> first | rfl | (simp; done) | (simp only [World.size_alloc]; rfl)) | ((with_reducible refine Mine.set ?_ _); repeat first | exact Mine.slot (by with_reducible assumption) | with_reducible refine MineS.drew ?_ | with_reducible refine MineS.drewN ?_ _ | exact MineS.new (by decide) | with_reducible refine MineS.set ?_ _ _ _ | with_reducible refine MineS.alloc ?_ _) | with_reducible refine Mine.other ?_ _ (by first | (left; omega) | (right; omega) | (simp; done) | (simp; omega)) | with_reducible refine Mine.alloc ?_ _)
    have hBzw2 := hB.size
    replace hB : Below w.heap.size w w2 := by rw [hww2]; exact (by repeat first | exact Below.refl _ _ | assumption | refine below_drewN ?_ _ | refine Below.drew ?_ | refine Below.setCell ?_ (by first | exact Nat.le_refl _ | (simp; done) | (simp; omega) | omega) _ | refine Below.alloc ?_ (by first | exact Nat.le_refl _ | (simp; done) | (simp; omega) | omega) _)
    clear hww2 hBzw2
    refine (hC.out _ iz iw ix iy).mono ?_
    rintro e wc ⟨rfl, hb1⟩
    replace m1 := m1.below hb1
    replace m2 := m2.below hb1
    replace m3 := m3.below hb1
    replace m4 := m4.below hb1
    replace hB := hB.trans (hb1.mono hB.size)
    have hb_wc := hb1
    clear hb1
    go_wp2_with fail
    go_loopw [17] (fun i wr => ∃ j : Nat, j ≤ k ∧ i = .int .i64 j ∧ Below w.heap.size w wr ∧ Mine wr b1 0 (.int .i64 P.1) ∧ Mine wr b1 1 (.int .i64 P.2.1)) (fun i _ => k - (intOf i).toNat)
    case atStart => exact ⟨0, by omega, rfl, hB, m1, m2⟩
    case round =>
      clear hB m1 m2
      obtain ⟨j, hj, rfl, hB, m1, m2⟩ := hrel
      have hlr := m1.lt
      by_cases hlt : j < k
      · have hd : decide ((j : Int) < (k : Int)) = true := by simp; omega
        have hD2 := Detect_any n bad j
        rw [detv_in hn1 hn24 hb' (by omega : j ≤ n)] at hD2
        have hC2 := Compare_any (det n bad j).1 (det n bad j).2.1 P.1 P.2.1
        have hlt2 := hit_false (hno.out j hlt)
        have hvD2 := det_vld hn24 hb' (by omega : j ≤ n)
        generalize det n bad j = E at *
        generalize cmpr E.1 E.2.1 P.1 P.2.1 = c2 at *
        have ju : I64 E.1 := I64.of_num hvD2
        have jv : I64 E.2.1 := I64.of_den hvD2
        have hlt3 : decide (0 ≤ c2) = false := by simpa using hlt2
        replace hD2 := Lib.hid hD2
        replace hC2 := Lib.hid hC2
        clear hvD2 hlt2
        go_wp2_with fail
        refine (hD2.out _).mono ?_
        rintro e we ⟨rfl, hb1⟩
        replace m1 := m1.below hb1
        replace m2 := m2.below hb1
        replace hB := hB.trans (hb1.mono hB.size)
        have hb_we := hb1
        clear hb1
        have c1 := m1.cell
        have f1 := m1.free
        have l1 := m1.lt
        have c2 := m2.cell
        have f2 := m2.free
        have l2 := m2.lt
        go_wp2_with fail
        clear c1 f1 l1
        clear c2 f2 l2
        refine name_calls ?_
        intro w5 hww5
        replace m1 : Mine w5 b1 0 (.int .i64 P.1) := by rw [hww5]; (repeat first | with_reducible assumption | with_reducible refine Mine.drew ?_ | with_reducible refine Mine.drewN ?_ _ | ((with_reducible refine Mine.new ?_); rfl) | ((with_reducible refine Mine.newAt ?_ ?_) <;> first | rfl | (simp; done) | (simp only [World.size_alloc]; rfl)) | ((with_reducible refine Mine.set ?_ _); repeat first | exact Mine.slot (by with_reducible assumption) | with_reducible refine MineS.drew ?_ | with_reducible refine MineS.drewN ?_ _ | exact MineS.new (by decide) | with_reducible refine MineS.set ?_ _ _ _ | with_reducible refine MineS.alloc ?_ _) | with_reducible refine Mine.other ?_ _ (by first | (left; omega) | (right; omega) | (simp; done) | (simp; omega)) | with_reducible refine Mine.alloc ?_ _)
        replace m2 : Mine w5 b1 1 (.int .i64 P.2.1) := by rw [hww5]; (repeat first | with_reducible assumption | with_reducible refine Mine.drew ?_ | with_reducible refine Mine.drewN ?_ _ | ((with_reducible refine Mine.new ?_); rfl) | ((with_reducible refine Mine.newAt ?_ ?_) <;> first | rfl | (simp; done) | (simp only [World.size_alloc]; rfl)) | ((with_reducible refine Mine.set ?_ _); repeat first | exact Mine.slot (by with_reducible assumption) | with_reducible refine MineS.drew ?_ | with_reducible refine MineS.drewN ?_ _ | exact MineS.new (by decide) | with_reducible refine MineS.set ?_ _ _ _ | with_reducible refine MineS.alloc ?_ _) | with_reducible refine Mine.other ?_ _ (by first | (left; omega) | (right; omega) | (simp; done) | (simp; omega)) | with_reducible refine Mine.alloc ?_ _)
        have hBzw5 := hB.size
        replace hB : Below w.heap.size w w5 := by rw [hww5]; exact (by repeat first | exact Below.refl _ _ | assumption | refine below_drewN ?_ _ | refine Below.drew ?_ | refine Below.setCell ?_ (by first | exact Nat.le_refl _ | (simp; done) | (simp; omega) | omega) _ | refine Below.alloc ?_ (by first | exact Nat.le_refl _ | (simp; done) | (simp; omega) | omega) _)
        clear hww5 hBzw5
        refine (hC2.out _ ju jv ix iy).mono ?_
        rintro e wf ⟨rfl, hb1⟩
        replace m1 := m1.below hb1
        replace m2 := m2.below hb1
        replace hB := hB.trans (hb1.mono hB.size)
        have hb_wf := hb1
        clear hb1
        go_wp2
        go_roundw
        case rel => exact ⟨j + 1, by omega, by go_num, hB, m1, m2⟩
        case measure => simp [intOf]; omega
      · have hd : decide ((j : Int) < (k : Int)) = false := by simp; omega
        go_wp2
        go_ret
        exact ⟨rfl, hB⟩
end Go.Proofs.YtjlldolmlfgejaaDoor
