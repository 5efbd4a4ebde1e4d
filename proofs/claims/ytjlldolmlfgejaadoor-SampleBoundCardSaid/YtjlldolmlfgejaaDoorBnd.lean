/-
  The walk of SampleBound.
-/
import Derived.Test.YtjlldolmlfgejaaDoorSane
import Derived.Test.YtjlldolmlfgejaaDoorMath2
namespace Go.Proofs.YtjlldolmlfgejaaDoor
open Go.RowKit

/-- The four outcomes at a valid level: what the walk needs. -/
structure BndFacts (n k bad : Nat) (p q B1 N1 N2 c : Int) (h : Bool) : Prop where
  lo : decide (0 ≤ B1) = true
  hi : decide (B1 ≤ (n : Int)) = true
  bd : decide (B1 < (bad : Int)) = h
  cm : decide (0 ≤ c) = h
  nd : (N2 == 0 && decide (N1 ≤ (k : Int))) = h

set_option maxRecDepth 100000 in
set_option maxHeartbeats 4000000 in
theorem BndLaw_any (a0 a1 a2 a3 a4 : Int) (w : World) (i0 : I64 a0) (i1 : I64 a1) (i2 : I64 a2) (i3 : I64 a3) (i4 : I64 a4) (hG : w.rangeAt 0 0 (u32s KS)) :
    Calls Tryd.prog 8 #[.int .i64 a0, .int .i64 a1, .int .i64 a2, .int .i64 a3, .int .i64 a4] w fun e w' => e = .returned (.bool true) ∧ Below w.heap.size w w' := by
  have hB : Below w.heap.size w w := Below.refl _ _
  have p0 := pick_any a0 24
  have hm := pickv_lt a0 24 (by omega)
  generalize pickv a0 24 = m at *
  have p1 := pick_any a1 (1 + m + 1)
  have hk := pickv_lt a1 (1 + m + 1) (by omega)
  generalize pickv a1 (1 + m + 1) = k at *
  have p2 := pick_any a2 (1 + m + 1)
  have hb := pickv_lt a2 (1 + m + 1) (by omega)
  generalize pickv a2 (1 + m + 1) = bad at *
  obtain ⟨n, hn⟩ : ∃ n, n = 1 + m := ⟨_, rfl⟩
  rw [← hn] at p1 p2 hb hk
  have hn1 : 1 ≤ n := by omega
  have hn24 : n ≤ 24 := by omega
  have hb' : bad ≤ n := by omega
  have hk' : k ≤ n := by omega
  have hL := lawLevel_any a3 a4
  have hlv := levelv_lvl a3 a4
  generalize levelv a3 a4 = P at *
  have D0 := Detect_any n bad k
  rw [detv_in hn1 hn24 hb' hk'] at D0
  have hvD := det_vld hn24 hb' hk'
  replace p0 := Lib.hid p0
  replace p1 := Lib.hid p1
  replace p2 := Lib.hid p2
  replace hL := Lib.hid hL
  replace hn := Lib.hid hn
  replace D0 := Lib.hid D0
  have key : ∀ p q : Int, lvl p q = true → p ≠ 0 → ∃ (B1 N1 N2 c : Int) (h : Bool), BndFacts n k bad p q B1 N1 N2 c h ∧ I64 p ∧ I64 q ∧
      Hid (∀ w, Calls Tryd.prog 18 #[.int .i64 n, .int .i64 k, rv p q] w fun e w' => e = .returned (.tuple #[.int .i64 B1, .int .i64 0]) ∧ Below w.heap.size w w') ∧
      Hid (∀ w, Calls Tryd.prog 16 #[.int .i64 n, .int .i64 bad, rv p q] w fun e w' => e = .returned (.tuple #[.int .i64 N1, .int .i64 N2]) ∧ Below w.heap.size w w') ∧
      Hid (∀ w, Calls Tryd.prog 25 #[rv (det n bad k).1 (det n bad k).2.1, rv p q] w fun e w' => e = .returned (.int .i64 c) ∧ Below w.heap.size w w') := by
    intro p q hl h0
    obtain ⟨e0, e1, e2, e3, e4⟩ := bound_law hn1 hn24 hk' hb' hl h0
    have hv := (lvl_vld hl).1
    have ip := I64.of_num hv
    have iq := I64.of_den hv
    refine ⟨_, _, _, _, _, ⟨by simpa using e1, by simpa using e2, e4, by simp [hit], e3⟩, ip, iq, fun w => ?_, fun w => Needed_any n bad p q w ip iq, fun w => Compare_any _ _ p q w (I64.of_num hvD) (I64.of_den hvD) ip iq⟩
    have := Bound_any n k p q w ip iq
    rwa [e0] at this
  have iD1 := I64.of_num hvD
  have iD2 := I64.of_den hvD
  have hlv1 : lvl 1 1 = true := by decide +kernel
  generalize det n bad k = D at *
  clear hvD hk hb
  replace key := Lib.hid key
  go_enter Tryd.func8, Tryd.ntmps8
  go_wp2_with fail
  refine (sane_any _ hG).mono ?_
  rintro e ws ⟨rfl, hb1⟩
  replace hB := hB.trans (hb1.mono hB.size)
  have hb_ws := hb1
  clear hb1
  clear hG
  go_wp2_with fail
  refine (p0.out _ i0 (by omega) (by omega)).mono ?_; rintro e wp ⟨rfl, rfl⟩
  go_wp2_with fail
  rw [show (1 : Int) + (m : Int) = (n : Int) from by have := hn.out; omega]
  rw [show (n : Int) + 1 = ((n + 1 : Nat) : Int) from rfl]
  refine (p1.out _ i1 (by omega) (by omega)).mono ?_; rintro e wp ⟨rfl, rfl⟩
  go_wp2_with fail
  refine (p2.out _ i2 (by omega) (by omega)).mono ?_; rintro e wp ⟨rfl, rfl⟩
  go_wp2_with fail
  refine (hL.out _ i3 i4).mono ?_
  rintro e wl ⟨rfl, hb1⟩
  replace hB := hB.trans (hb1.mono hB.size)
  have hb_wl := hb1
  clear hb1
  by_cases hz : P.1 = 0
  · have hz' : (P.1 == 0) = true := by simpa using hz
    have hwl := hB.size
    obtain ⟨B1, N1, N2, c, h, hF, ip, iq, hBd, hNd, hC⟩ := key.out 1 1 hlv1 (by omega)
    obtain ⟨f1, f2, f3, f4, f5⟩ := hF
    replace hz := Lib.hid hz
    go_wp2_with fail
    refine name_calls ?_
    intro w1 hww1
    replace m1 : Mine w1 wl.heap.size 0 (.int .i64 P.1) := by rw [hww1]; (repeat first | with_reducible assumption | with_reducible refine Mine.drew ?_ | with_reducible refine Mine.drewN ?_ _ | ((with_reducible refine Mine.new ?_); rfl) | ((with_reducible refine Mine.newAt ?_ ?_) <;> first | rfl | (simp; done) | (simp only [World.size_alloc]; rfl)) | ((with_reducible refine Mine.set ?_ _); repeat first | exact Mine.slot (by with_reducible assumption) | with_reducible refine MineS.drew ?_ | with_reducible refine MineS.drewN ?_ _ | exact MineS.new (by decide) | with_reducible refine MineS.set ?_ _ _ _ | with_reducible refine MineS.alloc ?_ _) | with_reducible refine Mine.other ?_ _ (by first | (left; omega) | (right; omega) | (simp; done) | (simp; omega)) | with_reducible refine Mine.alloc ?_ _)
    replace m2 : Mine w1 wl.heap.size 1 (.int .i64 P.2.1) := by rw [hww1]; (repeat first | with_reducible assumption | with_reducible refine Mine.drew ?_ | with_reducible refine Mine.drewN ?_ _ | ((with_reducible refine Mine.new ?_); rfl) | ((with_reducible refine Mine.newAt ?_ ?_) <;> first | rfl | (simp; done) | (simp only [World.size_alloc]; rfl)) | ((with_reducible refine Mine.set ?_ _); repeat first | exact Mine.slot (by with_reducible assumption) | with_reducible refine MineS.drew ?_ | with_reducible refine MineS.drewN ?_ _ | exact MineS.new (by decide) | with_reducible refine MineS.set ?_ _ _ _ | with_reducible refine MineS.alloc ?_ _) | with_reducible refine Mine.other ?_ _ (by first | (left; omega) | (right; omega) | (simp; done) | (simp; omega)) | with_reducible refine Mine.alloc ?_ _)
    have hBzw1 := hB.size
    replace hB : Below w.heap.size w w1 := by rw [hww1]; exact (by repeat first | exact Below.refl _ _ | assumption | refine below_drewN ?_ _ | refine Below.drew ?_ | refine Below.setCell ?_ (by first | exact Nat.le_refl _ | (simp; done) | (simp; omega) | omega) _ | refine Below.alloc ?_ (by first | exact Nat.le_refl _ | (simp; done) | (simp; omega) | omega) _)
    clear hww1 hBzw1
    have l1 := m1.lt
    generalize wl.heap.size = b1 at *
    refine (is_any _ _ _).mono ?_
    rintro e wi ⟨rfl, hb1⟩
    replace m1 := m1.below hb1
    replace m2 := m2.below hb1
    replace hB := hB.trans (hb1.mono hB.size)
    have hb_wi := hb1
    clear hb1
    have c1 := m1.cell
    have f1 := m1.free
    have l1 := m1.lt
    have c2 := m2.cell
    have f2 := m2.free
    have l2 := m2.lt
    go_wp2_with fail
    clear c1 f1 l1
    clear c2 f2 l2
    refine name_calls ?_
    intro w2 hww2
    replace m1 : Mine w2 b1 0 (.int .i64 1) := by rw [hww2]; (repeat first | with_reducible assumption | with_reducible refine Mine.drew ?_ | with_reducible refine Mine.drewN ?_ _ | ((with_reducible refine Mine.new ?_); rfl) | ((with_reducible refine Mine.newAt ?_ ?_) <;> first | rfl | (simp; done) | (simp only [World.size_alloc]; rfl)) | ((with_reducible refine Mine.set ?_ _); repeat first | exact Mine.slot (by with_reducible assumption) | with_reducible refine MineS.drew ?_ | with_reducible refine MineS.drewN ?_ _ | exact MineS.new (by decide) | with_reducible refine MineS.set ?_ _ _ _ | with_reducible refine MineS.alloc ?_ _) | with_reducible refine Mine.other ?_ _ (by first | (left; omega) | (right; omega) | (simp; done) | (simp; omega)) | with_reducible refine Mine.alloc ?_ _)
    replace m2 : Mine w2 b1 1 (.int .i64 1) := by rw [hww2]; (repeat first | with_reducible assumption | with_reducible refine Mine.drew ?_ | with_reducible refine Mine.drewN ?_ _ | ((with_reducible refine Mine.new ?_); rfl) | ((with_reducible refine Mine.newAt ?_ ?_) <;> first | rfl | (simp; done) | (simp only [World.size_alloc]; rfl)) | ((with_reducible refine Mine.set ?_ _); repeat first | exact Mine.slot (by with_reducible assumption) | with_reducible refine MineS.drew ?_ | with_reducible refine MineS.drewN ?_ _ | exact MineS.new (by decide) | with_reducible refine MineS.set ?_ _ _ _ | with_reducible refine MineS.alloc ?_ _) | with_reducible refine Mine.other ?_ _ (by first | (left; omega) | (right; omega) | (simp; done) | (simp; omega)) | with_reducible refine Mine.alloc ?_ _)
    have hBzw2 := hB.size
    replace hB : Below w.heap.size w w2 := by rw [hww2]; exact (by repeat first | exact Below.refl _ _ | assumption | refine below_drewN ?_ _ | refine Below.drew ?_ | refine Below.setCell ?_ (by first | exact Nat.le_refl _ | (simp; done) | (simp; omega) | omega) _ | refine Below.alloc ?_ (by first | exact Nat.le_refl _ | (simp; done) | (simp; omega) | omega) _)
    clear hww2 hBzw2
    refine (hBd.out _).mono ?_
    rintro e wb ⟨rfl, hb1⟩
    replace m1 := m1.below hb1
    replace m2 := m2.below hb1
    replace hB := hB.trans (hb1.mono hB.size)
    have hb_wb := hb1
    clear hb1
    have c1 := m1.cell
    have f1 := m1.free
    have l1 := m1.lt
    have c2 := m2.cell
    have f2 := m2.free
    have l2 := m2.lt
    go_wp2_with fail
    clear c1 f1 l1
    clear c2 f2 l2
    refine (hNd.out _).mono ?_
    rintro e wn ⟨rfl, hb1⟩
    replace m1 := m1.below hb1
    replace m2 := m2.below hb1
    replace hB := hB.trans (hb1.mono hB.size)
    have hb_wn := hb1
    clear hb1
    go_wp2_with fail
    refine (D0.out _).mono ?_
    rintro e wd ⟨rfl, hb1⟩
    replace m1 := m1.below hb1
    replace m2 := m2.below hb1
    replace hB := hB.trans (hb1.mono hB.size)
    have hb_wd := hb1
    clear hb1
    by_cases hn2 : N2 = 0
    · have hn2' : (N2 == 0) = true := by simpa using hn2
      rw [hn2', Bool.true_and] at f5
      replace hn2 := Lib.hid hn2
      have c1 := m1.cell
      have f1 := m1.free
      have l1 := m1.lt
      have c2 := m2.cell
      have f2 := m2.free
      have l2 := m2.lt
      go_wp2_with fail
      clear c1 f1 l1
      clear c2 f2 l2
      refine name_calls ?_
      intro w3 hww3
      replace m1 : Mine w3 b1 0 (.int .i64 1) := by rw [hww3]; (repeat first | with_reducible assumption | with_reducible refine Mine.drew ?_ | with_reducible refine Mine.drewN ?_ _ | ((with_reducible refine Mine.new ?_); rfl) | ((with_reducible refine Mine.newAt ?_ ?_) <;> first | rfl | (simp; done) | (simp only [World.size_alloc]; rfl)) | ((with_reducible refine Mine.set ?_ _); repeat first | exact Mine.slot (by with_reducible assumption) | with_reducible refine MineS.drew ?_ | with_reducible refine MineS.drewN ?_ _ | exact MineS.new (by decide) | with_reducible refine MineS.set ?_ _ _ _ | with_reducible refine MineS.alloc ?_ _) | with_reducible refine Mine.other ?_ _ (by first | (left; omega) | (right; omega) | (simp; done) | (simp; omega)) | with_reducible refine Mine.alloc ?_ _)
      replace m2 : Mine w3 b1 1 (.int .i64 1) := by rw [hww3]; (repeat first | with_reducible assumption | with_reducible refine Mine.drew ?_ | with_reducible refine Mine.drewN ?_ _ | ((with_reducible refine Mine.new ?_); rfl) | ((with_reducible refine Mine.newAt ?_ ?_) <;> first | rfl | (simp; done) | (simp only [World.size_alloc]; rfl)) | ((with_reducible refine Mine.set ?_ _); repeat first | exact Mine.slot (by with_reducible assumption) | with_reducible refine MineS.drew ?_ | with_reducible refine MineS.drewN ?_ _ | exact MineS.new (by decide) | with_reducible refine MineS.set ?_ _ _ _ | with_reducible refine MineS.alloc ?_ _) | with_reducible refine Mine.other ?_ _ (by first | (left; omega) | (right; omega) | (simp; done) | (simp; omega)) | with_reducible refine Mine.alloc ?_ _)
      have hBzw3 := hB.size
      replace hB : Below w.heap.size w w3 := by rw [hww3]; exact (by repeat first | exact Below.refl _ _ | assumption | refine below_drewN ?_ _ | refine Below.drew ?_ | refine Below.setCell ?_ (by first | exact Nat.le_refl _ | (simp; done) | (simp; omega) | omega) _ | refine Below.alloc ?_ (by first | exact Nat.le_refl _ | (simp; done) | (simp; omega) | omega) _)
      clear hww3 hBzw3
      refine (hC.out _).mono ?_
      rintro e wc ⟨rfl, hb1⟩
      replace m1 := m1.below hb1
      replace m2 := m2.below hb1
      replace hB := hB.trans (hb1.mono hB.size)
      have hb_wc := hb1
      clear hb1
      go_wp2
      go_ret
      exact ⟨rfl, hB⟩
    · have hn2' : (N2 == 0) = false := by simpa using hn2
      rw [hn2', Bool.false_and] at f5
      subst f5
      replace hn2 := Lib.hid hn2
      have c1 := m1.cell
      have f1 := m1.free
      have l1 := m1.lt
      have c2 := m2.cell
      have f2 := m2.free
      have l2 := m2.lt
      go_wp2_with fail
      clear c1 f1 l1
      clear c2 f2 l2
      refine name_calls ?_
      intro w3 hww3
      replace m1 : Mine w3 b1 0 (.int .i64 1) := by rw [hww3]; (repeat first | with_reducible assumption | with_reducible refine Mine.drew ?_ | with_reducible refine Mine.drewN ?_ _ | ((with_reducible refine Mine.new ?_); rfl) | ((with_reducible refine Mine.newAt ?_ ?_) <;> first | rfl | (simp; done) | (simp only [World.size_alloc]; rfl)) | ((with_reducible refine Mine.set ?_ _); repeat first | exact Mine.slot (by with_reducible assumption) | with_reducible refine MineS.drew ?_ | with_reducible refine MineS.drewN ?_ _ | exact MineS.new (by decide) | with_reducible refine MineS.set ?_ _ _ _ | with_reducible refine MineS.alloc ?_ _) | with_reducible refine Mine.other ?_ _ (by first | (left; omega) | (right; omega) | (simp; done) | (simp; omega)) | with_reducible refine Mine.alloc ?_ _)
      replace m2 : Mine w3 b1 1 (.int .i64 1) := by rw [hww3]; (repeat first | with_reducible assumption | with_reducible refine Mine.drew ?_ | with_reducible refine Mine.drewN ?_ _ | ((with_reducible refine Mine.new ?_); rfl) | ((with_reducible refine Mine.newAt ?_ ?_) <;> first | rfl | (simp; done) | (simp only [World.size_alloc]; rfl)) | ((with_reducible refine Mine.set ?_ _); repeat first | exact Mine.slot (by with_reducible assumption) | with_reducible refine MineS.drew ?_ | with_reducible refine MineS.drewN ?_ _ | exact MineS.new (by decide) | with_reducible refine MineS.set ?_ _ _ _ | with_reducible refine MineS.alloc ?_ _) | with_reducible refine Mine.other ?_ _ (by first | (left; omega) | (right; omega) | (simp; done) | (simp; omega)) | with_reducible refine Mine.alloc ?_ _)
      have hBzw3 := hB.size
      replace hB : Below w.heap.size w w3 := by rw [hww3]; exact (by repeat first | exact Below.refl _ _ | assumption | refine below_drewN ?_ _ | refine Below.drew ?_ | refine Below.setCell ?_ (by first | exact Nat.le_refl _ | (simp; done) | (simp; omega) | omega) _ | refine Below.alloc ?_ (by first | exact Nat.le_refl _ | (simp; done) | (simp; omega) | omega) _)
      clear hww3 hBzw3
      refine (hC.out _).mono ?_
      rintro e wc ⟨rfl, hb1⟩
      replace m1 := m1.below hb1
      replace m2 := m2.below hb1
      replace hB := hB.trans (hb1.mono hB.size)
      have hb_wc := hb1
      clear hb1
      go_wp2
      go_ret
      exact ⟨rfl, hB⟩
  · have hz' : (P.1 == 0) = false := by simpa using hz
    obtain ⟨B1, N1, N2, c, h, hF, ip, iq, hBd, hNd, hC⟩ := key.out P.1 P.2.1 hlv hz
    obtain ⟨f1, f2, f3, f4, f5⟩ := hF
    replace hz := Lib.hid hz
    go_wp2_with fail
    refine name_calls ?_
    intro w2 hww2
    replace m1 : Mine w2 wl.heap.size 0 (.int .i64 P.1) := by rw [hww2]; (repeat first | with_reducible assumption | with_reducible refine Mine.drew ?_ | with_reducible refine Mine.drewN ?_ _ | ((with_reducible refine Mine.new ?_); rfl) | ((with_reducible refine Mine.newAt ?_ ?_) <;> first | rfl | (simp; done) | (simp only [World.size_alloc]; rfl)) | ((with_reducible refine Mine.set ?_ _); repeat first | exact Mine.slot (by with_reducible assumption) | with_reducible refine MineS.drew ?_ | with_reducible refine MineS.drewN ?_ _ | exact MineS.new (by decide) | with_reducible refine MineS.set ?_ _ _ _ | with_reducible refine MineS.alloc ?_ _) | with_reducible refine Mine.other ?_ _ (by first | (left; omega) | (right; omega) | (simp; done) | (simp; omega)) | with_reducible refine Mine.alloc ?_ _)
    replace m2 : Mine w2 wl.heap.size 1 (.int .i64 P.2.1) := by rw [hww2]; (repeat first | with_reducible assumption | with_reducible refine Mine.drew ?_ | with_reducible refine Mine.drewN ?_ _ | ((with_reducible refine Mine.new ?_); rfl) | ((with_reducible refine Mine.newAt ?_ ?_) <;> first | rfl | (simp; done) | (simp only [World.size_alloc]; rfl)) | ((with_reducible refine Mine.set ?_ _); repeat first | exact Mine.slot (by with_reducible assumption) | with_reducible refine MineS.drew ?_ | with_reducible refine MineS.drewN ?_ _ | exact MineS.new (by decide) | with_reducible refine MineS.set ?_ _ _ _ | with_reducible refine MineS.alloc ?_ _) | with_reducible refine Mine.other ?_ _ (by first | (left; omega) | (right; omega) | (simp; done) | (simp; omega)) | with_reducible refine Mine.alloc ?_ _)
    have hBzw2 := hB.size
    replace hB : Below w.heap.size w w2 := by rw [hww2]; exact (by repeat first | exact Below.refl _ _ | assumption | refine below_drewN ?_ _ | refine Below.drew ?_ | refine Below.setCell ?_ (by first | exact Nat.le_refl _ | (simp; done) | (simp; omega) | omega) _ | refine Below.alloc ?_ (by first | exact Nat.le_refl _ | (simp; done) | (simp; omega) | omega) _)
    clear hww2 hBzw2
    have l1 := m1.lt
    generalize wl.heap.size = b1 at *
    refine (hBd.out _).mono ?_
    rintro e wb ⟨rfl, hb1⟩
    replace m1 := m1.below hb1
    replace m2 := m2.below hb1
    replace hB := hB.trans (hb1.mono hB.size)
    have hb_wb := hb1
    clear hb1
    have c1 := m1.cell
    have f1 := m1.free
    have l1 := m1.lt
    have c2 := m2.cell
    have f2 := m2.free
    have l2 := m2.lt
    go_wp2_with fail
    clear c1 f1 l1
    clear c2 f2 l2
    refine (hNd.out _).mono ?_
    rintro e wn ⟨rfl, hb1⟩
    replace m1 := m1.below hb1
    replace m2 := m2.below hb1
    replace hB := hB.trans (hb1.mono hB.size)
    have hb_wn := hb1
    clear hb1
    go_wp2_with fail
    refine (D0.out _).mono ?_
    rintro e wd ⟨rfl, hb1⟩
    replace m1 := m1.below hb1
    replace m2 := m2.below hb1
    replace hB := hB.trans (hb1.mono hB.size)
    have hb_wd := hb1
    clear hb1
    by_cases hn2 : N2 = 0
    · have hn2' : (N2 == 0) = true := by simpa using hn2
      rw [hn2', Bool.true_and] at f5
      replace hn2 := Lib.hid hn2
      have c1 := m1.cell
      have f1 := m1.free
      have l1 := m1.lt
      have c2 := m2.cell
      have f2 := m2.free
      have l2 := m2.lt
      go_wp2_with fail
      clear c1 f1 l1
      clear c2 f2 l2
      refine name_calls ?_
      intro w3 hww3
      replace m1 : Mine w3 b1 0 (.int .i64 P.1) := by rw [hww3]; (repeat first | with_reducible assumption | with_reducible refine Mine.drew ?_ | with_reducible refine Mine.drewN ?_ _ | ((with_reducible refine Mine.new ?_); rfl) | ((with_reducible refine Mine.newAt ?_ ?_) <;> first | rfl | (simp; done) | (simp only [World.size_alloc]; rfl)) | ((with_reducible refine Mine.set ?_ _); repeat first | exact Mine.slot (by with_reducible assumption) | with_reducible refine MineS.drew ?_ | with_reducible refine MineS.drewN ?_ _ | exact MineS.new (by decide) | with_reducible refine MineS.set ?_ _ _ _ | with_reducible refine MineS.alloc ?_ _) | with_reducible refine Mine.other ?_ _ (by first | (left; omega) | (right; omega) | (simp; done) | (simp; omega)) | with_reducible refine Mine.alloc ?_ _)
      replace m2 : Mine w3 b1 1 (.int .i64 P.2.1) := by rw [hww3]; (repeat first | with_reducible assumption | with_reducible refine Mine.drew ?_ | with_reducible refine Mine.drewN ?_ _ | ((with_reducible refine Mine.new ?_); rfl) | ((with_reducible refine Mine.newAt ?_ ?_) <;> first | rfl | (simp; done) | (simp only [World.size_alloc]; rfl)) | ((with_reducible refine Mine.set ?_ _); repeat first | exact Mine.slot (by with_reducible assumption) | with_reducible refine MineS.drew ?_ | with_reducible refine MineS.drewN ?_ _ | exact MineS.new (by decide) | with_reducible refine MineS.set ?_ _ _ _ | with_reducible refine MineS.alloc ?_ _) | with_reducible refine Mine.other ?_ _ (by first | (left; omega) | (right; omega) | (simp; done) | (simp; omega)) | with_reducible refine Mine.alloc ?_ _)
      have hBzw3 := hB.size
      replace hB : Below w.heap.size w w3 := by rw [hww3]; exact (by repeat first | exact Below.refl _ _ | assumption | refine below_drewN ?_ _ | refine Below.drew ?_ | refine Below.setCell ?_ (by first | exact Nat.le_refl _ | (simp; done) | (simp; omega) | omega) _ | refine Below.alloc ?_ (by first | exact Nat.le_refl _ | (simp; done) | (simp; omega) | omega) _)
      clear hww3 hBzw3
      refine (hC.out _).mono ?_
      rintro e wc ⟨rfl, hb1⟩
      replace m1 := m1.below hb1
      replace m2 := m2.below hb1
      replace hB := hB.trans (hb1.mono hB.size)
      have hb_wc := hb1
      clear hb1
      go_wp2
      go_ret
      exact ⟨rfl, hB⟩
    · have hn2' : (N2 == 0) = false := by simpa using hn2
      rw [hn2', Bool.false_and] at f5
      subst f5
      replace hn2 := Lib.hid hn2
      have c1 := m1.cell
      have f1 := m1.free
      have l1 := m1.lt
      have c2 := m2.cell
      have f2 := m2.free
      have l2 := m2.lt
      go_wp2_with fail
      clear c1 f1 l1
      clear c2 f2 l2
      refine name_calls ?_
      intro w3 hww3
      replace m1 : Mine w3 b1 0 (.int .i64 P.1) := by rw [hww3]; (repeat first | with_reducible assumption | with_reducible refine Mine.drew ?_ | with_reducible refine Mine.drewN ?_ _ | ((with_reducible refine Mine.new ?_); rfl) | ((with_reducible refine Mine.newAt ?_ ?_) <;> first | rfl | (simp; done) | (simp only [World.size_alloc]; rfl)) | ((with_reducible refine Mine.set ?_ _); repeat first | exact Mine.slot (by with_reducible assumption) | with_reducible refine MineS.drew ?_ | with_reducible refine MineS.drewN ?_ _ | exact MineS.new (by decide) | with_reducible refine MineS.set ?_ _ _ _ | with_reducible refine MineS.alloc ?_ _) | with_reducible refine Mine.other ?_ _ (by first | (left; omega) | (right; omega) | (simp; done) | (simp; omega)) | with_reducible refine Mine.alloc ?_ _)
      replace m2 : Mine w3 b1 1 (.int .i64 P.2.1) := by rw [hww3]; (repeat first | with_reducible assumption | with_reducible refine Mine.drew ?_ | with_reducible refine Mine.drewN ?_ _ | ((with_reducible refine Mine.new ?_); rfl) | ((with_reducible refine Mine.newAt ?_ ?_) <;> first | rfl | (simp; done) | (simp only [World.size_alloc]; rfl)) | ((with_reducible refine Mine.set ?_ _); repeat first | exact Mine.slot (by with_reducible assumption) | with_reducible refine MineS.drew ?_ | with_reducible refine MineS.drewN ?_ _ | exact MineS.new (by decide) | with_reducible refine MineS.set ?_ _ _ _ | with_reducible refine MineS.alloc ?_ _) | with_reducible refine Mine.other ?_ _ (by first | (left; omega) | (right; omega) | (simp; done) | (simp; omega)) | with_reducible refine Mine.alloc ?_ _)
      have hBzw3 := hB.size
      replace hB : Below w.heap.size w w3 := by rw [hww3]; exact (by repeat first | exact Below.refl _ _ | assumption | refine below_drewN ?_ _ | refine Below.drew ?_ | refine Below.setCell ?_ (by first | exact Nat.le_refl _ | (simp; done) | (simp; omega) | omega) _ | refine Below.alloc ?_ (by first | exact Nat.le_refl _ | (simp; done) | (simp; omega) | omega) _)
      clear hww3 hBzw3
      refine (hC.out _).mono ?_
      rintro e wc ⟨rfl, hb1⟩
      replace m1 := m1.below hb1
      replace m2 := m2.below hb1
      replace hB := hB.trans (hb1.mono hB.size)
      have hb_wc := hb1
      clear hb1
      go_wp2
      go_ret
      exact ⟨rfl, hB⟩
end Go.Proofs.YtjlldolmlfgejaaDoor
