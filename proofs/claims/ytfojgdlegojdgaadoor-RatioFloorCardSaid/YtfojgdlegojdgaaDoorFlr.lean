/-
  RatioFloor: the walk.
-/
import Derived.Test.YtfojgdlegojdgaaDoorSane3
namespace Go.Proofs.YtfojgdlegojdgaaDoor
open Go.RowKit

theorem floorv_vld {r s : Int} (h : vld r s = true) : floorv r s = r / s := by simp [floorv, h]
theorem floor_le {r s : Int} (h : vld r s = true) : -1000000000 ≤ r / s ∧ r / s ≤ 1000000000 := by
  have h1 := I64.of_vld_num h
  have h2 := I64.of_vld_den h
  obtain ⟨h3, h4⟩ := div_bounds (n := r) (d := s) (by omega)
  generalize r / s = k at *
  constructor
  · apply Classical.byContradiction
    intro hc
    have g : (k + 1) * s ≤ (k + 1) * 1 := Int.mul_le_mul_of_nonpos_left (by omega) (by omega)
    omega
  · apply Classical.byContradiction
    intro hc
    have g : k * 1 ≤ k * s := Int.mul_le_mul_of_nonneg_left (by omega) (by omega)
    omega
theorem floor_top {r s : Int} (h : vld r s = true) (hk : r / s = 1000000000) : r = 1000000000 ∧ s = 1 := by
  have h1 := I64.of_vld_num h
  have h2 := I64.of_vld_den h
  obtain ⟨h3, h4⟩ := div_bounds (n := r) (d := s) (by omega)
  rw [hk] at h3 h4
  omega
theorem floor_low {r s : Int} (h : vld r s = true) : cmpr (r / s) 1 r s ≤ 0 := by
  have hl := floor_le h
  have h2 := I64.of_vld_den h
  rw [cmpr_vld (vld_int (by omega)) h, cmpv_le, Int.mul_one]
  exact (div_bounds (n := r) (d := s) (by omega)).1
theorem floor_high {r s : Int} (h : vld r s = true) (hk : r / s < 1000000000) : cmpr r s (r / s + 1) 1 < 0 := by
  have hl := floor_le h
  have h2 := I64.of_vld_den h
  rw [cmpr_vld h (vld_int (by omega)), cmpv_neg, Int.mul_one]
  exact (div_bounds (n := r) (d := s) (by omega)).2

set_option maxRecDepth 100000 in
set_option maxHeartbeats 4000000 in
theorem FloorLaw (n d : Int) (w : World) (hn : I64 n) (hd : I64 d) (hE : Env w) :
    Calls Tryd.prog 4 #[.int .i64 n, .int .i64 d] w fun e w' => e = .returned (.bool true) ∧ Below w.heap.size w w' := by
  have hB : Below w.heap.size w w := Below.refl _ _
  have hM := fun w => Make_all n d w hn hd
  rcases mk_spec0 n d with hm | ⟨r, s, hm, hv, _, _⟩
  · rw [hm] at hM
    have hV := fun w => Valid_b 0 0 w ⟨by omega, by omega⟩ ⟨by omega, by omega⟩
    have hF := fun w => Floor_any 0 0 w ⟨by omega, by omega⟩ ⟨by omega, by omega⟩
    rw [show vld 0 0 = false by decide +kernel] at hV
    rw [show floorv 0 0 = 0 by decide +kernel] at hF
    replace hM := Lib.hid hM
    replace hV := Lib.hid hV
    replace hF := Lib.hid hF
    clear hm
    go_enter Tryd.func4, Tryd.ntmps4
    go_wp2_with fail
    refine (sane_any _ hE).mono ?_
    rintro e v1 ⟨rfl, hb1⟩
    replace hB := hB.trans (hb1.mono hB.size)
    have hb_v1 := hb1
    clear hb1
    go_wp2_with fail
    refine (hM.out _).mono ?_
    rintro e v2 ⟨rfl, hb1⟩
    replace hB := hB.trans (hb1.mono hB.size)
    have hb_v2 := hb1
    clear hb1
    go_wp2_with fail
    refine name_calls ?_
    intro v3 hwv3
    replace m11 : Mine v3 v2.heap.size 0 (.int .i64 0) := by rw [hwv3]; (repeat first | with_reducible assumption | with_reducible refine Mine.drew ?_ | with_reducible refine Mine.drewN ?_ _ | ((with_reducible refine Mine.new ?_); rfl) | ((with_reducible refine Mine.newAt ?_ ?_) <;> first | rfl | (simp; done) | (simp only [World.size_alloc]; rfl)) | ((with_reducible refine Mine.set ?_ _); repeat first | exact Mine.slot (by with_reducible assumption) | with_reducible refine MineS.drew ?_ | with_reducible refine MineS.drewN ?_ _ | exact MineS.new (by decide) | exact MineS.newAt (by decide) (by simp) | with_reducible refine MineS.set ?_ _ _ _ | with_reducible refine MineS.alloc ?_ _) | with_reducible refine Mine.other ?_ _ (by first | (left; omega) | (right; omega) | (simp; done) | (simp; omega)) | with_reducible refine Mine.alloc ?_ _)
    replace m12 : Mine v3 v2.heap.size 1 (.int .i64 0) := by rw [hwv3]; (repeat first | with_reducible assumption | with_reducible refine Mine.drew ?_ | with_reducible refine Mine.drewN ?_ _ | ((with_reducible refine Mine.new ?_); rfl) | ((with_reducible refine Mine.newAt ?_ ?_) <;> first | rfl | (simp; done) | (simp only [World.size_alloc]; rfl)) | ((with_reducible refine Mine.set ?_ _); repeat first | exact Mine.slot (by with_reducible assumption) | with_reducible refine MineS.drew ?_ | with_reducible refine MineS.drewN ?_ _ | exact MineS.new (by decide) | exact MineS.newAt (by decide) (by simp) | with_reducible refine MineS.set ?_ _ _ _ | with_reducible refine MineS.alloc ?_ _) | with_reducible refine Mine.other ?_ _ (by first | (left; omega) | (right; omega) | (simp; done) | (simp; omega)) | with_reducible refine Mine.alloc ?_ _)
    have hBzv3 := hB.size
    replace hB : Below w.heap.size w v3 := by rw [hwv3]; exact (by repeat first | exact Below.refl _ _ | assumption | refine below_drewN ?_ _ | refine Below.drew ?_ | refine Below.setCell ?_ (by first | exact Nat.le_refl _ | (simp; done) | (simp; omega) | omega) _ | refine Below.alloc ?_ (by first | exact Nat.le_refl _ | (simp; done) | (simp; omega) | omega) _)
    clear hwv3 hBzv3
    generalize v2.heap.size = b1 at *
    refine (hV.out _).mono ?_
    rintro e v4 ⟨rfl, hb1⟩
    replace m11 := m11.below hb1
    replace m12 := m12.below hb1
    replace hB := hB.trans (hb1.mono hB.size)
    have hb_v4 := hb1
    clear hb1
    have c11 := m11.cell
    have f11 := m11.free
    have l11 := m11.lt
    have c12 := m12.cell
    have f12 := m12.free
    have l12 := m12.lt
    go_wp2_with fail
    clear c11 f11 l11
    clear c12 f12 l12
    refine (hF.out _).mono ?_
    rintro e v5 ⟨rfl, hb1⟩
    replace m11 := m11.below hb1
    replace m12 := m12.below hb1
    replace hB := hB.trans (hb1.mono hB.size)
    have hb_v5 := hb1
    clear hb1
    go_wp2
    go_ret
    exact ⟨rfl, hB⟩
  · rw [hm] at hM
    have i1 : I64 1 := ⟨by omega, by omega⟩
    have hl := floor_le hv
    have ir := I64.num hv
    have is := I64.den hv
    have hF := fun w => Floor_any r s w ir is
    rw [floorv_vld hv] at hF
    have ht := fun hk => floor_top hv hk
    have hlo := floor_low hv
    have hhi := fun hk => floor_high hv hk
    obtain ⟨k, hk⟩ : ∃ k, k = r / s := ⟨_, rfl⟩
    rw [← hk] at hF hl ht hlo hhi
    have ik : I64 k := ⟨by omega, by omega⟩
    have hM1 := fun w => Make_all k 1 w ik i1
    rw [mk_int (k := k) (by omega)] at hM1
    clear hk hm hv
    replace hM := Lib.hid hM
    replace hM1 := Lib.hid hM1
    replace hF := Lib.hid hF
    have d1 : decide (k < -1000000000) = false := by simp; omega
    by_cases hk : k = 1000000000
    · obtain ⟨rfl, rfl⟩ := ht hk
      subst hk
      clear ht hlo hhi hl
      go_enter Tryd.func4, Tryd.ntmps4
      go_wp2_with fail
      refine (sane_any _ hE).mono ?_
      rintro e v1 ⟨rfl, hb1⟩
      replace hB := hB.trans (hb1.mono hB.size)
      have hb_v1 := hb1
      clear hb1
      go_wp2_with fail
      refine (hM.out _).mono ?_
      rintro e v2 ⟨rfl, hb1⟩
      replace hB := hB.trans (hb1.mono hB.size)
      have hb_v2 := hb1
      clear hb1
      go_wp2_with fail
      refine name_calls ?_
      intro v3 hwv3
      replace m1 : Mine v3 v2.heap.size 0 (.int .i64 1000000000) := by rw [hwv3]; (repeat first | with_reducible assumption | with_reducible refine Mine.drew ?_ | with_reducible refine Mine.drewN ?_ _ | ((with_reducible refine Mine.new ?_); rfl) | ((with_reducible refine Mine.newAt ?_ ?_) <;> first | rfl | (simp; done) | (simp only [World.size_alloc]; rfl)) | ((with_reducible refine Mine.set ?_ _); repeat first | exact Mine.slot (by with_reducible assumption) | with_reducible refine MineS.drew ?_ | with_reducible refine MineS.drewN ?_ _ | exact MineS.new (by decide) | exact MineS.newAt (by decide) (by simp) | with_reducible refine MineS.set ?_ _ _ _ | with_reducible refine MineS.alloc ?_ _) | with_reducible refine Mine.other ?_ _ (by first | (left; omega) | (right; omega) | (simp; done) | (simp; omega)) | with_reducible refine Mine.alloc ?_ _)
      replace m2 : Mine v3 v2.heap.size 1 (.int .i64 1) := by rw [hwv3]; (repeat first | with_reducible assumption | with_reducible refine Mine.drew ?_ | with_reducible refine Mine.drewN ?_ _ | ((with_reducible refine Mine.new ?_); rfl) | ((with_reducible refine Mine.newAt ?_ ?_) <;> first | rfl | (simp; done) | (simp only [World.size_alloc]; rfl)) | ((with_reducible refine Mine.set ?_ _); repeat first | exact Mine.slot (by with_reducible assumption) | with_reducible refine MineS.drew ?_ | with_reducible refine MineS.drewN ?_ _ | exact MineS.new (by decide) | exact MineS.newAt (by decide) (by simp) | with_reducible refine MineS.set ?_ _ _ _ | with_reducible refine MineS.alloc ?_ _) | with_reducible refine Mine.other ?_ _ (by first | (left; omega) | (right; omega) | (simp; done) | (simp; omega)) | with_reducible refine Mine.alloc ?_ _)
      have hBzv3 := hB.size
      replace hB : Below w.heap.size w v3 := by rw [hwv3]; exact (by repeat first | exact Below.refl _ _ | assumption | refine below_drewN ?_ _ | refine Below.drew ?_ | refine Below.setCell ?_ (by first | exact Nat.le_refl _ | (simp; done) | (simp; omega) | omega) _ | refine Below.alloc ?_ (by first | exact Nat.le_refl _ | (simp; done) | (simp; omega) | omega) _)
      clear hwv3 hBzv3
      generalize v2.heap.size = b1 at *
      refine (hF.out _).mono ?_
      rintro e v4 ⟨rfl, hb1⟩
      replace m1 := m1.below hb1
      replace m2 := m2.below hb1
      replace hB := hB.trans (hb1.mono hB.size)
      have hb_v4 := hb1
      clear hb1
      go_wp2_with fail
      refine (hM1.out _).mono ?_
      rintro e v5 ⟨rfl, hb1⟩
      replace m1 := m1.below hb1
      replace m2 := m2.below hb1
      replace hB := hB.trans (hb1.mono hB.size)
      have hb_v5 := hb1
      clear hb1
      have c1 := m1.cell
      have f1 := m1.free
      have l1 := m1.lt
      have c2 := m2.cell
      have f2 := m2.free
      have l2 := m2.lt
      go_wp2_with fail
      clear c1 f1 l1
      clear c2 f2 l2
      refine name_wp ?_
      intro v6 hwv6
      replace m1 : Mine v6 b1 0 (.int .i64 1000000000) := by rw [hwv6]; (repeat first | with_reducible assumption | with_reducible refine Mine.drew ?_ | with_reducible refine Mine.drewN ?_ _ | ((with_reducible refine Mine.new ?_); rfl) | ((with_reducible refine Mine.newAt ?_ ?_) <;> first | rfl | (simp; done) | (simp only [World.size_alloc]; rfl)) | ((with_reducible refine Mine.set ?_ _); repeat first | exact Mine.slot (by with_reducible assumption) | with_reducible refine MineS.drew ?_ | with_reducible refine MineS.drewN ?_ _ | exact MineS.new (by decide) | exact MineS.newAt (by decide) (by simp) | with_reducible refine MineS.set ?_ _ _ _ | with_reducible refine MineS.alloc ?_ _) | with_reducible refine Mine.other ?_ _ (by first | (left; omega) | (right; omega) | (simp; done) | (simp; omega)) | with_reducible refine Mine.alloc ?_ _)
      replace m2 : Mine v6 b1 1 (.int .i64 1) := by rw [hwv6]; (repeat first | with_reducible assumption | with_reducible refine Mine.drew ?_ | with_reducible refine Mine.drewN ?_ _ | ((with_reducible refine Mine.new ?_); rfl) | ((with_reducible refine Mine.newAt ?_ ?_) <;> first | rfl | (simp; done) | (simp only [World.size_alloc]; rfl)) | ((with_reducible refine Mine.set ?_ _); repeat first | exact Mine.slot (by with_reducible assumption) | with_reducible refine MineS.drew ?_ | with_reducible refine MineS.drewN ?_ _ | exact MineS.new (by decide) | exact MineS.newAt (by decide) (by simp) | with_reducible refine MineS.set ?_ _ _ _ | with_reducible refine MineS.alloc ?_ _) | with_reducible refine Mine.other ?_ _ (by first | (left; omega) | (right; omega) | (simp; done) | (simp; omega)) | with_reducible refine Mine.alloc ?_ _)
      have hBzv6 := hB.size
      replace hB : Below w.heap.size w v6 := by rw [hwv6]; exact (by repeat first | exact Below.refl _ _ | assumption | refine below_drewN ?_ _ | refine Below.drew ?_ | refine Below.setCell ?_ (by first | exact Nat.le_refl _ | (simp; done) | (simp; omega) | omega) _ | refine Below.alloc ?_ (by first | exact Nat.le_refl _ | (simp; done) | (simp; omega) | omega) _)
      clear hwv6 hBzv6
      clear hM hM1 hF hb_v1 hb_v2 hb_v4 hb_v5
      have hzd : w.heap.size ≤ v6.heap.size := hB.size
      have hzq : w.heap.size ≤ v6.drew.heap.size := hB.size
      have c1 := m1.cell
      have f1 := m1.free
      have l1 := m1.lt
      have c2 := m2.cell
      have f2 := m2.free
      have l2 := m2.lt
      first | (go_region_held3 (fun w' => w'.cell? ⟨b1, 0, none⟩ = some (.int .i64 1000000000) ∧ w'.cell? ⟨b1, 1, none⟩ = some (.int .i64 1)) (go_keep)
        (first
          | (go_at_call 14; refine (is_any _ _ _).mono ?_; rintro e wi ⟨rfl, hbwi⟩; have n1wi : Mine wi b1 0 (.int .i64 1000000000) := Mine.below (by (repeat first | with_reducible assumption | with_reducible refine Mine.drew ?_ | with_reducible refine Mine.drewN ?_ _ | ((with_reducible refine Mine.new ?_); rfl) | ((with_reducible refine Mine.newAt ?_ ?_) <;> first | rfl | (simp; done) | (simp only [World.size_alloc]; rfl)) | ((with_reducible refine Mine.set ?_ _); repeat first | exact Mine.slot (by with_reducible assumption) | with_reducible refine MineS.drew ?_ | with_reducible refine MineS.drewN ?_ _ | exact MineS.new (by decide) | exact MineS.newAt (by decide) (by simp) | with_reducible refine MineS.set ?_ _ _ _ | with_reducible refine MineS.alloc ?_ _) | with_reducible refine Mine.other ?_ _ (by first | (left; omega) | (right; omega) | (simp; done) | (simp; omega)) | with_reducible refine Mine.alloc ?_ _)) hbwi; have g1wi := n1wi.cell; have gf1wi := n1wi.free; have n2wi : Mine wi b1 1 (.int .i64 1) := Mine.below (by (repeat first | with_reducible assumption | with_reducible refine Mine.drew ?_ | with_reducible refine Mine.drewN ?_ _ | ((with_reducible refine Mine.new ?_); rfl) | ((with_reducible refine Mine.newAt ?_ ?_) <;> first | rfl | (simp; done) | (simp only [World.size_alloc]; rfl)) | ((with_reducible refine Mine.set ?_ _); repeat first | exact Mine.slot (by with_reducible assumption) | with_reducible refine MineS.drew ?_ | with_reducible refine MineS.drewN ?_ _ | exact MineS.new (by decide) | exact MineS.newAt (by decide) (by simp) | with_reducible refine MineS.set ?_ _ _ _ | with_reducible refine MineS.alloc ?_ _) | with_reducible refine Mine.other ?_ _ (by first | (left; omega) | (right; omega) | (simp; done) | (simp; omega)) | with_reducible refine Mine.alloc ?_ _)) hbwi; have g2wi := n2wi.cell; have gf2wi := n2wi.free; have hBwi : Below w.heap.size w wi := Below.trans (by repeat first | exact Below.refl _ _ | assumption | refine below_drewN ?_ _ | refine Below.drew ?_ | refine Below.setCell ?_ (by first | exact Nat.le_refl _ | (simp; done) | (simp; omega) | omega) _ | refine Below.alloc ?_ (by first | exact Nat.le_refl _ | (simp; done) | (simp; omega) | omega) _) (hbwi.mono (by first | exact Nat.le_refl _ | assumption | (simp; done) | (simp; omega) | omega)); have hzwi := hbwi.size; ))) | fail
      go_wp2
      go_ret
      exact ⟨rfl, (by repeat first | exact Below.refl _ _ | assumption | refine below_drewN ?_ _ | refine Below.drew ?_ | refine Below.setCell ?_ (by first | exact Nat.le_refl _ | (simp; done) | (simp; omega) | omega) _ | refine Below.alloc ?_ (by first | exact Nat.le_refl _ | (simp; done) | (simp; omega) | omega) _)⟩
    · have hk' : k < 1000000000 := by omega
      have d2 : decide (1000000000 ≤ k) = false := by simp; omega
      have ik1 : I64 (k + 1) := ⟨by omega, by omega⟩
      have hM2 := fun w => Make_all (k + 1) 1 w ik1 i1
      rw [mk_int (k := k + 1) (by omega)] at hM2
      have hC1 := fun w => Compare_any k 1 r s w ik i1 ir is
      have hC2 := fun w => Compare_any r s (k + 1) 1 w ir is ik1 i1
      have hhi' := hhi hk'
      generalize cmpr k 1 r s = p at *
      generalize cmpr r s (k + 1) 1 = q at *
      have d3 : decide (p ≤ 0) = true := by simpa using hlo
      have d4 : decide (q < 0) = true := by simpa using hhi'
      replace hM2 := Lib.hid hM2
      replace hC1 := Lib.hid hC1
      replace hC2 := Lib.hid hC2
      clear ht hhi hhi' hlo hk
      go_enter Tryd.func4, Tryd.ntmps4
      go_wp2_with fail
      refine (sane_any _ hE).mono ?_
      rintro e v1 ⟨rfl, hb1⟩
      replace hB := hB.trans (hb1.mono hB.size)
      have hb_v1 := hb1
      clear hb1
      go_wp2_with fail
      refine (hM.out _).mono ?_
      rintro e v2 ⟨rfl, hb1⟩
      replace hB := hB.trans (hb1.mono hB.size)
      have hb_v2 := hb1
      clear hb1
      go_wp2_with fail
      refine name_calls ?_
      intro v3 hwv3
      replace m1 : Mine v3 v2.heap.size 0 (.int .i64 r) := by rw [hwv3]; (repeat first | with_reducible assumption | with_reducible refine Mine.drew ?_ | with_reducible refine Mine.drewN ?_ _ | ((with_reducible refine Mine.new ?_); rfl) | ((with_reducible refine Mine.newAt ?_ ?_) <;> first | rfl | (simp; done) | (simp only [World.size_alloc]; rfl)) | ((with_reducible refine Mine.set ?_ _); repeat first | exact Mine.slot (by with_reducible assumption) | with_reducible refine MineS.drew ?_ | with_reducible refine MineS.drewN ?_ _ | exact MineS.new (by decide) | exact MineS.newAt (by decide) (by simp) | with_reducible refine MineS.set ?_ _ _ _ | with_reducible refine MineS.alloc ?_ _) | with_reducible refine Mine.other ?_ _ (by first | (left; omega) | (right; omega) | (simp; done) | (simp; omega)) | with_reducible refine Mine.alloc ?_ _)
      replace m2 : Mine v3 v2.heap.size 1 (.int .i64 s) := by rw [hwv3]; (repeat first | with_reducible assumption | with_reducible refine Mine.drew ?_ | with_reducible refine Mine.drewN ?_ _ | ((with_reducible refine Mine.new ?_); rfl) | ((with_reducible refine Mine.newAt ?_ ?_) <;> first | rfl | (simp; done) | (simp only [World.size_alloc]; rfl)) | ((with_reducible refine Mine.set ?_ _); repeat first | exact Mine.slot (by with_reducible assumption) | with_reducible refine MineS.drew ?_ | with_reducible refine MineS.drewN ?_ _ | exact MineS.new (by decide) | exact MineS.newAt (by decide) (by simp) | with_reducible refine MineS.set ?_ _ _ _ | with_reducible refine MineS.alloc ?_ _) | with_reducible refine Mine.other ?_ _ (by first | (left; omega) | (right; omega) | (simp; done) | (simp; omega)) | with_reducible refine Mine.alloc ?_ _)
      have hBzv3 := hB.size
      replace hB : Below w.heap.size w v3 := by rw [hwv3]; exact (by repeat first | exact Below.refl _ _ | assumption | refine below_drewN ?_ _ | refine Below.drew ?_ | refine Below.setCell ?_ (by first | exact Nat.le_refl _ | (simp; done) | (simp; omega) | omega) _ | refine Below.alloc ?_ (by first | exact Nat.le_refl _ | (simp; done) | (simp; omega) | omega) _)
      clear hwv3 hBzv3
      generalize v2.heap.size = b1 at *
      refine (hF.out _).mono ?_
      rintro e v4 ⟨rfl, hb1⟩
      replace m1 := m1.below hb1
      replace m2 := m2.below hb1
      replace hB := hB.trans (hb1.mono hB.size)
      have hb_v4 := hb1
      clear hb1
      go_wp2_with fail
      refine (hM1.out _).mono ?_
      rintro e v5 ⟨rfl, hb1⟩
      replace m1 := m1.below hb1
      replace m2 := m2.below hb1
      replace hB := hB.trans (hb1.mono hB.size)
      have hb_v5 := hb1
      clear hb1
      have c1 := m1.cell
      have f1 := m1.free
      have l1 := m1.lt
      have c2 := m2.cell
      have f2 := m2.free
      have l2 := m2.lt
      go_wp2_with fail
      clear c1 f1 l1
      clear c2 f2 l2
      refine name_calls ?_
      intro v6 hwv6
      replace m1 : Mine v6 b1 0 (.int .i64 r) := by rw [hwv6]; (repeat first | with_reducible assumption | with_reducible refine Mine.drew ?_ | with_reducible refine Mine.drewN ?_ _ | ((with_reducible refine Mine.new ?_); rfl) | ((with_reducible refine Mine.newAt ?_ ?_) <;> first | rfl | (simp; done) | (simp only [World.size_alloc]; rfl)) | ((with_reducible refine Mine.set ?_ _); repeat first | exact Mine.slot (by with_reducible assumption) | with_reducible refine MineS.drew ?_ | with_reducible refine MineS.drewN ?_ _ | exact MineS.new (by decide) | exact MineS.newAt (by decide) (by simp) | with_reducible refine MineS.set ?_ _ _ _ | with_reducible refine MineS.alloc ?_ _) | with_reducible refine Mine.other ?_ _ (by first | (left; omega) | (right; omega) | (simp; done) | (simp; omega)) | with_reducible refine Mine.alloc ?_ _)
      replace m2 : Mine v6 b1 1 (.int .i64 s) := by rw [hwv6]; (repeat first | with_reducible assumption | with_reducible refine Mine.drew ?_ | with_reducible refine Mine.drewN ?_ _ | ((with_reducible refine Mine.new ?_); rfl) | ((with_reducible refine Mine.newAt ?_ ?_) <;> first | rfl | (simp; done) | (simp only [World.size_alloc]; rfl)) | ((with_reducible refine Mine.set ?_ _); repeat first | exact Mine.slot (by with_reducible assumption) | with_reducible refine MineS.drew ?_ | with_reducible refine MineS.drewN ?_ _ | exact MineS.new (by decide) | exact MineS.newAt (by decide) (by simp) | with_reducible refine MineS.set ?_ _ _ _ | with_reducible refine MineS.alloc ?_ _) | with_reducible refine Mine.other ?_ _ (by first | (left; omega) | (right; omega) | (simp; done) | (simp; omega)) | with_reducible refine Mine.alloc ?_ _)
      replace m3 : Mine v6 v5.heap.size 0 (.int .i64 k) := by rw [hwv6]; (repeat first | with_reducible assumption | with_reducible refine Mine.drew ?_ | with_reducible refine Mine.drewN ?_ _ | ((with_reducible refine Mine.new ?_); rfl) | ((with_reducible refine Mine.newAt ?_ ?_) <;> first | rfl | (simp; done) | (simp only [World.size_alloc]; rfl)) | ((with_reducible refine Mine.set ?_ _); repeat first | exact Mine.slot (by with_reducible assumption) | with_reducible refine MineS.drew ?_ | with_reducible refine MineS.drewN ?_ _ | exact MineS.new (by decide) | exact MineS.newAt (by decide) (by simp) | with_reducible refine MineS.set ?_ _ _ _ | with_reducible refine MineS.alloc ?_ _) | with_reducible refine Mine.other ?_ _ (by first | (left; omega) | (right; omega) | (simp; done) | (simp; omega)) | with_reducible refine Mine.alloc ?_ _)
      replace m4 : Mine v6 v5.heap.size 1 (.int .i64 1) := by rw [hwv6]; (repeat first | with_reducible assumption | with_reducible refine Mine.drew ?_ | with_reducible refine Mine.drewN ?_ _ | ((with_reducible refine Mine.new ?_); rfl) | ((with_reducible refine Mine.newAt ?_ ?_) <;> first | rfl | (simp; done) | (simp only [World.size_alloc]; rfl)) | ((with_reducible refine Mine.set ?_ _); repeat first | exact Mine.slot (by with_reducible assumption) | with_reducible refine MineS.drew ?_ | with_reducible refine MineS.drewN ?_ _ | exact MineS.new (by decide) | exact MineS.newAt (by decide) (by simp) | with_reducible refine MineS.set ?_ _ _ _ | with_reducible refine MineS.alloc ?_ _) | with_reducible refine Mine.other ?_ _ (by first | (left; omega) | (right; omega) | (simp; done) | (simp; omega)) | with_reducible refine Mine.alloc ?_ _)
      have hBzv6 := hB.size
      replace hB : Below w.heap.size w v6 := by rw [hwv6]; exact (by repeat first | exact Below.refl _ _ | assumption | refine below_drewN ?_ _ | refine Below.drew ?_ | refine Below.setCell ?_ (by first | exact Nat.le_refl _ | (simp; done) | (simp; omega) | omega) _ | refine Below.alloc ?_ (by first | exact Nat.le_refl _ | (simp; done) | (simp; omega) | omega) _)
      clear hwv6 hBzv6
      generalize v5.heap.size = b2 at *
      refine (hM2.out _).mono ?_
      rintro e v7 ⟨rfl, hb1⟩
      replace m1 := m1.below hb1
      replace m2 := m2.below hb1
      replace m3 := m3.below hb1
      replace m4 := m4.below hb1
      replace hB := hB.trans (hb1.mono hB.size)
      have hb_v7 := hb1
      clear hb1
      have c1 := m1.cell
      have f1 := m1.free
      have l1 := m1.lt
      have c2 := m2.cell
      have f2 := m2.free
      have l2 := m2.lt
      have c3 := m3.cell
      have f3 := m3.free
      have l3 := m3.lt
      have c4 := m4.cell
      have f4 := m4.free
      have l4 := m4.lt
      go_wp2_with fail
      clear c1 f1 l1
      clear c2 f2 l2
      clear c3 f3 l3
      clear c4 f4 l4
      refine name_calls ?_
      intro v8 hwv8
      replace m1 : Mine v8 b1 0 (.int .i64 r) := by rw [hwv8]; (repeat first | with_reducible assumption | with_reducible refine Mine.drew ?_ | with_reducible refine Mine.drewN ?_ _ | ((with_reducible refine Mine.new ?_); rfl) | ((with_reducible refine Mine.newAt ?_ ?_) <;> first | rfl | (simp; done) | (simp only [World.size_alloc]; rfl)) | ((with_reducible refine Mine.set ?_ _); repeat first | exact Mine.slot (by with_reducible assumption) | with_reducible refine MineS.drew ?_ | with_reducible refine MineS.drewN ?_ _ | exact MineS.new (by decide) | exact MineS.newAt (by decide) (by simp) | with_reducible refine MineS.set ?_ _ _ _ | with_reducible refine MineS.alloc ?_ _) | with_reducible refine Mine.other ?_ _ (by first | (left; omega) | (right; omega) | (simp; done) | (simp; omega)) | with_reducible refine Mine.alloc ?_ _)
      replace m2 : Mine v8 b1 1 (.int .i64 s) := by rw [hwv8]; (repeat first | with_reducible assumption | with_reducible refine Mine.drew ?_ | with_reducible refine Mine.drewN ?_ _ | ((with_reducible refine Mine.new ?_); rfl) | ((with_reducible refine Mine.newAt ?_ ?_) <;> first | rfl | (simp; done) | (simp only [World.size_alloc]; rfl)) | ((with_reducible refine Mine.set ?_ _); repeat first | exact Mine.slot (by with_reducible assumption) | with_reducible refine MineS.drew ?_ | with_reducible refine MineS.drewN ?_ _ | exact MineS.new (by decide) | exact MineS.newAt (by decide) (by simp) | with_reducible refine MineS.set ?_ _ _ _ | with_reducible refine MineS.alloc ?_ _) | with_reducible refine Mine.other ?_ _ (by first | (left; omega) | (right; omega) | (simp; done) | (simp; omega)) | with_reducible refine Mine.alloc ?_ _)
      replace m3 : Mine v8 b2 0 (.int .i64 k) := by rw [hwv8]; (repeat first | with_reducible assumption | with_reducible refine Mine.drew ?_ | with_reducible refine Mine.drewN ?_ _ | ((with_reducible refine Mine.new ?_); rfl) | ((with_reducible refine Mine.newAt ?_ ?_) <;> first | rfl | (simp; done) | (simp only [World.size_alloc]; rfl)) | ((with_reducible refine Mine.set ?_ _); repeat first | exact Mine.slot (by with_reducible assumption) | with_reducible refine MineS.drew ?_ | with_reducible refine MineS.drewN ?_ _ | exact MineS.new (by decide) | exact MineS.newAt (by decide) (by simp) | with_reducible refine MineS.set ?_ _ _ _ | with_reducible refine MineS.alloc ?_ _) | with_reducible refine Mine.other ?_ _ (by first | (left; omega) | (right; omega) | (simp; done) | (simp; omega)) | with_reducible refine Mine.alloc ?_ _)
      replace m4 : Mine v8 b2 1 (.int .i64 1) := by rw [hwv8]; (repeat first | with_reducible assumption | with_reducible refine Mine.drew ?_ | with_reducible refine Mine.drewN ?_ _ | ((with_reducible refine Mine.new ?_); rfl) | ((with_reducible refine Mine.newAt ?_ ?_) <;> first | rfl | (simp; done) | (simp only [World.size_alloc]; rfl)) | ((with_reducible refine Mine.set ?_ _); repeat first | exact Mine.slot (by with_reducible assumption) | with_reducible refine MineS.drew ?_ | with_reducible refine MineS.drewN ?_ _ | exact MineS.new (by decide) | exact MineS.newAt (by decide) (by simp) | with_reducible refine MineS.set ?_ _ _ _ | with_reducible refine MineS.alloc ?_ _) | with_reducible refine Mine.other ?_ _ (by first | (left; omega) | (right; omega) | (simp; done) | (simp; omega)) | with_reducible refine Mine.alloc ?_ _)
      replace m5 : Mine v8 v7.heap.size 0 (.int .i64 (k + 1)) := by rw [hwv8]; (repeat first | with_reducible assumption | with_reducible refine Mine.drew ?_ | with_reducible refine Mine.drewN ?_ _ | ((with_reducible refine Mine.new ?_); rfl) | ((with_reducible refine Mine.newAt ?_ ?_) <;> first | rfl | (simp; done) | (simp only [World.size_alloc]; rfl)) | ((with_reducible refine Mine.set ?_ _); repeat first | exact Mine.slot (by with_reducible assumption) | with_reducible refine MineS.drew ?_ | with_reducible refine MineS.drewN ?_ _ | exact MineS.new (by decide) | exact MineS.newAt (by decide) (by simp) | with_reducible refine MineS.set ?_ _ _ _ | with_reducible refine MineS.alloc ?_ _) | with_reducible refine Mine.other ?_ _ (by first | (left; omega) | (right; omega) | (simp; done) | (simp; omega)) | with_reducible refine Mine.alloc ?_ _)
      replace m6 : Mine v8 v7.heap.size 1 (.int .i64 1) := by rw [hwv8]; (repeat first | with_reducible assumption | with_reducible refine Mine.drew ?_ | with_reducible refine Mine.drewN ?_ _ | ((with_reducible refine Mine.new ?_); rfl) | ((with_reducible refine Mine.newAt ?_ ?_) <;> first | rfl | (simp; done) | (simp only [World.size_alloc]; rfl)) | ((with_reducible refine Mine.set ?_ _); repeat first | exact Mine.slot (by with_reducible assumption) | with_reducible refine MineS.drew ?_ | with_reducible refine MineS.drewN ?_ _ | exact MineS.new (by decide) | exact MineS.newAt (by decide) (by simp) | with_reducible refine MineS.set ?_ _ _ _ | with_reducible refine MineS.alloc ?_ _) | with_reducible refine Mine.other ?_ _ (by first | (left; omega) | (right; omega) | (simp; done) | (simp; omega)) | with_reducible refine Mine.alloc ?_ _)
      have hBzv8 := hB.size
      replace hB : Below w.heap.size w v8 := by rw [hwv8]; exact (by repeat first | exact Below.refl _ _ | assumption | refine below_drewN ?_ _ | refine Below.drew ?_ | refine Below.setCell ?_ (by first | exact Nat.le_refl _ | (simp; done) | (simp; omega) | omega) _ | refine Below.alloc ?_ (by first | exact Nat.le_refl _ | (simp; done) | (simp; omega) | omega) _)
      clear hwv8 hBzv8
      generalize v7.heap.size = b3 at *
      refine (hC1.out _).mono ?_
      rintro e v9 ⟨rfl, hb1⟩
      replace m1 := m1.below hb1
      replace m2 := m2.below hb1
      replace m3 := m3.below hb1
      replace m4 := m4.below hb1
      replace m5 := m5.below hb1
      replace m6 := m6.below hb1
      replace hB := hB.trans (hb1.mono hB.size)
      have hb_v9 := hb1
      clear hb1
      have c1 := m1.cell
      have f1 := m1.free
      have l1 := m1.lt
      have c2 := m2.cell
      have f2 := m2.free
      have l2 := m2.lt
      have c3 := m3.cell
      have f3 := m3.free
      have l3 := m3.lt
      have c4 := m4.cell
      have f4 := m4.free
      have l4 := m4.lt
      have c5 := m5.cell
      have f5 := m5.free
      have l5 := m5.lt
      have c6 := m6.cell
      have f6 := m6.free
      have l6 := m6.lt
      go_wp2_with fail
      clear c1 f1 l1
      clear c2 f2 l2
      clear c3 f3 l3
      clear c4 f4 l4
      clear c5 f5 l5
      clear c6 f6 l6
      refine (hC2.out _).mono ?_
      rintro e v10 ⟨rfl, hb1⟩
      replace m1 := m1.below hb1
      replace m2 := m2.below hb1
      replace m3 := m3.below hb1
      replace m4 := m4.below hb1
      replace m5 := m5.below hb1
      replace m6 := m6.below hb1
      replace hB := hB.trans (hb1.mono hB.size)
      have hb_v10 := hb1
      clear hb1
      go_wp2
      go_ret
      exact ⟨rfl, hB⟩
end Go.Proofs.YtfojgdlegojdgaaDoor
