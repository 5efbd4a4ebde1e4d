/-
  The walk of SampleCounts.
-/
import Derived.Test.YtjlldolmlfgejaaDoorSane
import Derived.Test.YtjlldolmlfgejaaDoorMath3
namespace Go.Proofs.YtjlldolmlfgejaaDoor
open Go.RowKit

/-- Between two rounds: the first M numbers are counted. -/
def CntRel (n bad k T : Nat) (h a i : Value) : Prop := ∃ M : Nat, M ≤ T ∧ i = .int .i64 M ∧ h = .int .i64 (cnt (hitB n bad k) M : Nat) ∧ a = .int .i64 (cnt (allB n k) M : Nat)

set_option maxRecDepth 100000 in
set_option maxHeartbeats 4000000 in
theorem CntLaw_any (a0 a1 a2 : Int) (w : World) (i0 : I64 a0) (i1 : I64 a1) (i2 : I64 a2) (hG : w.rangeAt 0 0 (u32s KS)) :
    Calls Tryd.prog 5 #[.int .i64 a0, .int .i64 a1, .int .i64 a2] w fun e w' => e = .returned (.bool true) ∧ Below w.heap.size w w' := by
  have hB : Below w.heap.size w w := Below.refl _ _
  have p0 := pick_any a0 11
  have hm := pickv_lt a0 11 (by omega)
  generalize pickv a0 11 = m at *
  have p1 := pick_any a1 (1 + m + 1)
  have hb := pickv_lt a1 (1 + m + 1) (by omega)
  generalize pickv a1 (1 + m + 1) = bad at *
  have p2 := pick_any a2 (1 + m + 1)
  have hk := pickv_lt a2 (1 + m + 1) (by omega)
  generalize pickv a2 (1 + m + 1) = k at *
  obtain ⟨n, hn⟩ : ∃ n, n = 1 + m := ⟨_, rfl⟩
  rw [← hn] at p1 p2 hb hk
  have hn1 : 1 ≤ n := by omega
  have hn11 : n ≤ 11 := by omega
  have hb' : bad ≤ n := by omega
  have hk' : k ≤ n := by omega
  have D0 := Detect_any n bad k
  rw [detv_in hn1 (by omega) hb' hk'] at D0
  have hdo := det_ok (by omega : n ≤ 24) hb' hk'
  have hM := Make_all ((cnt (hitB n bad k) (2 ^ n) : Nat) : Int) ((cnt (allB n k) (2 ^ n) : Nat) : Int)
  rw [counts_law hb', hdo] at hM
  have c1 := cnt_le (hitB n bad k) (2 ^ n)
  have c2 := cnt_le (allB n k) (2 ^ n)
  have h2n : 2 ^ n ≤ 2048 := Nat.pow_le_pow_right (by omega) hn11
  have h2b : 2 ^ bad ≤ 2048 := Nat.pow_le_pow_right (by omega) (show bad ≤ 11 by omega)
  have h2b1 : 1 ≤ 2 ^ bad := Nat.two_pow_pos bad
  have wn : wrap64 ((2 : Int) ^ n) = ((2 ^ n : Nat) : Int) := by
    have e : (2 : Int) ^ n = ((2 ^ n : Nat) : Int) := by simp
    rw [e]; exact IntWalk.wrap64_in _ (by omega)
  have wb : wrap64 ((2 : Int) ^ bad) = ((2 ^ bad : Nat) : Int) := by
    have e : (2 : Int) ^ bad = ((2 ^ bad : Nat) : Int) := by simp
    rw [e]; exact IntWalk.wrap64_in _ (by omega)
  obtain ⟨T, hT⟩ : ∃ T, T = 2 ^ n := ⟨_, rfl⟩
  obtain ⟨B, hBd⟩ : ∃ B, B = 2 ^ bad := ⟨_, rfl⟩
  rw [← hT] at wn h2n c1 c2 hM
  rw [← hBd] at wb h2b h2b1
  replace hT := Lib.hid hT
  replace hBd := Lib.hid hBd
  generalize det n bad k = D at *
  replace p0 := Lib.hid p0
  replace p1 := Lib.hid p1
  replace p2 := Lib.hid p2
  replace hn := Lib.hid hn
  replace D0 := Lib.hid D0
  replace hM := Lib.hid hM
  clear hdo
  go_enter Tryd.func5, Tryd.ntmps5
  go_wp2_with fail
  refine (sane_any _ hG).mono ?_
  rintro e ws ⟨rfl, hb1⟩
  replace hB := hB.trans (hb1.mono hB.size)
  have hb_ws := hb1
  clear hb1
  clear hG
  go_wp2_with fail
  refine (p0.out _ i0 (by omega) (by omega)).mono ?_; rintro e wp ⟨rfl, rfl⟩
  go_wp2_with fail
  rw [show (1 : Int) + (m : Int) = (n : Int) from by have := hn.out; omega]
  rw [show (n : Int) + 1 = ((n + 1 : Nat) : Int) from rfl]
  refine (p1.out _ i1 (by omega) (by omega)).mono ?_; rintro e wp ⟨rfl, rfl⟩
  go_wp2_with fail
  refine (p2.out _ i2 (by omega) (by omega)).mono ?_; rintro e wp ⟨rfl, rfl⟩
  go_wp2_with fail
  go_loop [8, 9, 10] (fun h a i => CntRel n bad k T h a i) (fun _ _ i => T - (intOf i).toNat)
  case atStart => exact ⟨0, by omega, rfl, rfl, rfl⟩
  case round =>
    obtain ⟨M, hM2, rfl, rfl, rfl⟩ := hrel
    have d1 := cnt_le (hitB n bad k) M
    have d2 := cnt_le (allB n k) M
    by_cases hlt : M < T
    · have hd : decide ((M : Int) < (T : Int)) = true := by simpa using hlt
      have e1 : Hid (cnt (hitB n bad k) (M + 1) = cnt (hitB n bad k) M + if hitB n bad k M then 1 else 0) := by show _ = _; rfl
      have e2 : Hid (cnt (allB n k) (M + 1) = cnt (allB n k) M + if allB n k M then 1 else 0) := by show _ = _; rfl
      generalize cnt (hitB n bad k) M = H at *
      generalize cnt (allB n k) M = A at *
      go_wp2_with fail
      go_loop [11, 12] (fun s i => ∃ j : Nat, j ≤ n ∧ i = .int .i64 j ∧ s = .int .i64 (popc j M : Nat)) (fun _ i => n - (intOf i).toNat)
      case atStart => exact ⟨0, by omega, rfl, rfl⟩
      case round =>
        obtain ⟨j, hj, rfl, rfl⟩ := hrel
        have hpj := popc_le j M
        by_cases hjn : j < n
        · have hdj : decide ((j : Int) < (n : Int)) = true := by simpa using hjn
          have e3 : Hid (popc (j + 1) M = popc j M + M / 2 ^ j % 2) := by show _ = _; rfl
          have hqe : (M : Int) / (2 : Int) ^ j = ((M / 2 ^ j : Nat) : Int) := by simp
          have hq2 : M / 2 ^ j % 2 < 2 := Nat.mod_lt _ (by omega)
          generalize popc j M = s at *
          generalize M / 2 ^ j = q at *
          go_wp2_with fail
          refine ⟨⟨j + 1, by omega, by go_num, by rw [e3.out]; go_num⟩, by simp [intOf]; omega⟩
        · have hdj : decide ((j : Int) < (n : Int)) = false := by simpa using hjn
          obtain rfl : n = j := by omega
          have e4 : Hid (allB n k M = decide (popc n M = k)) := by show _ = _; rfl
          have e5 : Hid (hitB n bad k M = (decide (popc n M = k) && !decide (M % B = 0))) := by show _ = _; rw [hBd.out]; rfl
          generalize popc n M = s at *
          by_cases hsk : s = k
          · have g1 : ((s : Int) != (k : Int)) = false := by simp [hsk]
            by_cases hmb : M % B = 0
            · have g2 : ((M : Int) % (B : Int) != 0) = false := by simp; omega
              go_wp2_with fail
              exact ⟨⟨M + 1, by omega, by go_num, by rw [e1.out, e5.out]; simp [hsk, hmb], by rw [e2.out, e4.out]; simp [hsk]⟩, by simp [intOf]; omega⟩
            · have g2 : ((M : Int) % (B : Int) != 0) = true := by rw [bne_iff_ne]; omega
              go_wp2_with fail
              exact ⟨⟨M + 1, by omega, by go_num, by rw [e1.out, e5.out]; simp [hsk, hmb], by rw [e2.out, e4.out]; simp [hsk]⟩, by simp [intOf]; omega⟩
          · have g1 : ((s : Int) != (k : Int)) = true := by rw [bne_iff_ne]; omega
            go_wp2_with fail
            exact ⟨⟨M + 1, by omega, by go_num, by rw [e1.out, e5.out]; simp [hsk], by rw [e2.out, e4.out]; simp [hsk]⟩, by simp [intOf]; omega⟩
    · have hd : decide ((M : Int) < (T : Int)) = false := by simpa using hlt
      obtain rfl : T = M := by omega
      have hEq := run_eq_rv
      go_wp2_with fail
      refine (D0.out _).mono ?_
      rintro e wd ⟨rfl, hb1⟩
      replace hB := hB.trans (hb1.mono hB.size)
      have hb_wd := hb1
      clear hb1
      go_wp2_with fail
      refine name_calls ?_
      intro w1 hww1
      replace m1 : Mine w1 wd.heap.size 0 (.int .i64 D.1) := by rw [hww1]; (repeat first | with_reducible assumption | with_reducible refine Mine.drew ?_ | with_reducible refine Mine.drewN ?_ _ | ((with_reducible refine Mine.new ?_); rfl) | ((with_reducible refine Mine.newAt ?_ ?_) <;> first | rfl | (simp; done) | (simp only [World.size_alloc]; rfl)) | ((with_reducible refine Mine.set ?_ _); repeat first | exact Mine.slot (by with_reducible assumption) | with_reducible refine MineS.drew ?_ | with_reducible refine MineS.drewN ?_ _ | exact MineS.new (by decide) | with_reducible refine MineS.set ?_ _ _ _ | with_reducible refine MineS.alloc ?_ _) | with_reducible refine Mine.other ?_ _ (by first | (left; omega) | (right; omega) | (simp; done) | (simp; omega)) | with_reducible refine Mine.alloc ?_ _)
      replace m2 : Mine w1 wd.heap.size 1 (.int .i64 D.2.1) := by rw [hww1]; (repeat first | with_reducible assumption | with_reducible refine Mine.drew ?_ | with_reducible refine Mine.drewN ?_ _ | ((with_reducible refine Mine.new ?_); rfl) | ((with_reducible refine Mine.newAt ?_ ?_) <;> first | rfl | (simp; done) | (simp only [World.size_alloc]; rfl)) | ((with_reducible refine Mine.set ?_ _); repeat first | exact Mine.slot (by with_reducible assumption) | with_reducible refine MineS.drew ?_ | with_reducible refine MineS.drewN ?_ _ | exact MineS.new (by decide) | with_reducible refine MineS.set ?_ _ _ _ | with_reducible refine MineS.alloc ?_ _) | with_reducible refine Mine.other ?_ _ (by first | (left; omega) | (right; omega) | (simp; done) | (simp; omega)) | with_reducible refine Mine.alloc ?_ _)
      have hBzw1 := hB.size
      replace hB : Below w.heap.size w w1 := by rw [hww1]; exact (by repeat first | exact Below.refl _ _ | assumption | refine below_drewN ?_ _ | refine Below.drew ?_ | refine Below.setCell ?_ (by first | exact Nat.le_refl _ | (simp; done) | (simp; omega) | omega) _ | refine Below.alloc ?_ (by first | exact Nat.le_refl _ | (simp; done) | (simp; omega) | omega) _)
      clear hww1 hBzw1
      have l1 := m1.lt
      generalize wd.heap.size = b1 at *
      refine (hM.out _ ⟨by omega, by omega⟩ ⟨by omega, by omega⟩).mono ?_
      rintro e wm ⟨rfl, hb1⟩
      replace m1 := m1.below hb1
      replace m2 := m2.below hb1
      replace hB := hB.trans (hb1.mono hB.size)
      have hb_wm := hb1
      clear hb1
      have c1 := m1.cell
      have f1 := m1.free
      have l1 := m1.lt
      have c2 := m2.cell
      have f2 := m2.free
      have l2 := m2.lt
      go_wp2
      go_ret
      exact ⟨rfl, hB.alloc hB.size _⟩
end Go.Proofs.YtjlldolmlfgejaaDoor
