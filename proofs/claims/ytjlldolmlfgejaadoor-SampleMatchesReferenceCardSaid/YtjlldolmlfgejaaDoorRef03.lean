/-
  The references of layer 3: Valid, both, Compare; Level of layer 16.
-/
import Derived.Test.YtjlldolmlfgejaaDoorLaw1
import Derived.Test.YtjlldolmlfgejaaDoorSample3
namespace Go.Proofs.YtjlldolmlfgejaaDoor
open Go.RowKit

set_option maxRecDepth 100000 in
set_option maxHeartbeats 1000000 in
theorem refValid_any (n d : Int) (w : World) (hn : I64 n) (hd : I64 d) :
    Calls Tryd.prog 62 #[rv n d] w fun e w' => e = .returned (.bool (vld n d)) ∧ ∃ k, w' = (w.alloc (.cells #[.int .i64 n, .int .i64 d] 23)).drewN k := by
  by_cases h1 : 1 ≤ d
  · have e1 : decide (1 ≤ d) = true := by simpa using h1
    by_cases h2 : d ≤ 1000000000
    · have e2 : decide (d ≤ 1000000000) = true := by simpa using h2
      by_cases h3 : -1000000000 ≤ n
      · have e3 : decide (-1000000000 ≤ n) = true := by simpa using h3
        by_cases h4 : n ≤ 1000000000
        · have e4 : decide (n ≤ 1000000000) = true := by simpa using h4
          have hv := Lib.hid (vld_true (n := n) (d := d) (by omega) h2 (by omega))
          go_enter Tryd.func62, Tryd.ntmps62
          go_wp2
          go_quiet (first
            | (go_at_call 60; exact Calls.quiet_of_same (size_any _ _ (by assumption)))
            | (go_at_call 59; exact Calls.quiet_of (divisor_any _ _ _ (natAbs_u64 _ hn) (natAbs_u64 _ hd))))
          go_wp2
          go_ret
          exact ⟨ret_bool hv.out.symm, nq, rfl⟩
        · have e4 : decide (n ≤ 1000000000) = false := by simpa using h4
          have hv : Hid (vld n d = false) := by show vld n d = false; simp [vld]; omega
          go_enter Tryd.func62, Tryd.ntmps62
          go_wp2
          go_quiet (fail)
          go_wp2
          go_ret
          exact ⟨ret_bool hv.out.symm, nq, rfl⟩
      · have e3 : decide (-1000000000 ≤ n) = false := by simpa using h3
        have hv : Hid (vld n d = false) := by show vld n d = false; simp [vld]; omega
        go_enter Tryd.func62, Tryd.ntmps62
        go_wp2
        go_quiet (fail)
        go_wp2
        go_ret
        exact ⟨ret_bool hv.out.symm, nq, rfl⟩
    · have e2 : decide (d ≤ 1000000000) = false := by simpa using h2
      have hv : Hid (vld n d = false) := by show vld n d = false; simp [vld]; omega
      go_enter Tryd.func62, Tryd.ntmps62
      go_wp2
      go_quiet (fail)
      go_wp2
      go_ret
      exact ⟨ret_bool hv.out.symm, nq, rfl⟩
  · have e1 : decide (1 ≤ d) = false := by simpa using h1
    have hv : Hid (vld n d = false) := by show vld n d = false; simp [vld]; omega
    go_enter Tryd.func62, Tryd.ntmps62
    go_wp2
    go_quiet (fail)
    go_wp2
    go_ret
    exact ⟨ret_bool hv.out.symm, nq, rfl⟩

set_option maxHeartbeats 1000000 in
theorem both_any (a b c d : Int) (w : World) (ha : I64 a) (hb : I64 b) (hc : I64 c) (hd : I64 d) :
    Calls Tryd.prog 63 #[rv a b, rv c d] w fun e w' => e = .returned (.bool (vld a b && vld c d)) ∧ Below w.heap.size w w' := by
  have hB : Below w.heap.size w w := Below.refl _ _
  have v1 := fun w => refValid_any a b w ha hb
  have v2 := fun w => refValid_any c d w hc hd
  generalize vld a b = x at *
  generalize vld c d = y at *
  replace v1 := Lib.hid v1
  replace v2 := Lib.hid v2
  go_enter Tryd.func63, Tryd.ntmps63
  go_wp2_with fail
  refine (v1.out _).mono ?_; rintro e w1 ⟨rfl, k1, rfl⟩
  go_wp2_with fail
  refine (v2.out _).mono ?_; rintro e w1 ⟨rfl, k2, rfl⟩
  cases x
  · go_wp2
    go_ret
    exact ⟨rfl, (by repeat first | exact Below.refl _ _ | assumption | refine below_drewN ?_ _ | refine Below.drew ?_ | refine Below.setCell ?_ (by first | exact Nat.le_refl _ | (simp; done) | (simp; omega) | omega) _ | refine Below.alloc ?_ (by first | exact Nat.le_refl _ | (simp; done) | (simp; omega) | omega) _)⟩
  · go_wp2
    go_ret
    exact ⟨rfl, (by repeat first | exact Below.refl _ _ | assumption | refine below_drewN ?_ _ | refine Below.drew ?_ | refine Below.setCell ?_ (by first | exact Nat.le_refl _ | (simp; done) | (simp; omega) | omega) _ | refine Below.alloc ?_ (by first | exact Nat.le_refl _ | (simp; done) | (simp; omega) | omega) _)⟩

theorem wrap_small {x : Int} (h : -1000000000000000000 ≤ x ∧ x ≤ 1000000000000000000) : wrap64 x = x := by
  simp [wrap64]; omega

set_option maxRecDepth 100000 in
set_option maxHeartbeats 1000000 in
theorem refCompare_any (a b c d : Int) (w : World) (ha : I64 a) (hb : I64 b) (hc : I64 c) (hd : I64 d) :
    Calls Tryd.prog 40 #[rv a b, rv c d] w fun e w' => e = .returned (.int .i64 (cmpr a b c d)) ∧ Below w.heap.size w w' := by
  have hB : Below w.heap.size w w := Below.refl _ _
  have v1 := fun w => both_any a b c d w ha hb hc hd
  cases h : (vld a b && vld c d) with
  | false =>
    have hv : Hid (cmpr a b c d = 0) := by show _ = _; simp [cmpr, h]
    simp only [h] at v1
    replace v1 := Lib.hid v1
    go_enter Tryd.func40, Tryd.ntmps40
    go_wp2_with fail
    refine name_calls ?_
    intro w1 hww1
    replace m1 : Mine w1 w.heap.size 0 (.int .i64 a) := by rw [hww1]; (repeat first | with_reducible assumption | with_reducible refine Mine.drew ?_ | with_reducible refine Mine.drewN ?_ _ | ((with_reducible refine Mine.new ?_); rfl) | ((with_reducible refine Mine.newAt ?_ ?_) <;> first | rfl | (simp; done) | (simp only [World.size_alloc]; rfl)) | ((with_reducible refine Mine.set ?_ _); repeat first | exact Mine.slot (by with_reducible assumption) | with_reducible refine MineS.drew ?_ | with_reducible refine MineS.drewN ?_ _ | exact MineS.new (by decide) | exact MineS.newAt (by decide) (by simp) | with_reducible refine MineS.set ?_ _ _ _ | with_reducible refine MineS.alloc ?_ _) | with_reducible refine Mine.other ?_ _ (by first | (left; omega) | (right; omega) | (simp; done) | (simp; omega)) | with_reducible refine Mine.alloc ?_ _)
    replace m2 : Mine w1 w.heap.size 1 (.int .i64 b) := by rw [hww1]; (repeat first | with_reducible assumption | with_reducible refine Mine.drew ?_ | with_reducible refine Mine.drewN ?_ _ | ((with_reducible refine Mine.new ?_); rfl) | ((with_reducible refine Mine.newAt ?_ ?_) <;> first | rfl | (simp; done) | (simp only [World.size_alloc]; rfl)) | ((with_reducible refine Mine.set ?_ _); repeat first | exact Mine.slot (by with_reducible assumption) | with_reducible refine MineS.drew ?_ | with_reducible refine MineS.drewN ?_ _ | exact MineS.new (by decide) | exact MineS.newAt (by decide) (by simp) | with_reducible refine MineS.set ?_ _ _ _ | with_reducible refine MineS.alloc ?_ _) | with_reducible refine Mine.other ?_ _ (by first | (left; omega) | (right; omega) | (simp; done) | (simp; omega)) | with_reducible refine Mine.alloc ?_ _)
    replace m3 : Mine w1 (w.heap.size + 1) 0 (.int .i64 c) := by rw [hww1]; (repeat first | with_reducible assumption | with_reducible refine Mine.drew ?_ | with_reducible refine Mine.drewN ?_ _ | ((with_reducible refine Mine.new ?_); rfl) | ((with_reducible refine Mine.newAt ?_ ?_) <;> first | rfl | (simp; done) | (simp only [World.size_alloc]; rfl)) | ((with_reducible refine Mine.set ?_ _); repeat first | exact Mine.slot (by with_reducible assumption) | with_reducible refine MineS.drew ?_ | with_reducible refine MineS.drewN ?_ _ | exact MineS.new (by decide) | exact MineS.newAt (by decide) (by simp) | with_reducible refine MineS.set ?_ _ _ _ | with_reducible refine MineS.alloc ?_ _) | with_reducible refine Mine.other ?_ _ (by first | (left; omega) | (right; omega) | (simp; done) | (simp; omega)) | with_reducible refine Mine.alloc ?_ _)
    replace m4 : Mine w1 (w.heap.size + 1) 1 (.int .i64 d) := by rw [hww1]; (repeat first | with_reducible assumption | with_reducible refine Mine.drew ?_ | with_reducible refine Mine.drewN ?_ _ | ((with_reducible refine Mine.new ?_); rfl) | ((with_reducible refine Mine.newAt ?_ ?_) <;> first | rfl | (simp; done) | (simp only [World.size_alloc]; rfl)) | ((with_reducible refine Mine.set ?_ _); repeat first | exact Mine.slot (by with_reducible assumption) | with_reducible refine MineS.drew ?_ | with_reducible refine MineS.drewN ?_ _ | exact MineS.new (by decide) | exact MineS.newAt (by decide) (by simp) | with_reducible refine MineS.set ?_ _ _ _ | with_reducible refine MineS.alloc ?_ _) | with_reducible refine Mine.other ?_ _ (by first | (left; omega) | (right; omega) | (simp; done) | (simp; omega)) | with_reducible refine Mine.alloc ?_ _)
    have hBzw1 := hB.size
    replace hB : Below w.heap.size w w1 := by rw [hww1]; exact (by repeat first | exact Below.refl _ _ | assumption | refine below_drewN ?_ _ | refine Below.drew ?_ | refine Below.setCell ?_ (by first | exact Nat.le_refl _ | (simp; done) | (simp; omega) | omega) _ | refine Below.alloc ?_ (by first | exact Nat.le_refl _ | (simp; done) | (simp; omega) | omega) _)
    clear hww1 hBzw1
    refine (v1.out _).mono ?_
    rintro e w2 ⟨rfl, hb1⟩
    replace m1 := m1.below hb1
    replace m2 := m2.below hb1
    replace m3 := m3.below hb1
    replace m4 := m4.below hb1
    replace hB := hB.trans (hb1.mono hB.size)
    have hb_w2 := hb1
    clear hb1
    have c1 := m1.cell
    have f1 := m1.free
    have l1 := m1.lt
    have c2 := m2.cell
    have f2 := m2.free
    have l2 := m2.lt
    have c3 := m3.cell
    have f3 := m3.free
    have l3 := m3.lt
    have c4 := m4.cell
    have f4 := m4.free
    have l4 := m4.lt
    go_wp2
    go_ret
    exact ⟨ret_i64 hv.out.symm, hB⟩
  | true =>
    have hv : Hid (cmpr a b c d = cmpv (a * d) (c * b)) := by show _ = _; simp [cmpr, h]
    simp only [h] at v1
    replace v1 := Lib.hid v1
    rw [Bool.and_eq_true] at h
    have m1 := mul_le_9 (I64.of_vld_num h.1) (I64.of_vld_den h.2)
    have m2 := mul_le_9 (I64.of_vld_num h.2) (I64.of_vld_den h.1)
    have r1 := wrap_small m1
    have r2 := wrap_small m2
    clear m1 m2 h
    generalize hx : a * d = x at *
    generalize hy : c * b = y at *
    replace hx := Lib.hid hx
    replace hy := Lib.hid hy
    go_enter Tryd.func40, Tryd.ntmps40
    go_wp2_with fail
    refine name_calls ?_
    intro w1 hww1
    replace m1 : Mine w1 w.heap.size 0 (.int .i64 a) := by rw [hww1]; (repeat first | with_reducible assumption | with_reducible refine Mine.drew ?_ | with_reducible refine Mine.drewN ?_ _ | ((with_reducible refine Mine.new ?_); rfl) | ((with_reducible refine Mine.newAt ?_ ?_) <;> first | rfl | (simp; done) | (simp only [World.size_alloc]; rfl)) | ((with_reducible refine Mine.set ?_ _); repeat first | exact Mine.slot (by with_reducible assumption) | with_reducible refine MineS.drew ?_ | with_reducible refine MineS.drewN ?_ _ | exact MineS.new (by decide) | exact MineS.newAt (by decide) (by simp) | with_reducible refine MineS.set ?_ _ _ _ | with_reducible refine MineS.alloc ?_ _) | with_reducible refine Mine.other ?_ _ (by first | (left; omega) | (right; omega) | (simp; done) | (simp; omega)) | with_reducible refine Mine.alloc ?_ _)
    replace m2 : Mine w1 w.heap.size 1 (.int .i64 b) := by rw [hww1]; (repeat first | with_reducible assumption | with_reducible refine Mine.drew ?_ | with_reducible refine Mine.drewN ?_ _ | ((with_reducible refine Mine.new ?_); rfl) | ((with_reducible refine Mine.newAt ?_ ?_) <;> first | rfl | (simp; done) | (simp only [World.size_alloc]; rfl)) | ((with_reducible refine Mine.set ?_ _); repeat first | exact Mine.slot (by with_reducible assumption) | with_reducible refine MineS.drew ?_ | with_reducible refine MineS.drewN ?_ _ | exact MineS.new (by decide) | exact MineS.newAt (by decide) (by simp) | with_reducible refine MineS.set ?_ _ _ _ | with_reducible refine MineS.alloc ?_ _) | with_reducible refine Mine.other ?_ _ (by first | (left; omega) | (right; omega) | (simp; done) | (simp; omega)) | with_reducible refine Mine.alloc ?_ _)
    replace m3 : Mine w1 (w.heap.size + 1) 0 (.int .i64 c) := by rw [hww1]; (repeat first | with_reducible assumption | with_reducible refine Mine.drew ?_ | with_reducible refine Mine.drewN ?_ _ | ((with_reducible refine Mine.new ?_); rfl) | ((with_reducible refine Mine.newAt ?_ ?_) <;> first | rfl | (simp; done) | (simp only [World.size_alloc]; rfl)) | ((with_reducible refine Mine.set ?_ _); repeat first | exact Mine.slot (by with_reducible assumption) | with_reducible refine MineS.drew ?_ | with_reducible refine MineS.drewN ?_ _ | exact MineS.new (by decide) | exact MineS.newAt (by decide) (by simp) | with_reducible refine MineS.set ?_ _ _ _ | with_reducible refine MineS.alloc ?_ _) | with_reducible refine Mine.other ?_ _ (by first | (left; omega) | (right; omega) | (simp; done) | (simp; omega)) | with_reducible refine Mine.alloc ?_ _)
    replace m4 : Mine w1 (w.heap.size + 1) 1 (.int .i64 d) := by rw [hww1]; (repeat first | with_reducible assumption | with_reducible refine Mine.drew ?_ | with_reducible refine Mine.drewN ?_ _ | ((with_reducible refine Mine.new ?_); rfl) | ((with_reducible refine Mine.newAt ?_ ?_) <;> first | rfl | (simp; done) | (simp only [World.size_alloc]; rfl)) | ((with_reducible refine Mine.set ?_ _); repeat first | exact Mine.slot (by with_reducible assumption) | with_reducible refine MineS.drew ?_ | with_reducible refine MineS.drewN ?_ _ | exact MineS.new (by decide) | exact MineS.newAt (by decide) (by simp) | with_reducible refine MineS.set ?_ _ _ _ | with_reducible refine MineS.alloc ?_ _) | with_reducible refine Mine.other ?_ _ (by first | (left; omega) | (right; omega) | (simp; done) | (simp; omega)) | with_reducible refine Mine.alloc ?_ _)
    have hBzw1 := hB.size
    replace hB : Below w.heap.size w w1 := by rw [hww1]; exact (by repeat first | exact Below.refl _ _ | assumption | refine below_drewN ?_ _ | refine Below.drew ?_ | refine Below.setCell ?_ (by first | exact Nat.le_refl _ | (simp; done) | (simp; omega) | omega) _ | refine Below.alloc ?_ (by first | exact Nat.le_refl _ | (simp; done) | (simp; omega) | omega) _)
    clear hww1 hBzw1
    refine (v1.out _).mono ?_
    rintro e w2 ⟨rfl, hb1⟩
    replace m1 := m1.below hb1
    replace m2 := m2.below hb1
    replace m3 := m3.below hb1
    replace m4 := m4.below hb1
    replace hB := hB.trans (hb1.mono hB.size)
    have hb_w2 := hb1
    clear hb1
    replace hx := hx.out
    replace hy := hy.out
    have c1 := m1.cell
    have f1 := m1.free
    have l1 := m1.lt
    have c2 := m2.cell
    have f2 := m2.free
    have l2 := m2.lt
    have c3 := m3.cell
    have f3 := m3.free
    have l3 := m3.lt
    have c4 := m4.cell
    have f4 := m4.free
    have l4 := m4.lt
    by_cases heq : x = y
    · have q1 : (x == y) = true := by simpa using heq
      have hc : Hid (cmpv x y = 0) := by show _ = _; simp [cmpv, heq]
      go_wp2
      go_ret
      exact ⟨ret_i64 (by rw [hv.out, hc.out]), hB⟩
    · have q1 : (x == y) = false := by simpa using heq
      by_cases hlt : x < y
      · have q2 : decide (x < y) = true := by simpa using hlt
        have hc : Hid (cmpv x y = -1) := by show _ = _; simp [cmpv, hlt]
        go_wp2
        go_ret
        exact ⟨ret_i64 (by rw [hv.out, hc.out]), hB⟩
      · have q2 : decide (x < y) = false := by simpa using hlt
        have hc : Hid (cmpv x y = 1) := by show _ = _; simp [cmpv, hlt]; omega
        go_wp2
        go_ret
        exact ⟨ret_i64 (by rw [hv.out, hc.out]), hB⟩

set_option maxRecDepth 100000 in
set_option maxHeartbeats 1000000 in
theorem Level_any (p q : Int) (w : World) (hp : I64 p) (hq : I64 q) :
    Calls Tryd.prog 39 #[rv p q] w fun e w' => e = .returned (.tuple #[.bool (lvl p q), .bool (decide (0 < p))]) ∧ Below w.heap.size w w' := by
  have hB : Below w.heap.size w w := Below.refl _ _
  have v1 := fun w => refValid_any p q w hp hq
  have main : ∀ (x y z : Bool), vld p q = x → decide (0 ≤ p) = y → decide (p ≤ q) = z → Calls Tryd.prog 39 #[rv p q] w fun e w' => e = .returned (.tuple #[.bool (x && y && z), .bool (decide (0 < p))]) ∧ Below w.heap.size w w' := by
    intro x y z hx hy hz
    simp only [hx] at v1
    replace v1 := Lib.hid v1
    clear hx
    cases x <;> cases y
    all_goals
      go_enter Tryd.func39, Tryd.ntmps39
      go_wp2_with fail
      refine (v1.out _).mono ?_; rintro e w1 ⟨rfl, k1, rfl⟩
      go_wp2
      go_quiet (fail)
      go_wp2
      exact bodyPost_ret (v := .tuple #[.bool _, .bool (decide (0 < p))]) (by simp [results, Tryd.results39, go_sem]; try rfl) rfl ⟨rfl, (by repeat first | exact Below.refl _ _ | assumption | refine below_drewN ?_ _ | refine Below.drew ?_ | refine Below.setCell ?_ (by first | exact Nat.le_refl _ | (simp; done) | (simp; omega) | omega) _ | refine Below.alloc ?_ (by first | exact Nat.le_refl _ | (simp; done) | (simp; omega) | omega) _)⟩
  exact main _ _ _ rfl rfl rfl
end Go.Proofs.YtjlldolmlfgejaaDoor
