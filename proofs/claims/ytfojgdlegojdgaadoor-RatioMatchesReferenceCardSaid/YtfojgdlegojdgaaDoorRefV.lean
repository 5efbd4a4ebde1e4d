/-
  The references of layer 3: size, divisor, Make, Valid, both, Compare.
-/
import Derived.Test.YtfojgdlegojdgaaDoorRatio2
import Derived.Deep.QuietTactic
import Derived.BigQuiet
namespace Go.Proofs.YtfojgdlegojdgaaDoor
open Go.RowKit

set_option maxHeartbeats 400000 in
theorem size_any (n : Int) (w : World) (h : I64 n) :
    Calls Tryd.prog 55 #[.int .i64 n] w fun e w' => e = .returned (.int .u64 n.natAbs) ∧ w' = w := by
  obtain ⟨h1, h2⟩ := h
  by_cases h0 : n < 0
  · have hd : decide (n < 0) = true := by simpa using h0
    go_enter Tryd.func55, Tryd.ntmps55
    go_wp2
    go_ret
    exact ⟨ret_u64 (by omega), rfl⟩
  · have hd : decide (n < 0) = false := by simpa using h0
    have h0' : 0 ≤ n := by omega
    go_enter Tryd.func55, Tryd.ntmps55
    go_wp2
    go_ret
    exact ⟨ret_u64 (by omega), rfl⟩

set_option maxHeartbeats 400000 in
theorem divisor_any (a b : Nat) (w : World) (ha : Hid ((a : Int) < U64)) (hb : Hid ((b : Int) < U64)) :
    Calls Tryd.prog 54 #[.int .u64 a, .int .u64 b] w fun e w' => e = .returned (.int .u64 (Nat.gcd a b)) ∧ ∃ n, w' = w.drewN n := by
  go_enter Tryd.func54, Tryd.ntmps54
  go_wp2
  go_loopw [0, 1] (fun x y wr => ∃ c d n : Nat, x = .int .u64 c ∧ y = .int .u64 d ∧ Hid (Nat.gcd c d = Nat.gcd a b) ∧ Hid ((c : Int) < U64) ∧ Hid ((d : Int) < U64) ∧ wr = w.drewN n) (fun _ y _ => (intOf y).toNat)
  case atStart => exact ⟨a, b, 0, rfl, rfl, rfl, ha, hb, rfl⟩
  case round =>
    obtain ⟨c, d, n, rfl, rfl, hg, hc, hd, rfl⟩ := hrel
    by_cases h0 : d = 0
    · subst h0
      go_wp2
      go_ret
      exact ⟨ret_u64 (by rw [← hg.out]; simp), n, rfl⟩
    · have h0' : decide ((0 : Int) < (d : Int)) = true := by simp; omega
      have h0'' : decide (0 < d) = true := by simp; omega
      have h1 : (1 : Int) ≤ d := by omega
      go_wp2
      go_quiet (fail)
      go_wp2
      go_roundw
      case rel =>
        have hl : c % d < d := Nat.mod_lt _ (by omega)
        exact ⟨d, c % d, n + nq, rfl, by go_num, by
          have := hg.out
          show _ = _
          rw [← this, Nat.gcd_comm c d, Nat.gcd_rec d c, Nat.gcd_comm], hd, by
          have := hd.out
          show ((c % d : Nat) : Int) < U64
          omega, World.drewN_drewN _ _ _⟩
      case measure =>
        have hl : c % d < d := Nat.mod_lt _ (by omega)
        simp [intOf]; omega

set_option maxHeartbeats 400000 in
theorem refMake_zero (n : Int) (w : World) :
    Calls Tryd.prog 28 #[.int .i64 n, .int .i64 0] w fun e w' => e = .returned (.tuple #[rv (mk n 0).1 (mk n 0).2.1, .int .i64 (mk n 0).2.2]) ∧ Below w.heap.size w w' := by
  go_enter Tryd.func28, Tryd.ntmps28
  go_wp2
  exact bodyPost_ret (v := .tuple #[rv 0 0, .int .i64 30]) (by simp [results, Tryd.results28, go_sem]) rfl ⟨rfl, (Below.refl _ _).alloc (Nat.le_refl _) _⟩

set_option maxHeartbeats 1000000 in
theorem refMake_any (n d : Int) (w : World) (hn : I64 n) (hd : I64 d) (h0 : d ≠ 0) :
    Calls Tryd.prog 28 #[.int .i64 n, .int .i64 d] w fun e w' => e = .returned (.tuple #[rv (mk n d).1 (mk n d).2.1, .int .i64 (mk n d).2.2]) ∧ Below w.heap.size w w' := by
  obtain ⟨k, hk⟩ : ∃ k, k = Nat.gcd n.natAbs d.natAbs := ⟨_, rfl⟩
  have hk1 : (1 : Int) ≤ k := by have : 0 < Nat.gcd n.natAbs d.natAbs := Nat.gcd_pos_of_pos_right _ (by omega); omega
  have hk0 : ¬ k = 0 := by omega
  have h0b : (d == 0) = false := by simpa using h0
  have hg := divisor_any n.natAbs d.natAbs
  rw [← hk] at hg
  have Hk := Lib.hid hk; clear hk
  have Hg := Lib.hid hg; clear hg
  have gn := natAbs_u64 n hn
  have gd := natAbs_u64 d hd
  have hmk := Lib.hid (mk_eq n d h0 k Hk.out)
  clear h0
  go_enter Tryd.func28, Tryd.ntmps28
  go_wp2_with fail
  refine (size_any _ _ hn).mono ?_; rintro e w1 ⟨rfl, rfl⟩
  go_wp2_with fail
  refine (size_any _ _ hd).mono ?_; rintro e w1 ⟨rfl, rfl⟩
  go_wp2_with fail
  refine (Hg.out _ gn gd).mono ?_; rintro e w1 ⟨rfl, n1, rfl⟩
  go_wp2_with fail
  refine (size_any _ _ hn).mono ?_; rintro e w1 ⟨rfl, rfl⟩
  go_wp2_with fail
  refine (size_any _ _ hd).mono ?_; rintro e w1 ⟨rfl, rfl⟩
  have h0x : 0 ≤ (n.natAbs : Int) / (k : Int) := Int.ediv_nonneg (by omega) (by omega)
  have h0y : 0 ≤ (d.natAbs : Int) / (k : Int) := Int.ediv_nonneg (by omega) (by omega)
  have wx := u64_div n k hn
  have wy := u64_div d k hd
  clear gn gd Hg Hk hn hd
  by_cases hx : 1000000000 < (n.natAbs : Int) / (k : Int)
  · have hv : Hid (mk n d = (0, 0, 30)) := by rw [hmk.out]; show _ = _; rw [if_pos (by omega)]
    have hdx : decide (1000000000 < (n.natAbs : Int) / (k : Int)) = true := by simpa using hx
    clear hmk
    go_wp2
    exact bodyPost_ret (v := .tuple #[rv 0 0, .int .i64 30]) (by simp [results, Tryd.results28, go_sem]) rfl ⟨by rw [hv.out], (by repeat first | with_reducible exact Below.refl _ _ | with_reducible assumption | with_reducible refine below_drewN ?_ _ | with_reducible refine Below.drew ?_ | with_reducible refine Below.setCell ?_ (by first | exact Nat.le_refl _ | (simp; done) | (simp; omega) | omega) _ | with_reducible refine Below.alloc ?_ (by first | exact Nat.le_refl _ | (simp; done) | (simp; omega) | omega) _ | exact Below.refl _ _ | assumption)⟩
  · have hdx : decide (1000000000 < (n.natAbs : Int) / (k : Int)) = false := by simpa using hx
    by_cases hy : 1000000000 < (d.natAbs : Int) / (k : Int)
    · have hv : Hid (mk n d = (0, 0, 30)) := by rw [hmk.out]; show _ = _; rw [if_pos (by omega)]
      have hdy : decide (1000000000 < (d.natAbs : Int) / (k : Int)) = true := by simpa using hy
      clear hmk
      go_wp2
      exact bodyPost_ret (v := .tuple #[rv 0 0, .int .i64 30]) (by simp [results, Tryd.results28, go_sem]) rfl ⟨by rw [hv.out], (by repeat first | with_reducible exact Below.refl _ _ | with_reducible assumption | with_reducible refine below_drewN ?_ _ | with_reducible refine Below.drew ?_ | with_reducible refine Below.setCell ?_ (by first | exact Nat.le_refl _ | (simp; done) | (simp; omega) | omega) _ | with_reducible refine Below.alloc ?_ (by first | exact Nat.le_refl _ | (simp; done) | (simp; omega) | omega) _ | exact Below.refl _ _ | assumption)⟩
    · have hdy : decide (1000000000 < (d.natAbs : Int) / (k : Int)) = false := by simpa using hy
      by_cases hs : (n < 0) = (d < 0)
      · have hv : Hid (mk n d = ((n.natAbs : Int) / (k : Int), (d.natAbs : Int) / (k : Int), 0)) := by rw [hmk.out]; show _ = _; rw [if_neg (by omega), if_neg (by simpa using hs)]
        have hb : (!decide (n < 0) == decide (d < 0)) = false := by simp [hs]
        have hb2 : (decide (n < 0) != decide (d < 0)) = false := by simp [hs]
        clear hmk hs
        go_wp2
        exact bodyPost_ret (v := .tuple #[rv ((n.natAbs : Int) / (k : Int)) ((d.natAbs : Int) / (k : Int)), .int .i64 0]) (by simp [results, Tryd.results28, go_sem]) rfl ⟨by rw [hv.out], (by repeat first | with_reducible exact Below.refl _ _ | with_reducible assumption | with_reducible refine below_drewN ?_ _ | with_reducible refine Below.drew ?_ | with_reducible refine Below.setCell ?_ (by first | exact Nat.le_refl _ | (simp; done) | (simp; omega) | omega) _ | with_reducible refine Below.alloc ?_ (by first | exact Nat.le_refl _ | (simp; done) | (simp; omega) | omega) _ | exact Below.refl _ _ | assumption)⟩
      · have hv : Hid (mk n d = (-((n.natAbs : Int) / (k : Int)), (d.natAbs : Int) / (k : Int), 0)) := by rw [hmk.out]; show _ = _; rw [if_neg (by omega), if_pos (by simpa using hs)]
        have hb : (!decide (n < 0) == decide (d < 0)) = true := by simpa using hs
        have hb2 : (decide (n < 0) != decide (d < 0)) = true := by simpa using hs
        clear hmk hs
        go_wp2
        exact bodyPost_ret (v := .tuple #[rv (-((n.natAbs : Int) / (k : Int))) ((d.natAbs : Int) / (k : Int)), .int .i64 0]) (by simp [results, Tryd.results28, go_sem]) rfl ⟨by rw [hv.out], (by repeat first | with_reducible exact Below.refl _ _ | with_reducible assumption | with_reducible refine below_drewN ?_ _ | with_reducible refine Below.drew ?_ | with_reducible refine Below.setCell ?_ (by first | exact Nat.le_refl _ | (simp; done) | (simp; omega) | omega) _ | with_reducible refine Below.alloc ?_ (by first | exact Nat.le_refl _ | (simp; done) | (simp; omega) | omega) _ | exact Below.refl _ _ | assumption)⟩

theorem refMake_all (n d : Int) (w : World) (hn : I64 n) (hd : I64 d) :
    Calls Tryd.prog 28 #[.int .i64 n, .int .i64 d] w fun e w' => e = .returned (.tuple #[rv (mk n d).1 (mk n d).2.1, .int .i64 (mk n d).2.2]) ∧ Below w.heap.size w w' := by
  by_cases h0 : d = 0
  · subst h0; exact refMake_zero n w
  · exact refMake_any n d w hn hd h0

set_option maxRecDepth 100000 in
set_option maxHeartbeats 1000000 in
theorem refValid_any (n d : Int) (w : World) (hn : I64 n) (hd : I64 d) :
    Calls Tryd.prog 35 #[rv n d] w fun e w' => e = .returned (.bool (vld n d)) ∧ ∃ k, w' = (w.alloc (.cells #[.int .i64 n, .int .i64 d] 27)).drewN k := by
  by_cases h1 : 1 ≤ d
  · have e1 : decide (1 ≤ d) = true := by simpa using h1
    by_cases h2 : d ≤ 1000000000
    · have e2 : decide (d ≤ 1000000000) = true := by simpa using h2
      by_cases h3 : -1000000000 ≤ n
      · have e3 : decide (-1000000000 ≤ n) = true := by simpa using h3
        by_cases h4 : n ≤ 1000000000
        · have e4 : decide (n ≤ 1000000000) = true := by simpa using h4
          have hv := Lib.hid (vld_true (n := n) (d := d) (by omega) h2 (by omega))
          go_enter Tryd.func35, Tryd.ntmps35
          go_wp2
          go_quiet (first
            | (go_at_call 55; exact Calls.quiet_of_same (size_any _ _ (by assumption)))
            | (go_at_call 54; exact Calls.quiet_of (divisor_any _ _ _ (natAbs_u64 _ hn) (natAbs_u64 _ hd))))
          go_wp2
          go_ret
          exact ⟨ret_bool hv.out.symm, nq, rfl⟩
        · have e4 : decide (n ≤ 1000000000) = false := by simpa using h4
          have hv : Hid (vld n d = false) := by show vld n d = false; simp [vld]; omega
          go_enter Tryd.func35, Tryd.ntmps35
          go_wp2
          go_quiet (fail)
          go_wp2
          go_ret
          exact ⟨ret_bool hv.out.symm, nq, rfl⟩
      · have e3 : decide (-1000000000 ≤ n) = false := by simpa using h3
        have hv : Hid (vld n d = false) := by show vld n d = false; simp [vld]; omega
        go_enter Tryd.func35, Tryd.ntmps35
        go_wp2
        go_quiet (fail)
        go_wp2
        go_ret
        exact ⟨ret_bool hv.out.symm, nq, rfl⟩
    · have e2 : decide (d ≤ 1000000000) = false := by simpa using h2
      have hv : Hid (vld n d = false) := by show vld n d = false; simp [vld]; omega
      go_enter Tryd.func35, Tryd.ntmps35
      go_wp2
      go_quiet (fail)
      go_wp2
      go_ret
      exact ⟨ret_bool hv.out.symm, nq, rfl⟩
  · have e1 : decide (1 ≤ d) = false := by simpa using h1
    have hv : Hid (vld n d = false) := by show vld n d = false; simp [vld]; omega
    go_enter Tryd.func35, Tryd.ntmps35
    go_wp2
    go_quiet (fail)
    go_wp2
    go_ret
    exact ⟨ret_bool hv.out.symm, nq, rfl⟩

set_option maxHeartbeats 1000000 in
theorem both_any (a b c d : Int) (w : World) (ha : I64 a) (hb : I64 b) (hc : I64 c) (hd : I64 d) :
    Calls Tryd.prog 56 #[rv a b, rv c d] w fun e w' => e = .returned (.bool (vld a b && vld c d)) ∧ Below w.heap.size w w' := by
  have hB : Below w.heap.size w w := Below.refl _ _
  have v1 := fun w => refValid_any a b w ha hb
  have v2 := fun w => refValid_any c d w hc hd
  generalize vld a b = x at *
  generalize vld c d = y at *
  replace v1 := Lib.hid v1
  replace v2 := Lib.hid v2
  go_enter Tryd.func56, Tryd.ntmps56
  go_wp2_with fail
  refine (v1.out _).mono ?_; rintro e w1 ⟨rfl, k1, rfl⟩
  go_wp2_with fail
  refine (v2.out _).mono ?_; rintro e w1 ⟨rfl, k2, rfl⟩
  cases x
  · go_wp2
    go_ret
    exact ⟨rfl, (by repeat first | with_reducible exact Below.refl _ _ | with_reducible assumption | with_reducible refine below_drewN ?_ _ | with_reducible refine Below.drew ?_ | with_reducible refine Below.setCell ?_ (by first | exact Nat.le_refl _ | (simp; done) | (simp; omega) | omega) _ | with_reducible refine Below.alloc ?_ (by first | exact Nat.le_refl _ | (simp; done) | (simp; omega) | omega) _ | exact Below.refl _ _ | assumption)⟩
  · go_wp2
    go_ret
    exact ⟨rfl, (by repeat first | with_reducible exact Below.refl _ _ | with_reducible assumption | with_reducible refine below_drewN ?_ _ | with_reducible refine Below.drew ?_ | with_reducible refine Below.setCell ?_ (by first | exact Nat.le_refl _ | (simp; done) | (simp; omega) | omega) _ | with_reducible refine Below.alloc ?_ (by first | exact Nat.le_refl _ | (simp; done) | (simp; omega) | omega) _ | exact Below.refl _ _ | assumption)⟩

theorem wrap_small {x : Int} (h : -1000000000000000000 ≤ x ∧ x ≤ 1000000000000000000) : wrap64 x = x := by
  simp [wrap64]; omega

set_option maxRecDepth 100000 in
set_option maxHeartbeats 1000000 in
theorem refCompare_any (a b c d : Int) (w : World) (ha : I64 a) (hb : I64 b) (hc : I64 c) (hd : I64 d) :
    Calls Tryd.prog 36 #[rv a b, rv c d] w fun e w' => e = .returned (.int .i64 (cmpr a b c d)) ∧ Below w.heap.size w w' := by
  have hB : Below w.heap.size w w := Below.refl _ _
  have v1 := fun w => both_any a b c d w ha hb hc hd
  cases h : (vld a b && vld c d) with
  | false =>
    have hv : Hid (cmpr a b c d = 0) := by show _ = _; simp [cmpr, h]
    simp only [h] at v1
    replace v1 := Lib.hid v1
    go_enter Tryd.func36, Tryd.ntmps36
    go_wp2_with fail
    refine name_calls ?_
    intro w1 hww1
    have mAll : Mine w1 w.heap.size 0 (.int .i64 a) ∧ Mine w1 w.heap.size 1 (.int .i64 b) ∧ Mine w1 (w.heap.size + 1) 0 (.int .i64 c) ∧ Mine w1 (w.heap.size + 1) 1 (.int .i64 d) := by
      rw [hww1]
      refine ⟨?_, ?_, ?_, ?_⟩ <;> (repeat first | with_reducible assumption | with_reducible refine Mine.drew ?_ | with_reducible refine Mine.drewN ?_ _ | ((with_reducible refine Mine.new ?_); rfl) | ((with_reducible refine Mine.newAt ?_ ?_) <;> first | rfl | (simp; done) | (simp only [World.size_alloc]; rfl)) | ((with_reducible refine Mine.set ?_ _); repeat first | exact Mine.slot (by with_reducible assumption) | with_reducible refine MineS.drew ?_ | with_reducible refine MineS.drewN ?_ _ | ((with_reducible refine MineS.new ?_); decide) | ((with_reducible refine MineS.newAt ?_ ?_) <;> first | decide | (simp; done)) | with_reducible refine MineS.set ?_ _ _ _ | with_reducible refine MineS.alloc ?_ _) | with_reducible refine Mine.other ?_ _ (by first | (left; omega) | (right; omega) | (simp; done) | (simp; omega)) | with_reducible refine Mine.alloc ?_ _)
    obtain ⟨m1, m2, m3, m4⟩ := mAll
    have hBzw1 := hB.size
    replace hB : Below w.heap.size w w1 := by rw [hww1]; exact (by repeat first | with_reducible exact Below.refl _ _ | with_reducible assumption | with_reducible refine below_drewN ?_ _ | with_reducible refine Below.drew ?_ | with_reducible refine Below.setCell ?_ (by first | exact Nat.le_refl _ | (simp; done) | (simp; omega) | omega) _ | with_reducible refine Below.alloc ?_ (by first | exact Nat.le_refl _ | (simp; done) | (simp; omega) | omega) _ | exact Below.refl _ _ | assumption)
    clear hww1 hBzw1
    refine (v1.out _).mono ?_
    rintro e w2 ⟨rfl, hb1⟩
    replace m1 := m1.below hb1
    replace m2 := m2.below hb1
    replace m3 := m3.below hb1
    replace m4 := m4.below hb1
    replace hB := hB.trans (hb1.mono hB.size)
    have hb_w2 := hb1
    clear hb1
    have c1 := m1.cell
    have f1 := m1.free
    have l1 := m1.lt
    have c2 := m2.cell
    have f2 := m2.free
    have l2 := m2.lt
    have c3 := m3.cell
    have f3 := m3.free
    have l3 := m3.lt
    have c4 := m4.cell
    have f4 := m4.free
    have l4 := m4.lt
    go_wp2
    go_ret
    exact ⟨ret_i64 hv.out.symm, hB⟩
  | true =>
    have hv : Hid (cmpr a b c d = cmpv (a * d) (c * b)) := by show _ = _; simp [cmpr, h]
    simp only [h] at v1
    replace v1 := Lib.hid v1
    rw [Bool.and_eq_true] at h
    have m1 := mul_le_9 (I64.of_vld_num h.1) (I64.of_vld_den h.2)
    have m2 := mul_le_9 (I64.of_vld_num h.2) (I64.of_vld_den h.1)
    have r1 := wrap_small m1
    have r2 := wrap_small m2
    clear m1 m2 h
    generalize hx : a * d = x at *
    generalize hy : c * b = y at *
    replace hx := Lib.hid hx
    replace hy := Lib.hid hy
    go_enter Tryd.func36, Tryd.ntmps36
    go_wp2_with fail
    refine name_calls ?_
    intro w1 hww1
    have mAll : Mine w1 w.heap.size 0 (.int .i64 a) ∧ Mine w1 w.heap.size 1 (.int .i64 b) ∧ Mine w1 (w.heap.size + 1) 0 (.int .i64 c) ∧ Mine w1 (w.heap.size + 1) 1 (.int .i64 d) := by
      rw [hww1]
      refine ⟨?_, ?_, ?_, ?_⟩ <;> (repeat first | with_reducible assumption | with_reducible refine Mine.drew ?_ | with_reducible refine Mine.drewN ?_ _ | ((with_reducible refine Mine.new ?_); rfl) | ((with_reducible refine Mine.newAt ?_ ?_) <;> first | rfl | (simp; done) | (simp only [World.size_alloc]; rfl)) | ((with_reducible refine Mine.set ?_ _); repeat first | exact Mine.slot (by with_reducible assumption) | with_reducible refine MineS.drew ?_ | with_reducible refine MineS.drewN ?_ _ | ((with_reducible refine MineS.new ?_); decide) | ((with_reducible refine MineS.newAt ?_ ?_) <;> first | decide | (simp; done)) | with_reducible refine MineS.set ?_ _ _ _ | with_reducible refine MineS.alloc ?_ _) | with_reducible refine Mine.other ?_ _ (by first | (left; omega) | (right; omega) | (simp; done) | (simp; omega)) | with_reducible refine Mine.alloc ?_ _)
    obtain ⟨m1, m2, m3, m4⟩ := mAll
    have hBzw1 := hB.size
    replace hB : Below w.heap.size w w1 := by rw [hww1]; exact (by repeat first | with_reducible exact Below.refl _ _ | with_reducible assumption | with_reducible refine below_drewN ?_ _ | with_reducible refine Below.drew ?_ | with_reducible refine Below.setCell ?_ (by first | exact Nat.le_refl _ | (simp; done) | (simp; omega) | omega) _ | with_reducible refine Below.alloc ?_ (by first | exact Nat.le_refl _ | (simp; done) | (simp; omega) | omega) _ | exact Below.refl _ _ | assumption)
    clear hww1 hBzw1
    refine (v1.out _).mono ?_
    rintro e w2 ⟨rfl, hb1⟩
    replace m1 := m1.below hb1
    replace m2 := m2.below hb1
    replace m3 := m3.below hb1
    replace m4 := m4.below hb1
    replace hB := hB.trans (hb1.mono hB.size)
    have hb_w2 := hb1
    clear hb1
    replace hx := hx.out
    replace hy := hy.out
    have c1 := m1.cell
    have f1 := m1.free
    have l1 := m1.lt
    have c2 := m2.cell
    have f2 := m2.free
    have l2 := m2.lt
    have c3 := m3.cell
    have f3 := m3.free
    have l3 := m3.lt
    have c4 := m4.cell
    have f4 := m4.free
    have l4 := m4.lt
    by_cases heq : x = y
    · have q1 : (x == y) = true := by simpa using heq
      have hc : Hid (cmpv x y = 0) := by show _ = _; simp [cmpv, heq]
      go_wp2
      go_ret
      exact ⟨ret_i64 (by rw [hv.out, hc.out]), hB⟩
    · have q1 : (x == y) = false := by simpa using heq
      by_cases hlt : x < y
      · have q2 : decide (x < y) = true := by simpa using hlt
        have hc : Hid (cmpv x y = -1) := by show _ = _; simp [cmpv, hlt]
        go_wp2
        go_ret
        exact ⟨ret_i64 (by rw [hv.out, hc.out]), hB⟩
      · have q2 : decide (x < y) = false := by simpa using hlt
        have hc : Hid (cmpv x y = 1) := by show _ = _; simp [cmpv, hlt]; omega
        go_wp2
        go_ret
        exact ⟨ret_i64 (by rw [hv.out, hc.out]), hB⟩

end Go.Proofs.YtfojgdlegojdgaaDoor
