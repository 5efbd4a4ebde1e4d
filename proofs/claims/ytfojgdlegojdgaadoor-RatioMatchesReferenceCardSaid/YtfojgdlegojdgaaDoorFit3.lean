/-
  The contracts of ratio.Div, Sub, floor, Floor, Round, where all fractions are valid.
-/
import Derived.Test.YtfojgdlegojdgaaDoorFit2
import Derived.Test.YtfojgdlegojdgaaDoorFitD
import Derived.Test.YtfojgdlegojdgaaDoorRatM
namespace Go.Proofs.YtfojgdlegojdgaaDoor
open Go.RowKit

set_option maxRecDepth 100000 in
set_option maxHeartbeats 1000000 in
theorem Div_valid (a b c d : Int) (w : World) (h1 : vld a b = true) (h2 : vld c d = true) :
    Calls Tryd.prog 32 #[rv a b, rv c d] w fun e w' => e = .returned (.tuple #[rv (divv a b c d).1 (divv a b c d).2.1, .int .i64 (divv a b c d).2.2]) ∧ Below w.heap.size w w' := by
  have hB : Below w.heap.size w w := Below.refl _ _
  have hmf : ∀ (fn : Fn) (first cap : Array Value) (w : World), (Instr.makeFunc fn first cap).run Tryd.prog w = .ok (.func fn first cap) w := fun _ _ _ _ => rfl
  have hcf : ∀ (args : Array Value) (w : World), (callFunc 57 args).run Tryd.prog w = .ok (.enter 57 args) w := fun _ _ => by simp [go_sem]
  have i1 : I64 (a * d) := ⟨by have := prod_le h1 h2; omega, by have := prod_le h1 h2; omega⟩
  have i2 : I64 (b * c) := by rw [Int.mul_comm]; exact ⟨by have := prod_le h1 h2; omega, by have := prod_le h1 h2; omega⟩
  unfold divv
  obtain ⟨r, hr⟩ : ∃ r, r = mk (a * d) (b * c) := ⟨_, rfl⟩
  rw [← hr]
  have hF := fit_calls 57 #[.pointer (some ⟨w.heap.size, 0, none⟩), .pointer (some ⟨w.heap.size + 1, 0, none⟩)] (a * d) (b * c)
  rw [← hr] at hF
  replace hF := Lib.hid hF
  have hM := Lib.hid (fun B1 B2 w' (m1 : Mine w' B1 0 (.int .i64 a)) (m2 : Mine w' B1 1 (.int .i64 b)) (m3 : Mine w' B2 0 (.int .i64 c)) (m4 : Mine w' B2 1 (.int .i64 d)) => Div1_valid a b c d B1 B2 w' h1 h2 m1 m2 m3 m4)
  clear hr h1 h2
  go_enter Tryd.func32, Tryd.ntmps32
  go_wp2_with fail
  refine name_calls ?_
  intro w1 hww1
  have mAll : Mine w1 w.heap.size 0 (.int .i64 a) ∧ Mine w1 w.heap.size 1 (.int .i64 b) ∧ Mine w1 (w.heap.size + 1) 0 (.int .i64 c) ∧ Mine w1 (w.heap.size + 1) 1 (.int .i64 d) ∧ Mine w1 (w.heap.size + 2) 0 (.int .i64 0) ∧ Mine w1 (w.heap.size + 2) 1 (.int .i64 0) := by
    rw [hww1]
    refine ⟨?_, ?_, ?_, ?_, ?_, ?_⟩ <;> (repeat first | with_reducible assumption | with_reducible refine Mine.drew ?_ | with_reducible refine Mine.drewN ?_ _ | ((with_reducible refine Mine.new ?_); rfl) | ((with_reducible refine Mine.newAt ?_ ?_) <;> first | rfl | (simp; done) | (simp only [World.size_alloc]; rfl)) | ((with_reducible refine Mine.set ?_ _); repeat first | exact Mine.slot (by with_reducible assumption) | with_reducible refine MineS.drew ?_ | with_reducible refine MineS.drewN ?_ _ | ((with_reducible refine MineS.new ?_); decide) | ((with_reducible refine MineS.newAt ?_ ?_) <;> first | decide | (simp; done)) | with_reducible refine MineS.set ?_ _ _ _ | with_reducible refine MineS.alloc ?_ _) | with_reducible refine Mine.other ?_ _ (by first | (left; omega) | (right; omega) | (simp; done) | (simp; omega)) | with_reducible refine Mine.alloc ?_ _)
  obtain ⟨m1, m2, m3, m4, m5, m6⟩ := mAll
  have hBzw1 := hB.size
  replace hB : Below w.heap.size w w1 := by rw [hww1]; exact (by repeat first | with_reducible exact Below.refl _ _ | with_reducible assumption | with_reducible refine below_drewN ?_ _ | with_reducible refine Below.drew ?_ | with_reducible refine Below.setCell ?_ (by first | exact Nat.le_refl _ | (simp; done) | (simp; omega) | omega) _ | with_reducible refine Below.alloc ?_ (by first | exact Nat.le_refl _ | (simp; done) | (simp; omega) | omega) _ | exact Below.refl _ _ | assumption)
  clear hww1 hBzw1
  refine (hF.out _ i1 i2 hcf (fun w' hb => hM.out _ _ w' (m1.below hb) (m2.below hb) (m3.below hb) (m4.below hb))).mono ?_
  rintro e wc1 ⟨rfl, hb1⟩
  replace m1 := m1.below hb1
  replace m2 := m2.below hb1
  replace m3 := m3.below hb1
  replace m4 := m4.below hb1
  replace m5 := m5.below hb1
  replace m6 := m6.below hb1
  replace hB := hB.trans (hb1.mono hB.size)
  have hb_wc1 := hb1
  clear hb1
  have c5 := m5.cell
  have f5 := m5.free
  have l5 := m5.lt
  have c6 := m6.cell
  have f6 := m6.free
  have l6 := m6.lt
  go_wp2
  clear c5 f5 l5
  clear c6 f6 l6
  refine name_post ?_
  intro w4 hww4
  have mAll : Mine w4 w.heap.size 0 (.int .i64 a) ∧ Mine w4 w.heap.size 1 (.int .i64 b) ∧ Mine w4 (w.heap.size + 1) 0 (.int .i64 c) ∧ Mine w4 (w.heap.size + 1) 1 (.int .i64 d) ∧ Mine w4 (w.heap.size + 2) 0 (.int .i64 r.1) ∧ Mine w4 (w.heap.size + 2) 1 (.int .i64 r.2.1) := by
    rw [hww4]
    refine ⟨?_, ?_, ?_, ?_, ?_, ?_⟩ <;> (repeat first | with_reducible assumption | with_reducible refine Mine.drew ?_ | with_reducible refine Mine.drewN ?_ _ | ((with_reducible refine Mine.new ?_); rfl) | ((with_reducible refine Mine.newAt ?_ ?_) <;> first | rfl | (simp; done) | (simp only [World.size_alloc]; rfl)) | ((with_reducible refine Mine.set ?_ _); repeat first | exact Mine.slot (by with_reducible assumption) | with_reducible refine MineS.drew ?_ | with_reducible refine MineS.drewN ?_ _ | ((with_reducible refine MineS.new ?_); decide) | ((with_reducible refine MineS.newAt ?_ ?_) <;> first | decide | (simp; done)) | with_reducible refine MineS.set ?_ _ _ _ | with_reducible refine MineS.alloc ?_ _) | with_reducible refine Mine.other ?_ _ (by first | (left; omega) | (right; omega) | (simp; done) | (simp; omega)) | with_reducible refine Mine.alloc ?_ _)
  clear m1 m2 m3 m4 m5 m6
  obtain ⟨m1, m2, m3, m4, m5, m6⟩ := mAll
  have hBzw4 := hB.size
  replace hB : Below w.heap.size w w4 := by rw [hww4]; exact (by repeat first | with_reducible exact Below.refl _ _ | with_reducible assumption | with_reducible refine below_drewN ?_ _ | with_reducible refine Below.drew ?_ | with_reducible refine Below.setCell ?_ (by first | exact Nat.le_refl _ | (simp; done) | (simp; omega) | omega) _ | with_reducible refine Below.alloc ?_ (by first | exact Nat.le_refl _ | (simp; done) | (simp; omega) | omega) _ | exact Below.refl _ _ | assumption)
  clear hww4 hBzw4
  have e1 := m5.cell
  have e2 := m6.cell
  exact bodyPost_ret (v := .tuple #[rv r.1 r.2.1, .int .i64 r.2.2]) (by simp [results, Tryd.results32, go_sem, e1, e2]) rfl ⟨rfl, hB⟩

theorem vld_neg {c d : Int} (h : vld c d = true) : vld (-c) d = true := by
  simpa [vld] using h

set_option maxRecDepth 100000 in
set_option maxHeartbeats 1000000 in
theorem Sub_valid (a b c d : Int) (w : World) (h1 : vld a b = true) (h2 : vld c d = true) :
    Calls Tryd.prog 25 #[rv a b, rv c d] w fun e w' => e = .returned (.tuple #[rv (subv a b c d).1 (subv a b c d).2.1, .int .i64 (subv a b c d).2.2]) ∧ Below w.heap.size w w' := by
  have hB : Below w.heap.size w w := Below.refl _ _
  have hA := fun w => Add_valid a b (-c) d w h1 (vld_neg h2)
  unfold subv
  have hc := I64.of_vld_num h2
  have hcl : -9223372036854775808 ≤ -c := by omega
  have hcu : -c ≤ 9223372036854775807 := by omega
  generalize mk (a * d + -c * b) (b * d) = r at *
  replace hA := Lib.hid hA
  go_enter Tryd.func25, Tryd.ntmps25
  go_wp2_with fail
  refine name_calls ?_
  intro w1 hww1
  have mAll : Mine w1 (w.heap.size + 1 + 1) 0 (.int .i64 0) ∧ Mine w1 (w.heap.size + 1 + 1) 1 (.int .i64 0) := by
    rw [hww1]
    refine ⟨?_, ?_⟩ <;> (repeat first | with_reducible assumption | with_reducible refine Mine.drew ?_ | with_reducible refine Mine.drewN ?_ _ | ((with_reducible refine Mine.new ?_); rfl) | ((with_reducible refine Mine.newAt ?_ ?_) <;> first | rfl | (simp; done) | (simp only [World.size_alloc]; rfl)) | ((with_reducible refine Mine.set ?_ _); repeat first | exact Mine.slot (by with_reducible assumption) | with_reducible refine MineS.drew ?_ | with_reducible refine MineS.drewN ?_ _ | ((with_reducible refine MineS.new ?_); decide) | ((with_reducible refine MineS.newAt ?_ ?_) <;> first | decide | (simp; done)) | with_reducible refine MineS.set ?_ _ _ _ | with_reducible refine MineS.alloc ?_ _) | with_reducible refine Mine.other ?_ _ (by first | (left; omega) | (right; omega) | (simp; done) | (simp; omega)) | with_reducible refine Mine.alloc ?_ _)
  obtain ⟨m1, m2⟩ := mAll
  have hBzw1 := hB.size
  replace hB : Below w.heap.size w w1 := by rw [hww1]; exact (by repeat first | with_reducible exact Below.refl _ _ | with_reducible assumption | with_reducible refine below_drewN ?_ _ | with_reducible refine Below.drew ?_ | with_reducible refine Below.setCell ?_ (by first | exact Nat.le_refl _ | (simp; done) | (simp; omega) | omega) _ | with_reducible refine Below.alloc ?_ (by first | exact Nat.le_refl _ | (simp; done) | (simp; omega) | omega) _ | exact Below.refl _ _ | assumption)
  clear hww1 hBzw1
  refine (hA.out _).mono ?_
  rintro e wc2 ⟨rfl, hb1⟩
  replace m1 := m1.below hb1
  replace m2 := m2.below hb1
  replace hB := hB.trans (hb1.mono hB.size)
  have hb_wc2 := hb1
  clear hb1
  have c1 := m1.cell
  have f1 := m1.free
  have l1 := m1.lt
  have c2 := m2.cell
  have f2 := m2.free
  have l2 := m2.lt
  go_wp2
  clear c1 f1 l1
  clear c2 f2 l2
  refine name_post ?_
  intro w4 hww4
  have mAll : Mine w4 (w.heap.size + 1 + 1) 0 (.int .i64 r.1) ∧ Mine w4 (w.heap.size + 1 + 1) 1 (.int .i64 r.2.1) := by
    rw [hww4]
    refine ⟨?_, ?_⟩ <;> (repeat first | with_reducible assumption | with_reducible refine Mine.drew ?_ | with_reducible refine Mine.drewN ?_ _ | ((with_reducible refine Mine.new ?_); rfl) | ((with_reducible refine Mine.newAt ?_ ?_) <;> first | rfl | (simp; done) | (simp only [World.size_alloc]; rfl)) | ((with_reducible refine Mine.set ?_ _); repeat first | exact Mine.slot (by with_reducible assumption) | with_reducible refine MineS.drew ?_ | with_reducible refine MineS.drewN ?_ _ | ((with_reducible refine MineS.new ?_); decide) | ((with_reducible refine MineS.newAt ?_ ?_) <;> first | decide | (simp; done)) | with_reducible refine MineS.set ?_ _ _ _ | with_reducible refine MineS.alloc ?_ _) | with_reducible refine Mine.other ?_ _ (by first | (left; omega) | (right; omega) | (simp; done) | (simp; omega)) | with_reducible refine Mine.alloc ?_ _)
  clear m1 m2
  obtain ⟨m1, m2⟩ := mAll
  have hBzw4 := hB.size
  replace hB : Below w.heap.size w w4 := by rw [hww4]; exact (by repeat first | with_reducible exact Below.refl _ _ | with_reducible assumption | with_reducible refine below_drewN ?_ _ | with_reducible refine Below.drew ?_ | with_reducible refine Below.setCell ?_ (by first | exact Nat.le_refl _ | (simp; done) | (simp; omega) | omega) _ | with_reducible refine Below.alloc ?_ (by first | exact Nat.le_refl _ | (simp; done) | (simp; omega) | omega) _ | exact Below.refl _ _ | assumption)
  clear hww4 hBzw4
  have e1 := m1.cell
  have e2 := m2.cell
  exact bodyPost_ret (v := .tuple #[rv r.1 r.2.1, .int .i64 r.2.2]) (by simp [results, Tryd.results25, go_sem, e1, e2]) rfl ⟨rfl, hB⟩

theorem floor_neg (n d : Int) (hd : 0 < d) : -((d - 1 - n) / d) = n / d := by
  have h1 := Int.mul_ediv_add_emod n d
  have h2 := Int.emod_nonneg n (show d ≠ 0 by omega)
  have h3 := Int.emod_lt_of_pos n hd
  have e : d - 1 - n = (d - 1 - n % d) + d * (-(n / d)) := by
    rw [Int.mul_neg]; omega
  rw [e, Int.add_mul_ediv_left _ _ (by omega), Int.ediv_eq_zero_of_lt (by omega) (by omega)]
  omega

set_option maxHeartbeats 400000 in
theorem floor_any (n d : Int) (w : World) (hn1 : -2000000001000000000 ≤ n) (hn2 : n ≤ 2000000001000000000) (hd1 : 0 < d) (hd2 : d ≤ 2000000000) :
    Calls Tryd.prog 47 #[.int .i64 n, .int .i64 d] w fun e w' => e = .returned (.int .i64 (n / d)) ∧ w' = w := by
  by_cases h0 : n < 0
  · have hd : decide (n < 0) = true := by simpa using h0
    have hf := floor_neg n d hd1
    have hx : 0 ≤ d - 1 - n := by omega
    have hq0 : 0 ≤ (d - 1 - n) / d := Int.ediv_nonneg hx (by omega)
    have hq1 : (d - 1 - n) / d ≤ d - 1 - n := Int.ediv_le_self _ hx
    replace hf := Lib.hid hf
    go_enter Tryd.func47, Tryd.ntmps47
    go_wp2
    go_ret
    exact ⟨ret_i64 hf.out, rfl⟩
  · have hd : decide (n < 0) = false := by simpa using h0
    have hx : 0 ≤ n := by omega
    have hq0 : 0 ≤ n / d := Int.ediv_nonneg hx (by omega)
    have hq1 : n / d ≤ n := Int.ediv_le_self _ hx
    go_enter Tryd.func47, Tryd.ntmps47
    go_wp2
    go_ret
    exact ⟨rfl, rfl⟩

set_option maxHeartbeats 1000000 in
theorem Floor_any (n d : Int) (w : World) (hn : I64 n) (hd : I64 d) :
    Calls Tryd.prog 20 #[rv n d] w fun e w' => e = .returned (.int .i64 (floorv n d)) ∧ Below w.heap.size w w' := by
  have hV := Lib.hid (fun w => Valid_any n d w hn hd)
  by_cases h : vld n d = true
  · have hv : Hid (floorv n d = n / d) := by show _ = _; simp [floorv, h]
    have b1 := I64.of_vld_num h
    have b2 := I64.of_vld_den h
    replace h := Lib.hid h
    go_enter Tryd.func20, Tryd.ntmps20
    go_wp2_with fail
    refine (hV.out _).mono ?_; rintro e w1 ⟨rfl, k1, rfl⟩
    rw [h.out]
    go_wp2_with fail
    refine (floor_any _ _ _ (by omega) (by omega) (by omega) (by omega)).mono ?_; rintro e w1 ⟨rfl, rfl⟩
    go_wp2
    go_ret
    exact ⟨ret_i64 hv.out.symm, (by repeat first | with_reducible exact Below.refl _ _ | with_reducible assumption | with_reducible refine below_drewN ?_ _ | with_reducible refine Below.drew ?_ | with_reducible refine Below.setCell ?_ (by first | exact Nat.le_refl _ | (simp; done) | (simp; omega) | omega) _ | with_reducible refine Below.alloc ?_ (by first | exact Nat.le_refl _ | (simp; done) | (simp; omega) | omega) _ | exact Below.refl _ _ | assumption)⟩
  · have h' : vld n d = false := by simpa using h
    have hv : Hid (floorv n d = 0) := by show _ = _; simp [floorv, h']
    replace h' := Lib.hid h'
    clear h
    go_enter Tryd.func20, Tryd.ntmps20
    go_wp2_with fail
    refine (hV.out _).mono ?_; rintro e w1 ⟨rfl, k1, rfl⟩
    rw [h'.out]
    go_wp2
    go_ret
    exact ⟨ret_i64 hv.out.symm, (by repeat first | with_reducible exact Below.refl _ _ | with_reducible assumption | with_reducible refine below_drewN ?_ _ | with_reducible refine Below.drew ?_ | with_reducible refine Below.setCell ?_ (by first | exact Nat.le_refl _ | (simp; done) | (simp; omega) | omega) _ | with_reducible refine Below.alloc ?_ (by first | exact Nat.le_refl _ | (simp; done) | (simp; omega) | omega) _ | exact Below.refl _ _ | assumption)⟩

theorem rk_bounds {a b k : Int} (h : vld a b = true) (hk : 1 ≤ k ∧ k ≤ 1000000000) : -2000000000000000000 ≤ 2 * a * k ∧ 2 * a * k ≤ 2000000000000000000 := by
  have h1 := I64.of_vld_num h
  have h2 : (2 * a * k).natAbs ≤ 2000000000 * 1000000000 := by
    rw [Int.natAbs_mul]; exact Nat.mul_le_mul (by omega) (by omega)
  omega
theorem rkv_le {a b k : Int} (h : vld a b = true) (hk : 1 ≤ k ∧ k ≤ 1000000000) : I64 (rkv a b k) := by
  have h1 := rk_bounds h hk
  have h2 := I64.of_vld_den h
  have h3 := div_bounds (n := 2 * a * k + b) (d := 2 * b) (by omega)
  unfold rkv
  generalize hq : (2 * a * k + b) / (2 * b) = q at *
  generalize 2 * a * k = x at *
  obtain ⟨h3, h4⟩ := h3
  constructor
  · by_cases hq0 : q < 0
    · have g : (q + 1) * (2 * b) ≤ (q + 1) * 1 := Int.mul_le_mul_of_nonpos_left (by omega) (by omega)
      omega
    · omega
  · by_cases hq0 : 0 < q
    · have g : q * 1 ≤ q * (2 * b) := Int.mul_le_mul_of_nonneg_left (by omega) (by omega)
      omega
    · omega

set_option maxRecDepth 100000 in
set_option maxHeartbeats 1000000 in
theorem Round1_valid (a b k : Int) (B1 B2 : Nat) (w : World) (h : vld a b = true) (hk1 : 1 ≤ k) (hk2 : k ≤ 1000000000)
    (m1 : Mine w B1 0 (.int .i64 a)) (m2 : Mine w B1 1 (.int .i64 b)) (m3 : Mine w B2 0 (.int .i64 k)) :
    Calls Tryd.prog 50 #[.pointer (some ⟨B1, 0, none⟩), .pointer (some ⟨B2, 0, none⟩)] w fun e w' => e = .returned (.tuple #[.int .i64 (rkv a b k), .int .i64 k]) ∧ Below w.heap.size w w' := by
  have hB : Below w.heap.size w w := Below.refl _ _
  have ho := Lib.hid (fun w => of_valid a b w h)
  have b1 := I64.of_vld_num h
  have b2 := I64.of_vld_den h
  have b3 := rk_bounds h ⟨hk1, hk2⟩
  have r1 : wrap64 (2 * a) = 2 * a := by simp [wrap64]; omega
  have r2 : wrap64 (2 * b) = 2 * b := by simp [wrap64]; omega
  have r3 : wrap64 (2 * a * k) = 2 * a * k := by simp [wrap64]; omega
  have r4 : wrap64 (2 * a * k + b) = 2 * a * k + b := by simp [wrap64]; omega
  have hv : Hid (rkv a b k = (2 * a * k + b) / (2 * b)) := by show _ = _; rfl
  have g1 : -2000000001000000000 ≤ 2 * a * k + b := by omega
  have g2 : 2 * a * k + b ≤ 2000000001000000000 := by omega
  have g3 : 0 < 2 * b := by omega
  have g4 : 2 * b ≤ 2000000000 := by omega
  clear b1 b2 b3
  go_enter Tryd.func50, Tryd.ntmps50
  have c1 := m1.cell
  have f1 := m1.free
  have l1 := m1.lt
  have c2 := m2.cell
  have f2 := m2.free
  have l2 := m2.lt
  have c3 := m3.cell
  have f3 := m3.free
  have l3 := m3.lt
  go_wp2_with fail
  clear c1 f1 l1
  clear c2 f2 l2
  clear c3 f3 l3
  refine (ho.out _).mono ?_
  rintro e v1 ⟨rfl, hb1⟩
  replace m1 := m1.below hb1
  replace m2 := m2.below hb1
  replace m3 := m3.below hb1
  replace hB := hB.trans (hb1.mono hB.size)
  have hb_v1 := hb1
  clear hb1
  have c1 := m1.cell
  have f1 := m1.free
  have l1 := m1.lt
  have c2 := m2.cell
  have f2 := m2.free
  have l2 := m2.lt
  have c3 := m3.cell
  have f3 := m3.free
  have l3 := m3.lt
  go_wp2_with fail
  clear c1 f1 l1
  clear c2 f2 l2
  clear c3 f3 l3
  refine name_wp ?_
  intro w2 hww2
  have mAll : Mine w2 B1 0 (.int .i64 a) ∧ Mine w2 B1 1 (.int .i64 b) ∧ Mine w2 B2 0 (.int .i64 k) ∧ Mine w2 v1.heap.size 0 (.int .i64 a) ∧ Mine w2 v1.heap.size 1 (.int .i64 b) := by
    rw [hww2]
    refine ⟨?_, ?_, ?_, ?_, ?_⟩ <;> (repeat first | with_reducible assumption | with_reducible refine Mine.drew ?_ | with_reducible refine Mine.drewN ?_ _ | ((with_reducible refine Mine.new ?_); rfl) | ((with_reducible refine Mine.newAt ?_ ?_) <;> first | rfl | (simp; done) | (simp only [World.size_alloc]; rfl)) | ((with_reducible refine Mine.set ?_ _); repeat first | exact Mine.slot (by with_reducible assumption) | with_reducible refine MineS.drew ?_ | with_reducible refine MineS.drewN ?_ _ | ((with_reducible refine MineS.new ?_); decide) | ((with_reducible refine MineS.newAt ?_ ?_) <;> first | decide | (simp; done)) | with_reducible refine MineS.set ?_ _ _ _ | with_reducible refine MineS.alloc ?_ _) | with_reducible refine Mine.other ?_ _ (by first | (left; omega) | (right; omega) | (simp; done) | (simp; omega)) | with_reducible refine Mine.alloc ?_ _)
  clear m1 m2 m3
  obtain ⟨m1, m2, m3, m4, m5⟩ := mAll
  have hBzw2 := hB.size
  replace hB : Below w.heap.size w w2 := by rw [hww2]; exact (by repeat first | with_reducible exact Below.refl _ _ | with_reducible assumption | with_reducible refine below_drewN ?_ _ | with_reducible refine Below.drew ?_ | with_reducible refine Below.setCell ?_ (by first | exact Nat.le_refl _ | (simp; done) | (simp; omega) | omega) _ | with_reducible refine Below.alloc ?_ (by first | exact Nat.le_refl _ | (simp; done) | (simp; omega) | omega) _ | exact Below.refl _ _ | assumption)
  clear hww2 hBzw2
  have c3 := m3.cell
  have f3 := m3.free
  have l3 := m3.lt
  have c4 := m4.cell
  have f4 := m4.free
  have l4 := m4.lt
  have c5 := m5.cell
  have f5 := m5.free
  have l5 := m5.lt
  go_quiet ((go_at_call 47; exact Calls.quiet_of_same (floor_any _ _ _ (by assumption) (by assumption) (by assumption) (by assumption))))
  go_wp2
  exact bodyPost_ret (v := .tuple #[.int .i64 ((2 * a * k + b) / (2 * b)), .int .i64 k]) (by simp [results, Tryd.results50, go_sem]) rfl ⟨by rw [hv.out], below_drewN hB _⟩

set_option maxRecDepth 100000 in
set_option maxHeartbeats 1000000 in
theorem Round_valid (a b k : Int) (w : World) (h : vld a b = true) (hk1 : 1 ≤ k) (hk2 : k ≤ 1000000000) :
    Calls Tryd.prog 22 #[rv a b, .int .i64 k] w fun e w' => e = .returned (.tuple #[rv (roundv a b k).1 (roundv a b k).2.1, .int .i64 (roundv a b k).2.2]) ∧ Below w.heap.size w w' := by
  have hB : Below w.heap.size w w := Below.refl _ _
  have hmf : ∀ (fn : Fn) (first cap : Array Value) (w : World), (Instr.makeFunc fn first cap).run Tryd.prog w = .ok (.func fn first cap) w := fun _ _ _ _ => rfl
  have hcf : ∀ (args : Array Value) (w : World), (callFunc 50 args).run Tryd.prog w = .ok (.enter 50 args) w := fun _ _ => by simp [go_sem]
  have i1 : I64 (rkv a b k) := rkv_le h ⟨hk1, hk2⟩
  have i2 : I64 k := ⟨by omega, by omega⟩
  have d1 : decide (k < 1) = false := by simp; omega
  have d2 : decide (1000000000 < k) = false := by simp; omega
  unfold roundv
  obtain ⟨r, hr⟩ : ∃ r, r = mk (rkv a b k) k := ⟨_, rfl⟩
  rw [← hr]
  have hF := fit_calls 50 #[.pointer (some ⟨w.heap.size, 0, none⟩), .pointer (some ⟨w.heap.size + 1, 0, none⟩)] (rkv a b k) k
  rw [← hr] at hF
  replace hF := Lib.hid hF
  have hM := Lib.hid (fun B1 B2 w' (m1 : Mine w' B1 0 (.int .i64 a)) (m2 : Mine w' B1 1 (.int .i64 b)) (m3 : Mine w' B2 0 (.int .i64 k)) => Round1_valid a b k B1 B2 w' h hk1 hk2 m1 m2 m3)
  clear hr h
  go_enter Tryd.func22, Tryd.ntmps22
  go_wp2_with fail
  refine name_calls ?_
  intro w1 hww1
  have mAll : Mine w1 w.heap.size 0 (.int .i64 a) ∧ Mine w1 w.heap.size 1 (.int .i64 b) ∧ Mine w1 (w.heap.size + 1) 0 (.int .i64 k) ∧ Mine w1 (w.heap.size + 1 + 1) 0 (.int .i64 0) ∧ Mine w1 (w.heap.size + 1 + 1) 1 (.int .i64 0) := by
    rw [hww1]
    refine ⟨?_, ?_, ?_, ?_, ?_⟩ <;> (repeat first | with_reducible assumption | with_reducible refine Mine.drew ?_ | with_reducible refine Mine.drewN ?_ _ | ((with_reducible refine Mine.new ?_); rfl) | ((with_reducible refine Mine.newAt ?_ ?_) <;> first | rfl | (simp; done) | (simp only [World.size_alloc]; rfl)) | ((with_reducible refine Mine.set ?_ _); repeat first | exact Mine.slot (by with_reducible assumption) | with_reducible refine MineS.drew ?_ | with_reducible refine MineS.drewN ?_ _ | ((with_reducible refine MineS.new ?_); decide) | ((with_reducible refine MineS.newAt ?_ ?_) <;> first | decide | (simp; done)) | with_reducible refine MineS.set ?_ _ _ _ | with_reducible refine MineS.alloc ?_ _) | with_reducible refine Mine.other ?_ _ (by first | (left; omega) | (right; omega) | (simp; done) | (simp; omega)) | with_reducible refine Mine.alloc ?_ _)
  obtain ⟨m1, m2, m3, m5, m6⟩ := mAll
  have hBzw1 := hB.size
  replace hB : Below w.heap.size w w1 := by rw [hww1]; exact (by repeat first | with_reducible exact Below.refl _ _ | with_reducible assumption | with_reducible refine below_drewN ?_ _ | with_reducible refine Below.drew ?_ | with_reducible refine Below.setCell ?_ (by first | exact Nat.le_refl _ | (simp; done) | (simp; omega) | omega) _ | with_reducible refine Below.alloc ?_ (by first | exact Nat.le_refl _ | (simp; done) | (simp; omega) | omega) _ | exact Below.refl _ _ | assumption)
  clear hww1 hBzw1
  refine (hF.out _ i1 i2 hcf (fun w' hb => hM.out _ _ w' (m1.below hb) (m2.below hb) (m3.below hb))).mono ?_
  rintro e wc3 ⟨rfl, hb1⟩
  replace m1 := m1.below hb1
  replace m2 := m2.below hb1
  replace m3 := m3.below hb1
  replace m5 := m5.below hb1
  replace m6 := m6.below hb1
  replace hB := hB.trans (hb1.mono hB.size)
  have hb_wc3 := hb1
  clear hb1
  have c5 := m5.cell
  have f5 := m5.free
  have l5 := m5.lt
  have c6 := m6.cell
  have f6 := m6.free
  have l6 := m6.lt
  go_wp2
  clear c5 f5 l5
  clear c6 f6 l6
  refine name_post ?_
  intro w4 hww4
  have mAll : Mine w4 w.heap.size 0 (.int .i64 a) ∧ Mine w4 w.heap.size 1 (.int .i64 b) ∧ Mine w4 (w.heap.size + 1) 0 (.int .i64 k) ∧ Mine w4 (w.heap.size + 1 + 1) 0 (.int .i64 r.1) ∧ Mine w4 (w.heap.size + 1 + 1) 1 (.int .i64 r.2.1) := by
    rw [hww4]
    refine ⟨?_, ?_, ?_, ?_, ?_⟩ <;> (repeat first | with_reducible assumption | with_reducible refine Mine.drew ?_ | with_reducible refine Mine.drewN ?_ _ | ((with_reducible refine Mine.new ?_); rfl) | ((with_reducible refine Mine.newAt ?_ ?_) <;> first | rfl | (simp; done) | (simp only [World.size_alloc]; rfl)) | ((with_reducible refine Mine.set ?_ _); repeat first | exact Mine.slot (by with_reducible assumption) | with_reducible refine MineS.drew ?_ | with_reducible refine MineS.drewN ?_ _ | ((with_reducible refine MineS.new ?_); decide) | ((with_reducible refine MineS.newAt ?_ ?_) <;> first | decide | (simp; done)) | with_reducible refine MineS.set ?_ _ _ _ | with_reducible refine MineS.alloc ?_ _) | with_reducible refine Mine.other ?_ _ (by first | (left; omega) | (right; omega) | (simp; done) | (simp; omega)) | with_reducible refine Mine.alloc ?_ _)
  clear m1 m2 m3 m5 m6
  obtain ⟨m1, m2, m3, m5, m6⟩ := mAll
  have hBzw4 := hB.size
  replace hB : Below w.heap.size w w4 := by rw [hww4]; exact (by repeat first | with_reducible exact Below.refl _ _ | with_reducible assumption | with_reducible refine below_drewN ?_ _ | with_reducible refine Below.drew ?_ | with_reducible refine Below.setCell ?_ (by first | exact Nat.le_refl _ | (simp; done) | (simp; omega) | omega) _ | with_reducible refine Below.alloc ?_ (by first | exact Nat.le_refl _ | (simp; done) | (simp; omega) | omega) _ | exact Below.refl _ _ | assumption)
  clear hww4 hBzw4
  have e1 := m5.cell
  have e2 := m6.cell
  exact bodyPost_ret (v := .tuple #[rv r.1 r.2.1, .int .i64 r.2.2]) (by simp [results, Tryd.results22, go_sem, e1, e2]) rfl ⟨rfl, hB⟩
end Go.Proofs.YtfojgdlegojdgaaDoor
