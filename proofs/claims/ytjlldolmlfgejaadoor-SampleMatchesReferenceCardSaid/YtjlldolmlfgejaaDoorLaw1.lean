/-
  The contracts of the law's helpers: pick, is, level; of the reference's size, divisor, Make.
-/
import Derived.Test.YtjlldolmlfgejaaDoorSample3
namespace Go.Proofs.YtjlldolmlfgejaaDoor
open Go.RowKit

theorem run_eq_rv (x y a b : Int) (w : World) : (binOp .eql 23 (.agg #[.int .i64 x, .int .i64 y]) (.agg #[.int .i64 a, .int .i64 b])).run Tryd.prog w = .ok (.bool (x == a && y == b)) w := by
  by_cases h1 : x = a
  · by_cases h2 : y = b
    · subst h1 h2
      go_simp
    · have h2' : (y == b) = false := by simpa using h2
      subst h1
      go_simp
  · have h1' : (x == a) = false := by simpa using h1
    go_simp
theorem run_ne_rv (x y a b : Int) (w : World) : (binOp .neq 23 (.agg #[.int .i64 x, .int .i64 y]) (.agg #[.int .i64 a, .int .i64 b])).run Tryd.prog w = .ok (.bool !(x == a && y == b)) w := by
  by_cases h1 : x = a
  · by_cases h2 : y = b
    · subst h1 h2
      go_simp
    · have h2' : (y == b) = false := by simpa using h2
      subst h1
      go_simp
  · have h1' : (x == a) = false := by simpa using h1
    go_simp
/-- pick: an integer mapped to 0 .. n - 1. -/
def pickv (c : Int) (n : Nat) : Nat := (if c < 0 then -(c + 1) else c).toNat % n
theorem pickv_lt (c : Int) (n : Nat) (h : 1 ≤ n) : pickv c n < n := Nat.mod_lt _ (by omega)

set_option maxHeartbeats 400000 in
theorem pick_any (c : Int) (n : Nat) (w : World) (hc : I64 c) (h1 : 1 ≤ n) (h2 : n ≤ 1000000000) :
    Calls Tryd.prog 12 #[.int .i64 c, .int .i64 n] w fun e w' => e = .returned (.int .i64 (pickv c n : Nat)) ∧ w' = w := by
  obtain ⟨hc1, hc2⟩ := hc
  by_cases h0 : c < 0
  · have hv : Hid (((pickv c n : Nat) : Int) = (-(c + 1)) % (n : Int)) := by
      show _ = _
      rw [pickv, if_pos h0, Int.natCast_emod, Int.toNat_of_nonneg (by omega)]
    have hd : decide (c < 0) = true := by simpa using h0
    have hnn : 0 ≤ -(c + 1) := by omega
    go_enter Tryd.func12, Tryd.ntmps12
    go_wp2
    go_ret
    exact ⟨ret_i64 (by rw [← Int.neg_tmod, Int.tmod_eq_emod_of_nonneg hnn]; exact hv.out.symm), rfl⟩
  · have hv : Hid (((pickv c n : Nat) : Int) = c % (n : Int)) := by
      show _ = _
      rw [pickv, if_neg h0, Int.natCast_emod, Int.toNat_of_nonneg (by omega)]
    have hd : decide (c < 0) = false := by simpa using h0
    have h0' : 0 ≤ c := by omega
    go_enter Tryd.func12, Tryd.ntmps12
    go_wp2
    go_ret
    exact ⟨ret_i64 hv.out.symm, rfl⟩

set_option maxHeartbeats 400000 in
theorem is_any (x y : Int) (w : World) :
    Calls Tryd.prog 24 #[.int .i64 x, .int .i64 y] w fun e w' => e = .returned (rv x y) ∧ Below w.heap.size w w' := by
  go_enter Tryd.func24, Tryd.ntmps24
  go_wp2
  exact bodyPost_ret (v := rv x y) (by simp [results, Tryd.results24, go_sem]) rfl ⟨rfl, (by repeat first | exact Below.refl _ _ | assumption | refine below_drewN ?_ _ | refine Below.drew ?_ | refine Below.setCell ?_ (by first | exact Nat.le_refl _ | (simp; done) | (simp; omega) | omega) _ | refine Below.alloc ?_ (by first | exact Nat.le_refl _ | (simp; done) | (simp; omega) | omega) _)⟩

set_option maxHeartbeats 400000 in
theorem size_any (n : Int) (w : World) (h : I64 n) :
    Calls Tryd.prog 60 #[.int .i64 n] w fun e w' => e = .returned (.int .u64 n.natAbs) ∧ w' = w := by
  obtain ⟨h1, h2⟩ := h
  by_cases h0 : n < 0
  · have hd : decide (n < 0) = true := by simpa using h0
    go_enter Tryd.func60, Tryd.ntmps60
    go_wp2
    go_ret
    exact ⟨ret_u64 (by omega), rfl⟩
  · have hd : decide (n < 0) = false := by simpa using h0
    have h0' : 0 ≤ n := by omega
    go_enter Tryd.func60, Tryd.ntmps60
    go_wp2
    go_ret
    exact ⟨ret_u64 (by omega), rfl⟩

set_option maxHeartbeats 400000 in
theorem divisor_any (a b : Nat) (w : World) (ha : Hid ((a : Int) < U64)) (hb : Hid ((b : Int) < U64)) :
    Calls Tryd.prog 59 #[.int .u64 a, .int .u64 b] w fun e w' => e = .returned (.int .u64 (Nat.gcd a b)) ∧ ∃ n, w' = w.drewN n := by
  go_enter Tryd.func59, Tryd.ntmps59
  go_wp2
  go_loopw [0, 1] (fun x y wr => ∃ c d n : Nat, x = .int .u64 c ∧ y = .int .u64 d ∧ Hid (Nat.gcd c d = Nat.gcd a b) ∧ Hid ((c : Int) < U64) ∧ Hid ((d : Int) < U64) ∧ wr = w.drewN n) (fun _ y _ => (intOf y).toNat)
  case atStart => exact ⟨a, b, 0, rfl, rfl, rfl, ha, hb, rfl⟩
  case round =>
    obtain ⟨c, d, n, rfl, rfl, hg, hc, hd, rfl⟩ := hrel
    by_cases h0 : d = 0
    · subst h0
      go_wp2
      go_ret
      exact ⟨ret_u64 (by rw [← hg.out]; simp), n, rfl⟩
    · have h0' : decide ((0 : Int) < (d : Int)) = true := by simp; omega
      have h0'' : decide (0 < d) = true := by simp; omega
      have h1 : (1 : Int) ≤ d := by omega
      go_wp2
      go_quiet (fail)
      go_wp2
      go_roundw
      case rel =>
        have hl : c % d < d := Nat.mod_lt _ (by omega)
        exact ⟨d, c % d, n + nq, rfl, by go_num, by
          have := hg.out
          show _ = _
          rw [← this, Nat.gcd_comm c d, Nat.gcd_rec d c, Nat.gcd_comm], hd, by
          have := hd.out
          show ((c % d : Nat) : Int) < U64
          omega, World.drewN_drewN _ _ _⟩
      case measure =>
        have hl : c % d < d := Nat.mod_lt _ (by omega)
        simp [intOf]; omega

set_option maxHeartbeats 400000 in
theorem refMake_zero (n : Int) (w : World) :
    Calls Tryd.prog 34 #[.int .i64 n, .int .i64 0] w fun e w' => e = .returned (.tuple #[rv (mk n 0).1 (mk n 0).2.1, .int .i64 (mk n 0).2.2]) ∧ Below w.heap.size w w' := by
  go_enter Tryd.func34, Tryd.ntmps34
  go_wp2
  exact bodyPost_ret (v := .tuple #[rv 0 0, .int .i64 30]) (by simp [results, Tryd.results34, go_sem]) rfl ⟨rfl, (Below.refl _ _).alloc (Nat.le_refl _) _⟩

set_option maxHeartbeats 1000000 in
theorem refMake_any (n d : Int) (w : World) (hn : I64 n) (hd : I64 d) (h0 : d ≠ 0) :
    Calls Tryd.prog 34 #[.int .i64 n, .int .i64 d] w fun e w' => e = .returned (.tuple #[rv (mk n d).1 (mk n d).2.1, .int .i64 (mk n d).2.2]) ∧ Below w.heap.size w w' := by
  obtain ⟨k, hk⟩ : ∃ k, k = Nat.gcd n.natAbs d.natAbs := ⟨_, rfl⟩
  have hk1 : (1 : Int) ≤ k := by have : 0 < Nat.gcd n.natAbs d.natAbs := Nat.gcd_pos_of_pos_right _ (by omega); omega
  have hk0 : ¬ k = 0 := by omega
  have h0b : (d == 0) = false := by simpa using h0
  have hg := divisor_any n.natAbs d.natAbs
  rw [← hk] at hg
  have Hk := Lib.hid hk; clear hk
  have Hg := Lib.hid hg; clear hg
  have gn := natAbs_u64 n hn
  have gd := natAbs_u64 d hd
  have hmk := Lib.hid (mk_eq n d h0 k Hk.out)
  clear h0
  go_enter Tryd.func34, Tryd.ntmps34
  go_wp2_with fail
  refine (size_any _ _ hn).mono ?_; rintro e w1 ⟨rfl, rfl⟩
  go_wp2_with fail
  refine (size_any _ _ hd).mono ?_; rintro e w1 ⟨rfl, rfl⟩
  go_wp2_with fail
  refine (Hg.out _ gn gd).mono ?_; rintro e w1 ⟨rfl, n1, rfl⟩
  go_wp2_with fail
  refine (size_any _ _ hn).mono ?_; rintro e w1 ⟨rfl, rfl⟩
  go_wp2_with fail
  refine (size_any _ _ hd).mono ?_; rintro e w1 ⟨rfl, rfl⟩
  have h0x : 0 ≤ (n.natAbs : Int) / (k : Int) := Int.ediv_nonneg (by omega) (by omega)
  have h0y : 0 ≤ (d.natAbs : Int) / (k : Int) := Int.ediv_nonneg (by omega) (by omega)
  have wx := u64_div n k hn
  have wy := u64_div d k hd
  clear gn gd Hg Hk hn hd
  by_cases hx : 1000000000 < (n.natAbs : Int) / (k : Int)
  · have hv : Hid (mk n d = (0, 0, 30)) := by rw [hmk.out]; show _ = _; rw [if_pos (by omega)]
    have hdx : decide (1000000000 < (n.natAbs : Int) / (k : Int)) = true := by simpa using hx
    clear hmk
    go_wp2
    exact bodyPost_ret (v := .tuple #[rv 0 0, .int .i64 30]) (by simp [results, Tryd.results34, go_sem]) rfl ⟨by rw [hv.out], (by repeat first | exact Below.refl _ _ | assumption | refine below_drewN ?_ _ | refine Below.drew ?_ | refine Below.setCell ?_ (by first | exact Nat.le_refl _ | (simp; done) | (simp; omega) | omega) _ | refine Below.alloc ?_ (by first | exact Nat.le_refl _ | (simp; done) | (simp; omega) | omega) _)⟩
  · have hdx : decide (1000000000 < (n.natAbs : Int) / (k : Int)) = false := by simpa using hx
    by_cases hy : 1000000000 < (d.natAbs : Int) / (k : Int)
    · have hv : Hid (mk n d = (0, 0, 30)) := by rw [hmk.out]; show _ = _; rw [if_pos (by omega)]
      have hdy : decide (1000000000 < (d.natAbs : Int) / (k : Int)) = true := by simpa using hy
      clear hmk
      go_wp2
      exact bodyPost_ret (v := .tuple #[rv 0 0, .int .i64 30]) (by simp [results, Tryd.results34, go_sem]) rfl ⟨by rw [hv.out], (by repeat first | exact Below.refl _ _ | assumption | refine below_drewN ?_ _ | refine Below.drew ?_ | refine Below.setCell ?_ (by first | exact Nat.le_refl _ | (simp; done) | (simp; omega) | omega) _ | refine Below.alloc ?_ (by first | exact Nat.le_refl _ | (simp; done) | (simp; omega) | omega) _)⟩
    · have hdy : decide (1000000000 < (d.natAbs : Int) / (k : Int)) = false := by simpa using hy
      by_cases hs : (n < 0) = (d < 0)
      · have hv : Hid (mk n d = ((n.natAbs : Int) / (k : Int), (d.natAbs : Int) / (k : Int), 0)) := by rw [hmk.out]; show _ = _; rw [if_neg (by omega), if_neg (by simpa using hs)]
        have hb : (!decide (n < 0) == decide (d < 0)) = false := by simp [hs]
        have hb2 : (decide (n < 0) != decide (d < 0)) = false := by simp [hs]
        clear hmk hs
        go_wp2
        exact bodyPost_ret (v := .tuple #[rv ((n.natAbs : Int) / (k : Int)) ((d.natAbs : Int) / (k : Int)), .int .i64 0]) (by simp [results, Tryd.results34, go_sem]) rfl ⟨by rw [hv.out], (by repeat first | exact Below.refl _ _ | assumption | refine below_drewN ?_ _ | refine Below.drew ?_ | refine Below.setCell ?_ (by first | exact Nat.le_refl _ | (simp; done) | (simp; omega) | omega) _ | refine Below.alloc ?_ (by first | exact Nat.le_refl _ | (simp; done) | (simp; omega) | omega) _)⟩
      · have hv : Hid (mk n d = (-((n.natAbs : Int) / (k : Int)), (d.natAbs : Int) / (k : Int), 0)) := by rw [hmk.out]; show _ = _; rw [if_neg (by omega), if_pos (by simpa using hs)]
        have hb : (!decide (n < 0) == decide (d < 0)) = true := by simpa using hs
        have hb2 : (decide (n < 0) != decide (d < 0)) = true := by simpa using hs
        clear hmk hs
        go_wp2
        exact bodyPost_ret (v := .tuple #[rv (-((n.natAbs : Int) / (k : Int))) ((d.natAbs : Int) / (k : Int)), .int .i64 0]) (by simp [results, Tryd.results34, go_sem]) rfl ⟨by rw [hv.out], (by repeat first | exact Below.refl _ _ | assumption | refine below_drewN ?_ _ | refine Below.drew ?_ | refine Below.setCell ?_ (by first | exact Nat.le_refl _ | (simp; done) | (simp; omega) | omega) _ | refine Below.alloc ?_ (by first | exact Nat.le_refl _ | (simp; done) | (simp; omega) | omega) _)⟩

theorem refMake_all (n d : Int) (w : World) (hn : I64 n) (hd : I64 d) :
    Calls Tryd.prog 34 #[.int .i64 n, .int .i64 d] w fun e w' => e = .returned (.tuple #[rv (mk n d).1 (mk n d).2.1, .int .i64 (mk n d).2.2]) ∧ Below w.heap.size w w' := by
  by_cases h0 : d = 0
  · subst h0; exact refMake_zero n w
  · exact refMake_any n d w hn hd h0

/-- The law's level. -/
def levelv (a b : Int) : Int × Int × Int := mk (pickv a (1 + pickv b 60 + 1) : Nat) (1 + pickv b 60 : Nat)

set_option maxHeartbeats 1000000 in
theorem lawLevel_any (a b : Int) (w : World) (ha : I64 a) (hb : I64 b) :
    Calls Tryd.prog 15 #[.int .i64 a, .int .i64 b] w fun e w' => e = .returned (rv (levelv a b).1 (levelv a b).2.1) ∧ Below w.heap.size w w' := by
  have hB : Below w.heap.size w w := Below.refl _ _
  have hq := pickv_lt b 60 (by omega)
  have hl : Hid (levelv a b = mk (pickv a (1 + pickv b 60 + 1) : Nat) (1 + pickv b 60 : Nat)) := by show _ = _; rfl
  have hp := pickv_lt a (1 + pickv b 60 + 1) (by omega)
  have hpb := pick_any b 60
  have hpa := pick_any a (1 + pickv b 60 + 1)
  generalize levelv a b = l at *
  generalize pickv b 60 = d at *
  generalize pickv a (1 + d + 1) = p at *
  have hM := refMake_all (p : Int) ((1 + d : Nat) : Int)
  rw [← hl.out] at hM
  replace hM := Lib.hid hM
  replace hpa := Lib.hid hpa
  replace hpb := Lib.hid hpb
  clear hl
  go_enter Tryd.func15, Tryd.ntmps15
  go_wp2_with fail
  refine (hpb.out _ hb (by omega) (by omega)).mono ?_; rintro e w1 ⟨rfl, rfl⟩
  go_wp2_with fail
  rw [show (1 : Int) + (d : Int) + 1 = ((1 + d + 1 : Nat) : Int) from by omega]
  refine (hpa.out _ ha (by omega) (by omega)).mono ?_; rintro e w1 ⟨rfl, rfl⟩
  go_wp2_with fail
  rw [show (1 : Int) + (d : Int) = ((1 + d : Nat) : Int) from by omega]
  refine name_calls ?_
  intro w1 hww1
  replace m1 : Mine w1 w.heap.size 0 (.int .i64 0) := by rw [hww1]; (repeat first | with_reducible assumption | with_reducible refine Mine.drew ?_ | with_reducible refine Mine.drewN ?_ _ | ((with_reducible refine Mine.new ?_); rfl) | ((with_reducible refine Mine.newAt ?_ ?_) <;> first | rfl | (simp; done) | (simp only [World.size_alloc]; rfl)) | ((with_reducible refine Mine.set ?_ _); repeat first | exact Mine.slot (by with_reducible assumption) | with_reducible refine MineS.drew ?_ | with_reducible refine MineS.drewN ?_ _ | exact MineS.new (by decide) | with_reducible refine MineS.set ?_ _ _ _ | with_reducible refine MineS.alloc ?_ _) | with_reducible refine Mine.other ?_ _ (by first | (left; omega) | (right; omega) | (simp; done) | (simp; omega)) | with_reducible refine Mine.alloc ?_ _)
  replace m2 : Mine w1 w.heap.size 1 (.int .i64 0) := by rw [hww1]; (repeat first | with_reducible assumption | with_reducible refine Mine.drew ?_ | with_reducible refine Mine.drewN ?_ _ | ((with_reducible refine Mine.new ?_); rfl) | ((with_reducible refine Mine.newAt ?_ ?_) <;> first | rfl | (simp; done) | (simp only [World.size_alloc]; rfl)) | ((with_reducible refine Mine.set ?_ _); repeat first | exact Mine.slot (by with_reducible assumption) | with_reducible refine MineS.drew ?_ | with_reducible refine MineS.drewN ?_ _ | exact MineS.new (by decide) | with_reducible refine MineS.set ?_ _ _ _ | with_reducible refine MineS.alloc ?_ _) | with_reducible refine Mine.other ?_ _ (by first | (left; omega) | (right; omega) | (simp; done) | (simp; omega)) | with_reducible refine Mine.alloc ?_ _)
  have hBzw1 := hB.size
  replace hB : Below w.heap.size w w1 := by rw [hww1]; exact (by repeat first | exact Below.refl _ _ | assumption | refine below_drewN ?_ _ | refine Below.drew ?_ | refine Below.setCell ?_ (by first | exact Nat.le_refl _ | (simp; done) | (simp; omega) | omega) _ | refine Below.alloc ?_ (by first | exact Nat.le_refl _ | (simp; done) | (simp; omega) | omega) _)
  clear hww1 hBzw1
  refine (hM.out _ ⟨by omega, by omega⟩ ⟨by omega, by omega⟩).mono ?_
  rintro e wc1 ⟨rfl, hb1⟩
  replace m1 := m1.below hb1
  replace m2 := m2.below hb1
  replace hB := hB.trans (hb1.mono hB.size)
  have hb_wc1 := hb1
  clear hb1
  have c1 := m1.cell
  have f1 := m1.free
  have l1 := m1.lt
  have c2 := m2.cell
  have f2 := m2.free
  have l2 := m2.lt
  go_wp2
  clear c1 f1 l1
  clear c2 f2 l2
  refine name_post ?_
  intro w4 hww4
  replace m1 : Mine w4 w.heap.size 0 (.int .i64 l.1) := by rw [hww4]; (repeat first | with_reducible assumption | with_reducible refine Mine.drew ?_ | with_reducible refine Mine.drewN ?_ _ | ((with_reducible refine Mine.new ?_); rfl) | ((with_reducible refine Mine.newAt ?_ ?_) <;> first | rfl | (simp; done) | (simp only [World.size_alloc]; rfl)) | ((with_reducible refine Mine.set ?_ _); repeat first | exact Mine.slot (by with_reducible assumption) | with_reducible refine MineS.drew ?_ | with_reducible refine MineS.drewN ?_ _ | exact MineS.new (by decide) | with_reducible refine MineS.set ?_ _ _ _ | with_reducible refine MineS.alloc ?_ _) | with_reducible refine Mine.other ?_ _ (by first | (left; omega) | (right; omega) | (simp; done) | (simp; omega)) | with_reducible refine Mine.alloc ?_ _)
  replace m2 : Mine w4 w.heap.size 1 (.int .i64 l.2.1) := by rw [hww4]; (repeat first | with_reducible assumption | with_reducible refine Mine.drew ?_ | with_reducible refine Mine.drewN ?_ _ | ((with_reducible refine Mine.new ?_); rfl) | ((with_reducible refine Mine.newAt ?_ ?_) <;> first | rfl | (simp; done) | (simp only [World.size_alloc]; rfl)) | ((with_reducible refine Mine.set ?_ _); repeat first | exact Mine.slot (by with_reducible assumption) | with_reducible refine MineS.drew ?_ | with_reducible refine MineS.drewN ?_ _ | exact MineS.new (by decide) | with_reducible refine MineS.set ?_ _ _ _ | with_reducible refine MineS.alloc ?_ _) | with_reducible refine Mine.other ?_ _ (by first | (left; omega) | (right; omega) | (simp; done) | (simp; omega)) | with_reducible refine Mine.alloc ?_ _)
  have hBzw4 := hB.size
  replace hB : Below w.heap.size w w4 := by rw [hww4]; exact (by repeat first | exact Below.refl _ _ | assumption | refine below_drewN ?_ _ | refine Below.drew ?_ | refine Below.setCell ?_ (by first | exact Nat.le_refl _ | (simp; done) | (simp; omega) | omega) _ | refine Below.alloc ?_ (by first | exact Nat.le_refl _ | (simp; done) | (simp; omega) | omega) _)
  clear hww4 hBzw4
  have e1 := m1.cell
  have e2 := m2.cell
  exact bodyPost_ret (v := rv l.1 l.2.1) (by simp [results, Tryd.results15, go_sem, e1, e2]) rfl ⟨rfl, hB⟩
end Go.Proofs.YtjlldolmlfgejaaDoor
