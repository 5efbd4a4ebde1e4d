/-
  The references' small functions: within, ways; Valid, both, Compare (layer 3); Level.
-/
import Derived.Test.YtjlldolmlfgejaaDoorLaw1
import Derived.Test.YtjlldolmlfgejaaDoorMath1
import Derived.Test.YtjlldolmlfgejaaDoorSample3
namespace Go.Proofs.YtjlldolmlfgejaaDoor
open Go.RowKit

def wtn (n lo hi : Int) : Bool := decide (lo ≤ n) && decide (n ≤ hi)
set_option maxHeartbeats 400000 in
theorem within_any (n lo hi : Int) (w : World) :
    Calls Tryd.prog 32 #[.int .i64 n, .int .i64 lo, .int .i64 hi] w fun e w' => e = .returned (.bool (wtn n lo hi)) ∧ w' = w := by
  by_cases h1 : lo ≤ n
  · have e1 : decide (lo ≤ n) = true := by simpa using h1
    have hv : Hid (wtn n lo hi = decide (n ≤ hi)) := by show _ = _; simp [wtn, h1]
    go_enter Tryd.func32, Tryd.ntmps32
    go_wp2
    go_ret
    exact ⟨ret_bool hv.out.symm, rfl⟩
  · have e1 : decide (lo ≤ n) = false := by simpa using h1
    have hv : Hid (wtn n lo hi = false) := by show _ = _; simp [wtn, h1]
    go_enter Tryd.func32, Tryd.ntmps32
    go_wp2
    go_ret
    exact ⟨ret_bool hv.out.symm, rfl⟩

theorem kron_quo : ∀ m, m < 25 → ∀ j, j < 24 → (decide (24 < m + j + 1) || decide (kron (m + j) j * (m + (j + 1)) / (j + 1) = kron (m + j + 1) (j + 1))) = true := by decide +kernel
theorem kron_small : ∀ m, m < 25 → ∀ i, i < 25 → kron m i ≤ 1000000000 := by decide +kernel
theorem bin_quo {m j : Nat} (h : m + j + 1 ≤ 24) : bin (m + j) j * (m + (j + 1)) / (j + 1) = bin (m + j + 1) (j + 1) := by
  have := kron_quo m (by omega) j (by omega)
  rw [bin_kron _ _ (by omega) (by omega), bin_kron _ _ (by omega) (by omega)]
  rw [Bool.or_eq_true, decide_eq_true_eq, decide_eq_true_eq] at this
  rcases this with h' | h'
  · omega
  · exact h'
theorem bin_small {m j : Nat} (h : m ≤ 24) (hj : j ≤ 24) : bin m j ≤ 1000000000 := by
  rw [bin_kron _ _ h hj]; exact kron_small m (by omega) j (by omega)

set_option maxRecDepth 100000 in
set_option maxHeartbeats 1000000 in
theorem refWays_any (n k : Nat) (w : World) (hn : n ≤ 24) (hk : k ≤ 24) :
    Calls Tryd.prog 33 #[.int .i64 n, .int .i64 k] w fun e w' => e = .returned (.int .i64 (bin n k)) ∧ w' = w := by
  by_cases h1 : n < k
  · have e1 : decide ((n : Int) < (k : Int)) = true := by simpa using h1
    have hv : Hid (bin n k = 0) := by show _ = _; exact bin_zero n k h1
    go_enter Tryd.func33, Tryd.ntmps33
    go_wp2
    go_ret
    exact ⟨ret_i64 (by rw [hv.out]; rfl), rfl⟩
  · have e1 : decide ((n : Int) < (k : Int)) = false := by simpa using h1
    obtain ⟨m, hm⟩ : ∃ m, n = m + k := ⟨n - k, by omega⟩
    subst hm
    go_enter Tryd.func33, Tryd.ntmps33
    go_wp2
    go_loopw [5, 6] (fun o i wr => ∃ j : Nat, j ≤ k ∧ i = .int .i64 ((j + 1 : Nat) : Int) ∧ o = .int .i64 (bin (m + j) j : Nat) ∧ wr = w) (fun _ i _ => k + 1 - (intOf i).toNat)
    case atStart => exact ⟨0, by omega, rfl, by simp [bin], rfl⟩
    case round =>
      obtain ⟨j, hj, rfl, rfl, rfl⟩ := hrel
      by_cases hlt : j < k
      · have hd : decide (((j + 1 : Nat) : Int) ≤ (k : Int)) = true := by simp; omega
        have hd2 : decide ((j : Int) + 1 ≤ (k : Int)) = true := by simp; omega
        have hq := Lib.hid (bin_quo (m := m) (j := j) (by omega))
        have hs := bin_small (m := m + j) (j := j) (by omega) (by omega)
        have hs2 := bin_small (m := m + j + 1) (j := j + 1) (by omega) (by omega)
        generalize bin (m + j) j = x at *
        have hx2 : x * (m + (j + 1)) ≤ 1000000000 * 24 := Nat.mul_le_mul hs (by omega)
        have r1 : ((m + k : Nat) : Int) - (k : Int) = (m : Int) := by omega
        go_wp2
        have q1 : wrap64 ((x : Int) * ((m : Int) + ((j : Int) + 1))) = ((x * (m + (j + 1)) : Nat) : Int) := by
          have e : (x : Int) * ((m : Int) + ((j : Int) + 1)) = ((x * (m + (j + 1)) : Nat) : Int) := by simp
          rw [e]; exact IntWalk.wrap64_in _ (by omega)
        refine ⟨⟨j + 1, by omega, rfl, ?_, trivial⟩, by simp [intOf]; omega⟩
        have q2 : Int.tdiv ((x * (m + (j + 1)) : Nat) : Int) ((j : Int) + 1) = ((x * (m + (j + 1)) / (j + 1) : Nat) : Int) := rfl
        rw [q1, q2, hq.out, IntWalk.wrap64_in _ (by omega)]
        rfl
      · have hd : decide (((j + 1 : Nat) : Int) ≤ (k : Int)) = false := by simp; omega
        have hd2 : decide ((j : Int) + 1 ≤ (k : Int)) = false := by simp; omega
        obtain rfl : k = j := by omega
        go_wp2
        go_ret
        exact ⟨rfl, rfl⟩

theorem pop_wtn2 (n bad k : Int) : pop n [bad, k] = (wtn n 1 24 && wtn bad 0 n && wtn k 0 n) := by
  rw [Bool.eq_iff_iff]; simp [pop, wtn, outB]; omega
theorem pop_wtn1 (n bad : Int) : pop n [bad] = (wtn n 1 24 && wtn bad 0 n) := by
  rw [Bool.eq_iff_iff]; simp [pop, wtn, outB]

set_option maxRecDepth 100000 in
set_option maxHeartbeats 1000000 in
theorem refDetect_bad (n bad k : Int) (w : World) (h : pop n [bad, k] = false) :
    Calls Tryd.prog 14 #[.int .i64 n, .int .i64 bad, .int .i64 k] w fun e w' => e = .returned (.tuple #[rv 0 0, .int .i64 160]) ∧ Below w.heap.size w w' := by
  have hB : Below w.heap.size w w := Below.refl _ _
  rw [pop_wtn2] at h
  have a1 := within_any n 1 24
  have a2 := within_any bad 0 n
  have a3 := within_any k 0 n
  cases g1 : wtn n 1 24 with
  | false =>
    rw [g1] at a1
    replace a1 := Lib.hid a1
    clear h a2 a3
    go_enter Tryd.func14, Tryd.ntmps14
    go_wp2_with fail
    refine (a1.out _).mono ?_; rintro e w1 ⟨rfl, rfl⟩
    go_wp2
    exact bodyPost_ret (v := .tuple #[rv 0 0, .int .i64 160]) (by simp [results, Tryd.results14, go_sem]) rfl ⟨rfl, (by repeat first | exact Below.refl _ _ | assumption | refine below_drewN ?_ _ | refine Below.drew ?_ | refine Below.setCell ?_ (by first | exact Nat.le_refl _ | (simp; done) | (simp; omega) | omega) _ | refine Below.alloc ?_ (by first | exact Nat.le_refl _ | (simp; done) | (simp; omega) | omega) _)⟩
  | true =>
    rw [g1] at a1 h
    replace a1 := Lib.hid a1
    cases g2 : wtn bad 0 n with
    | false =>
      rw [g2] at a2
      replace a2 := Lib.hid a2
      clear h a3
      go_enter Tryd.func14, Tryd.ntmps14
      go_wp2_with fail
      refine (a1.out _).mono ?_; rintro e w1 ⟨rfl, rfl⟩
      go_wp2_with fail
      refine (a2.out _).mono ?_; rintro e w1 ⟨rfl, rfl⟩
      go_wp2
      exact bodyPost_ret (v := .tuple #[rv 0 0, .int .i64 160]) (by simp [results, Tryd.results14, go_sem]) rfl ⟨rfl, (by repeat first | exact Below.refl _ _ | assumption | refine below_drewN ?_ _ | refine Below.drew ?_ | refine Below.setCell ?_ (by first | exact Nat.le_refl _ | (simp; done) | (simp; omega) | omega) _ | refine Below.alloc ?_ (by first | exact Nat.le_refl _ | (simp; done) | (simp; omega) | omega) _)⟩
    | true =>
      rw [g2] at a2 h
      replace a2 := Lib.hid a2
      have g3 : wtn k 0 n = false := by simpa using h
      rw [g3] at a3
      replace a3 := Lib.hid a3
      clear h
      go_enter Tryd.func14, Tryd.ntmps14
      go_wp2_with fail
      refine (a1.out _).mono ?_; rintro e w1 ⟨rfl, rfl⟩
      go_wp2_with fail
      refine (a2.out _).mono ?_; rintro e w1 ⟨rfl, rfl⟩
      go_wp2_with fail
      refine (a3.out _).mono ?_; rintro e w1 ⟨rfl, rfl⟩
      go_wp2
      exact bodyPost_ret (v := .tuple #[rv 0 0, .int .i64 160]) (by simp [results, Tryd.results14, go_sem]) rfl ⟨rfl, (by repeat first | exact Below.refl _ _ | assumption | refine below_drewN ?_ _ | refine Below.drew ?_ | refine Below.setCell ?_ (by first | exact Nat.le_refl _ | (simp; done) | (simp; omega) | omega) _ | refine Below.alloc ?_ (by first | exact Nat.le_refl _ | (simp; done) | (simp; omega) | omega) _)⟩

set_option maxRecDepth 100000 in
set_option maxHeartbeats 1000000 in
theorem refDetect_ok (n bad k : Nat) (w : World) (hn1 : 1 ≤ n) (hn : n ≤ 24) (hb : bad ≤ n) (hk : k ≤ n) :
    Calls Tryd.prog 14 #[.int .i64 n, .int .i64 bad, .int .i64 k] w fun e w' => e = .returned (.tuple #[rv (det n bad k).1 (det n bad k).2.1, .int .i64 0]) ∧ Below w.heap.size w w' := by
  have hB : Below w.heap.size w w := Below.refl _ _
  have a1 := within_any n 1 24
  have a2 := within_any bad 0 n
  have a3 := within_any k 0 n
  rw [show wtn n 1 24 = true from by simp [wtn]; omega] at a1
  rw [show wtn bad 0 n = true from by simp [wtn]; omega] at a2
  rw [show wtn k 0 n = true from by simp [wtn]; omega] at a3
  have b1 := bin_small (m := n) (j := k) hn (by omega)
  have b2 := bin_small (m := n - bad) (j := k) (by omega) (by omega)
  have y1 := refWays_any n k
  have y2 := refWays_any (n - bad) k
  have y3 := refMake_all ((bin n k : Int) - bin (n - bad) k) (bin n k)
  rw [show mk ((bin n k : Int) - bin (n - bad) k) (bin n k) = det n bad k from rfl, det_ok hn hb hk] at y3
  generalize det n bad k = D at *
  generalize bin n k = x at *
  generalize bin (n - bad) k = y at *
  replace a1 := Lib.hid a1
  replace a2 := Lib.hid a2
  replace a3 := Lib.hid a3
  replace y1 := Lib.hid y1
  replace y2 := Lib.hid y2
  replace y3 := Lib.hid y3
  go_enter Tryd.func14, Tryd.ntmps14
  go_wp2_with fail
  refine (a1.out _).mono ?_; rintro e w1 ⟨rfl, rfl⟩
  go_wp2_with fail
  refine (a2.out _).mono ?_; rintro e w1 ⟨rfl, rfl⟩
  go_wp2_with fail
  refine (a3.out _).mono ?_; rintro e w1 ⟨rfl, rfl⟩
  go_wp2_with fail
  refine (y1.out _ hn (by omega)).mono ?_; rintro e w1 ⟨rfl, rfl⟩
  go_wp2_with fail
  rw [show (n : Int) - (bad : Int) = ((n - bad : Nat) : Int) from by omega]
  refine (y2.out _ (by omega) (by omega)).mono ?_; rintro e w1 ⟨rfl, rfl⟩
  go_wp2_with fail
  refine name_calls ?_
  intro w1 hww1
  replace m1 : Mine w1 w.heap.size 0 (.int .i64 0) := by rw [hww1]; (repeat first | with_reducible assumption | with_reducible refine Mine.drew ?_ | with_reducible refine Mine.drewN ?_ _ | ((with_reducible refine Mine.new ?_); rfl) | ((with_reducible refine Mine.newAt ?_ ?_) <;> first | rfl | (simp; done) | (simp only [World.size_alloc]; rfl)) | ((with_reducible refine Mine.set ?_ _); repeat first | exact Mine.slot (by with_reducible assumption) | with_reducible refine MineS.drew ?_ | with_reducible refine MineS.drewN ?_ _ | exact MineS.new (by decide) | exact MineS.newAt (by decide) (by simp) | with_reducible refine MineS.set ?_ _ _ _ | with_reducible refine MineS.alloc ?_ _) | with_reducible refine Mine.other ?_ _ (by first | (left; omega) | (right; omega) | (simp; done) | (simp; omega)) | with_reducible refine Mine.alloc ?_ _)
  replace m2 : Mine w1 w.heap.size 1 (.int .i64 0) := by rw [hww1]; (repeat first | with_reducible assumption | with_reducible refine Mine.drew ?_ | with_reducible refine Mine.drewN ?_ _ | ((with_reducible refine Mine.new ?_); rfl) | ((with_reducible refine Mine.newAt ?_ ?_) <;> first | rfl | (simp; done) | (simp only [World.size_alloc]; rfl)) | ((with_reducible refine Mine.set ?_ _); repeat first | exact Mine.slot (by with_reducible assumption) | with_reducible refine MineS.drew ?_ | with_reducible refine MineS.drewN ?_ _ | exact MineS.new (by decide) | exact MineS.newAt (by decide) (by simp) | with_reducible refine MineS.set ?_ _ _ _ | with_reducible refine MineS.alloc ?_ _) | with_reducible refine Mine.other ?_ _ (by first | (left; omega) | (right; omega) | (simp; done) | (simp; omega)) | with_reducible refine Mine.alloc ?_ _)
  have hBzw1 := hB.size
  replace hB : Below w.heap.size w w1 := by rw [hww1]; exact (by repeat first | exact Below.refl _ _ | assumption | refine below_drewN ?_ _ | refine Below.drew ?_ | refine Below.setCell ?_ (by first | exact Nat.le_refl _ | (simp; done) | (simp; omega) | omega) _ | refine Below.alloc ?_ (by first | exact Nat.le_refl _ | (simp; done) | (simp; omega) | omega) _)
  clear hww1 hBzw1
  refine (y3.out _ ⟨by omega, by omega⟩ ⟨by omega, by omega⟩).mono ?_
  rintro e wc1 ⟨rfl, hb1⟩
  replace m1 := m1.below hb1
  replace m2 := m2.below hb1
  replace hB := hB.trans (hb1.mono hB.size)
  have hb_wc1 := hb1
  clear hb1
  have c1 := m1.cell
  have f1 := m1.free
  have l1 := m1.lt
  have c2 := m2.cell
  have f2 := m2.free
  have l2 := m2.lt
  go_wp2
  clear c1 f1 l1
  clear c2 f2 l2
  refine name_post ?_
  intro w4 hww4
  replace m1 : Mine w4 w.heap.size 0 (.int .i64 D.1) := by rw [hww4]; (repeat first | with_reducible assumption | with_reducible refine Mine.drew ?_ | with_reducible refine Mine.drewN ?_ _ | ((with_reducible refine Mine.new ?_); rfl) | ((with_reducible refine Mine.newAt ?_ ?_) <;> first | rfl | (simp; done) | (simp only [World.size_alloc]; rfl)) | ((with_reducible refine Mine.set ?_ _); repeat first | exact Mine.slot (by with_reducible assumption) | with_reducible refine MineS.drew ?_ | with_reducible refine MineS.drewN ?_ _ | exact MineS.new (by decide) | exact MineS.newAt (by decide) (by simp) | with_reducible refine MineS.set ?_ _ _ _ | with_reducible refine MineS.alloc ?_ _) | with_reducible refine Mine.other ?_ _ (by first | (left; omega) | (right; omega) | (simp; done) | (simp; omega)) | with_reducible refine Mine.alloc ?_ _)
  replace m2 : Mine w4 w.heap.size 1 (.int .i64 D.2.1) := by rw [hww4]; (repeat first | with_reducible assumption | with_reducible refine Mine.drew ?_ | with_reducible refine Mine.drewN ?_ _ | ((with_reducible refine Mine.new ?_); rfl) | ((with_reducible refine Mine.newAt ?_ ?_) <;> first | rfl | (simp; done) | (simp only [World.size_alloc]; rfl)) | ((with_reducible refine Mine.set ?_ _); repeat first | exact Mine.slot (by with_reducible assumption) | with_reducible refine MineS.drew ?_ | with_reducible refine MineS.drewN ?_ _ | exact MineS.new (by decide) | exact MineS.newAt (by decide) (by simp) | with_reducible refine MineS.set ?_ _ _ _ | with_reducible refine MineS.alloc ?_ _) | with_reducible refine Mine.other ?_ _ (by first | (left; omega) | (right; omega) | (simp; done) | (simp; omega)) | with_reducible refine Mine.alloc ?_ _)
  have hBzw4 := hB.size
  replace hB : Below w.heap.size w w4 := by rw [hww4]; exact (by repeat first | exact Below.refl _ _ | assumption | refine below_drewN ?_ _ | refine Below.drew ?_ | refine Below.setCell ?_ (by first | exact Nat.le_refl _ | (simp; done) | (simp; omega) | omega) _ | refine Below.alloc ?_ (by first | exact Nat.le_refl _ | (simp; done) | (simp; omega) | omega) _)
  clear hww4 hBzw4
  have e1 := m1.cell
  have e2 := m2.cell
  exact bodyPost_ret (v := .tuple #[rv D.1 D.2.1, .int .i64 0]) (by simp [results, Tryd.results14, go_sem, e1, e2]) rfl ⟨rfl, hB⟩

theorem refDetect_any (n bad k : Int) (w : World) :
    Calls Tryd.prog 14 #[.int .i64 n, .int .i64 bad, .int .i64 k] w fun e w' => e = .returned (.tuple #[rv (detv n bad k).1 (detv n bad k).2.1, .int .i64 (detv n bad k).2.2]) ∧ Below w.heap.size w w' := by
  cases hp : pop n [bad, k] with
  | true =>
    have hn1 : 1 ≤ n := by rw [pop_wtn2] at hp; simp [wtn] at hp; omega
    obtain ⟨n', b', k', rfl, rfl, rfl, h1, h2, h3⟩ := pop_two hp
    have hv : detv n' b' k' = ((det n' b' k').1, (det n' b' k').2.1, 0) := by simp [detv, hp]
    rw [hv]
    exact refDetect_ok n' b' k' w (by omega) h1 h2 h3
  | false =>
    have hv : detv n bad k = (0, 0, 160) := by simp [detv, hp]
    rw [hv]
    exact refDetect_bad n bad k w hp
end Go.Proofs.YtjlldolmlfgejaaDoor
