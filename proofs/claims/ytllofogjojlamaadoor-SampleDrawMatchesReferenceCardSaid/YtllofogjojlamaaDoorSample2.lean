/-
  The contracts of sample's detect, Detect, level.
-/
import Derived.Test.YtllofogjojlamaaDoorWays
import Derived.Deep.RegionHeld3
import Derived.IntWalk
namespace Go.Proofs.YtllofogjojlamaaDoor
open Go.RowKit

/-- P16.1: the probability of a hit, as Make gives it. -/
def det (n bad k : Nat) : Int × Int × Int := mk ((bin n k : Int) - bin (n - bad) k) (bin n k)

/-- P16.1: Detect: the fraction and the error. -/
def detv (n bad k : Int) : Int × Int × Int := if pop n [bad, k] then ((det n.toNat bad.toNat k.toNat).1, (det n.toNat bad.toNat k.toNat).2.1, 0) else (0, 0, 160)
theorem pop_two {n a b : Int} (h : pop n [a, b] = true) : ∃ n' a' b' : Nat, n = n' ∧ a = a' ∧ b = b' ∧ n' ≤ 24 ∧ a' ≤ n' ∧ b' ≤ n' := by
  simp [pop, outB] at h
  exact ⟨n.toNat, a.toNat, b.toNat, by omega, by omega, by omega, by omega, by omega, by omega⟩

theorem triTo_full (n k : Nat) (hn : n < 25) (hk : k < 25) : triTo 25 0 (n * 25 + k) = bin n k := by
  have e1 : (n * 25 + k) / 25 = n := by omega
  have e2 : (n * 25 + k) % 25 = k := by omega
  simp only [triTo, e1, e2]
  rw [if_pos (by omega)]

set_option maxRecDepth 100000 in
set_option maxHeartbeats 1000000 in
theorem detect_any (B n bad k : Nat) (w : World) (hn : n ≤ 24) (hb : bad ≤ n) (hk : k ≤ 24) (ht : TriAt B 25 0 w) :
    Calls Tryd.prog 23 #[.pointer (some ⟨B, 0, none⟩), .int .i64 n, .int .i64 bad, .int .i64 k] w fun e w' => e = .returned (rv (det n bad k).1 (det n bad k).2.1) ∧ Below w.heap.size w w' := by
  have c1 := ht.cell (n * 25 + k) (by omega)
  have c2 := ht.cell ((n - bad) * 25 + k) (by omega)
  rw [triTo_full n k (by omega) (by omega)] at c1
  rw [triTo_full (n - bad) k (by omega) (by omega)] at c2
  have b1 := bin_le n k (by omega)
  have b2 := bin_le (n - bad) k (by omega)
  have hd : Hid (det n bad k = mk ((bin n k : Int) - bin (n - bad) k) (bin n k)) := by show _ = _; rfl
  generalize det n bad k = D at *
  generalize bin n k = x at *
  generalize bin (n - bad) k = y at *
  have hM := Make_all ((x : Int) - y) x
  rw [← hd.out] at hM
  replace hM := Lib.hid hM
  have hB : Below w.heap.size w w := Below.refl _ _
  have m1 : Mine w B (n * 25 + k) (.int .i64 x) := ⟨c1, ht.free _, World.block_lt_of_cell? w _ c1⟩
  have m2 : Mine w B ((n - bad) * 25 + k) (.int .i64 y) := ⟨c2, ht.free _, World.block_lt_of_cell? w _ c2⟩
  have hBw := m1.lt
  clear c1 c2 ht
  go_enter Tryd.func23, Tryd.ntmps23
  go_wp2
  refine name_wp ?_
  intro w0 hww0
  have mAll : Mine w0 B (n * 25 + k) (.int .i64 x) ∧ Mine w0 B ((n - bad) * 25 + k) (.int .i64 y) ∧ Mine w0 w.heap.size 0 (.int .i64 0) ∧ Mine w0 w.heap.size 1 (.int .i64 0) := by
    rw [hww0]
    refine ⟨?_, ?_, ?_, ?_⟩ <;> (repeat first | with_reducible assumption | with_reducible refine Mine.drew ?_ | with_reducible refine Mine.drewN ?_ _ | ((with_reducible refine Mine.new ?_); rfl) | ((with_reducible refine Mine.newAt ?_ ?_) <;> first | rfl | (simp; done) | (simp only [World.size_alloc]; rfl)) | ((with_reducible refine Mine.set ?_ _); repeat first | exact Mine.slot (by with_reducible assumption) | with_reducible refine MineS.drew ?_ | with_reducible refine MineS.drewN ?_ _ | ((with_reducible refine MineS.new ?_); decide) | ((with_reducible refine MineS.newAt ?_ ?_) <;> first | decide | (simp; done)) | with_reducible refine MineS.set ?_ _ _ _ | with_reducible refine MineS.alloc ?_ _) | with_reducible refine Mine.other ?_ _ (by first | (left; omega) | (right; omega) | (simp; done) | (simp; omega)) | with_reducible refine Mine.alloc ?_ _)
  clear m1 m2
  obtain ⟨m1, m2, m3, m4⟩ := mAll
  have hBzw0 := hB.size
  replace hB : Below w.heap.size w w0 := by rw [hww0]; exact (by repeat first | with_reducible exact Below.refl _ _ | with_reducible assumption | with_reducible refine below_drewN ?_ _ | with_reducible refine Below.drew ?_ | with_reducible refine Below.setCell ?_ (by first | exact Nat.le_refl _ | (simp; done) | (simp; omega) | omega) _ | with_reducible refine Below.alloc ?_ (by first | exact Nat.le_refl _ | (simp; done) | (simp; omega) | omega) _ | exact Below.refl _ _ | assumption)
  clear hww0 hBzw0
  have hne0 : ¬ w0.heap.size = B := by have := m1.lt; omega
  have hne1 : ¬ w0.heap.size = w.heap.size := by have := m3.lt; omega
  have s1 : IntKind.i64.wrap ((x : Int) - y) = x - y := IntWalk.i64_in _ (by omega)
  have s2 : IntKind.i64.wrap ((n : Int) - bad) = n - bad := IntWalk.i64_in _ (by omega)
  have s3 : (0 : Int) ≤ (n : Int) - bad := by omega
  have s4 : (n : Int) - bad < 25 := by omega
  have s5 : ((n : Int) - bad).toNat = n - bad := by omega
  have s6 : (0 : Int) ≤ (k : Int) := by omega
  have s7 : (k : Int) < 25 := by omega
  have s8 : (n : Int) < 25 := by omega
  have i1 : I64 ((x : Int) - y) := ⟨by omega, by omega⟩
  have i2 : I64 (x : Int) := ⟨by omega, by omega⟩
  have l1 := m1.lt
  have l3 := m3.lt
  have c1 := m1.cell
  have f1 := m1.free
  have l1 := m1.lt
  have c2 := m2.cell
  have f2 := m2.free
  have l2 := m2.lt
  have c3 := m3.cell
  have f3 := m3.free
  have l3 := m3.lt
  have c4 := m4.cell
  have f4 := m4.free
  have l4 := m4.lt
  go_region_held3 (fun w' => w'.cell? ⟨B, n * 25 + k, none⟩ = some (.int .i64 x) ∧ w'.cell? ⟨B, (n - bad) * 25 + k, none⟩ = some (.int .i64 y)) (go_keep)
    (first
      | (go_at_call 40; refine (hM.out _ i1 i2).mono ?_; rintro e w1 ⟨rfl, hb1⟩; obtain ⟨hc1, hf1⟩ := bcell hb1; have hz1 := hb1.size; have hne2 : ¬ w1.heap.size = B := (by simp at hz1; omega); have hne3 : ¬ w1.heap.size = w.heap.size := (by simp at hz1; omega); have g1 := (hc1 B (n * 25 + k) (by simp; omega)); have g2 := (hc1 B ((n - bad) * 25 + k) (by simp; omega)); have n3 : Mine w1 w.heap.size 0 (.int .i64 0) := Mine.below (by (repeat first | with_reducible assumption | with_reducible refine Mine.drew ?_ | with_reducible refine Mine.drewN ?_ _ | ((with_reducible refine Mine.new ?_); rfl) | ((with_reducible refine Mine.newAt ?_ ?_) <;> first | rfl | (simp; done) | (simp only [World.size_alloc]; rfl)) | ((with_reducible refine Mine.set ?_ _); repeat first | exact Mine.slot (by with_reducible assumption) | with_reducible refine MineS.drew ?_ | with_reducible refine MineS.drewN ?_ _ | ((with_reducible refine MineS.new ?_); decide) | ((with_reducible refine MineS.newAt ?_ ?_) <;> first | decide | (simp; done)) | with_reducible refine MineS.set ?_ _ _ _ | with_reducible refine MineS.alloc ?_ _) | with_reducible refine Mine.other ?_ _ (by first | (left; omega) | (right; omega) | (simp; done) | (simp; omega)) | with_reducible refine Mine.alloc ?_ _)) hb1; have n4 : Mine w1 w.heap.size 1 (.int .i64 0) := Mine.below (by (repeat first | with_reducible assumption | with_reducible refine Mine.drew ?_ | with_reducible refine Mine.drewN ?_ _ | ((with_reducible refine Mine.new ?_); rfl) | ((with_reducible refine Mine.newAt ?_ ?_) <;> first | rfl | (simp; done) | (simp only [World.size_alloc]; rfl)) | ((with_reducible refine Mine.set ?_ _); repeat first | exact Mine.slot (by with_reducible assumption) | with_reducible refine MineS.drew ?_ | with_reducible refine MineS.drewN ?_ _ | ((with_reducible refine MineS.new ?_); decide) | ((with_reducible refine MineS.newAt ?_ ?_) <;> first | decide | (simp; done)) | with_reducible refine MineS.set ?_ _ _ _ | with_reducible refine MineS.alloc ?_ _) | with_reducible refine Mine.other ?_ _ (by first | (left; omega) | (right; omega) | (simp; done) | (simp; omega)) | with_reducible refine Mine.alloc ?_ _)) hb1; have g3 := n3.cell; have g4 := n4.cell; have g5 := n3.free; have g6 := n4.free; have hz2 : w.heap.size < w1.heap.size := (by simp at hz1; omega); have hB1 : Below w.heap.size w w1 := Below.trans (by repeat first | with_reducible exact Below.refl _ _ | with_reducible assumption | with_reducible refine below_drewN ?_ _ | with_reducible refine Below.drew ?_ | with_reducible refine Below.setCell ?_ (by first | exact Nat.le_refl _ | (simp; done) | (simp; omega) | omega) _ | with_reducible refine Below.alloc ?_ (by first | exact Nat.le_refl _ | (simp; done) | (simp; omega) | omega) _ | exact Below.refl _ _ | assumption) (hb1.mono (by simp; omega))))
  all_goals go_wp2
  all_goals
    refine name_post ?_
    intro w3 hww3
    have mAll : Mine w3 w.heap.size 0 (.int .i64 D.1) ∧ Mine w3 w.heap.size 1 (.int .i64 D.2.1) := by
      rw [hww3]
      refine ⟨?_, ?_⟩ <;> (repeat first | with_reducible assumption | with_reducible refine Mine.drew ?_ | with_reducible refine Mine.drewN ?_ _ | ((with_reducible refine Mine.new ?_); rfl) | ((with_reducible refine Mine.newAt ?_ ?_) <;> first | rfl | (simp; done) | (simp only [World.size_alloc]; rfl)) | ((with_reducible refine Mine.set ?_ _); repeat first | exact Mine.slot (by with_reducible assumption) | with_reducible refine MineS.drew ?_ | with_reducible refine MineS.drewN ?_ _ | ((with_reducible refine MineS.new ?_); decide) | ((with_reducible refine MineS.newAt ?_ ?_) <;> first | decide | (simp; done)) | with_reducible refine MineS.set ?_ _ _ _ | with_reducible refine MineS.alloc ?_ _) | with_reducible refine Mine.other ?_ _ (by first | (left; omega) | (right; omega) | (simp; done) | (simp; omega)) | with_reducible refine Mine.alloc ?_ _)
    clear m3 m4
    obtain ⟨m3, m4⟩ := mAll
    have hBzw3 := hB.size
    replace hB : Below w.heap.size w w3 := by rw [hww3]; exact (by repeat first | with_reducible exact Below.refl _ _ | with_reducible assumption | with_reducible refine below_drewN ?_ _ | with_reducible refine Below.drew ?_ | with_reducible refine Below.setCell ?_ (by first | exact Nat.le_refl _ | (simp; done) | (simp; omega) | omega) _ | with_reducible refine Below.alloc ?_ (by first | exact Nat.le_refl _ | (simp; done) | (simp; omega) | omega) _ | exact Below.refl _ _ | assumption)
    clear hww3 hBzw3
    have e3 := m3.cell
    have e4 := m4.cell
    exact bodyPost_ret (v := rv D.1 D.2.1) (by simp [results, Tryd.results23, go_sem, e3, e4]) rfl ⟨rfl, hB⟩

end Go.Proofs.YtllofogjojlamaaDoor
