/-
  The contracts of the closures of sample.Needed and sample.Bound, and of these.
-/
import Derived.Test.YtjlldolmlfgejaaDoorIter
import Derived.Deep.RegionHeld3
namespace Go.Proofs.YtjlldolmlfgejaaDoor
open Go.RowKit

theorem mk_num (n d : Int) : I64 (mk n d).1 := by
  unfold mk
  generalize n.natAbs / Nat.gcd n.natAbs d.natAbs = x
  generalize d.natAbs / Nat.gcd n.natAbs d.natAbs = y
  split
  · exact ⟨by simp, by simp⟩
  · split
    · exact ⟨by simp, by simp⟩
    · constructor <;> dsimp only <;> split <;> omega
theorem mk_den (n d : Int) : I64 (mk n d).2.1 := by
  unfold mk
  generalize n.natAbs / Nat.gcd n.natAbs d.natAbs = x
  generalize d.natAbs / Nat.gcd n.natAbs d.natAbs = y
  split
  · exact ⟨by simp, by simp⟩
  · split
    · exact ⟨by simp, by simp⟩
    · constructor <;> dsimp only <;> omega

/-- Is the sample large enough? -/
def hit (n bad k : Nat) (pn pd : Int) : Bool := decide (0 ≤ cmpr (det n bad k).1 (det n bad k).2.1 pn pd)

set_option maxRecDepth 100000 in
set_option maxHeartbeats 1000000 in
theorem needIs_any (bt bn bb bp B n bad k : Nat) (pn pd : Int) (w : World) (hn : n ≤ 24) (hbad : bad ≤ n) (hk : k ≤ 24) (ht : TriAt B 25 0 w)
    (m1 : Mine w bt 0 (.pointer (some ⟨B, 0, none⟩))) (m2 : Mine w bn 0 (.int .i64 n)) (m3 : Mine w bb 0 (.int .i64 bad)) (m4 : Mine w bp 0 (.int .i64 pn)) (m5 : Mine w bp 1 (.int .i64 pd)) (hpn : I64 pn) (hpd : I64 pd) :
    Calls Tryd.prog 38 #[.int .i64 k, .pointer (some ⟨bt, 0, none⟩), .pointer (some ⟨bn, 0, none⟩), .pointer (some ⟨bb, 0, none⟩), .pointer (some ⟨bp, 0, none⟩)] w fun e w' => e = .returned (.bool (hit n bad k pn pd)) ∧ Below w.heap.size w w' := by
  have hB : Below w.heap.size w w := Below.refl _ _
  have hv : Hid (hit n bad k pn pd = decide (0 ≤ cmpr (det n bad k).1 (det n bad k).2.1 pn pd)) := by show _ = _; rfl
  have hD := detect_any B n bad k
  have i1 := mk_num ((bin n k : Int) - bin (n - bad) k) (bin n k)
  have i2 := mk_den ((bin n k : Int) - bin (n - bad) k) (bin n k)
  have hdet : Hid (det n bad k = mk ((bin n k : Int) - bin (n - bad) k) (bin n k)) := by show _ = _; rfl
  rw [← hdet.out] at i1 i2
  generalize det n bad k = D at *
  have hC := Compare_any D.1 D.2.1 pn pd
  generalize cmpr D.1 D.2.1 pn pd = c at *
  replace hD := Lib.hid hD
  replace hC := Lib.hid hC
  have htc := Lib.hid ht
  clear ht
  go_enter Tryd.func38, Tryd.ntmps38
  go_wp2
  have c1 := m1.cell
  have f1 := m1.free
  have l1 := m1.lt
  have c2 := m2.cell
  have f2 := m2.free
  have l2 := m2.lt
  have c3 := m3.cell
  have f3 := m3.free
  have l3 := m3.lt
  have c4 := m4.cell
  have f4 := m4.free
  have l4 := m4.lt
  have c5 := m5.cell
  have f5 := m5.free
  have l5 := m5.lt
  have l1 := m1.lt
  have l2 := m2.lt
  have l3 := m3.lt
  have l4 := m4.lt
  first | (go_region_held3 (fun w' => w'.cell? ⟨bt, 0, none⟩ = some (.pointer (some ⟨B, 0, none⟩)) ∧ w'.cell? ⟨bn, 0, none⟩ = some (.int .i64 n) ∧ w'.cell? ⟨bb, 0, none⟩ = some (.int .i64 bad) ∧ w'.cell? ⟨bp, 0, none⟩ = some (.int .i64 pn) ∧ w'.cell? ⟨bp, 1, none⟩ = some (.int .i64 pd)) (go_keep)
    (first
      | (go_at_call 31; refine (hD.out _ hn hbad hk (htc.out.drew)).mono ?_; rintro e w1 ⟨rfl, hbw1⟩; have n1w1 : Mine w1 bt 0 (.pointer (some ⟨B, 0, none⟩)) := Mine.below (by (repeat first | with_reducible assumption | with_reducible refine Mine.drew ?_ | with_reducible refine Mine.drewN ?_ _ | ((with_reducible refine Mine.new ?_); rfl) | ((with_reducible refine Mine.newAt ?_ ?_) <;> first | rfl | (simp; done) | (simp only [World.size_alloc]; rfl)) | ((with_reducible refine Mine.set ?_ _); repeat first | exact Mine.slot (by with_reducible assumption) | with_reducible refine MineS.drew ?_ | with_reducible refine MineS.drewN ?_ _ | exact MineS.new (by decide) | with_reducible refine MineS.set ?_ _ _ _ | with_reducible refine MineS.alloc ?_ _) | with_reducible refine Mine.other ?_ _ (by first | (left; omega) | (right; omega) | (simp; done) | (simp; omega)) | with_reducible refine Mine.alloc ?_ _)) hbw1; have g1w1 := n1w1.cell; have gf1w1 := n1w1.free; have n2w1 : Mine w1 bn 0 (.int .i64 n) := Mine.below (by (repeat first | with_reducible assumption | with_reducible refine Mine.drew ?_ | with_reducible refine Mine.drewN ?_ _ | ((with_reducible refine Mine.new ?_); rfl) | ((with_reducible refine Mine.newAt ?_ ?_) <;> first | rfl | (simp; done) | (simp only [World.size_alloc]; rfl)) | ((with_reducible refine Mine.set ?_ _); repeat first | exact Mine.slot (by with_reducible assumption) | with_reducible refine MineS.drew ?_ | with_reducible refine MineS.drewN ?_ _ | exact MineS.new (by decide) | with_reducible refine MineS.set ?_ _ _ _ | with_reducible refine MineS.alloc ?_ _) | with_reducible refine Mine.other ?_ _ (by first | (left; omega) | (right; omega) | (simp; done) | (simp; omega)) | with_reducible refine Mine.alloc ?_ _)) hbw1; have g2w1 := n2w1.cell; have gf2w1 := n2w1.free; have n3w1 : Mine w1 bb 0 (.int .i64 bad) := Mine.below (by (repeat first | with_reducible assumption | with_reducible refine Mine.drew ?_ | with_reducible refine Mine.drewN ?_ _ | ((with_reducible refine Mine.new ?_); rfl) | ((with_reducible refine Mine.newAt ?_ ?_) <;> first | rfl | (simp; done) | (simp only [World.size_alloc]; rfl)) | ((with_reducible refine Mine.set ?_ _); repeat first | exact Mine.slot (by with_reducible assumption) | with_reducible refine MineS.drew ?_ | with_reducible refine MineS.drewN ?_ _ | exact MineS.new (by decide) | with_reducible refine MineS.set ?_ _ _ _ | with_reducible refine MineS.alloc ?_ _) | with_reducible refine Mine.other ?_ _ (by first | (left; omega) | (right; omega) | (simp; done) | (simp; omega)) | with_reducible refine Mine.alloc ?_ _)) hbw1; have g3w1 := n3w1.cell; have gf3w1 := n3w1.free; have n4w1 : Mine w1 bp 0 (.int .i64 pn) := Mine.below (by (repeat first | with_reducible assumption | with_reducible refine Mine.drew ?_ | with_reducible refine Mine.drewN ?_ _ | ((with_reducible refine Mine.new ?_); rfl) | ((with_reducible refine Mine.newAt ?_ ?_) <;> first | rfl | (simp; done) | (simp only [World.size_alloc]; rfl)) | ((with_reducible refine Mine.set ?_ _); repeat first | exact Mine.slot (by with_reducible assumption) | with_reducible refine MineS.drew ?_ | with_reducible refine MineS.drewN ?_ _ | exact MineS.new (by decide) | with_reducible refine MineS.set ?_ _ _ _ | with_reducible refine MineS.alloc ?_ _) | with_reducible refine Mine.other ?_ _ (by first | (left; omega) | (right; omega) | (simp; done) | (simp; omega)) | with_reducible refine Mine.alloc ?_ _)) hbw1; have g4w1 := n4w1.cell; have gf4w1 := n4w1.free; have n5w1 : Mine w1 bp 1 (.int .i64 pd) := Mine.below (by (repeat first | with_reducible assumption | with_reducible refine Mine.drew ?_ | with_reducible refine Mine.drewN ?_ _ | ((with_reducible refine Mine.new ?_); rfl) | ((with_reducible refine Mine.newAt ?_ ?_) <;> first | rfl | (simp; done) | (simp only [World.size_alloc]; rfl)) | ((with_reducible refine Mine.set ?_ _); repeat first | exact Mine.slot (by with_reducible assumption) | with_reducible refine MineS.drew ?_ | with_reducible refine MineS.drewN ?_ _ | exact MineS.new (by decide) | with_reducible refine MineS.set ?_ _ _ _ | with_reducible refine MineS.alloc ?_ _) | with_reducible refine Mine.other ?_ _ (by first | (left; omega) | (right; omega) | (simp; done) | (simp; omega)) | with_reducible refine Mine.alloc ?_ _)) hbw1; have g5w1 := n5w1.cell; have gf5w1 := n5w1.free; have hBw1 : Below w.heap.size w w1 := Below.trans (by repeat first | exact Below.refl _ _ | assumption | refine below_drewN ?_ _ | refine Below.drew ?_ | refine Below.setCell ?_ (by first | exact Nat.le_refl _ | (simp; done) | (simp; omega) | omega) _ | refine Below.alloc ?_ (by first | exact Nat.le_refl _ | (simp; done) | (simp; omega) | omega) _) (hbw1.mono (by first | exact Nat.le_refl _ | assumption | (simp; done) | (simp; omega) | omega)); have hzw1 := hbw1.size; )
      | (go_at_call 25; refine (hC.out _ i1 i2 hpn hpd).mono ?_; rintro e w2 ⟨rfl, hbw2⟩; have n1w2 : Mine w2 bt 0 (.pointer (some ⟨B, 0, none⟩)) := Mine.below (by (repeat first | with_reducible assumption | with_reducible refine Mine.drew ?_ | with_reducible refine Mine.drewN ?_ _ | ((with_reducible refine Mine.new ?_); rfl) | ((with_reducible refine Mine.newAt ?_ ?_) <;> first | rfl | (simp; done) | (simp only [World.size_alloc]; rfl)) | ((with_reducible refine Mine.set ?_ _); repeat first | exact Mine.slot (by with_reducible assumption) | with_reducible refine MineS.drew ?_ | with_reducible refine MineS.drewN ?_ _ | exact MineS.new (by decide) | with_reducible refine MineS.set ?_ _ _ _ | with_reducible refine MineS.alloc ?_ _) | with_reducible refine Mine.other ?_ _ (by first | (left; omega) | (right; omega) | (simp; done) | (simp; omega)) | with_reducible refine Mine.alloc ?_ _)) hbw2; have g1w2 := n1w2.cell; have gf1w2 := n1w2.free; have n2w2 : Mine w2 bn 0 (.int .i64 n) := Mine.below (by (repeat first | with_reducible assumption | with_reducible refine Mine.drew ?_ | with_reducible refine Mine.drewN ?_ _ | ((with_reducible refine Mine.new ?_); rfl) | ((with_reducible refine Mine.newAt ?_ ?_) <;> first | rfl | (simp; done) | (simp only [World.size_alloc]; rfl)) | ((with_reducible refine Mine.set ?_ _); repeat first | exact Mine.slot (by with_reducible assumption) | with_reducible refine MineS.drew ?_ | with_reducible refine MineS.drewN ?_ _ | exact MineS.new (by decide) | with_reducible refine MineS.set ?_ _ _ _ | with_reducible refine MineS.alloc ?_ _) | with_reducible refine Mine.other ?_ _ (by first | (left; omega) | (right; omega) | (simp; done) | (simp; omega)) | with_reducible refine Mine.alloc ?_ _)) hbw2; have g2w2 := n2w2.cell; have gf2w2 := n2w2.free; have n3w2 : Mine w2 bb 0 (.int .i64 bad) := Mine.below (by (repeat first | with_reducible assumption | with_reducible refine Mine.drew ?_ | with_reducible refine Mine.drewN ?_ _ | ((with_reducible refine Mine.new ?_); rfl) | ((with_reducible refine Mine.newAt ?_ ?_) <;> first | rfl | (simp; done) | (simp only [World.size_alloc]; rfl)) | ((with_reducible refine Mine.set ?_ _); repeat first | exact Mine.slot (by with_reducible assumption) | with_reducible refine MineS.drew ?_ | with_reducible refine MineS.drewN ?_ _ | exact MineS.new (by decide) | with_reducible refine MineS.set ?_ _ _ _ | with_reducible refine MineS.alloc ?_ _) | with_reducible refine Mine.other ?_ _ (by first | (left; omega) | (right; omega) | (simp; done) | (simp; omega)) | with_reducible refine Mine.alloc ?_ _)) hbw2; have g3w2 := n3w2.cell; have gf3w2 := n3w2.free; have n4w2 : Mine w2 bp 0 (.int .i64 pn) := Mine.below (by (repeat first | with_reducible assumption | with_reducible refine Mine.drew ?_ | with_reducible refine Mine.drewN ?_ _ | ((with_reducible refine Mine.new ?_); rfl) | ((with_reducible refine Mine.newAt ?_ ?_) <;> first | rfl | (simp; done) | (simp only [World.size_alloc]; rfl)) | ((with_reducible refine Mine.set ?_ _); repeat first | exact Mine.slot (by with_reducible assumption) | with_reducible refine MineS.drew ?_ | with_reducible refine MineS.drewN ?_ _ | exact MineS.new (by decide) | with_reducible refine MineS.set ?_ _ _ _ | with_reducible refine MineS.alloc ?_ _) | with_reducible refine Mine.other ?_ _ (by first | (left; omega) | (right; omega) | (simp; done) | (simp; omega)) | with_reducible refine Mine.alloc ?_ _)) hbw2; have g4w2 := n4w2.cell; have gf4w2 := n4w2.free; have n5w2 : Mine w2 bp 1 (.int .i64 pd) := Mine.below (by (repeat first | with_reducible assumption | with_reducible refine Mine.drew ?_ | with_reducible refine Mine.drewN ?_ _ | ((with_reducible refine Mine.new ?_); rfl) | ((with_reducible refine Mine.newAt ?_ ?_) <;> first | rfl | (simp; done) | (simp only [World.size_alloc]; rfl)) | ((with_reducible refine Mine.set ?_ _); repeat first | exact Mine.slot (by with_reducible assumption) | with_reducible refine MineS.drew ?_ | with_reducible refine MineS.drewN ?_ _ | exact MineS.new (by decide) | with_reducible refine MineS.set ?_ _ _ _ | with_reducible refine MineS.alloc ?_ _) | with_reducible refine Mine.other ?_ _ (by first | (left; omega) | (right; omega) | (simp; done) | (simp; omega)) | with_reducible refine Mine.alloc ?_ _)) hbw2; have g5w2 := n5w2.cell; have gf5w2 := n5w2.free; have hBw2 : Below w.heap.size w w2 := Below.trans (by repeat first | exact Below.refl _ _ | assumption | refine below_drewN ?_ _ | refine Below.drew ?_ | refine Below.setCell ?_ (by first | exact Nat.le_refl _ | (simp; done) | (simp; omega) | omega) _ | refine Below.alloc ?_ (by first | exact Nat.le_refl _ | (simp; done) | (simp; omega) | omega) _) (hbw2.mono (by first | exact Nat.le_refl _ | assumption | (simp; done) | (simp; omega) | omega)); have hzw2 := hbw2.size; ))) | fail
  go_wp2
  go_ret
  exact ⟨ret_bool hv.out.symm, (by repeat first | exact Below.refl _ _ | assumption | refine below_drewN ?_ _ | refine Below.drew ?_ | refine Below.setCell ?_ (by first | exact Nat.le_refl _ | (simp; done) | (simp; omega) | omega) _ | refine Below.alloc ?_ (by first | exact Nat.le_refl _ | (simp; done) | (simp; omega) | omega) _)⟩

set_option maxRecDepth 100000 in
set_option maxHeartbeats 1000000 in
theorem boundIs_any (bt bn bb bp B n bad k : Nat) (pn pd : Int) (w : World) (hn : n ≤ 24) (hbad : bad ≤ n) (hk : k ≤ 24) (ht : TriAt B 25 0 w)
    (m1 : Mine w bt 0 (.pointer (some ⟨B, 0, none⟩))) (m2 : Mine w bn 0 (.int .i64 n)) (m3 : Mine w bb 0 (.int .i64 k)) (m4 : Mine w bp 0 (.int .i64 pn)) (m5 : Mine w bp 1 (.int .i64 pd)) (hpn : I64 pn) (hpd : I64 pd) :
    Calls Tryd.prog 41 #[.int .i64 bad, .pointer (some ⟨bt, 0, none⟩), .pointer (some ⟨bn, 0, none⟩), .pointer (some ⟨bb, 0, none⟩), .pointer (some ⟨bp, 0, none⟩)] w fun e w' => e = .returned (.bool (hit n bad k pn pd)) ∧ Below w.heap.size w w' := by
  have hB : Below w.heap.size w w := Below.refl _ _
  have hv : Hid (hit n bad k pn pd = decide (0 ≤ cmpr (det n bad k).1 (det n bad k).2.1 pn pd)) := by show _ = _; rfl
  have hD := detect_any B n bad k
  have i1 := mk_num ((bin n k : Int) - bin (n - bad) k) (bin n k)
  have i2 := mk_den ((bin n k : Int) - bin (n - bad) k) (bin n k)
  have hdet : Hid (det n bad k = mk ((bin n k : Int) - bin (n - bad) k) (bin n k)) := by show _ = _; rfl
  rw [← hdet.out] at i1 i2
  generalize det n bad k = D at *
  have hC := Compare_any D.1 D.2.1 pn pd
  generalize cmpr D.1 D.2.1 pn pd = c at *
  replace hD := Lib.hid hD
  replace hC := Lib.hid hC
  have htc := Lib.hid ht
  clear ht
  go_enter Tryd.func41, Tryd.ntmps41
  go_wp2
  have c1 := m1.cell
  have f1 := m1.free
  have l1 := m1.lt
  have c2 := m2.cell
  have f2 := m2.free
  have l2 := m2.lt
  have c3 := m3.cell
  have f3 := m3.free
  have l3 := m3.lt
  have c4 := m4.cell
  have f4 := m4.free
  have l4 := m4.lt
  have c5 := m5.cell
  have f5 := m5.free
  have l5 := m5.lt
  have l1 := m1.lt
  have l2 := m2.lt
  have l3 := m3.lt
  have l4 := m4.lt
  first | (go_region_held3 (fun w' => w'.cell? ⟨bt, 0, none⟩ = some (.pointer (some ⟨B, 0, none⟩)) ∧ w'.cell? ⟨bn, 0, none⟩ = some (.int .i64 n) ∧ w'.cell? ⟨bb, 0, none⟩ = some (.int .i64 k) ∧ w'.cell? ⟨bp, 0, none⟩ = some (.int .i64 pn) ∧ w'.cell? ⟨bp, 1, none⟩ = some (.int .i64 pd)) (go_keep)
    (first
      | (go_at_call 31; refine (hD.out _ hn hbad hk (htc.out.drew)).mono ?_; rintro e w1 ⟨rfl, hbw1⟩; have n1w1 : Mine w1 bt 0 (.pointer (some ⟨B, 0, none⟩)) := Mine.below (by (repeat first | with_reducible assumption | with_reducible refine Mine.drew ?_ | with_reducible refine Mine.drewN ?_ _ | ((with_reducible refine Mine.new ?_); rfl) | ((with_reducible refine Mine.newAt ?_ ?_) <;> first | rfl | (simp; done) | (simp only [World.size_alloc]; rfl)) | ((with_reducible refine Mine.set ?_ _); repeat first | exact Mine.slot (by with_reducible assumption) | with_reducible refine MineS.drew ?_ | with_reducible refine MineS.drewN ?_ _ | exact MineS.new (by decide) | with_reducible refine MineS.set ?_ _ _ _ | with_reducible refine MineS.alloc ?_ _) | with_reducible refine Mine.other ?_ _ (by first | (left; omega) | (right; omega) | (simp; done) | (simp; omega)) | with_reducible refine Mine.alloc ?_ _)) hbw1; have g1w1 := n1w1.cell; have gf1w1 := n1w1.free; have n2w1 : Mine w1 bn 0 (.int .i64 n) := Mine.below (by (repeat first | with_reducible assumption | with_reducible refine Mine.drew ?_ | with_reducible refine Mine.drewN ?_ _ | ((with_reducible refine Mine.new ?_); rfl) | ((with_reducible refine Mine.newAt ?_ ?_) <;> first | rfl | (simp; done) | (simp only [World.size_alloc]; rfl)) | ((with_reducible refine Mine.set ?_ _); repeat first | exact Mine.slot (by with_reducible assumption) | with_reducible refine MineS.drew ?_ | with_reducible refine MineS.drewN ?_ _ | exact MineS.new (by decide) | with_reducible refine MineS.set ?_ _ _ _ | with_reducible refine MineS.alloc ?_ _) | with_reducible refine Mine.other ?_ _ (by first | (left; omega) | (right; omega) | (simp; done) | (simp; omega)) | with_reducible refine Mine.alloc ?_ _)) hbw1; have g2w1 := n2w1.cell; have gf2w1 := n2w1.free; have n3w1 : Mine w1 bb 0 (.int .i64 k) := Mine.below (by (repeat first | with_reducible assumption | with_reducible refine Mine.drew ?_ | with_reducible refine Mine.drewN ?_ _ | ((with_reducible refine Mine.new ?_); rfl) | ((with_reducible refine Mine.newAt ?_ ?_) <;> first | rfl | (simp; done) | (simp only [World.size_alloc]; rfl)) | ((with_reducible refine Mine.set ?_ _); repeat first | exact Mine.slot (by with_reducible assumption) | with_reducible refine MineS.drew ?_ | with_reducible refine MineS.drewN ?_ _ | exact MineS.new (by decide) | with_reducible refine MineS.set ?_ _ _ _ | with_reducible refine MineS.alloc ?_ _) | with_reducible refine Mine.other ?_ _ (by first | (left; omega) | (right; omega) | (simp; done) | (simp; omega)) | with_reducible refine Mine.alloc ?_ _)) hbw1; have g3w1 := n3w1.cell; have gf3w1 := n3w1.free; have n4w1 : Mine w1 bp 0 (.int .i64 pn) := Mine.below (by (repeat first | with_reducible assumption | with_reducible refine Mine.drew ?_ | with_reducible refine Mine.drewN ?_ _ | ((with_reducible refine Mine.new ?_); rfl) | ((with_reducible refine Mine.newAt ?_ ?_) <;> first | rfl | (simp; done) | (simp only [World.size_alloc]; rfl)) | ((with_reducible refine Mine.set ?_ _); repeat first | exact Mine.slot (by with_reducible assumption) | with_reducible refine MineS.drew ?_ | with_reducible refine MineS.drewN ?_ _ | exact MineS.new (by decide) | with_reducible refine MineS.set ?_ _ _ _ | with_reducible refine MineS.alloc ?_ _) | with_reducible refine Mine.other ?_ _ (by first | (left; omega) | (right; omega) | (simp; done) | (simp; omega)) | with_reducible refine Mine.alloc ?_ _)) hbw1; have g4w1 := n4w1.cell; have gf4w1 := n4w1.free; have n5w1 : Mine w1 bp 1 (.int .i64 pd) := Mine.below (by (repeat first | with_reducible assumption | with_reducible refine Mine.drew ?_ | with_reducible refine Mine.drewN ?_ _ | ((with_reducible refine Mine.new ?_); rfl) | ((with_reducible refine Mine.newAt ?_ ?_) <;> first | rfl | (simp; done) | (simp only [World.size_alloc]; rfl)) | ((with_reducible refine Mine.set ?_ _); repeat first | exact Mine.slot (by with_reducible assumption) | with_reducible refine MineS.drew ?_ | with_reducible refine MineS.drewN ?_ _ | exact MineS.new (by decide) | with_reducible refine MineS.set ?_ _ _ _ | with_reducible refine MineS.alloc ?_ _) | with_reducible refine Mine.other ?_ _ (by first | (left; omega) | (right; omega) | (simp; done) | (simp; omega)) | with_reducible refine Mine.alloc ?_ _)) hbw1; have g5w1 := n5w1.cell; have gf5w1 := n5w1.free; have hBw1 : Below w.heap.size w w1 := Below.trans (by repeat first | exact Below.refl _ _ | assumption | refine below_drewN ?_ _ | refine Below.drew ?_ | refine Below.setCell ?_ (by first | exact Nat.le_refl _ | (simp; done) | (simp; omega) | omega) _ | refine Below.alloc ?_ (by first | exact Nat.le_refl _ | (simp; done) | (simp; omega) | omega) _) (hbw1.mono (by first | exact Nat.le_refl _ | assumption | (simp; done) | (simp; omega) | omega)); have hzw1 := hbw1.size; )
      | (go_at_call 25; refine (hC.out _ i1 i2 hpn hpd).mono ?_; rintro e w2 ⟨rfl, hbw2⟩; have n1w2 : Mine w2 bt 0 (.pointer (some ⟨B, 0, none⟩)) := Mine.below (by (repeat first | with_reducible assumption | with_reducible refine Mine.drew ?_ | with_reducible refine Mine.drewN ?_ _ | ((with_reducible refine Mine.new ?_); rfl) | ((with_reducible refine Mine.newAt ?_ ?_) <;> first | rfl | (simp; done) | (simp only [World.size_alloc]; rfl)) | ((with_reducible refine Mine.set ?_ _); repeat first | exact Mine.slot (by with_reducible assumption) | with_reducible refine MineS.drew ?_ | with_reducible refine MineS.drewN ?_ _ | exact MineS.new (by decide) | with_reducible refine MineS.set ?_ _ _ _ | with_reducible refine MineS.alloc ?_ _) | with_reducible refine Mine.other ?_ _ (by first | (left; omega) | (right; omega) | (simp; done) | (simp; omega)) | with_reducible refine Mine.alloc ?_ _)) hbw2; have g1w2 := n1w2.cell; have gf1w2 := n1w2.free; have n2w2 : Mine w2 bn 0 (.int .i64 n) := Mine.below (by (repeat first | with_reducible assumption | with_reducible refine Mine.drew ?_ | with_reducible refine Mine.drewN ?_ _ | ((with_reducible refine Mine.new ?_); rfl) | ((with_reducible refine Mine.newAt ?_ ?_) <;> first | rfl | (simp; done) | (simp only [World.size_alloc]; rfl)) | ((with_reducible refine Mine.set ?_ _); repeat first | exact Mine.slot (by with_reducible assumption) | with_reducible refine MineS.drew ?_ | with_reducible refine MineS.drewN ?_ _ | exact MineS.new (by decide) | with_reducible refine MineS.set ?_ _ _ _ | with_reducible refine MineS.alloc ?_ _) | with_reducible refine Mine.other ?_ _ (by first | (left; omega) | (right; omega) | (simp; done) | (simp; omega)) | with_reducible refine Mine.alloc ?_ _)) hbw2; have g2w2 := n2w2.cell; have gf2w2 := n2w2.free; have n3w2 : Mine w2 bb 0 (.int .i64 k) := Mine.below (by (repeat first | with_reducible assumption | with_reducible refine Mine.drew ?_ | with_reducible refine Mine.drewN ?_ _ | ((with_reducible refine Mine.new ?_); rfl) | ((with_reducible refine Mine.newAt ?_ ?_) <;> first | rfl | (simp; done) | (simp only [World.size_alloc]; rfl)) | ((with_reducible refine Mine.set ?_ _); repeat first | exact Mine.slot (by with_reducible assumption) | with_reducible refine MineS.drew ?_ | with_reducible refine MineS.drewN ?_ _ | exact MineS.new (by decide) | with_reducible refine MineS.set ?_ _ _ _ | with_reducible refine MineS.alloc ?_ _) | with_reducible refine Mine.other ?_ _ (by first | (left; omega) | (right; omega) | (simp; done) | (simp; omega)) | with_reducible refine Mine.alloc ?_ _)) hbw2; have g3w2 := n3w2.cell; have gf3w2 := n3w2.free; have n4w2 : Mine w2 bp 0 (.int .i64 pn) := Mine.below (by (repeat first | with_reducible assumption | with_reducible refine Mine.drew ?_ | with_reducible refine Mine.drewN ?_ _ | ((with_reducible refine Mine.new ?_); rfl) | ((with_reducible refine Mine.newAt ?_ ?_) <;> first | rfl | (simp; done) | (simp only [World.size_alloc]; rfl)) | ((with_reducible refine Mine.set ?_ _); repeat first | exact Mine.slot (by with_reducible assumption) | with_reducible refine MineS.drew ?_ | with_reducible refine MineS.drewN ?_ _ | exact MineS.new (by decide) | with_reducible refine MineS.set ?_ _ _ _ | with_reducible refine MineS.alloc ?_ _) | with_reducible refine Mine.other ?_ _ (by first | (left; omega) | (right; omega) | (simp; done) | (simp; omega)) | with_reducible refine Mine.alloc ?_ _)) hbw2; have g4w2 := n4w2.cell; have gf4w2 := n4w2.free; have n5w2 : Mine w2 bp 1 (.int .i64 pd) := Mine.below (by (repeat first | with_reducible assumption | with_reducible refine Mine.drew ?_ | with_reducible refine Mine.drewN ?_ _ | ((with_reducible refine Mine.new ?_); rfl) | ((with_reducible refine Mine.newAt ?_ ?_) <;> first | rfl | (simp; done) | (simp only [World.size_alloc]; rfl)) | ((with_reducible refine Mine.set ?_ _); repeat first | exact Mine.slot (by with_reducible assumption) | with_reducible refine MineS.drew ?_ | with_reducible refine MineS.drewN ?_ _ | exact MineS.new (by decide) | with_reducible refine MineS.set ?_ _ _ _ | with_reducible refine MineS.alloc ?_ _) | with_reducible refine Mine.other ?_ _ (by first | (left; omega) | (right; omega) | (simp; done) | (simp; omega)) | with_reducible refine Mine.alloc ?_ _)) hbw2; have g5w2 := n5w2.cell; have gf5w2 := n5w2.free; have hBw2 : Below w.heap.size w w2 := Below.trans (by repeat first | exact Below.refl _ _ | assumption | refine below_drewN ?_ _ | refine Below.drew ?_ | refine Below.setCell ?_ (by first | exact Nat.le_refl _ | (simp; done) | (simp; omega) | omega) _ | refine Below.alloc ?_ (by first | exact Nat.le_refl _ | (simp; done) | (simp; omega) | omega) _) (hbw2.mono (by first | exact Nat.le_refl _ | assumption | (simp; done) | (simp; omega) | omega)); have hzw2 := hbw2.size; ))) | fail
  go_wp2
  go_ret
  exact ⟨ret_bool hv.out.symm, (by repeat first | exact Below.refl _ _ | assumption | refine below_drewN ?_ _ | refine Below.drew ?_ | refine Below.setCell ?_ (by first | exact Nat.le_refl _ | (simp; done) | (simp; omega) | omega) _ | refine Below.alloc ?_ (by first | exact Nat.le_refl _ | (simp; done) | (simp; omega) | omega) _)⟩
end Go.Proofs.YtjlldolmlfgejaaDoor
