/-
  The reference's Digits at every number, text, Print.
-/
import Derived.Test.YtfojgdlegojdgaaDoorRefT
import Derived.Test.YtfojgdlegojdgaaDoorFit
namespace Go.Proofs.YtfojgdlegojdgaaDoor
open Go.RowKit

set_option maxRecDepth 100000 in
set_option maxHeartbeats 1000000 in
theorem Digits_any (n : Int) (w : World) (hn : n.natAbs ≤ 1000000000) :
    Calls Tryd.prog 60 #[.int .i64 n] w fun e w' => e = .returned (.string (str (Lib.itoa n))) ∧ Below w.heap.size w w' := by
  have hB : Below w.heap.size w w := Below.refl _ _
  by_cases h : n < 0
  · have hd : decide (n < 0) = true := by simpa using h
    have hD := Lib.hid (fun w => Digits_nat n.natAbs w hn)
    have hadd := add_str [45] (Lib.decDigits n.natAbs) (by have := decDigits_le hn; simp; omega)
    rw [show str [45] = ⟨#[45]⟩ from rfl, show [45] ++ Lib.decDigits n.natAbs = 45 :: Lib.decDigits n.natAbs from rfl] at hadd
    have hv : Hid (Lib.itoa n = 45 :: Lib.decDigits n.natAbs) := by show _ = _; unfold Lib.itoa; rw [if_pos h]
    have h1 : -9223372036854775808 ≤ -n := by omega
    have h2 : -n ≤ 9223372036854775807 := by omega
    go_enter Tryd.func60, Tryd.ntmps60
    go_wp2_with fail
    rw [show -n = ((n.natAbs : Nat) : Int) from by omega]
    refine (hD.out _).mono ?_
    rintro e w1 ⟨rfl, hb1⟩
    replace hB := hB.trans (hb1.mono hB.size)
    have hb_w1 := hb1
    clear hb1
    go_wp2
    go_ret
    exact ⟨by rw [hv.out]; rfl, hB⟩
  · obtain ⟨u, rfl⟩ : ∃ u : Nat, n = u := ⟨n.toNat, by omega⟩
    rw [Lib.itoa_nonneg]
    exact Digits_nat u w (by omega)

set_option maxRecDepth 100000 in
set_option maxHeartbeats 1000000 in
theorem text_any (n d : Int) (w : World) (h : vld n d = true) :
    Calls Tryd.prog 40 #[rv n d] w fun e w' => e = .returned (.string (str (prt n d))) ∧ Below w.heap.size w w' := by
  have hB : Below w.heap.size w w := Below.refl _ _
  have b1 := I64.of_vld_num h
  have b2 := I64.of_vld_den h
  have hD1 := Lib.hid (fun w => Digits_any n w (by omega))
  have hD2 := Lib.hid (fun w => Digits_any d w (by omega))
  by_cases h1 : d = 1
  · have e1 : (d == 1) = true := by simpa using h1
    have hv : Hid (prt n d = Lib.itoa n) := by show _ = _; simp [prt, h1]
    clear h1 b1 b2 h
    go_enter Tryd.func40, Tryd.ntmps40
    go_wp2_with fail
    refine name_calls ?_
    intro w1 hww1
    have hBzw1 := hB.size
    replace hB : Below w.heap.size w w1 := by rw [hww1]; exact (by repeat first | with_reducible exact Below.refl _ _ | with_reducible assumption | with_reducible refine below_drewN ?_ _ | with_reducible refine Below.drew ?_ | with_reducible refine Below.setCell ?_ (by first | exact Nat.le_refl _ | (simp; done) | (simp; omega) | omega) _ | with_reducible refine Below.alloc ?_ (by first | exact Nat.le_refl _ | (simp; done) | (simp; omega) | omega) _ | exact Below.refl _ _ | assumption)
    clear hww1 hBzw1
    refine (hD1.out _).mono ?_
    rintro e w2 ⟨rfl, hb1⟩
    replace hB := hB.trans (hb1.mono hB.size)
    have hb_w2 := hb1
    clear hb1
    go_wp2
    go_ret
    exact ⟨by rw [hv.out]; rfl, hB⟩
  · have e1 : (d == 1) = false := by simpa using h1
    have hv : Hid (prt n d = Lib.itoa n ++ 47 :: Lib.itoa d) := by show _ = _; simp [prt, show 1 < d from by omega]
    have l1 := itoa_le (n := n) (by omega)
    have l2 := itoa_le (n := d) (by omega)
    have hadd1 := add_str (Lib.itoa n) [47] (by simp; omega)
    have hadd2 := add_str (Lib.itoa n ++ [47]) (Lib.itoa d) (by simp; omega)
    rw [show str [47] = ⟨#[47]⟩ from rfl] at hadd1
    clear h1 b1 b2 h l1 l2
    generalize Lib.itoa n = tn at *
    generalize Lib.itoa d = td at *
    go_enter Tryd.func40, Tryd.ntmps40
    go_wp2_with fail
    refine name_wp ?_
    intro w1 hww1
    replace m1 : Mine w1 w.heap.size 0 (.int .i64 n) := by rw [hww1]; (repeat first | with_reducible assumption | with_reducible refine Mine.drew ?_ | with_reducible refine Mine.drewN ?_ _ | ((with_reducible refine Mine.new ?_); rfl) | ((with_reducible refine Mine.newAt ?_ ?_) <;> first | rfl | (simp; done) | (simp only [World.size_alloc]; rfl)) | ((with_reducible refine Mine.set ?_ _); repeat first | exact Mine.slot (by with_reducible assumption) | with_reducible refine MineS.drew ?_ | with_reducible refine MineS.drewN ?_ _ | ((with_reducible refine MineS.new ?_); decide) | ((with_reducible refine MineS.newAt ?_ ?_) <;> first | decide | (simp; done)) | with_reducible refine MineS.set ?_ _ _ _ | with_reducible refine MineS.alloc ?_ _) | with_reducible refine Mine.other ?_ _ (by first | (left; omega) | (right; omega) | (simp; done) | (simp; omega)) | with_reducible refine Mine.alloc ?_ _)
    replace m2 : Mine w1 w.heap.size 1 (.int .i64 d) := by rw [hww1]; (repeat first | with_reducible assumption | with_reducible refine Mine.drew ?_ | with_reducible refine Mine.drewN ?_ _ | ((with_reducible refine Mine.new ?_); rfl) | ((with_reducible refine Mine.newAt ?_ ?_) <;> first | rfl | (simp; done) | (simp only [World.size_alloc]; rfl)) | ((with_reducible refine Mine.set ?_ _); repeat first | exact Mine.slot (by with_reducible assumption) | with_reducible refine MineS.drew ?_ | with_reducible refine MineS.drewN ?_ _ | ((with_reducible refine MineS.new ?_); decide) | ((with_reducible refine MineS.newAt ?_ ?_) <;> first | decide | (simp; done)) | with_reducible refine MineS.set ?_ _ _ _ | with_reducible refine MineS.alloc ?_ _) | with_reducible refine Mine.other ?_ _ (by first | (left; omega) | (right; omega) | (simp; done) | (simp; omega)) | with_reducible refine Mine.alloc ?_ _)
    have hBzw1 := hB.size
    replace hB : Below w.heap.size w w1 := by rw [hww1]; exact (by repeat first | with_reducible exact Below.refl _ _ | with_reducible assumption | with_reducible refine below_drewN ?_ _ | with_reducible refine Below.drew ?_ | with_reducible refine Below.setCell ?_ (by first | exact Nat.le_refl _ | (simp; done) | (simp; omega) | omega) _ | with_reducible refine Below.alloc ?_ (by first | exact Nat.le_refl _ | (simp; done) | (simp; omega) | omega) _ | exact Below.refl _ _ | assumption)
    clear hww1 hBzw1
    have hzd : w.heap.size ≤ w1.heap.size := hB.size
    have hzq : w.heap.size ≤ w1.drew.heap.size := hB.size
    have c1 := m1.cell
    have f1 := m1.free
    have l1 := m1.lt
    have c2 := m2.cell
    have f2 := m2.free
    have l2 := m2.lt
    refine wp_region_held_drew (S := fun w' => w'.cell? ⟨w.heap.size, 0, none⟩ = some (.int .i64 n) ∧ w'.cell? ⟨w.heap.size, 1, none⟩ = some (.int .i64 d)) (by kernel_rfl) (by first | (dsimp only; go_keep) | go_keep) (fun hHeld => ?_)
    refine take_l (i := 0) (v := ?_) rfl (by kernel_rfl) (by kernel_rfl) (by kernel_rfl) (fun _ _ _ h => h) (Or.inl ⟨by kernel_rfl, ?_⟩) (by assumption) ?_
    rotate_left
    · intro w hSw; (try dsimp only at hSw); go_simp; (try with_reducible rfl)
    (try dsimp only [Act.put, List.setIfInBounds_toArray, List.set_cons_zero, List.set_cons_succ])
    refine take_l (i := 1) (v := ?_) rfl (by kernel_rfl) (by kernel_rfl) (by kernel_rfl) (fun _ _ _ h => h) (Or.inl ⟨by kernel_rfl, ?_⟩) (by assumption) ?_
    rotate_left
    · intro w hSw; (try dsimp only at hSw); go_simp; (try with_reducible rfl)
    (try dsimp only [Act.put, List.setIfInBounds_toArray, List.set_cons_zero, List.set_cons_succ])
    refine take_l (i := 4) (v := ?_) rfl (by kernel_rfl) (by kernel_rfl) (by kernel_rfl) (fun _ _ _ h => h) (Or.inl ⟨by kernel_rfl, ?_⟩) (by assumption) ?_
    rotate_left
    · intro w hSw; (try dsimp only at hSw); go_simp; (try with_reducible rfl)
    (try dsimp only [Act.put, List.setIfInBounds_toArray, List.set_cons_zero, List.set_cons_succ])
    refine take_l (i := 5) (v := ?_) rfl (by kernel_rfl) (by kernel_rfl) (by kernel_rfl) (fun _ _ _ h => h) (Or.inl ⟨by kernel_rfl, ?_⟩) (by assumption) ?_
    rotate_left
    · intro w hSw; (try dsimp only at hSw); go_simp; (try with_reducible rfl)
    (try dsimp only [Act.put, List.setIfInBounds_toArray, List.set_cons_zero, List.set_cons_succ])
    refine wpAnyH_ready (rs := [2]) (by kernel_rfl) (by simp) ?_
    refine ready_l rfl (fun K hK => ?_) AllReadyH.nil
    go_simp
    first | (go_at_call 60; (with_reducible refine (hD1.out _).mono ?_); rintro e wi ⟨rfl, hbwi⟩; have n1wi : Mine wi w.heap.size 0 (.int .i64 n) := Mine.below (by (repeat first | with_reducible assumption | with_reducible refine Mine.drew ?_ | with_reducible refine Mine.drewN ?_ _ | ((with_reducible refine Mine.new ?_); rfl) | ((with_reducible refine Mine.newAt ?_ ?_) <;> first | rfl | (simp; done) | (simp only [World.size_alloc]; rfl)) | ((with_reducible refine Mine.set ?_ _); repeat first | exact Mine.slot (by with_reducible assumption) | with_reducible refine MineS.drew ?_ | with_reducible refine MineS.drewN ?_ _ | ((with_reducible refine MineS.new ?_); decide) | ((with_reducible refine MineS.newAt ?_ ?_) <;> first | decide | (simp; done)) | with_reducible refine MineS.set ?_ _ _ _ | with_reducible refine MineS.alloc ?_ _) | with_reducible refine Mine.other ?_ _ (by first | (left; omega) | (right; omega) | (simp; done) | (simp; omega)) | with_reducible refine Mine.alloc ?_ _)) hbwi; have g1wi := n1wi.cell; have gf1wi := n1wi.free; have n2wi : Mine wi w.heap.size 1 (.int .i64 d) := Mine.below (by (repeat first | with_reducible assumption | with_reducible refine Mine.drew ?_ | with_reducible refine Mine.drewN ?_ _ | ((with_reducible refine Mine.new ?_); rfl) | ((with_reducible refine Mine.newAt ?_ ?_) <;> first | rfl | (simp; done) | (simp only [World.size_alloc]; rfl)) | ((with_reducible refine Mine.set ?_ _); repeat first | exact Mine.slot (by with_reducible assumption) | with_reducible refine MineS.drew ?_ | with_reducible refine MineS.drewN ?_ _ | ((with_reducible refine MineS.new ?_); decide) | ((with_reducible refine MineS.newAt ?_ ?_) <;> first | decide | (simp; done)) | with_reducible refine MineS.set ?_ _ _ _ | with_reducible refine MineS.alloc ?_ _) | with_reducible refine Mine.other ?_ _ (by first | (left; omega) | (right; omega) | (simp; done) | (simp; omega)) | with_reducible refine Mine.alloc ?_ _)) hbwi; have g2wi := n2wi.cell; have gf2wi := n2wi.free; have hBwi : Below w.heap.size w wi := Below.trans (by repeat first | with_reducible exact Below.refl _ _ | with_reducible assumption | with_reducible refine below_drewN ?_ _ | with_reducible refine Below.drew ?_ | with_reducible refine Below.setCell ?_ (by first | exact Nat.le_refl _ | (simp; done) | (simp; omega) | omega) _ | with_reducible refine Below.alloc ?_ (by first | exact Nat.le_refl _ | (simp; done) | (simp; omega) | omega) _ | exact Below.refl _ _ | assumption) (hbwi.mono (by first | exact Nat.le_refl _ | assumption | (simp; done) | (simp; omega) | omega)); have hzwi := hbwi.size; ) | (go_at_call 60; (with_reducible refine (hD2.out _).mono ?_); rintro e wj ⟨rfl, hbwj⟩; have n1wj : Mine wj w.heap.size 0 (.int .i64 n) := Mine.below (by (repeat first | with_reducible assumption | with_reducible refine Mine.drew ?_ | with_reducible refine Mine.drewN ?_ _ | ((with_reducible refine Mine.new ?_); rfl) | ((with_reducible refine Mine.newAt ?_ ?_) <;> first | rfl | (simp; done) | (simp only [World.size_alloc]; rfl)) | ((with_reducible refine Mine.set ?_ _); repeat first | exact Mine.slot (by with_reducible assumption) | with_reducible refine MineS.drew ?_ | with_reducible refine MineS.drewN ?_ _ | ((with_reducible refine MineS.new ?_); decide) | ((with_reducible refine MineS.newAt ?_ ?_) <;> first | decide | (simp; done)) | with_reducible refine MineS.set ?_ _ _ _ | with_reducible refine MineS.alloc ?_ _) | with_reducible refine Mine.other ?_ _ (by first | (left; omega) | (right; omega) | (simp; done) | (simp; omega)) | with_reducible refine Mine.alloc ?_ _)) hbwj; have g1wj := n1wj.cell; have gf1wj := n1wj.free; have n2wj : Mine wj w.heap.size 1 (.int .i64 d) := Mine.below (by (repeat first | with_reducible assumption | with_reducible refine Mine.drew ?_ | with_reducible refine Mine.drewN ?_ _ | ((with_reducible refine Mine.new ?_); rfl) | ((with_reducible refine Mine.newAt ?_ ?_) <;> first | rfl | (simp; done) | (simp only [World.size_alloc]; rfl)) | ((with_reducible refine Mine.set ?_ _); repeat first | exact Mine.slot (by with_reducible assumption) | with_reducible refine MineS.drew ?_ | with_reducible refine MineS.drewN ?_ _ | ((with_reducible refine MineS.new ?_); decide) | ((with_reducible refine MineS.newAt ?_ ?_) <;> first | decide | (simp; done)) | with_reducible refine MineS.set ?_ _ _ _ | with_reducible refine MineS.alloc ?_ _) | with_reducible refine Mine.other ?_ _ (by first | (left; omega) | (right; omega) | (simp; done) | (simp; omega)) | with_reducible refine Mine.alloc ?_ _)) hbwj; have g2wj := n2wj.cell; have gf2wj := n2wj.free; have hBwj : Below w.heap.size w wj := Below.trans (by repeat first | with_reducible exact Below.refl _ _ | with_reducible assumption | with_reducible refine below_drewN ?_ _ | with_reducible refine Below.drew ?_ | with_reducible refine Below.setCell ?_ (by first | exact Nat.le_refl _ | (simp; done) | (simp; omega) | omega) _ | with_reducible refine Below.alloc ?_ (by first | exact Nat.le_refl _ | (simp; done) | (simp; omega) | omega) _ | exact Below.refl _ _ | assumption) (hbwj.mono (by first | exact Nat.le_refl _ | assumption | (simp; done) | (simp; omega) | omega)); have hzwj := hbwj.size; )
    refine hK.out _ _ (by first | (dsimp only; go_keep) | go_keep) (fun hHeld => ?_)
    clear hK K
    (try dsimp only [Act.put, List.setIfInBounds_toArray, List.set_cons_zero, List.set_cons_succ])
    refine take_l (i := 3) (v := ?_) rfl (by kernel_rfl) (by kernel_rfl) (by kernel_rfl) (fun _ _ _ h => h) (Or.inl ⟨by kernel_rfl, ?_⟩) (by assumption) ?_
    rotate_left
    · intro w hSw; (try dsimp only at hSw); go_simp; (try with_reducible rfl)
    (try dsimp only [Act.put, List.setIfInBounds_toArray, List.set_cons_zero, List.set_cons_succ])
    refine wpAnyH_ready (rs := [6]) (by kernel_rfl) (by simp) ?_
    refine ready_l rfl (fun K hK => ?_) AllReadyH.nil
    go_simp
    first | (go_at_call 60; (with_reducible refine (hD1.out _).mono ?_); rintro e wi ⟨rfl, hbwi⟩; have n1wi : Mine wi w.heap.size 0 (.int .i64 n) := Mine.below (by (repeat first | with_reducible assumption | with_reducible refine Mine.drew ?_ | with_reducible refine Mine.drewN ?_ _ | ((with_reducible refine Mine.new ?_); rfl) | ((with_reducible refine Mine.newAt ?_ ?_) <;> first | rfl | (simp; done) | (simp only [World.size_alloc]; rfl)) | ((with_reducible refine Mine.set ?_ _); repeat first | exact Mine.slot (by with_reducible assumption) | with_reducible refine MineS.drew ?_ | with_reducible refine MineS.drewN ?_ _ | ((with_reducible refine MineS.new ?_); decide) | ((with_reducible refine MineS.newAt ?_ ?_) <;> first | decide | (simp; done)) | with_reducible refine MineS.set ?_ _ _ _ | with_reducible refine MineS.alloc ?_ _) | with_reducible refine Mine.other ?_ _ (by first | (left; omega) | (right; omega) | (simp; done) | (simp; omega)) | with_reducible refine Mine.alloc ?_ _)) hbwi; have g1wi := n1wi.cell; have gf1wi := n1wi.free; have n2wi : Mine wi w.heap.size 1 (.int .i64 d) := Mine.below (by (repeat first | with_reducible assumption | with_reducible refine Mine.drew ?_ | with_reducible refine Mine.drewN ?_ _ | ((with_reducible refine Mine.new ?_); rfl) | ((with_reducible refine Mine.newAt ?_ ?_) <;> first | rfl | (simp; done) | (simp only [World.size_alloc]; rfl)) | ((with_reducible refine Mine.set ?_ _); repeat first | exact Mine.slot (by with_reducible assumption) | with_reducible refine MineS.drew ?_ | with_reducible refine MineS.drewN ?_ _ | ((with_reducible refine MineS.new ?_); decide) | ((with_reducible refine MineS.newAt ?_ ?_) <;> first | decide | (simp; done)) | with_reducible refine MineS.set ?_ _ _ _ | with_reducible refine MineS.alloc ?_ _) | with_reducible refine Mine.other ?_ _ (by first | (left; omega) | (right; omega) | (simp; done) | (simp; omega)) | with_reducible refine Mine.alloc ?_ _)) hbwi; have g2wi := n2wi.cell; have gf2wi := n2wi.free; have hBwi : Below w.heap.size w wi := Below.trans (by repeat first | with_reducible exact Below.refl _ _ | with_reducible assumption | with_reducible refine below_drewN ?_ _ | with_reducible refine Below.drew ?_ | with_reducible refine Below.setCell ?_ (by first | exact Nat.le_refl _ | (simp; done) | (simp; omega) | omega) _ | with_reducible refine Below.alloc ?_ (by first | exact Nat.le_refl _ | (simp; done) | (simp; omega) | omega) _ | exact Below.refl _ _ | assumption) (hbwi.mono (by first | exact Nat.le_refl _ | assumption | (simp; done) | (simp; omega) | omega)); have hzwi := hbwi.size; ) | (go_at_call 60; (with_reducible refine (hD2.out _).mono ?_); rintro e wj ⟨rfl, hbwj⟩; have n1wj : Mine wj w.heap.size 0 (.int .i64 n) := Mine.below (by (repeat first | with_reducible assumption | with_reducible refine Mine.drew ?_ | with_reducible refine Mine.drewN ?_ _ | ((with_reducible refine Mine.new ?_); rfl) | ((with_reducible refine Mine.newAt ?_ ?_) <;> first | rfl | (simp; done) | (simp only [World.size_alloc]; rfl)) | ((with_reducible refine Mine.set ?_ _); repeat first | exact Mine.slot (by with_reducible assumption) | with_reducible refine MineS.drew ?_ | with_reducible refine MineS.drewN ?_ _ | ((with_reducible refine MineS.new ?_); decide) | ((with_reducible refine MineS.newAt ?_ ?_) <;> first | decide | (simp; done)) | with_reducible refine MineS.set ?_ _ _ _ | with_reducible refine MineS.alloc ?_ _) | with_reducible refine Mine.other ?_ _ (by first | (left; omega) | (right; omega) | (simp; done) | (simp; omega)) | with_reducible refine Mine.alloc ?_ _)) hbwj; have g1wj := n1wj.cell; have gf1wj := n1wj.free; have n2wj : Mine wj w.heap.size 1 (.int .i64 d) := Mine.below (by (repeat first | with_reducible assumption | with_reducible refine Mine.drew ?_ | with_reducible refine Mine.drewN ?_ _ | ((with_reducible refine Mine.new ?_); rfl) | ((with_reducible refine Mine.newAt ?_ ?_) <;> first | rfl | (simp; done) | (simp only [World.size_alloc]; rfl)) | ((with_reducible refine Mine.set ?_ _); repeat first | exact Mine.slot (by with_reducible assumption) | with_reducible refine MineS.drew ?_ | with_reducible refine MineS.drewN ?_ _ | ((with_reducible refine MineS.new ?_); decide) | ((with_reducible refine MineS.newAt ?_ ?_) <;> first | decide | (simp; done)) | with_reducible refine MineS.set ?_ _ _ _ | with_reducible refine MineS.alloc ?_ _) | with_reducible refine Mine.other ?_ _ (by first | (left; omega) | (right; omega) | (simp; done) | (simp; omega)) | with_reducible refine Mine.alloc ?_ _)) hbwj; have g2wj := n2wj.cell; have gf2wj := n2wj.free; have hBwj : Below w.heap.size w wj := Below.trans (by repeat first | with_reducible exact Below.refl _ _ | with_reducible assumption | with_reducible refine below_drewN ?_ _ | with_reducible refine Below.drew ?_ | with_reducible refine Below.setCell ?_ (by first | exact Nat.le_refl _ | (simp; done) | (simp; omega) | omega) _ | with_reducible refine Below.alloc ?_ (by first | exact Nat.le_refl _ | (simp; done) | (simp; omega) | omega) _ | exact Below.refl _ _ | assumption) (hbwj.mono (by first | exact Nat.le_refl _ | assumption | (simp; done) | (simp; omega) | omega)); have hzwj := hbwj.size; )
    refine hK.out _ _ (by first | (dsimp only; go_keep) | go_keep) (fun hHeld => ?_)
    clear hK K
    (try dsimp only [Act.put, List.setIfInBounds_toArray, List.set_cons_zero, List.set_cons_succ])
    refine take_l (i := 7) (v := ?_) rfl (by kernel_rfl) (by kernel_rfl) (by kernel_rfl) (fun _ _ _ h => h) (Or.inl ⟨by kernel_rfl, ?_⟩) (by assumption) ?_
    rotate_left
    · intro w hSw; (try dsimp only at hSw); go_simp; (try with_reducible rfl)
    (try dsimp only [Act.put, List.setIfInBounds_toArray, List.set_cons_zero, List.set_cons_succ])
    refine take_l (i := 8) (v := ?_) rfl (by kernel_rfl) (by kernel_rfl) (by kernel_rfl) (fun _ _ _ h => h) (Or.inl ⟨by kernel_rfl, ?_⟩) (by assumption) ?_
    rotate_left
    · intro w hSw; (try dsimp only at hSw); go_simp; (try with_reducible rfl)
    (try dsimp only [Act.put, List.setIfInBounds_toArray, List.set_cons_zero, List.set_cons_succ])
    refine wpAnyH_done (by kernel_rfl) ?_ _
    go_wp2
    go_ret
    exact ⟨by rw [hv.out]; rfl, (by repeat first | with_reducible exact Below.refl _ _ | with_reducible assumption | with_reducible refine below_drewN ?_ _ | with_reducible refine Below.drew ?_ | with_reducible refine Below.setCell ?_ (by first | exact Nat.le_refl _ | (simp; done) | (simp; omega) | omega) _ | with_reducible refine Below.alloc ?_ (by first | exact Nat.le_refl _ | (simp; done) | (simp; omega) | omega) _ | exact Below.refl _ _ | assumption)⟩

set_option maxHeartbeats 1000000 in
theorem refPrint_any (n d : Int) (w : World) (hn : I64 n) (hd : I64 d) :
    Calls Tryd.prog 15 #[rv n d] w fun e w' => e = .returned (.tuple #[.string (str (prtv n d).1), .int .i64 (prtv n d).2]) ∧ Below w.heap.size w w' := by
  have hB : Below w.heap.size w w := Below.refl _ _
  have hV := Lib.hid (fun w => refValid_any n d w hn hd)
  by_cases h : vld n d = true
  · have hT := Lib.hid (fun w => text_any n d w h)
    have hv : Hid (prtv n d = (prt n d, 0)) := by show _ = _; simp [prtv, h]
    replace h := Lib.hid h
    go_enter Tryd.func15, Tryd.ntmps15
    go_wp2_with fail
    refine (hV.out _).mono ?_; rintro e w1 ⟨rfl, k1, rfl⟩
    rw [h.out]
    go_wp2_with fail
    refine name_calls ?_
    intro w1 hww1
    have hBzw1 := hB.size
    replace hB : Below w.heap.size w w1 := by rw [hww1]; exact (by repeat first | with_reducible exact Below.refl _ _ | with_reducible assumption | with_reducible refine below_drewN ?_ _ | with_reducible refine Below.drew ?_ | with_reducible refine Below.setCell ?_ (by first | exact Nat.le_refl _ | (simp; done) | (simp; omega) | omega) _ | with_reducible refine Below.alloc ?_ (by first | exact Nat.le_refl _ | (simp; done) | (simp; omega) | omega) _ | exact Below.refl _ _ | assumption)
    clear hww1 hBzw1
    refine (hT.out _).mono ?_
    rintro e w2 ⟨rfl, hb1⟩
    replace hB := hB.trans (hb1.mono hB.size)
    have hb_w2 := hb1
    clear hb1
    go_wp2
    go_ret2
    exact ⟨by rw [hv.out]; rfl, hB⟩
  · have h' : vld n d = false := by simpa using h
    have hv : Hid (prtv n d = ([], 30)) := by show _ = _; simp [prtv, h']
    replace h' := Lib.hid h'
    clear h
    go_enter Tryd.func15, Tryd.ntmps15
    go_wp2_with fail
    refine (hV.out _).mono ?_; rintro e w1 ⟨rfl, k1, rfl⟩
    rw [h'.out]
    go_wp2
    go_ret2
    exact ⟨by rw [hv.out]; rfl, (by repeat first | with_reducible exact Below.refl _ _ | with_reducible assumption | with_reducible refine below_drewN ?_ _ | with_reducible refine Below.drew ?_ | with_reducible refine Below.setCell ?_ (by first | exact Nat.le_refl _ | (simp; done) | (simp; omega) | omega) _ | with_reducible refine Below.alloc ?_ (by first | exact Nat.le_refl _ | (simp; done) | (simp; omega) | omega) _ | exact Below.refl _ _ | assumption)⟩
end Go.Proofs.YtfojgdlegojdgaaDoor
