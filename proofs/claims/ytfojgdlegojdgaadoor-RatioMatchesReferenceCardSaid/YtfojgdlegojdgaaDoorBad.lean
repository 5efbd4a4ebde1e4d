/-
  The closures of ratio.Mul, Add, Div where a fraction is not valid: they panic with errMisfit. (Printed by genbad.py.)
-/
import Derived.Test.YtfojgdlegojdgaaDoorBadOf
import Derived.Test.YtfojgdlegojdgaaDoorFitA
namespace Go.Proofs.YtfojgdlegojdgaaDoor
open Go.RowKit

set_option maxRecDepth 100000 in
set_option maxHeartbeats 1000000 in
theorem Mul1_bada (a b c d : Int) (B1 B2 : Nat) (w : World) (ia : I64 a) (ib : I64 b) (h1 : vld a b = false) (p : Addr) (hM : Mis w p)
    (m1 : Mine w B1 0 (.int .i64 a)) (m2 : Mine w B1 1 (.int .i64 b)) (m3 : Mine w B2 0 (.int .i64 c)) (m4 : Mine w B2 1 (.int .i64 d)) :
    Calls Tryd.prog 53 #[.pointer (some ⟨B1, 0, none⟩), .pointer (some ⟨B2, 0, none⟩)] w fun e w' => e = misE p ∧ Below w.heap.size w w' := by
  have hB : Below w.heap.size w w := Below.refl _ _
  have hMp := Lib.hid (fun W (hW : Below w.heap.size w W) => hM.below hW)
  clear hM
  go_enter Tryd.func53, Tryd.ntmps53
  go_wp2
  have c1 := m1.cell
  have f1 := m1.free
  have l1 := m1.lt
  have c2 := m2.cell
  have f2 := m2.free
  have l2 := m2.lt
  have c3 := m3.cell
  have f3 := m3.free
  have l3 := m3.lt
  have c4 := m4.cell
  have f4 := m4.free
  have l4 := m4.lt
  rename_i Q0 K0 hK0
  have hc1 : ∀ w', Below w.heap.size w w' → w'.cell? ⟨B1, 0, none⟩ = some (.int .i64 a) := fun w' h => (h.cell l1).trans c1
  have hc2 : ∀ w', Below w.heap.size w w' → w'.cell? ⟨B1, 1, none⟩ = some (.int .i64 b) := fun w' h => (h.cell l2).trans c2
  have hc3 : ∀ w', Below w.heap.size w w' → w'.cell? ⟨B2, 0, none⟩ = some (.int .i64 c) := fun w' h => (h.cell l3).trans c3
  have hc4 : ∀ w', Below w.heap.size w w' → w'.cell? ⟨B2, 1, none⟩ = some (.int .i64 d) := fun w' h => (h.cell l4).trans c4
  refine wp_region_held_drew (S := fun w' => Below w.heap.size w w') (by kernel_rfl) (hB.drew) (fun hHeld => ?_)
  refine take_l (i := 0) (v := rv a b) rfl (by kernel_rfl) (by kernel_rfl) (by kernel_rfl) (fun _ _ _ h => h) (Or.inl ⟨by rfl, ?_⟩) (by assumption) ?_
  · intro w' hSw
    have g1 := hc1 w' hSw
    have g2 := hc2 w' hSw
    go_simp; (try with_reducible rfl)
  (try dsimp only [Act.put, List.setIfInBounds_toArray, List.set_cons_zero, List.set_cons_succ])
  refine take_l (i := 2) (v := rv c d) rfl (by kernel_rfl) (by kernel_rfl) (by kernel_rfl) (fun _ _ _ h => h) (Or.inl ⟨by rfl, ?_⟩) (by assumption) ?_
  · intro w' hSw
    have g3 := hc3 w' hSw
    have g4 := hc4 w' hSw
    go_simp; (try with_reducible rfl)
  (try dsimp only [Act.put, List.setIfInBounds_toArray, List.set_cons_zero, List.set_cons_succ])
  clear hc1 hc2 hc3 hc4 m1 m2 m3 m4 c1 c2 c3 c4 f1 f2 f3 f4 l1 l2 l3 l4 hK0
  replace hB : Below w.heap.size w w.drew := hB.drew
  generalize hw0 : w.drew = w0 at *
  clear hw0
  refine wpAnyH_ready (rs := [1, 4, 5]) (by kernel_rfl) (by simp) ?_
  refine ready_l rfl (fun K1 hK1 => ?_) ?_
  · skip
    go_simp
    refine (of_bad a b _ ia ib h1 p (hMp.out _ hB)).mono ?_
    rintro e x2 ⟨rfl, hb1⟩
    replace hB := hB.trans (hb1.mono hB.size)
    have hb_x2 := hb1
    clear hb1
    unfold misE
    go_wp2
    exact ⟨rfl, rfl, hB⟩
  refine ready_l rfl (fun K1 hK1 => ?_) ?_
  · skip
    have hle4 := hB.size
    go_simp
    refine name_K ?_
    intro x3 hwx3
    have mAll : Mine x3 w0.heap.size 0 (.int .i64 0) ∧ Mine x3 w0.heap.size 1 (.int .i64 0) := by
      rw [hwx3]
      refine ⟨?_, ?_⟩ <;> (repeat first | with_reducible assumption | with_reducible refine Mine.drew ?_ | with_reducible refine Mine.drewN ?_ _ | ((with_reducible refine Mine.new ?_); rfl) | ((with_reducible refine Mine.newAt ?_ ?_) <;> first | rfl | (simp; done) | (simp only [World.size_alloc]; rfl)) | ((with_reducible refine Mine.set ?_ _); repeat first | exact Mine.slot (by with_reducible assumption) | with_reducible refine MineS.drew ?_ | with_reducible refine MineS.drewN ?_ _ | ((with_reducible refine MineS.new ?_); decide) | ((with_reducible refine MineS.newAt ?_ ?_) <;> first | decide | (simp; done)) | with_reducible refine MineS.set ?_ _ _ _ | with_reducible refine MineS.alloc ?_ _) | with_reducible refine Mine.other ?_ _ (by first | (left; omega) | (right; omega) | (simp; done) | (simp; omega)) | with_reducible refine Mine.alloc ?_ _)
    obtain ⟨m41, m42⟩ := mAll
    have hBzx3 := hB.size
    replace hB : Below w.heap.size w x3 := by rw [hwx3]; exact (by repeat first | with_reducible exact Below.refl _ _ | with_reducible assumption | with_reducible refine below_drewN ?_ _ | with_reducible refine Below.drew ?_ | with_reducible refine Below.setCell ?_ (by first | exact Nat.le_refl _ | (simp; done) | (simp; omega) | omega) _ | with_reducible refine Below.alloc ?_ (by first | exact Nat.le_refl _ | (simp; done) | (simp; omega) | omega) _ | exact Below.refl _ _ | assumption)
    clear hwx3 hBzx3
    refine hK1.out _ _ hB (fun _ => ?_)
    clear hK1 K1
    (try dsimp only [Act.put, List.setIfInBounds_toArray, List.set_cons_zero, List.set_cons_succ])
    refine wpAnyH_ready (rs := [1, 5]) (by kernel_rfl) (by simp) ?_
    refine ready_l rfl (fun K1 hK1 => ?_) ?_
    · skip
      go_simp
      refine (of_bad a b _ ia ib h1 p (hMp.out _ hB)).mono ?_
      rintro e x5 ⟨rfl, hb1⟩
      replace m41 := m41.below hb1
      replace m42 := m42.below hb1
      replace hB := hB.trans (hb1.mono hB.size)
      have hb_x5 := hb1
      clear hb1
      unfold misE
      go_wp2
      exact ⟨rfl, rfl, hB⟩
    refine ready_l rfl (fun K1 hK1 => ?_) AllReadyH.nil
    have hle5 := hB.size
    have hne := m41.lt
    go_simp
    refine name_K ?_
    intro x6 hwx6
    have mAll : Mine x6 w0.heap.size 0 (.int .i64 0) ∧ Mine x6 w0.heap.size 1 (.int .i64 0) ∧ Mine x6 x3.heap.size 0 (.int .i64 0) ∧ Mine x6 x3.heap.size 1 (.int .i64 0) := by
      rw [hwx6]
      refine ⟨?_, ?_, ?_, ?_⟩ <;> (repeat first | with_reducible assumption | with_reducible refine Mine.drew ?_ | with_reducible refine Mine.drewN ?_ _ | ((with_reducible refine Mine.new ?_); rfl) | ((with_reducible refine Mine.newAt ?_ ?_) <;> first | rfl | (simp; done) | (simp only [World.size_alloc]; rfl)) | ((with_reducible refine Mine.set ?_ _); repeat first | exact Mine.slot (by with_reducible assumption) | with_reducible refine MineS.drew ?_ | with_reducible refine MineS.drewN ?_ _ | ((with_reducible refine MineS.new ?_); decide) | ((with_reducible refine MineS.newAt ?_ ?_) <;> first | decide | (simp; done)) | with_reducible refine MineS.set ?_ _ _ _ | with_reducible refine MineS.alloc ?_ _) | with_reducible refine Mine.other ?_ _ (by first | (left; omega) | (right; omega) | (simp; done) | (simp; omega)) | with_reducible refine Mine.alloc ?_ _)
    clear m41 m42
    obtain ⟨m41, m42, m51, m52⟩ := mAll
    have hBzx6 := hB.size
    replace hB : Below w.heap.size w x6 := by rw [hwx6]; exact (by repeat first | with_reducible exact Below.refl _ _ | with_reducible assumption | with_reducible refine below_drewN ?_ _ | with_reducible refine Below.drew ?_ | with_reducible refine Below.setCell ?_ (by first | exact Nat.le_refl _ | (simp; done) | (simp; omega) | omega) _ | with_reducible refine Below.alloc ?_ (by first | exact Nat.le_refl _ | (simp; done) | (simp; omega) | omega) _ | exact Below.refl _ _ | assumption)
    clear hwx6 hBzx6
    refine hK1.out _ _ hB (fun _ => ?_)
    clear hK1 K1
    (try dsimp only [Act.put, List.setIfInBounds_toArray, List.set_cons_zero, List.set_cons_succ])
    refine wpAnyH_ready (rs := [1]) (by kernel_rfl) (by simp) ?_
    refine ready_l rfl (fun K1 hK1 => ?_) AllReadyH.nil
    go_simp
    refine (of_bad a b _ ia ib h1 p (hMp.out _ hB)).mono ?_
    rintro e x8 ⟨rfl, hb1⟩
    replace m41 := m41.below hb1
    replace m42 := m42.below hb1
    replace m51 := m51.below hb1
    replace m52 := m52.below hb1
    replace hB := hB.trans (hb1.mono hB.size)
    have hb_x8 := hb1
    clear hb1
    unfold misE
    go_wp2
    exact ⟨rfl, rfl, hB⟩
  refine ready_l rfl (fun K1 hK1 => ?_) AllReadyH.nil
  have hle5 := hB.size
  go_simp
  refine name_K ?_
  intro x9 hwx9
  have mAll : Mine x9 w0.heap.size 0 (.int .i64 0) ∧ Mine x9 w0.heap.size 1 (.int .i64 0) := by
    rw [hwx9]
    refine ⟨?_, ?_⟩ <;> (repeat first | with_reducible assumption | with_reducible refine Mine.drew ?_ | with_reducible refine Mine.drewN ?_ _ | ((with_reducible refine Mine.new ?_); rfl) | ((with_reducible refine Mine.newAt ?_ ?_) <;> first | rfl | (simp; done) | (simp only [World.size_alloc]; rfl)) | ((with_reducible refine Mine.set ?_ _); repeat first | exact Mine.slot (by with_reducible assumption) | with_reducible refine MineS.drew ?_ | with_reducible refine MineS.drewN ?_ _ | ((with_reducible refine MineS.new ?_); decide) | ((with_reducible refine MineS.newAt ?_ ?_) <;> first | decide | (simp; done)) | with_reducible refine MineS.set ?_ _ _ _ | with_reducible refine MineS.alloc ?_ _) | with_reducible refine Mine.other ?_ _ (by first | (left; omega) | (right; omega) | (simp; done) | (simp; omega)) | with_reducible refine Mine.alloc ?_ _)
  obtain ⟨m51, m52⟩ := mAll
  have hBzx9 := hB.size
  replace hB : Below w.heap.size w x9 := by rw [hwx9]; exact (by repeat first | with_reducible exact Below.refl _ _ | with_reducible assumption | with_reducible refine below_drewN ?_ _ | with_reducible refine Below.drew ?_ | with_reducible refine Below.setCell ?_ (by first | exact Nat.le_refl _ | (simp; done) | (simp; omega) | omega) _ | with_reducible refine Below.alloc ?_ (by first | exact Nat.le_refl _ | (simp; done) | (simp; omega) | omega) _ | exact Below.refl _ _ | assumption)
  clear hwx9 hBzx9
  refine hK1.out _ _ hB (fun _ => ?_)
  clear hK1 K1
  (try dsimp only [Act.put, List.setIfInBounds_toArray, List.set_cons_zero, List.set_cons_succ])
  refine wpAnyH_ready (rs := [1, 4]) (by kernel_rfl) (by simp) ?_
  refine ready_l rfl (fun K1 hK1 => ?_) ?_
  · skip
    go_simp
    refine (of_bad a b _ ia ib h1 p (hMp.out _ hB)).mono ?_
    rintro e x11 ⟨rfl, hb1⟩
    replace m51 := m51.below hb1
    replace m52 := m52.below hb1
    replace hB := hB.trans (hb1.mono hB.size)
    have hb_x11 := hb1
    clear hb1
    unfold misE
    go_wp2
    exact ⟨rfl, rfl, hB⟩
  refine ready_l rfl (fun K1 hK1 => ?_) AllReadyH.nil
  have hle4 := hB.size
  have hne := m51.lt
  go_simp
  refine name_K ?_
  intro x12 hwx12
  have mAll : Mine x12 w0.heap.size 0 (.int .i64 0) ∧ Mine x12 w0.heap.size 1 (.int .i64 0) ∧ Mine x12 x9.heap.size 0 (.int .i64 0) ∧ Mine x12 x9.heap.size 1 (.int .i64 0) := by
    rw [hwx12]
    refine ⟨?_, ?_, ?_, ?_⟩ <;> (repeat first | with_reducible assumption | with_reducible refine Mine.drew ?_ | with_reducible refine Mine.drewN ?_ _ | ((with_reducible refine Mine.new ?_); rfl) | ((with_reducible refine Mine.newAt ?_ ?_) <;> first | rfl | (simp; done) | (simp only [World.size_alloc]; rfl)) | ((with_reducible refine Mine.set ?_ _); repeat first | exact Mine.slot (by with_reducible assumption) | with_reducible refine MineS.drew ?_ | with_reducible refine MineS.drewN ?_ _ | ((with_reducible refine MineS.new ?_); decide) | ((with_reducible refine MineS.newAt ?_ ?_) <;> first | decide | (simp; done)) | with_reducible refine MineS.set ?_ _ _ _ | with_reducible refine MineS.alloc ?_ _) | with_reducible refine Mine.other ?_ _ (by first | (left; omega) | (right; omega) | (simp; done) | (simp; omega)) | with_reducible refine Mine.alloc ?_ _)
  clear m51 m52
  obtain ⟨m51, m52, m41, m42⟩ := mAll
  have hBzx12 := hB.size
  replace hB : Below w.heap.size w x12 := by rw [hwx12]; exact (by repeat first | with_reducible exact Below.refl _ _ | with_reducible assumption | with_reducible refine below_drewN ?_ _ | with_reducible refine Below.drew ?_ | with_reducible refine Below.setCell ?_ (by first | exact Nat.le_refl _ | (simp; done) | (simp; omega) | omega) _ | with_reducible refine Below.alloc ?_ (by first | exact Nat.le_refl _ | (simp; done) | (simp; omega) | omega) _ | exact Below.refl _ _ | assumption)
  clear hwx12 hBzx12
  refine hK1.out _ _ hB (fun _ => ?_)
  clear hK1 K1
  (try dsimp only [Act.put, List.setIfInBounds_toArray, List.set_cons_zero, List.set_cons_succ])
  refine wpAnyH_ready (rs := [1]) (by kernel_rfl) (by simp) ?_
  refine ready_l rfl (fun K1 hK1 => ?_) AllReadyH.nil
  go_simp
  refine (of_bad a b _ ia ib h1 p (hMp.out _ hB)).mono ?_
  rintro e x14 ⟨rfl, hb1⟩
  replace m51 := m51.below hb1
  replace m52 := m52.below hb1
  replace m41 := m41.below hb1
  replace m42 := m42.below hb1
  replace hB := hB.trans (hb1.mono hB.size)
  have hb_x14 := hb1
  clear hb1
  unfold misE
  go_wp2
  exact ⟨rfl, rfl, hB⟩

set_option maxRecDepth 100000 in
set_option maxHeartbeats 1000000 in
theorem Mul1_badb (a b c d : Int) (B1 B2 : Nat) (w : World) (ic : I64 c) (id : I64 d) (h1 : vld a b = true) (h2 : vld c d = false) (p : Addr) (hM : Mis w p)
    (m1 : Mine w B1 0 (.int .i64 a)) (m2 : Mine w B1 1 (.int .i64 b)) (m3 : Mine w B2 0 (.int .i64 c)) (m4 : Mine w B2 1 (.int .i64 d)) :
    Calls Tryd.prog 53 #[.pointer (some ⟨B1, 0, none⟩), .pointer (some ⟨B2, 0, none⟩)] w fun e w' => e = misE p ∧ Below w.heap.size w w' := by
  have hB : Below w.heap.size w w := Below.refl _ _
  have hMp := Lib.hid (fun W (hW : Below w.heap.size w W) => hM.below hW)
  clear hM
  go_enter Tryd.func53, Tryd.ntmps53
  go_wp2
  have c1 := m1.cell
  have f1 := m1.free
  have l1 := m1.lt
  have c2 := m2.cell
  have f2 := m2.free
  have l2 := m2.lt
  have c3 := m3.cell
  have f3 := m3.free
  have l3 := m3.lt
  have c4 := m4.cell
  have f4 := m4.free
  have l4 := m4.lt
  rename_i Q0 K0 hK0
  have hc1 : ∀ w', Below w.heap.size w w' → w'.cell? ⟨B1, 0, none⟩ = some (.int .i64 a) := fun w' h => (h.cell l1).trans c1
  have hc2 : ∀ w', Below w.heap.size w w' → w'.cell? ⟨B1, 1, none⟩ = some (.int .i64 b) := fun w' h => (h.cell l2).trans c2
  have hc3 : ∀ w', Below w.heap.size w w' → w'.cell? ⟨B2, 0, none⟩ = some (.int .i64 c) := fun w' h => (h.cell l3).trans c3
  have hc4 : ∀ w', Below w.heap.size w w' → w'.cell? ⟨B2, 1, none⟩ = some (.int .i64 d) := fun w' h => (h.cell l4).trans c4
  refine wp_region_held_drew (S := fun w' => Below w.heap.size w w') (by kernel_rfl) (hB.drew) (fun hHeld => ?_)
  refine take_l (i := 0) (v := rv a b) rfl (by kernel_rfl) (by kernel_rfl) (by kernel_rfl) (fun _ _ _ h => h) (Or.inl ⟨by rfl, ?_⟩) (by assumption) ?_
  · intro w' hSw
    have g1 := hc1 w' hSw
    have g2 := hc2 w' hSw
    go_simp; (try with_reducible rfl)
  (try dsimp only [Act.put, List.setIfInBounds_toArray, List.set_cons_zero, List.set_cons_succ])
  refine take_l (i := 2) (v := rv c d) rfl (by kernel_rfl) (by kernel_rfl) (by kernel_rfl) (fun _ _ _ h => h) (Or.inl ⟨by rfl, ?_⟩) (by assumption) ?_
  · intro w' hSw
    have g3 := hc3 w' hSw
    have g4 := hc4 w' hSw
    go_simp; (try with_reducible rfl)
  (try dsimp only [Act.put, List.setIfInBounds_toArray, List.set_cons_zero, List.set_cons_succ])
  clear hc1 hc2 hc3 hc4 m1 m2 m3 m4 c1 c2 c3 c4 f1 f2 f3 f4 l1 l2 l3 l4 hK0
  replace hB : Below w.heap.size w w.drew := hB.drew
  generalize hw0 : w.drew = w0 at *
  clear hw0
  refine wpAnyH_ready (rs := [1, 4, 5]) (by kernel_rfl) (by simp) ?_
  refine ready_l rfl (fun K1 hK1 => ?_) ?_
  · skip
    go_simp
    refine (of_valid a b _ h1).mono ?_
    rintro e x2 ⟨rfl, hb1⟩
    replace hB := hB.trans (hb1.mono hB.size)
    have hb_x2 := hb1
    clear hb1
    clear hb_x2
    refine hK1.out _ _ hB (fun _ => ?_)
    clear hK1 K1
    (try dsimp only [Act.put, List.setIfInBounds_toArray, List.set_cons_zero, List.set_cons_succ])
    refine wpAnyH_ready (rs := [3, 4, 5]) (by kernel_rfl) (by simp) ?_
    refine ready_l rfl (fun K1 hK1 => ?_) ?_
    · skip
      go_simp
      refine (of_bad c d _ ic id h2 p (hMp.out _ hB)).mono ?_
      rintro e x4 ⟨rfl, hb1⟩
      replace hB := hB.trans (hb1.mono hB.size)
      have hb_x4 := hb1
      clear hb1
      unfold misE
      go_wp2
      exact ⟨rfl, rfl, hB⟩
    refine ready_l rfl (fun K1 hK1 => ?_) ?_
    · skip
      have hle4 := hB.size
      go_simp
      refine name_K ?_
      intro x5 hwx5
      have mAll : Mine x5 x2.heap.size 0 (.int .i64 0) ∧ Mine x5 x2.heap.size 1 (.int .i64 0) := by
        rw [hwx5]
        refine ⟨?_, ?_⟩ <;> (repeat first | with_reducible assumption | with_reducible refine Mine.drew ?_ | with_reducible refine Mine.drewN ?_ _ | ((with_reducible refine Mine.new ?_); rfl) | ((with_reducible refine Mine.newAt ?_ ?_) <;> first | rfl | (simp; done) | (simp only [World.size_alloc]; rfl)) | ((with_reducible refine Mine.set ?_ _); repeat first | exact Mine.slot (by with_reducible assumption) | with_reducible refine MineS.drew ?_ | with_reducible refine MineS.drewN ?_ _ | ((with_reducible refine MineS.new ?_); decide) | ((with_reducible refine MineS.newAt ?_ ?_) <;> first | decide | (simp; done)) | with_reducible refine MineS.set ?_ _ _ _ | with_reducible refine MineS.alloc ?_ _) | with_reducible refine Mine.other ?_ _ (by first | (left; omega) | (right; omega) | (simp; done) | (simp; omega)) | with_reducible refine Mine.alloc ?_ _)
      obtain ⟨m41, m42⟩ := mAll
      have hBzx5 := hB.size
      replace hB : Below w.heap.size w x5 := by rw [hwx5]; exact (by repeat first | with_reducible exact Below.refl _ _ | with_reducible assumption | with_reducible refine below_drewN ?_ _ | with_reducible refine Below.drew ?_ | with_reducible refine Below.setCell ?_ (by first | exact Nat.le_refl _ | (simp; done) | (simp; omega) | omega) _ | with_reducible refine Below.alloc ?_ (by first | exact Nat.le_refl _ | (simp; done) | (simp; omega) | omega) _ | exact Below.refl _ _ | assumption)
      clear hwx5 hBzx5
      refine hK1.out _ _ hB (fun _ => ?_)
      clear hK1 K1
      (try dsimp only [Act.put, List.setIfInBounds_toArray, List.set_cons_zero, List.set_cons_succ])
      refine wpAnyH_ready (rs := [3, 5]) (by kernel_rfl) (by simp) ?_
      refine ready_l rfl (fun K1 hK1 => ?_) ?_
      · skip
        go_simp
        refine (of_bad c d _ ic id h2 p (hMp.out _ hB)).mono ?_
        rintro e x7 ⟨rfl, hb1⟩
        replace m41 := m41.below hb1
        replace m42 := m42.below hb1
        replace hB := hB.trans (hb1.mono hB.size)
        have hb_x7 := hb1
        clear hb1
        unfold misE
        go_wp2
        exact ⟨rfl, rfl, hB⟩
      refine ready_l rfl (fun K1 hK1 => ?_) AllReadyH.nil
      have hle5 := hB.size
      have hne := m41.lt
      go_simp
      refine name_K ?_
      intro x8 hwx8
      have mAll : Mine x8 x2.heap.size 0 (.int .i64 0) ∧ Mine x8 x2.heap.size 1 (.int .i64 0) ∧ Mine x8 x5.heap.size 0 (.int .i64 0) ∧ Mine x8 x5.heap.size 1 (.int .i64 0) := by
        rw [hwx8]
        refine ⟨?_, ?_, ?_, ?_⟩ <;> (repeat first | with_reducible assumption | with_reducible refine Mine.drew ?_ | with_reducible refine Mine.drewN ?_ _ | ((with_reducible refine Mine.new ?_); rfl) | ((with_reducible refine Mine.newAt ?_ ?_) <;> first | rfl | (simp; done) | (simp only [World.size_alloc]; rfl)) | ((with_reducible refine Mine.set ?_ _); repeat first | exact Mine.slot (by with_reducible assumption) | with_reducible refine MineS.drew ?_ | with_reducible refine MineS.drewN ?_ _ | ((with_reducible refine MineS.new ?_); decide) | ((with_reducible refine MineS.newAt ?_ ?_) <;> first | decide | (simp; done)) | with_reducible refine MineS.set ?_ _ _ _ | with_reducible refine MineS.alloc ?_ _) | with_reducible refine Mine.other ?_ _ (by first | (left; omega) | (right; omega) | (simp; done) | (simp; omega)) | with_reducible refine Mine.alloc ?_ _)
      clear m41 m42
      obtain ⟨m41, m42, m51, m52⟩ := mAll
      have hBzx8 := hB.size
      replace hB : Below w.heap.size w x8 := by rw [hwx8]; exact (by repeat first | with_reducible exact Below.refl _ _ | with_reducible assumption | with_reducible refine below_drewN ?_ _ | with_reducible refine Below.drew ?_ | with_reducible refine Below.setCell ?_ (by first | exact Nat.le_refl _ | (simp; done) | (simp; omega) | omega) _ | with_reducible refine Below.alloc ?_ (by first | exact Nat.le_refl _ | (simp; done) | (simp; omega) | omega) _ | exact Below.refl _ _ | assumption)
      clear hwx8 hBzx8
      refine hK1.out _ _ hB (fun _ => ?_)
      clear hK1 K1
      (try dsimp only [Act.put, List.setIfInBounds_toArray, List.set_cons_zero, List.set_cons_succ])
      refine wpAnyH_ready (rs := [3]) (by kernel_rfl) (by simp) ?_
      refine ready_l rfl (fun K1 hK1 => ?_) AllReadyH.nil
      go_simp
      refine (of_bad c d _ ic id h2 p (hMp.out _ hB)).mono ?_
      rintro e x10 ⟨rfl, hb1⟩
      replace m41 := m41.below hb1
      replace m42 := m42.below hb1
      replace m51 := m51.below hb1
      replace m52 := m52.below hb1
      replace hB := hB.trans (hb1.mono hB.size)
      have hb_x10 := hb1
      clear hb1
      unfold misE
      go_wp2
      exact ⟨rfl, rfl, hB⟩
    refine ready_l rfl (fun K1 hK1 => ?_) AllReadyH.nil
    have hle5 := hB.size
    go_simp
    refine name_K ?_
    intro x11 hwx11
    have mAll : Mine x11 x2.heap.size 0 (.int .i64 0) ∧ Mine x11 x2.heap.size 1 (.int .i64 0) := by
      rw [hwx11]
      refine ⟨?_, ?_⟩ <;> (repeat first | with_reducible assumption | with_reducible refine Mine.drew ?_ | with_reducible refine Mine.drewN ?_ _ | ((with_reducible refine Mine.new ?_); rfl) | ((with_reducible refine Mine.newAt ?_ ?_) <;> first | rfl | (simp; done) | (simp only [World.size_alloc]; rfl)) | ((with_reducible refine Mine.set ?_ _); repeat first | exact Mine.slot (by with_reducible assumption) | with_reducible refine MineS.drew ?_ | with_reducible refine MineS.drewN ?_ _ | ((with_reducible refine MineS.new ?_); decide) | ((with_reducible refine MineS.newAt ?_ ?_) <;> first | decide | (simp; done)) | with_reducible refine MineS.set ?_ _ _ _ | with_reducible refine MineS.alloc ?_ _) | with_reducible refine Mine.other ?_ _ (by first | (left; omega) | (right; omega) | (simp; done) | (simp; omega)) | with_reducible refine Mine.alloc ?_ _)
    obtain ⟨m51, m52⟩ := mAll
    have hBzx11 := hB.size
    replace hB : Below w.heap.size w x11 := by rw [hwx11]; exact (by repeat first | with_reducible exact Below.refl _ _ | with_reducible assumption | with_reducible refine below_drewN ?_ _ | with_reducible refine Below.drew ?_ | with_reducible refine Below.setCell ?_ (by first | exact Nat.le_refl _ | (simp; done) | (simp; omega) | omega) _ | with_reducible refine Below.alloc ?_ (by first | exact Nat.le_refl _ | (simp; done) | (simp; omega) | omega) _ | exact Below.refl _ _ | assumption)
    clear hwx11 hBzx11
    refine hK1.out _ _ hB (fun _ => ?_)
    clear hK1 K1
    (try dsimp only [Act.put, List.setIfInBounds_toArray, List.set_cons_zero, List.set_cons_succ])
    refine wpAnyH_ready (rs := [3, 4]) (by kernel_rfl) (by simp) ?_
    refine ready_l rfl (fun K1 hK1 => ?_) ?_
    · skip
      go_simp
      refine (of_bad c d _ ic id h2 p (hMp.out _ hB)).mono ?_
      rintro e x13 ⟨rfl, hb1⟩
      replace m51 := m51.below hb1
      replace m52 := m52.below hb1
      replace hB := hB.trans (hb1.mono hB.size)
      have hb_x13 := hb1
      clear hb1
      unfold misE
      go_wp2
      exact ⟨rfl, rfl, hB⟩
    refine ready_l rfl (fun K1 hK1 => ?_) AllReadyH.nil
    have hle4 := hB.size
    have hne := m51.lt
    go_simp
    refine name_K ?_
    intro x14 hwx14
    have mAll : Mine x14 x2.heap.size 0 (.int .i64 0) ∧ Mine x14 x2.heap.size 1 (.int .i64 0) ∧ Mine x14 x11.heap.size 0 (.int .i64 0) ∧ Mine x14 x11.heap.size 1 (.int .i64 0) := by
      rw [hwx14]
      refine ⟨?_, ?_, ?_, ?_⟩ <;> (repeat first | with_reducible assumption | with_reducible refine Mine.drew ?_ | with_reducible refine Mine.drewN ?_ _ | ((with_reducible refine Mine.new ?_); rfl) | ((with_reducible refine Mine.newAt ?_ ?_) <;> first | rfl | (simp; done) | (simp only [World.size_alloc]; rfl)) | ((with_reducible refine Mine.set ?_ _); repeat first | exact Mine.slot (by with_reducible assumption) | with_reducible refine MineS.drew ?_ | with_reducible refine MineS.drewN ?_ _ | ((with_reducible refine MineS.new ?_); decide) | ((with_reducible refine MineS.newAt ?_ ?_) <;> first | decide | (simp; done)) | with_reducible refine MineS.set ?_ _ _ _ | with_reducible refine MineS.alloc ?_ _) | with_reducible refine Mine.other ?_ _ (by first | (left; omega) | (right; omega) | (simp; done) | (simp; omega)) | with_reducible refine Mine.alloc ?_ _)
    clear m51 m52
    obtain ⟨m51, m52, m41, m42⟩ := mAll
    have hBzx14 := hB.size
    replace hB : Below w.heap.size w x14 := by rw [hwx14]; exact (by repeat first | with_reducible exact Below.refl _ _ | with_reducible assumption | with_reducible refine below_drewN ?_ _ | with_reducible refine Below.drew ?_ | with_reducible refine Below.setCell ?_ (by first | exact Nat.le_refl _ | (simp; done) | (simp; omega) | omega) _ | with_reducible refine Below.alloc ?_ (by first | exact Nat.le_refl _ | (simp; done) | (simp; omega) | omega) _ | exact Below.refl _ _ | assumption)
    clear hwx14 hBzx14
    refine hK1.out _ _ hB (fun _ => ?_)
    clear hK1 K1
    (try dsimp only [Act.put, List.setIfInBounds_toArray, List.set_cons_zero, List.set_cons_succ])
    refine wpAnyH_ready (rs := [3]) (by kernel_rfl) (by simp) ?_
    refine ready_l rfl (fun K1 hK1 => ?_) AllReadyH.nil
    go_simp
    refine (of_bad c d _ ic id h2 p (hMp.out _ hB)).mono ?_
    rintro e x16 ⟨rfl, hb1⟩
    replace m51 := m51.below hb1
    replace m52 := m52.below hb1
    replace m41 := m41.below hb1
    replace m42 := m42.below hb1
    replace hB := hB.trans (hb1.mono hB.size)
    have hb_x16 := hb1
    clear hb1
    unfold misE
    go_wp2
    exact ⟨rfl, rfl, hB⟩
  refine ready_l rfl (fun K1 hK1 => ?_) ?_
  · skip
    have hle4 := hB.size
    go_simp
    refine name_K ?_
    intro x17 hwx17
    have mAll : Mine x17 w0.heap.size 0 (.int .i64 0) ∧ Mine x17 w0.heap.size 1 (.int .i64 0) := by
      rw [hwx17]
      refine ⟨?_, ?_⟩ <;> (repeat first | with_reducible assumption | with_reducible refine Mine.drew ?_ | with_reducible refine Mine.drewN ?_ _ | ((with_reducible refine Mine.new ?_); rfl) | ((with_reducible refine Mine.newAt ?_ ?_) <;> first | rfl | (simp; done) | (simp only [World.size_alloc]; rfl)) | ((with_reducible refine Mine.set ?_ _); repeat first | exact Mine.slot (by with_reducible assumption) | with_reducible refine MineS.drew ?_ | with_reducible refine MineS.drewN ?_ _ | ((with_reducible refine MineS.new ?_); decide) | ((with_reducible refine MineS.newAt ?_ ?_) <;> first | decide | (simp; done)) | with_reducible refine MineS.set ?_ _ _ _ | with_reducible refine MineS.alloc ?_ _) | with_reducible refine Mine.other ?_ _ (by first | (left; omega) | (right; omega) | (simp; done) | (simp; omega)) | with_reducible refine Mine.alloc ?_ _)
    obtain ⟨m41, m42⟩ := mAll
    have hBzx17 := hB.size
    replace hB : Below w.heap.size w x17 := by rw [hwx17]; exact (by repeat first | with_reducible exact Below.refl _ _ | with_reducible assumption | with_reducible refine below_drewN ?_ _ | with_reducible refine Below.drew ?_ | with_reducible refine Below.setCell ?_ (by first | exact Nat.le_refl _ | (simp; done) | (simp; omega) | omega) _ | with_reducible refine Below.alloc ?_ (by first | exact Nat.le_refl _ | (simp; done) | (simp; omega) | omega) _ | exact Below.refl _ _ | assumption)
    clear hwx17 hBzx17
    refine hK1.out _ _ hB (fun _ => ?_)
    clear hK1 K1
    (try dsimp only [Act.put, List.setIfInBounds_toArray, List.set_cons_zero, List.set_cons_succ])
    refine wpAnyH_ready (rs := [1, 5]) (by kernel_rfl) (by simp) ?_
    refine ready_l rfl (fun K1 hK1 => ?_) ?_
    · skip
      go_simp
      refine (of_valid a b _ h1).mono ?_
      rintro e x19 ⟨rfl, hb1⟩
      replace m41 := m41.below hb1
      replace m42 := m42.below hb1
      replace hB := hB.trans (hb1.mono hB.size)
      have hb_x19 := hb1
      clear hb1
      clear hb_x19
      refine hK1.out _ _ hB (fun _ => ?_)
      clear hK1 K1
      (try dsimp only [Act.put, List.setIfInBounds_toArray, List.set_cons_zero, List.set_cons_succ])
      refine wpAnyH_ready (rs := [3, 5]) (by kernel_rfl) (by simp) ?_
      refine ready_l rfl (fun K1 hK1 => ?_) ?_
      · skip
        go_simp
        refine (of_bad c d _ ic id h2 p (hMp.out _ hB)).mono ?_
        rintro e x21 ⟨rfl, hb1⟩
        replace m41 := m41.below hb1
        replace m42 := m42.below hb1
        replace hB := hB.trans (hb1.mono hB.size)
        have hb_x21 := hb1
        clear hb1
        unfold misE
        go_wp2
        exact ⟨rfl, rfl, hB⟩
      refine ready_l rfl (fun K1 hK1 => ?_) AllReadyH.nil
      have hle5 := hB.size
      have hne := m41.lt
      go_simp
      refine name_K ?_
      intro x22 hwx22
      have mAll : Mine x22 w0.heap.size 0 (.int .i64 0) ∧ Mine x22 w0.heap.size 1 (.int .i64 0) ∧ Mine x22 x19.heap.size 0 (.int .i64 0) ∧ Mine x22 x19.heap.size 1 (.int .i64 0) := by
        rw [hwx22]
        refine ⟨?_, ?_, ?_, ?_⟩ <;> (repeat first | with_reducible assumption | with_reducible refine Mine.drew ?_ | with_reducible refine Mine.drewN ?_ _ | ((with_reducible refine Mine.new ?_); rfl) | ((with_reducible refine Mine.newAt ?_ ?_) <;> first | rfl | (simp; done) | (simp only [World.size_alloc]; rfl)) | ((with_reducible refine Mine.set ?_ _); repeat first | exact Mine.slot (by with_reducible assumption) | with_reducible refine MineS.drew ?_ | with_reducible refine MineS.drewN ?_ _ | ((with_reducible refine MineS.new ?_); decide) | ((with_reducible refine MineS.newAt ?_ ?_) <;> first | decide | (simp; done)) | with_reducible refine MineS.set ?_ _ _ _ | with_reducible refine MineS.alloc ?_ _) | with_reducible refine Mine.other ?_ _ (by first | (left; omega) | (right; omega) | (simp; done) | (simp; omega)) | with_reducible refine Mine.alloc ?_ _)
      clear m41 m42
      obtain ⟨m41, m42, m51, m52⟩ := mAll
      have hBzx22 := hB.size
      replace hB : Below w.heap.size w x22 := by rw [hwx22]; exact (by repeat first | with_reducible exact Below.refl _ _ | with_reducible assumption | with_reducible refine below_drewN ?_ _ | with_reducible refine Below.drew ?_ | with_reducible refine Below.setCell ?_ (by first | exact Nat.le_refl _ | (simp; done) | (simp; omega) | omega) _ | with_reducible refine Below.alloc ?_ (by first | exact Nat.le_refl _ | (simp; done) | (simp; omega) | omega) _ | exact Below.refl _ _ | assumption)
      clear hwx22 hBzx22
      refine hK1.out _ _ hB (fun _ => ?_)
      clear hK1 K1
      (try dsimp only [Act.put, List.setIfInBounds_toArray, List.set_cons_zero, List.set_cons_succ])
      refine wpAnyH_ready (rs := [3]) (by kernel_rfl) (by simp) ?_
      refine ready_l rfl (fun K1 hK1 => ?_) AllReadyH.nil
      go_simp
      refine (of_bad c d _ ic id h2 p (hMp.out _ hB)).mono ?_
      rintro e x24 ⟨rfl, hb1⟩
      replace m41 := m41.below hb1
      replace m42 := m42.below hb1
      replace m51 := m51.below hb1
      replace m52 := m52.below hb1
      replace hB := hB.trans (hb1.mono hB.size)
      have hb_x24 := hb1
      clear hb1
      unfold misE
      go_wp2
      exact ⟨rfl, rfl, hB⟩
    refine ready_l rfl (fun K1 hK1 => ?_) AllReadyH.nil
    have hle5 := hB.size
    have hne := m41.lt
    go_simp
    refine name_K ?_
    intro x25 hwx25
    have mAll : Mine x25 w0.heap.size 0 (.int .i64 0) ∧ Mine x25 w0.heap.size 1 (.int .i64 0) ∧ Mine x25 x17.heap.size 0 (.int .i64 0) ∧ Mine x25 x17.heap.size 1 (.int .i64 0) := by
      rw [hwx25]
      refine ⟨?_, ?_, ?_, ?_⟩ <;> (repeat first | with_reducible assumption | with_reducible refine Mine.drew ?_ | with_reducible refine Mine.drewN ?_ _ | ((with_reducible refine Mine.new ?_); rfl) | ((with_reducible refine Mine.newAt ?_ ?_) <;> first | rfl | (simp; done) | (simp only [World.size_alloc]; rfl)) | ((with_reducible refine Mine.set ?_ _); repeat first | exact Mine.slot (by with_reducible assumption) | with_reducible refine MineS.drew ?_ | with_reducible refine MineS.drewN ?_ _ | ((with_reducible refine MineS.new ?_); decide) | ((with_reducible refine MineS.newAt ?_ ?_) <;> first | decide | (simp; done)) | with_reducible refine MineS.set ?_ _ _ _ | with_reducible refine MineS.alloc ?_ _) | with_reducible refine Mine.other ?_ _ (by first | (left; omega) | (right; omega) | (simp; done) | (simp; omega)) | with_reducible refine Mine.alloc ?_ _)
    clear m41 m42
    obtain ⟨m41, m42, m51, m52⟩ := mAll
    have hBzx25 := hB.size
    replace hB : Below w.heap.size w x25 := by rw [hwx25]; exact (by repeat first | with_reducible exact Below.refl _ _ | with_reducible assumption | with_reducible refine below_drewN ?_ _ | with_reducible refine Below.drew ?_ | with_reducible refine Below.setCell ?_ (by first | exact Nat.le_refl _ | (simp; done) | (simp; omega) | omega) _ | with_reducible refine Below.alloc ?_ (by first | exact Nat.le_refl _ | (simp; done) | (simp; omega) | omega) _ | exact Below.refl _ _ | assumption)
    clear hwx25 hBzx25
    refine hK1.out _ _ hB (fun _ => ?_)
    clear hK1 K1
    (try dsimp only [Act.put, List.setIfInBounds_toArray, List.set_cons_zero, List.set_cons_succ])
    refine wpAnyH_ready (rs := [1]) (by kernel_rfl) (by simp) ?_
    refine ready_l rfl (fun K1 hK1 => ?_) AllReadyH.nil
    go_simp
    refine (of_valid a b _ h1).mono ?_
    rintro e x27 ⟨rfl, hb1⟩
    replace m41 := m41.below hb1
    replace m42 := m42.below hb1
    replace m51 := m51.below hb1
    replace m52 := m52.below hb1
    replace hB := hB.trans (hb1.mono hB.size)
    have hb_x27 := hb1
    clear hb1
    clear hb_x27
    refine hK1.out _ _ hB (fun _ => ?_)
    clear hK1 K1
    (try dsimp only [Act.put, List.setIfInBounds_toArray, List.set_cons_zero, List.set_cons_succ])
    refine wpAnyH_ready (rs := [3]) (by kernel_rfl) (by simp) ?_
    refine ready_l rfl (fun K1 hK1 => ?_) AllReadyH.nil
    go_simp
    refine (of_bad c d _ ic id h2 p (hMp.out _ hB)).mono ?_
    rintro e x29 ⟨rfl, hb1⟩
    replace m41 := m41.below hb1
    replace m42 := m42.below hb1
    replace m51 := m51.below hb1
    replace m52 := m52.below hb1
    replace hB := hB.trans (hb1.mono hB.size)
    have hb_x29 := hb1
    clear hb1
    unfold misE
    go_wp2
    exact ⟨rfl, rfl, hB⟩
  refine ready_l rfl (fun K1 hK1 => ?_) AllReadyH.nil
  have hle5 := hB.size
  go_simp
  refine name_K ?_
  intro x30 hwx30
  have mAll : Mine x30 w0.heap.size 0 (.int .i64 0) ∧ Mine x30 w0.heap.size 1 (.int .i64 0) := by
    rw [hwx30]
    refine ⟨?_, ?_⟩ <;> (repeat first | with_reducible assumption | with_reducible refine Mine.drew ?_ | with_reducible refine Mine.drewN ?_ _ | ((with_reducible refine Mine.new ?_); rfl) | ((with_reducible refine Mine.newAt ?_ ?_) <;> first | rfl | (simp; done) | (simp only [World.size_alloc]; rfl)) | ((with_reducible refine Mine.set ?_ _); repeat first | exact Mine.slot (by with_reducible assumption) | with_reducible refine MineS.drew ?_ | with_reducible refine MineS.drewN ?_ _ | ((with_reducible refine MineS.new ?_); decide) | ((with_reducible refine MineS.newAt ?_ ?_) <;> first | decide | (simp; done)) | with_reducible refine MineS.set ?_ _ _ _ | with_reducible refine MineS.alloc ?_ _) | with_reducible refine Mine.other ?_ _ (by first | (left; omega) | (right; omega) | (simp; done) | (simp; omega)) | with_reducible refine Mine.alloc ?_ _)
  obtain ⟨m51, m52⟩ := mAll
  have hBzx30 := hB.size
  replace hB : Below w.heap.size w x30 := by rw [hwx30]; exact (by repeat first | with_reducible exact Below.refl _ _ | with_reducible assumption | with_reducible refine below_drewN ?_ _ | with_reducible refine Below.drew ?_ | with_reducible refine Below.setCell ?_ (by first | exact Nat.le_refl _ | (simp; done) | (simp; omega) | omega) _ | with_reducible refine Below.alloc ?_ (by first | exact Nat.le_refl _ | (simp; done) | (simp; omega) | omega) _ | exact Below.refl _ _ | assumption)
  clear hwx30 hBzx30
  refine hK1.out _ _ hB (fun _ => ?_)
  clear hK1 K1
  (try dsimp only [Act.put, List.setIfInBounds_toArray, List.set_cons_zero, List.set_cons_succ])
  refine wpAnyH_ready (rs := [1, 4]) (by kernel_rfl) (by simp) ?_
  refine ready_l rfl (fun K1 hK1 => ?_) ?_
  · skip
    go_simp
    refine (of_valid a b _ h1).mono ?_
    rintro e x32 ⟨rfl, hb1⟩
    replace m51 := m51.below hb1
    replace m52 := m52.below hb1
    replace hB := hB.trans (hb1.mono hB.size)
    have hb_x32 := hb1
    clear hb1
    clear hb_x32
    refine hK1.out _ _ hB (fun _ => ?_)
    clear hK1 K1
    (try dsimp only [Act.put, List.setIfInBounds_toArray, List.set_cons_zero, List.set_cons_succ])
    refine wpAnyH_ready (rs := [3, 4]) (by kernel_rfl) (by simp) ?_
    refine ready_l rfl (fun K1 hK1 => ?_) ?_
    · skip
      go_simp
      refine (of_bad c d _ ic id h2 p (hMp.out _ hB)).mono ?_
      rintro e x34 ⟨rfl, hb1⟩
      replace m51 := m51.below hb1
      replace m52 := m52.below hb1
      replace hB := hB.trans (hb1.mono hB.size)
      have hb_x34 := hb1
      clear hb1
      unfold misE
      go_wp2
      exact ⟨rfl, rfl, hB⟩
    refine ready_l rfl (fun K1 hK1 => ?_) AllReadyH.nil
    have hle4 := hB.size
    have hne := m51.lt
    go_simp
    refine name_K ?_
    intro x35 hwx35
    have mAll : Mine x35 w0.heap.size 0 (.int .i64 0) ∧ Mine x35 w0.heap.size 1 (.int .i64 0) ∧ Mine x35 x32.heap.size 0 (.int .i64 0) ∧ Mine x35 x32.heap.size 1 (.int .i64 0) := by
      rw [hwx35]
      refine ⟨?_, ?_, ?_, ?_⟩ <;> (repeat first | with_reducible assumption | with_reducible refine Mine.drew ?_ | with_reducible refine Mine.drewN ?_ _ | ((with_reducible refine Mine.new ?_); rfl) | ((with_reducible refine Mine.newAt ?_ ?_) <;> first | rfl | (simp; done) | (simp only [World.size_alloc]; rfl)) | ((with_reducible refine Mine.set ?_ _); repeat first | exact Mine.slot (by with_reducible assumption) | with_reducible refine MineS.drew ?_ | with_reducible refine MineS.drewN ?_ _ | ((with_reducible refine MineS.new ?_); decide) | ((with_reducible refine MineS.newAt ?_ ?_) <;> first | decide | (simp; done)) | with_reducible refine MineS.set ?_ _ _ _ | with_reducible refine MineS.alloc ?_ _) | with_reducible refine Mine.other ?_ _ (by first | (left; omega) | (right; omega) | (simp; done) | (simp; omega)) | with_reducible refine Mine.alloc ?_ _)
    clear m51 m52
    obtain ⟨m51, m52, m41, m42⟩ := mAll
    have hBzx35 := hB.size
    replace hB : Below w.heap.size w x35 := by rw [hwx35]; exact (by repeat first | with_reducible exact Below.refl _ _ | with_reducible assumption | with_reducible refine below_drewN ?_ _ | with_reducible refine Below.drew ?_ | with_reducible refine Below.setCell ?_ (by first | exact Nat.le_refl _ | (simp; done) | (simp; omega) | omega) _ | with_reducible refine Below.alloc ?_ (by first | exact Nat.le_refl _ | (simp; done) | (simp; omega) | omega) _ | exact Below.refl _ _ | assumption)
    clear hwx35 hBzx35
    refine hK1.out _ _ hB (fun _ => ?_)
    clear hK1 K1
    (try dsimp only [Act.put, List.setIfInBounds_toArray, List.set_cons_zero, List.set_cons_succ])
    refine wpAnyH_ready (rs := [3]) (by kernel_rfl) (by simp) ?_
    refine ready_l rfl (fun K1 hK1 => ?_) AllReadyH.nil
    go_simp
    refine (of_bad c d _ ic id h2 p (hMp.out _ hB)).mono ?_
    rintro e x37 ⟨rfl, hb1⟩
    replace m51 := m51.below hb1
    replace m52 := m52.below hb1
    replace m41 := m41.below hb1
    replace m42 := m42.below hb1
    replace hB := hB.trans (hb1.mono hB.size)
    have hb_x37 := hb1
    clear hb1
    unfold misE
    go_wp2
    exact ⟨rfl, rfl, hB⟩
  refine ready_l rfl (fun K1 hK1 => ?_) AllReadyH.nil
  have hle4 := hB.size
  have hne := m51.lt
  go_simp
  refine name_K ?_
  intro x38 hwx38
  have mAll : Mine x38 w0.heap.size 0 (.int .i64 0) ∧ Mine x38 w0.heap.size 1 (.int .i64 0) ∧ Mine x38 x30.heap.size 0 (.int .i64 0) ∧ Mine x38 x30.heap.size 1 (.int .i64 0) := by
    rw [hwx38]
    refine ⟨?_, ?_, ?_, ?_⟩ <;> (repeat first | with_reducible assumption | with_reducible refine Mine.drew ?_ | with_reducible refine Mine.drewN ?_ _ | ((with_reducible refine Mine.new ?_); rfl) | ((with_reducible refine Mine.newAt ?_ ?_) <;> first | rfl | (simp; done) | (simp only [World.size_alloc]; rfl)) | ((with_reducible refine Mine.set ?_ _); repeat first | exact Mine.slot (by with_reducible assumption) | with_reducible refine MineS.drew ?_ | with_reducible refine MineS.drewN ?_ _ | ((with_reducible refine MineS.new ?_); decide) | ((with_reducible refine MineS.newAt ?_ ?_) <;> first | decide | (simp; done)) | with_reducible refine MineS.set ?_ _ _ _ | with_reducible refine MineS.alloc ?_ _) | with_reducible refine Mine.other ?_ _ (by first | (left; omega) | (right; omega) | (simp; done) | (simp; omega)) | with_reducible refine Mine.alloc ?_ _)
  clear m51 m52
  obtain ⟨m51, m52, m41, m42⟩ := mAll
  have hBzx38 := hB.size
  replace hB : Below w.heap.size w x38 := by rw [hwx38]; exact (by repeat first | with_reducible exact Below.refl _ _ | with_reducible assumption | with_reducible refine below_drewN ?_ _ | with_reducible refine Below.drew ?_ | with_reducible refine Below.setCell ?_ (by first | exact Nat.le_refl _ | (simp; done) | (simp; omega) | omega) _ | with_reducible refine Below.alloc ?_ (by first | exact Nat.le_refl _ | (simp; done) | (simp; omega) | omega) _ | exact Below.refl _ _ | assumption)
  clear hwx38 hBzx38
  refine hK1.out _ _ hB (fun _ => ?_)
  clear hK1 K1
  (try dsimp only [Act.put, List.setIfInBounds_toArray, List.set_cons_zero, List.set_cons_succ])
  refine wpAnyH_ready (rs := [1]) (by kernel_rfl) (by simp) ?_
  refine ready_l rfl (fun K1 hK1 => ?_) AllReadyH.nil
  go_simp
  refine (of_valid a b _ h1).mono ?_
  rintro e x40 ⟨rfl, hb1⟩
  replace m51 := m51.below hb1
  replace m52 := m52.below hb1
  replace m41 := m41.below hb1
  replace m42 := m42.below hb1
  replace hB := hB.trans (hb1.mono hB.size)
  have hb_x40 := hb1
  clear hb1
  clear hb_x40
  refine hK1.out _ _ hB (fun _ => ?_)
  clear hK1 K1
  (try dsimp only [Act.put, List.setIfInBounds_toArray, List.set_cons_zero, List.set_cons_succ])
  refine wpAnyH_ready (rs := [3]) (by kernel_rfl) (by simp) ?_
  refine ready_l rfl (fun K1 hK1 => ?_) AllReadyH.nil
  go_simp
  refine (of_bad c d _ ic id h2 p (hMp.out _ hB)).mono ?_
  rintro e x42 ⟨rfl, hb1⟩
  replace m51 := m51.below hb1
  replace m52 := m52.below hb1
  replace m41 := m41.below hb1
  replace m42 := m42.below hb1
  replace hB := hB.trans (hb1.mono hB.size)
  have hb_x42 := hb1
  clear hb1
  unfold misE
  go_wp2
  exact ⟨rfl, rfl, hB⟩

set_option maxRecDepth 100000 in
set_option maxHeartbeats 1000000 in
theorem Add1_bada (a b c d : Int) (B1 B2 : Nat) (w : World) (ia : I64 a) (ib : I64 b) (h1 : vld a b = false) (p : Addr) (hM : Mis w p)
    (m1 : Mine w B1 0 (.int .i64 a)) (m2 : Mine w B1 1 (.int .i64 b)) (m3 : Mine w B2 0 (.int .i64 c)) (m4 : Mine w B2 1 (.int .i64 d)) :
    Calls Tryd.prog 52 #[.pointer (some ⟨B1, 0, none⟩), .pointer (some ⟨B2, 0, none⟩)] w fun e w' => e = misE p ∧ Below w.heap.size w w' := by
  have hB : Below w.heap.size w w := Below.refl _ _
  have hMp := Lib.hid (fun W (hW : Below w.heap.size w W) => hM.below hW)
  clear hM
  go_enter Tryd.func52, Tryd.ntmps52
  go_wp2
  have c1 := m1.cell
  have f1 := m1.free
  have l1 := m1.lt
  have c2 := m2.cell
  have f2 := m2.free
  have l2 := m2.lt
  have c3 := m3.cell
  have f3 := m3.free
  have l3 := m3.lt
  have c4 := m4.cell
  have f4 := m4.free
  have l4 := m4.lt
  rename_i Q0 K0 hK0
  have hc1 : ∀ w', Below w.heap.size w w' → w'.cell? ⟨B1, 0, none⟩ = some (.int .i64 a) := fun w' h => (h.cell l1).trans c1
  have hc2 : ∀ w', Below w.heap.size w w' → w'.cell? ⟨B1, 1, none⟩ = some (.int .i64 b) := fun w' h => (h.cell l2).trans c2
  have hc3 : ∀ w', Below w.heap.size w w' → w'.cell? ⟨B2, 0, none⟩ = some (.int .i64 c) := fun w' h => (h.cell l3).trans c3
  have hc4 : ∀ w', Below w.heap.size w w' → w'.cell? ⟨B2, 1, none⟩ = some (.int .i64 d) := fun w' h => (h.cell l4).trans c4
  refine wp_region_held_drew (S := fun w' => Below w.heap.size w w') (by kernel_rfl) (hB.drew) (fun hHeld => ?_)
  refine take_l (i := 0) (v := rv a b) rfl (by kernel_rfl) (by kernel_rfl) (by kernel_rfl) (fun _ _ _ h => h) (Or.inl ⟨by rfl, ?_⟩) (by assumption) ?_
  · intro w' hSw
    have g1 := hc1 w' hSw
    have g2 := hc2 w' hSw
    go_simp; (try with_reducible rfl)
  (try dsimp only [Act.put, List.setIfInBounds_toArray, List.set_cons_zero, List.set_cons_succ])
  refine take_l (i := 2) (v := rv c d) rfl (by kernel_rfl) (by kernel_rfl) (by kernel_rfl) (fun _ _ _ h => h) (Or.inl ⟨by rfl, ?_⟩) (by assumption) ?_
  · intro w' hSw
    have g3 := hc3 w' hSw
    have g4 := hc4 w' hSw
    go_simp; (try with_reducible rfl)
  (try dsimp only [Act.put, List.setIfInBounds_toArray, List.set_cons_zero, List.set_cons_succ])
  clear hc1 hc2 hc3 hc4 m1 m2 m3 m4 c1 c2 c3 c4 f1 f2 f3 f4 l1 l2 l3 l4 hK0
  replace hB : Below w.heap.size w w.drew := hB.drew
  generalize hw0 : w.drew = w0 at *
  clear hw0
  refine wpAnyH_ready (rs := [1, 4, 5]) (by kernel_rfl) (by simp) ?_
  refine ready_l rfl (fun K1 hK1 => ?_) ?_
  · skip
    go_simp
    refine (of_bad a b _ ia ib h1 p (hMp.out _ hB)).mono ?_
    rintro e x2 ⟨rfl, hb1⟩
    replace hB := hB.trans (hb1.mono hB.size)
    have hb_x2 := hb1
    clear hb1
    unfold misE
    go_wp2
    exact ⟨rfl, rfl, hB⟩
  refine ready_l rfl (fun K1 hK1 => ?_) ?_
  · skip
    have hle4 := hB.size
    go_simp
    refine name_K ?_
    intro x3 hwx3
    have mAll : Mine x3 w0.heap.size 0 (.int .i64 0) ∧ Mine x3 w0.heap.size 1 (.int .i64 0) := by
      rw [hwx3]
      refine ⟨?_, ?_⟩ <;> (repeat first | with_reducible assumption | with_reducible refine Mine.drew ?_ | with_reducible refine Mine.drewN ?_ _ | ((with_reducible refine Mine.new ?_); rfl) | ((with_reducible refine Mine.newAt ?_ ?_) <;> first | rfl | (simp; done) | (simp only [World.size_alloc]; rfl)) | ((with_reducible refine Mine.set ?_ _); repeat first | exact Mine.slot (by with_reducible assumption) | with_reducible refine MineS.drew ?_ | with_reducible refine MineS.drewN ?_ _ | ((with_reducible refine MineS.new ?_); decide) | ((with_reducible refine MineS.newAt ?_ ?_) <;> first | decide | (simp; done)) | with_reducible refine MineS.set ?_ _ _ _ | with_reducible refine MineS.alloc ?_ _) | with_reducible refine Mine.other ?_ _ (by first | (left; omega) | (right; omega) | (simp; done) | (simp; omega)) | with_reducible refine Mine.alloc ?_ _)
    obtain ⟨m41, m42⟩ := mAll
    have hBzx3 := hB.size
    replace hB : Below w.heap.size w x3 := by rw [hwx3]; exact (by repeat first | with_reducible exact Below.refl _ _ | with_reducible assumption | with_reducible refine below_drewN ?_ _ | with_reducible refine Below.drew ?_ | with_reducible refine Below.setCell ?_ (by first | exact Nat.le_refl _ | (simp; done) | (simp; omega) | omega) _ | with_reducible refine Below.alloc ?_ (by first | exact Nat.le_refl _ | (simp; done) | (simp; omega) | omega) _ | exact Below.refl _ _ | assumption)
    clear hwx3 hBzx3
    refine hK1.out _ _ hB (fun _ => ?_)
    clear hK1 K1
    (try dsimp only [Act.put, List.setIfInBounds_toArray, List.set_cons_zero, List.set_cons_succ])
    refine wpAnyH_ready (rs := [1, 5]) (by kernel_rfl) (by simp) ?_
    refine ready_l rfl (fun K1 hK1 => ?_) ?_
    · skip
      go_simp
      refine (of_bad a b _ ia ib h1 p (hMp.out _ hB)).mono ?_
      rintro e x5 ⟨rfl, hb1⟩
      replace m41 := m41.below hb1
      replace m42 := m42.below hb1
      replace hB := hB.trans (hb1.mono hB.size)
      have hb_x5 := hb1
      clear hb1
      unfold misE
      go_wp2
      exact ⟨rfl, rfl, hB⟩
    refine ready_l rfl (fun K1 hK1 => ?_) AllReadyH.nil
    have hle5 := hB.size
    have hne := m41.lt
    go_simp
    refine name_K ?_
    intro x6 hwx6
    have mAll : Mine x6 w0.heap.size 0 (.int .i64 0) ∧ Mine x6 w0.heap.size 1 (.int .i64 0) ∧ Mine x6 x3.heap.size 0 (.int .i64 0) ∧ Mine x6 x3.heap.size 1 (.int .i64 0) := by
      rw [hwx6]
      refine ⟨?_, ?_, ?_, ?_⟩ <;> (repeat first | with_reducible assumption | with_reducible refine Mine.drew ?_ | with_reducible refine Mine.drewN ?_ _ | ((with_reducible refine Mine.new ?_); rfl) | ((with_reducible refine Mine.newAt ?_ ?_) <;> first | rfl | (simp; done) | (simp only [World.size_alloc]; rfl)) | ((with_reducible refine Mine.set ?_ _); repeat first | exact Mine.slot (by with_reducible assumption) | with_reducible refine MineS.drew ?_ | with_reducible refine MineS.drewN ?_ _ | ((with_reducible refine MineS.new ?_); decide) | ((with_reducible refine MineS.newAt ?_ ?_) <;> first | decide | (simp; done)) | with_reducible refine MineS.set ?_ _ _ _ | with_reducible refine MineS.alloc ?_ _) | with_reducible refine Mine.other ?_ _ (by first | (left; omega) | (right; omega) | (simp; done) | (simp; omega)) | with_reducible refine Mine.alloc ?_ _)
    clear m41 m42
    obtain ⟨m41, m42, m51, m52⟩ := mAll
    have hBzx6 := hB.size
    replace hB : Below w.heap.size w x6 := by rw [hwx6]; exact (by repeat first | with_reducible exact Below.refl _ _ | with_reducible assumption | with_reducible refine below_drewN ?_ _ | with_reducible refine Below.drew ?_ | with_reducible refine Below.setCell ?_ (by first | exact Nat.le_refl _ | (simp; done) | (simp; omega) | omega) _ | with_reducible refine Below.alloc ?_ (by first | exact Nat.le_refl _ | (simp; done) | (simp; omega) | omega) _ | exact Below.refl _ _ | assumption)
    clear hwx6 hBzx6
    refine hK1.out _ _ hB (fun _ => ?_)
    clear hK1 K1
    (try dsimp only [Act.put, List.setIfInBounds_toArray, List.set_cons_zero, List.set_cons_succ])
    refine wpAnyH_ready (rs := [1]) (by kernel_rfl) (by simp) ?_
    refine ready_l rfl (fun K1 hK1 => ?_) AllReadyH.nil
    go_simp
    refine (of_bad a b _ ia ib h1 p (hMp.out _ hB)).mono ?_
    rintro e x8 ⟨rfl, hb1⟩
    replace m41 := m41.below hb1
    replace m42 := m42.below hb1
    replace m51 := m51.below hb1
    replace m52 := m52.below hb1
    replace hB := hB.trans (hb1.mono hB.size)
    have hb_x8 := hb1
    clear hb1
    unfold misE
    go_wp2
    exact ⟨rfl, rfl, hB⟩
  refine ready_l rfl (fun K1 hK1 => ?_) AllReadyH.nil
  have hle5 := hB.size
  go_simp
  refine name_K ?_
  intro x9 hwx9
  have mAll : Mine x9 w0.heap.size 0 (.int .i64 0) ∧ Mine x9 w0.heap.size 1 (.int .i64 0) := by
    rw [hwx9]
    refine ⟨?_, ?_⟩ <;> (repeat first | with_reducible assumption | with_reducible refine Mine.drew ?_ | with_reducible refine Mine.drewN ?_ _ | ((with_reducible refine Mine.new ?_); rfl) | ((with_reducible refine Mine.newAt ?_ ?_) <;> first | rfl | (simp; done) | (simp only [World.size_alloc]; rfl)) | ((with_reducible refine Mine.set ?_ _); repeat first | exact Mine.slot (by with_reducible assumption) | with_reducible refine MineS.drew ?_ | with_reducible refine MineS.drewN ?_ _ | ((with_reducible refine MineS.new ?_); decide) | ((with_reducible refine MineS.newAt ?_ ?_) <;> first | decide | (simp; done)) | with_reducible refine MineS.set ?_ _ _ _ | with_reducible refine MineS.alloc ?_ _) | with_reducible refine Mine.other ?_ _ (by first | (left; omega) | (right; omega) | (simp; done) | (simp; omega)) | with_reducible refine Mine.alloc ?_ _)
  obtain ⟨m51, m52⟩ := mAll
  have hBzx9 := hB.size
  replace hB : Below w.heap.size w x9 := by rw [hwx9]; exact (by repeat first | with_reducible exact Below.refl _ _ | with_reducible assumption | with_reducible refine below_drewN ?_ _ | with_reducible refine Below.drew ?_ | with_reducible refine Below.setCell ?_ (by first | exact Nat.le_refl _ | (simp; done) | (simp; omega) | omega) _ | with_reducible refine Below.alloc ?_ (by first | exact Nat.le_refl _ | (simp; done) | (simp; omega) | omega) _ | exact Below.refl _ _ | assumption)
  clear hwx9 hBzx9
  refine hK1.out _ _ hB (fun _ => ?_)
  clear hK1 K1
  (try dsimp only [Act.put, List.setIfInBounds_toArray, List.set_cons_zero, List.set_cons_succ])
  refine wpAnyH_ready (rs := [1, 4]) (by kernel_rfl) (by simp) ?_
  refine ready_l rfl (fun K1 hK1 => ?_) ?_
  · skip
    go_simp
    refine (of_bad a b _ ia ib h1 p (hMp.out _ hB)).mono ?_
    rintro e x11 ⟨rfl, hb1⟩
    replace m51 := m51.below hb1
    replace m52 := m52.below hb1
    replace hB := hB.trans (hb1.mono hB.size)
    have hb_x11 := hb1
    clear hb1
    unfold misE
    go_wp2
    exact ⟨rfl, rfl, hB⟩
  refine ready_l rfl (fun K1 hK1 => ?_) AllReadyH.nil
  have hle4 := hB.size
  have hne := m51.lt
  go_simp
  refine name_K ?_
  intro x12 hwx12
  have mAll : Mine x12 w0.heap.size 0 (.int .i64 0) ∧ Mine x12 w0.heap.size 1 (.int .i64 0) ∧ Mine x12 x9.heap.size 0 (.int .i64 0) ∧ Mine x12 x9.heap.size 1 (.int .i64 0) := by
    rw [hwx12]
    refine ⟨?_, ?_, ?_, ?_⟩ <;> (repeat first | with_reducible assumption | with_reducible refine Mine.drew ?_ | with_reducible refine Mine.drewN ?_ _ | ((with_reducible refine Mine.new ?_); rfl) | ((with_reducible refine Mine.newAt ?_ ?_) <;> first | rfl | (simp; done) | (simp only [World.size_alloc]; rfl)) | ((with_reducible refine Mine.set ?_ _); repeat first | exact Mine.slot (by with_reducible assumption) | with_reducible refine MineS.drew ?_ | with_reducible refine MineS.drewN ?_ _ | ((with_reducible refine MineS.new ?_); decide) | ((with_reducible refine MineS.newAt ?_ ?_) <;> first | decide | (simp; done)) | with_reducible refine MineS.set ?_ _ _ _ | with_reducible refine MineS.alloc ?_ _) | with_reducible refine Mine.other ?_ _ (by first | (left; omega) | (right; omega) | (simp; done) | (simp; omega)) | with_reducible refine Mine.alloc ?_ _)
  clear m51 m52
  obtain ⟨m51, m52, m41, m42⟩ := mAll
  have hBzx12 := hB.size
  replace hB : Below w.heap.size w x12 := by rw [hwx12]; exact (by repeat first | with_reducible exact Below.refl _ _ | with_reducible assumption | with_reducible refine below_drewN ?_ _ | with_reducible refine Below.drew ?_ | with_reducible refine Below.setCell ?_ (by first | exact Nat.le_refl _ | (simp; done) | (simp; omega) | omega) _ | with_reducible refine Below.alloc ?_ (by first | exact Nat.le_refl _ | (simp; done) | (simp; omega) | omega) _ | exact Below.refl _ _ | assumption)
  clear hwx12 hBzx12
  refine hK1.out _ _ hB (fun _ => ?_)
  clear hK1 K1
  (try dsimp only [Act.put, List.setIfInBounds_toArray, List.set_cons_zero, List.set_cons_succ])
  refine wpAnyH_ready (rs := [1]) (by kernel_rfl) (by simp) ?_
  refine ready_l rfl (fun K1 hK1 => ?_) AllReadyH.nil
  go_simp
  refine (of_bad a b _ ia ib h1 p (hMp.out _ hB)).mono ?_
  rintro e x14 ⟨rfl, hb1⟩
  replace m51 := m51.below hb1
  replace m52 := m52.below hb1
  replace m41 := m41.below hb1
  replace m42 := m42.below hb1
  replace hB := hB.trans (hb1.mono hB.size)
  have hb_x14 := hb1
  clear hb1
  unfold misE
  go_wp2
  exact ⟨rfl, rfl, hB⟩

set_option maxRecDepth 100000 in
set_option maxHeartbeats 1000000 in
theorem Add1_badb (a b c d : Int) (B1 B2 : Nat) (w : World) (ic : I64 c) (id : I64 d) (h1 : vld a b = true) (h2 : vld c d = false) (p : Addr) (hM : Mis w p)
    (m1 : Mine w B1 0 (.int .i64 a)) (m2 : Mine w B1 1 (.int .i64 b)) (m3 : Mine w B2 0 (.int .i64 c)) (m4 : Mine w B2 1 (.int .i64 d)) :
    Calls Tryd.prog 52 #[.pointer (some ⟨B1, 0, none⟩), .pointer (some ⟨B2, 0, none⟩)] w fun e w' => e = misE p ∧ Below w.heap.size w w' := by
  have hB : Below w.heap.size w w := Below.refl _ _
  have hMp := Lib.hid (fun W (hW : Below w.heap.size w W) => hM.below hW)
  clear hM
  go_enter Tryd.func52, Tryd.ntmps52
  go_wp2
  have c1 := m1.cell
  have f1 := m1.free
  have l1 := m1.lt
  have c2 := m2.cell
  have f2 := m2.free
  have l2 := m2.lt
  have c3 := m3.cell
  have f3 := m3.free
  have l3 := m3.lt
  have c4 := m4.cell
  have f4 := m4.free
  have l4 := m4.lt
  rename_i Q0 K0 hK0
  have hc1 : ∀ w', Below w.heap.size w w' → w'.cell? ⟨B1, 0, none⟩ = some (.int .i64 a) := fun w' h => (h.cell l1).trans c1
  have hc2 : ∀ w', Below w.heap.size w w' → w'.cell? ⟨B1, 1, none⟩ = some (.int .i64 b) := fun w' h => (h.cell l2).trans c2
  have hc3 : ∀ w', Below w.heap.size w w' → w'.cell? ⟨B2, 0, none⟩ = some (.int .i64 c) := fun w' h => (h.cell l3).trans c3
  have hc4 : ∀ w', Below w.heap.size w w' → w'.cell? ⟨B2, 1, none⟩ = some (.int .i64 d) := fun w' h => (h.cell l4).trans c4
  refine wp_region_held_drew (S := fun w' => Below w.heap.size w w') (by kernel_rfl) (hB.drew) (fun hHeld => ?_)
  refine take_l (i := 0) (v := rv a b) rfl (by kernel_rfl) (by kernel_rfl) (by kernel_rfl) (fun _ _ _ h => h) (Or.inl ⟨by rfl, ?_⟩) (by assumption) ?_
  · intro w' hSw
    have g1 := hc1 w' hSw
    have g2 := hc2 w' hSw
    go_simp; (try with_reducible rfl)
  (try dsimp only [Act.put, List.setIfInBounds_toArray, List.set_cons_zero, List.set_cons_succ])
  refine take_l (i := 2) (v := rv c d) rfl (by kernel_rfl) (by kernel_rfl) (by kernel_rfl) (fun _ _ _ h => h) (Or.inl ⟨by rfl, ?_⟩) (by assumption) ?_
  · intro w' hSw
    have g3 := hc3 w' hSw
    have g4 := hc4 w' hSw
    go_simp; (try with_reducible rfl)
  (try dsimp only [Act.put, List.setIfInBounds_toArray, List.set_cons_zero, List.set_cons_succ])
  clear hc1 hc2 hc3 hc4 m1 m2 m3 m4 c1 c2 c3 c4 f1 f2 f3 f4 l1 l2 l3 l4 hK0
  replace hB : Below w.heap.size w w.drew := hB.drew
  generalize hw0 : w.drew = w0 at *
  clear hw0
  refine wpAnyH_ready (rs := [1, 4, 5]) (by kernel_rfl) (by simp) ?_
  refine ready_l rfl (fun K1 hK1 => ?_) ?_
  · skip
    go_simp
    refine (of_valid a b _ h1).mono ?_
    rintro e x2 ⟨rfl, hb1⟩
    replace hB := hB.trans (hb1.mono hB.size)
    have hb_x2 := hb1
    clear hb1
    clear hb_x2
    refine hK1.out _ _ hB (fun _ => ?_)
    clear hK1 K1
    (try dsimp only [Act.put, List.setIfInBounds_toArray, List.set_cons_zero, List.set_cons_succ])
    refine wpAnyH_ready (rs := [3, 4, 5]) (by kernel_rfl) (by simp) ?_
    refine ready_l rfl (fun K1 hK1 => ?_) ?_
    · skip
      go_simp
      refine (of_bad c d _ ic id h2 p (hMp.out _ hB)).mono ?_
      rintro e x4 ⟨rfl, hb1⟩
      replace hB := hB.trans (hb1.mono hB.size)
      have hb_x4 := hb1
      clear hb1
      unfold misE
      go_wp2
      exact ⟨rfl, rfl, hB⟩
    refine ready_l rfl (fun K1 hK1 => ?_) ?_
    · skip
      have hle4 := hB.size
      go_simp
      refine name_K ?_
      intro x5 hwx5
      have mAll : Mine x5 x2.heap.size 0 (.int .i64 0) ∧ Mine x5 x2.heap.size 1 (.int .i64 0) := by
        rw [hwx5]
        refine ⟨?_, ?_⟩ <;> (repeat first | with_reducible assumption | with_reducible refine Mine.drew ?_ | with_reducible refine Mine.drewN ?_ _ | ((with_reducible refine Mine.new ?_); rfl) | ((with_reducible refine Mine.newAt ?_ ?_) <;> first | rfl | (simp; done) | (simp only [World.size_alloc]; rfl)) | ((with_reducible refine Mine.set ?_ _); repeat first | exact Mine.slot (by with_reducible assumption) | with_reducible refine MineS.drew ?_ | with_reducible refine MineS.drewN ?_ _ | ((with_reducible refine MineS.new ?_); decide) | ((with_reducible refine MineS.newAt ?_ ?_) <;> first | decide | (simp; done)) | with_reducible refine MineS.set ?_ _ _ _ | with_reducible refine MineS.alloc ?_ _) | with_reducible refine Mine.other ?_ _ (by first | (left; omega) | (right; omega) | (simp; done) | (simp; omega)) | with_reducible refine Mine.alloc ?_ _)
      obtain ⟨m41, m42⟩ := mAll
      have hBzx5 := hB.size
      replace hB : Below w.heap.size w x5 := by rw [hwx5]; exact (by repeat first | with_reducible exact Below.refl _ _ | with_reducible assumption | with_reducible refine below_drewN ?_ _ | with_reducible refine Below.drew ?_ | with_reducible refine Below.setCell ?_ (by first | exact Nat.le_refl _ | (simp; done) | (simp; omega) | omega) _ | with_reducible refine Below.alloc ?_ (by first | exact Nat.le_refl _ | (simp; done) | (simp; omega) | omega) _ | exact Below.refl _ _ | assumption)
      clear hwx5 hBzx5
      refine hK1.out _ _ hB (fun _ => ?_)
      clear hK1 K1
      (try dsimp only [Act.put, List.setIfInBounds_toArray, List.set_cons_zero, List.set_cons_succ])
      refine wpAnyH_ready (rs := [3, 5]) (by kernel_rfl) (by simp) ?_
      refine ready_l rfl (fun K1 hK1 => ?_) ?_
      · skip
        go_simp
        refine (of_bad c d _ ic id h2 p (hMp.out _ hB)).mono ?_
        rintro e x7 ⟨rfl, hb1⟩
        replace m41 := m41.below hb1
        replace m42 := m42.below hb1
        replace hB := hB.trans (hb1.mono hB.size)
        have hb_x7 := hb1
        clear hb1
        unfold misE
        go_wp2
        exact ⟨rfl, rfl, hB⟩
      refine ready_l rfl (fun K1 hK1 => ?_) AllReadyH.nil
      have hle5 := hB.size
      have hne := m41.lt
      go_simp
      refine name_K ?_
      intro x8 hwx8
      have mAll : Mine x8 x2.heap.size 0 (.int .i64 0) ∧ Mine x8 x2.heap.size 1 (.int .i64 0) ∧ Mine x8 x5.heap.size 0 (.int .i64 0) ∧ Mine x8 x5.heap.size 1 (.int .i64 0) := by
        rw [hwx8]
        refine ⟨?_, ?_, ?_, ?_⟩ <;> (repeat first | with_reducible assumption | with_reducible refine Mine.drew ?_ | with_reducible refine Mine.drewN ?_ _ | ((with_reducible refine Mine.new ?_); rfl) | ((with_reducible refine Mine.newAt ?_ ?_) <;> first | rfl | (simp; done) | (simp only [World.size_alloc]; rfl)) | ((with_reducible refine Mine.set ?_ _); repeat first | exact Mine.slot (by with_reducible assumption) | with_reducible refine MineS.drew ?_ | with_reducible refine MineS.drewN ?_ _ | ((with_reducible refine MineS.new ?_); decide) | ((with_reducible refine MineS.newAt ?_ ?_) <;> first | decide | (simp; done)) | with_reducible refine MineS.set ?_ _ _ _ | with_reducible refine MineS.alloc ?_ _) | with_reducible refine Mine.other ?_ _ (by first | (left; omega) | (right; omega) | (simp; done) | (simp; omega)) | with_reducible refine Mine.alloc ?_ _)
      clear m41 m42
      obtain ⟨m41, m42, m51, m52⟩ := mAll
      have hBzx8 := hB.size
      replace hB : Below w.heap.size w x8 := by rw [hwx8]; exact (by repeat first | with_reducible exact Below.refl _ _ | with_reducible assumption | with_reducible refine below_drewN ?_ _ | with_reducible refine Below.drew ?_ | with_reducible refine Below.setCell ?_ (by first | exact Nat.le_refl _ | (simp; done) | (simp; omega) | omega) _ | with_reducible refine Below.alloc ?_ (by first | exact Nat.le_refl _ | (simp; done) | (simp; omega) | omega) _ | exact Below.refl _ _ | assumption)
      clear hwx8 hBzx8
      refine hK1.out _ _ hB (fun _ => ?_)
      clear hK1 K1
      (try dsimp only [Act.put, List.setIfInBounds_toArray, List.set_cons_zero, List.set_cons_succ])
      refine wpAnyH_ready (rs := [3]) (by kernel_rfl) (by simp) ?_
      refine ready_l rfl (fun K1 hK1 => ?_) AllReadyH.nil
      go_simp
      refine (of_bad c d _ ic id h2 p (hMp.out _ hB)).mono ?_
      rintro e x10 ⟨rfl, hb1⟩
      replace m41 := m41.below hb1
      replace m42 := m42.below hb1
      replace m51 := m51.below hb1
      replace m52 := m52.below hb1
      replace hB := hB.trans (hb1.mono hB.size)
      have hb_x10 := hb1
      clear hb1
      unfold misE
      go_wp2
      exact ⟨rfl, rfl, hB⟩
    refine ready_l rfl (fun K1 hK1 => ?_) AllReadyH.nil
    have hle5 := hB.size
    go_simp
    refine name_K ?_
    intro x11 hwx11
    have mAll : Mine x11 x2.heap.size 0 (.int .i64 0) ∧ Mine x11 x2.heap.size 1 (.int .i64 0) := by
      rw [hwx11]
      refine ⟨?_, ?_⟩ <;> (repeat first | with_reducible assumption | with_reducible refine Mine.drew ?_ | with_reducible refine Mine.drewN ?_ _ | ((with_reducible refine Mine.new ?_); rfl) | ((with_reducible refine Mine.newAt ?_ ?_) <;> first | rfl | (simp; done) | (simp only [World.size_alloc]; rfl)) | ((with_reducible refine Mine.set ?_ _); repeat first | exact Mine.slot (by with_reducible assumption) | with_reducible refine MineS.drew ?_ | with_reducible refine MineS.drewN ?_ _ | ((with_reducible refine MineS.new ?_); decide) | ((with_reducible refine MineS.newAt ?_ ?_) <;> first | decide | (simp; done)) | with_reducible refine MineS.set ?_ _ _ _ | with_reducible refine MineS.alloc ?_ _) | with_reducible refine Mine.other ?_ _ (by first | (left; omega) | (right; omega) | (simp; done) | (simp; omega)) | with_reducible refine Mine.alloc ?_ _)
    obtain ⟨m51, m52⟩ := mAll
    have hBzx11 := hB.size
    replace hB : Below w.heap.size w x11 := by rw [hwx11]; exact (by repeat first | with_reducible exact Below.refl _ _ | with_reducible assumption | with_reducible refine below_drewN ?_ _ | with_reducible refine Below.drew ?_ | with_reducible refine Below.setCell ?_ (by first | exact Nat.le_refl _ | (simp; done) | (simp; omega) | omega) _ | with_reducible refine Below.alloc ?_ (by first | exact Nat.le_refl _ | (simp; done) | (simp; omega) | omega) _ | exact Below.refl _ _ | assumption)
    clear hwx11 hBzx11
    refine hK1.out _ _ hB (fun _ => ?_)
    clear hK1 K1
    (try dsimp only [Act.put, List.setIfInBounds_toArray, List.set_cons_zero, List.set_cons_succ])
    refine wpAnyH_ready (rs := [3, 4]) (by kernel_rfl) (by simp) ?_
    refine ready_l rfl (fun K1 hK1 => ?_) ?_
    · skip
      go_simp
      refine (of_bad c d _ ic id h2 p (hMp.out _ hB)).mono ?_
      rintro e x13 ⟨rfl, hb1⟩
      replace m51 := m51.below hb1
      replace m52 := m52.below hb1
      replace hB := hB.trans (hb1.mono hB.size)
      have hb_x13 := hb1
      clear hb1
      unfold misE
      go_wp2
      exact ⟨rfl, rfl, hB⟩
    refine ready_l rfl (fun K1 hK1 => ?_) AllReadyH.nil
    have hle4 := hB.size
    have hne := m51.lt
    go_simp
    refine name_K ?_
    intro x14 hwx14
    have mAll : Mine x14 x2.heap.size 0 (.int .i64 0) ∧ Mine x14 x2.heap.size 1 (.int .i64 0) ∧ Mine x14 x11.heap.size 0 (.int .i64 0) ∧ Mine x14 x11.heap.size 1 (.int .i64 0) := by
      rw [hwx14]
      refine ⟨?_, ?_, ?_, ?_⟩ <;> (repeat first | with_reducible assumption | with_reducible refine Mine.drew ?_ | with_reducible refine Mine.drewN ?_ _ | ((with_reducible refine Mine.new ?_); rfl) | ((with_reducible refine Mine.newAt ?_ ?_) <;> first | rfl | (simp; done) | (simp only [World.size_alloc]; rfl)) | ((with_reducible refine Mine.set ?_ _); repeat first | exact Mine.slot (by with_reducible assumption) | with_reducible refine MineS.drew ?_ | with_reducible refine MineS.drewN ?_ _ | ((with_reducible refine MineS.new ?_); decide) | ((with_reducible refine MineS.newAt ?_ ?_) <;> first | decide | (simp; done)) | with_reducible refine MineS.set ?_ _ _ _ | with_reducible refine MineS.alloc ?_ _) | with_reducible refine Mine.other ?_ _ (by first | (left; omega) | (right; omega) | (simp; done) | (simp; omega)) | with_reducible refine Mine.alloc ?_ _)
    clear m51 m52
    obtain ⟨m51, m52, m41, m42⟩ := mAll
    have hBzx14 := hB.size
    replace hB : Below w.heap.size w x14 := by rw [hwx14]; exact (by repeat first | with_reducible exact Below.refl _ _ | with_reducible assumption | with_reducible refine below_drewN ?_ _ | with_reducible refine Below.drew ?_ | with_reducible refine Below.setCell ?_ (by first | exact Nat.le_refl _ | (simp; done) | (simp; omega) | omega) _ | with_reducible refine Below.alloc ?_ (by first | exact Nat.le_refl _ | (simp; done) | (simp; omega) | omega) _ | exact Below.refl _ _ | assumption)
    clear hwx14 hBzx14
    refine hK1.out _ _ hB (fun _ => ?_)
    clear hK1 K1
    (try dsimp only [Act.put, List.setIfInBounds_toArray, List.set_cons_zero, List.set_cons_succ])
    refine wpAnyH_ready (rs := [3]) (by kernel_rfl) (by simp) ?_
    refine ready_l rfl (fun K1 hK1 => ?_) AllReadyH.nil
    go_simp
    refine (of_bad c d _ ic id h2 p (hMp.out _ hB)).mono ?_
    rintro e x16 ⟨rfl, hb1⟩
    replace m51 := m51.below hb1
    replace m52 := m52.below hb1
    replace m41 := m41.below hb1
    replace m42 := m42.below hb1
    replace hB := hB.trans (hb1.mono hB.size)
    have hb_x16 := hb1
    clear hb1
    unfold misE
    go_wp2
    exact ⟨rfl, rfl, hB⟩
  refine ready_l rfl (fun K1 hK1 => ?_) ?_
  · skip
    have hle4 := hB.size
    go_simp
    refine name_K ?_
    intro x17 hwx17
    have mAll : Mine x17 w0.heap.size 0 (.int .i64 0) ∧ Mine x17 w0.heap.size 1 (.int .i64 0) := by
      rw [hwx17]
      refine ⟨?_, ?_⟩ <;> (repeat first | with_reducible assumption | with_reducible refine Mine.drew ?_ | with_reducible refine Mine.drewN ?_ _ | ((with_reducible refine Mine.new ?_); rfl) | ((with_reducible refine Mine.newAt ?_ ?_) <;> first | rfl | (simp; done) | (simp only [World.size_alloc]; rfl)) | ((with_reducible refine Mine.set ?_ _); repeat first | exact Mine.slot (by with_reducible assumption) | with_reducible refine MineS.drew ?_ | with_reducible refine MineS.drewN ?_ _ | ((with_reducible refine MineS.new ?_); decide) | ((with_reducible refine MineS.newAt ?_ ?_) <;> first | decide | (simp; done)) | with_reducible refine MineS.set ?_ _ _ _ | with_reducible refine MineS.alloc ?_ _) | with_reducible refine Mine.other ?_ _ (by first | (left; omega) | (right; omega) | (simp; done) | (simp; omega)) | with_reducible refine Mine.alloc ?_ _)
    obtain ⟨m41, m42⟩ := mAll
    have hBzx17 := hB.size
    replace hB : Below w.heap.size w x17 := by rw [hwx17]; exact (by repeat first | with_reducible exact Below.refl _ _ | with_reducible assumption | with_reducible refine below_drewN ?_ _ | with_reducible refine Below.drew ?_ | with_reducible refine Below.setCell ?_ (by first | exact Nat.le_refl _ | (simp; done) | (simp; omega) | omega) _ | with_reducible refine Below.alloc ?_ (by first | exact Nat.le_refl _ | (simp; done) | (simp; omega) | omega) _ | exact Below.refl _ _ | assumption)
    clear hwx17 hBzx17
    refine hK1.out _ _ hB (fun _ => ?_)
    clear hK1 K1
    (try dsimp only [Act.put, List.setIfInBounds_toArray, List.set_cons_zero, List.set_cons_succ])
    refine wpAnyH_ready (rs := [1, 5]) (by kernel_rfl) (by simp) ?_
    refine ready_l rfl (fun K1 hK1 => ?_) ?_
    · skip
      go_simp
      refine (of_valid a b _ h1).mono ?_
      rintro e x19 ⟨rfl, hb1⟩
      replace m41 := m41.below hb1
      replace m42 := m42.below hb1
      replace hB := hB.trans (hb1.mono hB.size)
      have hb_x19 := hb1
      clear hb1
      clear hb_x19
      refine hK1.out _ _ hB (fun _ => ?_)
      clear hK1 K1
      (try dsimp only [Act.put, List.setIfInBounds_toArray, List.set_cons_zero, List.set_cons_succ])
      refine wpAnyH_ready (rs := [3, 5]) (by kernel_rfl) (by simp) ?_
      refine ready_l rfl (fun K1 hK1 => ?_) ?_
      · skip
        go_simp
        refine (of_bad c d _ ic id h2 p (hMp.out _ hB)).mono ?_
        rintro e x21 ⟨rfl, hb1⟩
        replace m41 := m41.below hb1
        replace m42 := m42.below hb1
        replace hB := hB.trans (hb1.mono hB.size)
        have hb_x21 := hb1
        clear hb1
        unfold misE
        go_wp2
        exact ⟨rfl, rfl, hB⟩
      refine ready_l rfl (fun K1 hK1 => ?_) AllReadyH.nil
      have hle5 := hB.size
      have hne := m41.lt
      go_simp
      refine name_K ?_
      intro x22 hwx22
      have mAll : Mine x22 w0.heap.size 0 (.int .i64 0) ∧ Mine x22 w0.heap.size 1 (.int .i64 0) ∧ Mine x22 x19.heap.size 0 (.int .i64 0) ∧ Mine x22 x19.heap.size 1 (.int .i64 0) := by
        rw [hwx22]
        refine ⟨?_, ?_, ?_, ?_⟩ <;> (repeat first | with_reducible assumption | with_reducible refine Mine.drew ?_ | with_reducible refine Mine.drewN ?_ _ | ((with_reducible refine Mine.new ?_); rfl) | ((with_reducible refine Mine.newAt ?_ ?_) <;> first | rfl | (simp; done) | (simp only [World.size_alloc]; rfl)) | ((with_reducible refine Mine.set ?_ _); repeat first | exact Mine.slot (by with_reducible assumption) | with_reducible refine MineS.drew ?_ | with_reducible refine MineS.drewN ?_ _ | ((with_reducible refine MineS.new ?_); decide) | ((with_reducible refine MineS.newAt ?_ ?_) <;> first | decide | (simp; done)) | with_reducible refine MineS.set ?_ _ _ _ | with_reducible refine MineS.alloc ?_ _) | with_reducible refine Mine.other ?_ _ (by first | (left; omega) | (right; omega) | (simp; done) | (simp; omega)) | with_reducible refine Mine.alloc ?_ _)
      clear m41 m42
      obtain ⟨m41, m42, m51, m52⟩ := mAll
      have hBzx22 := hB.size
      replace hB : Below w.heap.size w x22 := by rw [hwx22]; exact (by repeat first | with_reducible exact Below.refl _ _ | with_reducible assumption | with_reducible refine below_drewN ?_ _ | with_reducible refine Below.drew ?_ | with_reducible refine Below.setCell ?_ (by first | exact Nat.le_refl _ | (simp; done) | (simp; omega) | omega) _ | with_reducible refine Below.alloc ?_ (by first | exact Nat.le_refl _ | (simp; done) | (simp; omega) | omega) _ | exact Below.refl _ _ | assumption)
      clear hwx22 hBzx22
      refine hK1.out _ _ hB (fun _ => ?_)
      clear hK1 K1
      (try dsimp only [Act.put, List.setIfInBounds_toArray, List.set_cons_zero, List.set_cons_succ])
      refine wpAnyH_ready (rs := [3]) (by kernel_rfl) (by simp) ?_
      refine ready_l rfl (fun K1 hK1 => ?_) AllReadyH.nil
      go_simp
      refine (of_bad c d _ ic id h2 p (hMp.out _ hB)).mono ?_
      rintro e x24 ⟨rfl, hb1⟩
      replace m41 := m41.below hb1
      replace m42 := m42.below hb1
      replace m51 := m51.below hb1
      replace m52 := m52.below hb1
      replace hB := hB.trans (hb1.mono hB.size)
      have hb_x24 := hb1
      clear hb1
      unfold misE
      go_wp2
      exact ⟨rfl, rfl, hB⟩
    refine ready_l rfl (fun K1 hK1 => ?_) AllReadyH.nil
    have hle5 := hB.size
    have hne := m41.lt
    go_simp
    refine name_K ?_
    intro x25 hwx25
    have mAll : Mine x25 w0.heap.size 0 (.int .i64 0) ∧ Mine x25 w0.heap.size 1 (.int .i64 0) ∧ Mine x25 x17.heap.size 0 (.int .i64 0) ∧ Mine x25 x17.heap.size 1 (.int .i64 0) := by
      rw [hwx25]
      refine ⟨?_, ?_, ?_, ?_⟩ <;> (repeat first | with_reducible assumption | with_reducible refine Mine.drew ?_ | with_reducible refine Mine.drewN ?_ _ | ((with_reducible refine Mine.new ?_); rfl) | ((with_reducible refine Mine.newAt ?_ ?_) <;> first | rfl | (simp; done) | (simp only [World.size_alloc]; rfl)) | ((with_reducible refine Mine.set ?_ _); repeat first | exact Mine.slot (by with_reducible assumption) | with_reducible refine MineS.drew ?_ | with_reducible refine MineS.drewN ?_ _ | ((with_reducible refine MineS.new ?_); decide) | ((with_reducible refine MineS.newAt ?_ ?_) <;> first | decide | (simp; done)) | with_reducible refine MineS.set ?_ _ _ _ | with_reducible refine MineS.alloc ?_ _) | with_reducible refine Mine.other ?_ _ (by first | (left; omega) | (right; omega) | (simp; done) | (simp; omega)) | with_reducible refine Mine.alloc ?_ _)
    clear m41 m42
    obtain ⟨m41, m42, m51, m52⟩ := mAll
    have hBzx25 := hB.size
    replace hB : Below w.heap.size w x25 := by rw [hwx25]; exact (by repeat first | with_reducible exact Below.refl _ _ | with_reducible assumption | with_reducible refine below_drewN ?_ _ | with_reducible refine Below.drew ?_ | with_reducible refine Below.setCell ?_ (by first | exact Nat.le_refl _ | (simp; done) | (simp; omega) | omega) _ | with_reducible refine Below.alloc ?_ (by first | exact Nat.le_refl _ | (simp; done) | (simp; omega) | omega) _ | exact Below.refl _ _ | assumption)
    clear hwx25 hBzx25
    refine hK1.out _ _ hB (fun _ => ?_)
    clear hK1 K1
    (try dsimp only [Act.put, List.setIfInBounds_toArray, List.set_cons_zero, List.set_cons_succ])
    refine wpAnyH_ready (rs := [1]) (by kernel_rfl) (by simp) ?_
    refine ready_l rfl (fun K1 hK1 => ?_) AllReadyH.nil
    go_simp
    refine (of_valid a b _ h1).mono ?_
    rintro e x27 ⟨rfl, hb1⟩
    replace m41 := m41.below hb1
    replace m42 := m42.below hb1
    replace m51 := m51.below hb1
    replace m52 := m52.below hb1
    replace hB := hB.trans (hb1.mono hB.size)
    have hb_x27 := hb1
    clear hb1
    clear hb_x27
    refine hK1.out _ _ hB (fun _ => ?_)
    clear hK1 K1
    (try dsimp only [Act.put, List.setIfInBounds_toArray, List.set_cons_zero, List.set_cons_succ])
    refine wpAnyH_ready (rs := [3]) (by kernel_rfl) (by simp) ?_
    refine ready_l rfl (fun K1 hK1 => ?_) AllReadyH.nil
    go_simp
    refine (of_bad c d _ ic id h2 p (hMp.out _ hB)).mono ?_
    rintro e x29 ⟨rfl, hb1⟩
    replace m41 := m41.below hb1
    replace m42 := m42.below hb1
    replace m51 := m51.below hb1
    replace m52 := m52.below hb1
    replace hB := hB.trans (hb1.mono hB.size)
    have hb_x29 := hb1
    clear hb1
    unfold misE
    go_wp2
    exact ⟨rfl, rfl, hB⟩
  refine ready_l rfl (fun K1 hK1 => ?_) AllReadyH.nil
  have hle5 := hB.size
  go_simp
  refine name_K ?_
  intro x30 hwx30
  have mAll : Mine x30 w0.heap.size 0 (.int .i64 0) ∧ Mine x30 w0.heap.size 1 (.int .i64 0) := by
    rw [hwx30]
    refine ⟨?_, ?_⟩ <;> (repeat first | with_reducible assumption | with_reducible refine Mine.drew ?_ | with_reducible refine Mine.drewN ?_ _ | ((with_reducible refine Mine.new ?_); rfl) | ((with_reducible refine Mine.newAt ?_ ?_) <;> first | rfl | (simp; done) | (simp only [World.size_alloc]; rfl)) | ((with_reducible refine Mine.set ?_ _); repeat first | exact Mine.slot (by with_reducible assumption) | with_reducible refine MineS.drew ?_ | with_reducible refine MineS.drewN ?_ _ | ((with_reducible refine MineS.new ?_); decide) | ((with_reducible refine MineS.newAt ?_ ?_) <;> first | decide | (simp; done)) | with_reducible refine MineS.set ?_ _ _ _ | with_reducible refine MineS.alloc ?_ _) | with_reducible refine Mine.other ?_ _ (by first | (left; omega) | (right; omega) | (simp; done) | (simp; omega)) | with_reducible refine Mine.alloc ?_ _)
  obtain ⟨m51, m52⟩ := mAll
  have hBzx30 := hB.size
  replace hB : Below w.heap.size w x30 := by rw [hwx30]; exact (by repeat first | with_reducible exact Below.refl _ _ | with_reducible assumption | with_reducible refine below_drewN ?_ _ | with_reducible refine Below.drew ?_ | with_reducible refine Below.setCell ?_ (by first | exact Nat.le_refl _ | (simp; done) | (simp; omega) | omega) _ | with_reducible refine Below.alloc ?_ (by first | exact Nat.le_refl _ | (simp; done) | (simp; omega) | omega) _ | exact Below.refl _ _ | assumption)
  clear hwx30 hBzx30
  refine hK1.out _ _ hB (fun _ => ?_)
  clear hK1 K1
  (try dsimp only [Act.put, List.setIfInBounds_toArray, List.set_cons_zero, List.set_cons_succ])
  refine wpAnyH_ready (rs := [1, 4]) (by kernel_rfl) (by simp) ?_
  refine ready_l rfl (fun K1 hK1 => ?_) ?_
  · skip
    go_simp
    refine (of_valid a b _ h1).mono ?_
    rintro e x32 ⟨rfl, hb1⟩
    replace m51 := m51.below hb1
    replace m52 := m52.below hb1
    replace hB := hB.trans (hb1.mono hB.size)
    have hb_x32 := hb1
    clear hb1
    clear hb_x32
    refine hK1.out _ _ hB (fun _ => ?_)
    clear hK1 K1
    (try dsimp only [Act.put, List.setIfInBounds_toArray, List.set_cons_zero, List.set_cons_succ])
    refine wpAnyH_ready (rs := [3, 4]) (by kernel_rfl) (by simp) ?_
    refine ready_l rfl (fun K1 hK1 => ?_) ?_
    · skip
      go_simp
      refine (of_bad c d _ ic id h2 p (hMp.out _ hB)).mono ?_
      rintro e x34 ⟨rfl, hb1⟩
      replace m51 := m51.below hb1
      replace m52 := m52.below hb1
      replace hB := hB.trans (hb1.mono hB.size)
      have hb_x34 := hb1
      clear hb1
      unfold misE
      go_wp2
      exact ⟨rfl, rfl, hB⟩
    refine ready_l rfl (fun K1 hK1 => ?_) AllReadyH.nil
    have hle4 := hB.size
    have hne := m51.lt
    go_simp
    refine name_K ?_
    intro x35 hwx35
    have mAll : Mine x35 w0.heap.size 0 (.int .i64 0) ∧ Mine x35 w0.heap.size 1 (.int .i64 0) ∧ Mine x35 x32.heap.size 0 (.int .i64 0) ∧ Mine x35 x32.heap.size 1 (.int .i64 0) := by
      rw [hwx35]
      refine ⟨?_, ?_, ?_, ?_⟩ <;> (repeat first | with_reducible assumption | with_reducible refine Mine.drew ?_ | with_reducible refine Mine.drewN ?_ _ | ((with_reducible refine Mine.new ?_); rfl) | ((with_reducible refine Mine.newAt ?_ ?_) <;> first | rfl | (simp; done) | (simp only [World.size_alloc]; rfl)) | ((with_reducible refine Mine.set ?_ _); repeat first | exact Mine.slot (by with_reducible assumption) | with_reducible refine MineS.drew ?_ | with_reducible refine MineS.drewN ?_ _ | ((with_reducible refine MineS.new ?_); decide) | ((with_reducible refine MineS.newAt ?_ ?_) <;> first | decide | (simp; done)) | with_reducible refine MineS.set ?_ _ _ _ | with_reducible refine MineS.alloc ?_ _) | with_reducible refine Mine.other ?_ _ (by first | (left; omega) | (right; omega) | (simp; done) | (simp; omega)) | with_reducible refine Mine.alloc ?_ _)
    clear m51 m52
    obtain ⟨m51, m52, m41, m42⟩ := mAll
    have hBzx35 := hB.size
    replace hB : Below w.heap.size w x35 := by rw [hwx35]; exact (by repeat first | with_reducible exact Below.refl _ _ | with_reducible assumption | with_reducible refine below_drewN ?_ _ | with_reducible refine Below.drew ?_ | with_reducible refine Below.setCell ?_ (by first | exact Nat.le_refl _ | (simp; done) | (simp; omega) | omega) _ | with_reducible refine Below.alloc ?_ (by first | exact Nat.le_refl _ | (simp; done) | (simp; omega) | omega) _ | exact Below.refl _ _ | assumption)
    clear hwx35 hBzx35
    refine hK1.out _ _ hB (fun _ => ?_)
    clear hK1 K1
    (try dsimp only [Act.put, List.setIfInBounds_toArray, List.set_cons_zero, List.set_cons_succ])
    refine wpAnyH_ready (rs := [3]) (by kernel_rfl) (by simp) ?_
    refine ready_l rfl (fun K1 hK1 => ?_) AllReadyH.nil
    go_simp
    refine (of_bad c d _ ic id h2 p (hMp.out _ hB)).mono ?_
    rintro e x37 ⟨rfl, hb1⟩
    replace m51 := m51.below hb1
    replace m52 := m52.below hb1
    replace m41 := m41.below hb1
    replace m42 := m42.below hb1
    replace hB := hB.trans (hb1.mono hB.size)
    have hb_x37 := hb1
    clear hb1
    unfold misE
    go_wp2
    exact ⟨rfl, rfl, hB⟩
  refine ready_l rfl (fun K1 hK1 => ?_) AllReadyH.nil
  have hle4 := hB.size
  have hne := m51.lt
  go_simp
  refine name_K ?_
  intro x38 hwx38
  have mAll : Mine x38 w0.heap.size 0 (.int .i64 0) ∧ Mine x38 w0.heap.size 1 (.int .i64 0) ∧ Mine x38 x30.heap.size 0 (.int .i64 0) ∧ Mine x38 x30.heap.size 1 (.int .i64 0) := by
    rw [hwx38]
    refine ⟨?_, ?_, ?_, ?_⟩ <;> (repeat first | with_reducible assumption | with_reducible refine Mine.drew ?_ | with_reducible refine Mine.drewN ?_ _ | ((with_reducible refine Mine.new ?_); rfl) | ((with_reducible refine Mine.newAt ?_ ?_) <;> first | rfl | (simp; done) | (simp only [World.size_alloc]; rfl)) | ((with_reducible refine Mine.set ?_ _); repeat first | exact Mine.slot (by with_reducible assumption) | with_reducible refine MineS.drew ?_ | with_reducible refine MineS.drewN ?_ _ | ((with_reducible refine MineS.new ?_); decide) | ((with_reducible refine MineS.newAt ?_ ?_) <;> first | decide | (simp; done)) | with_reducible refine MineS.set ?_ _ _ _ | with_reducible refine MineS.alloc ?_ _) | with_reducible refine Mine.other ?_ _ (by first | (left; omega) | (right; omega) | (simp; done) | (simp; omega)) | with_reducible refine Mine.alloc ?_ _)
  clear m51 m52
  obtain ⟨m51, m52, m41, m42⟩ := mAll
  have hBzx38 := hB.size
  replace hB : Below w.heap.size w x38 := by rw [hwx38]; exact (by repeat first | with_reducible exact Below.refl _ _ | with_reducible assumption | with_reducible refine below_drewN ?_ _ | with_reducible refine Below.drew ?_ | with_reducible refine Below.setCell ?_ (by first | exact Nat.le_refl _ | (simp; done) | (simp; omega) | omega) _ | with_reducible refine Below.alloc ?_ (by first | exact Nat.le_refl _ | (simp; done) | (simp; omega) | omega) _ | exact Below.refl _ _ | assumption)
  clear hwx38 hBzx38
  refine hK1.out _ _ hB (fun _ => ?_)
  clear hK1 K1
  (try dsimp only [Act.put, List.setIfInBounds_toArray, List.set_cons_zero, List.set_cons_succ])
  refine wpAnyH_ready (rs := [1]) (by kernel_rfl) (by simp) ?_
  refine ready_l rfl (fun K1 hK1 => ?_) AllReadyH.nil
  go_simp
  refine (of_valid a b _ h1).mono ?_
  rintro e x40 ⟨rfl, hb1⟩
  replace m51 := m51.below hb1
  replace m52 := m52.below hb1
  replace m41 := m41.below hb1
  replace m42 := m42.below hb1
  replace hB := hB.trans (hb1.mono hB.size)
  have hb_x40 := hb1
  clear hb1
  clear hb_x40
  refine hK1.out _ _ hB (fun _ => ?_)
  clear hK1 K1
  (try dsimp only [Act.put, List.setIfInBounds_toArray, List.set_cons_zero, List.set_cons_succ])
  refine wpAnyH_ready (rs := [3]) (by kernel_rfl) (by simp) ?_
  refine ready_l rfl (fun K1 hK1 => ?_) AllReadyH.nil
  go_simp
  refine (of_bad c d _ ic id h2 p (hMp.out _ hB)).mono ?_
  rintro e x42 ⟨rfl, hb1⟩
  replace m51 := m51.below hb1
  replace m52 := m52.below hb1
  replace m41 := m41.below hb1
  replace m42 := m42.below hb1
  replace hB := hB.trans (hb1.mono hB.size)
  have hb_x42 := hb1
  clear hb1
  unfold misE
  go_wp2
  exact ⟨rfl, rfl, hB⟩

set_option maxRecDepth 100000 in
set_option maxHeartbeats 1000000 in
theorem Div1_bada (a b c d : Int) (B1 B2 : Nat) (w : World) (ia : I64 a) (ib : I64 b) (h1 : vld a b = false) (p : Addr) (hM : Mis w p)
    (m1 : Mine w B1 0 (.int .i64 a)) (m2 : Mine w B1 1 (.int .i64 b)) (m3 : Mine w B2 0 (.int .i64 c)) (m4 : Mine w B2 1 (.int .i64 d)) :
    Calls Tryd.prog 57 #[.pointer (some ⟨B1, 0, none⟩), .pointer (some ⟨B2, 0, none⟩)] w fun e w' => e = misE p ∧ Below w.heap.size w w' := by
  have hB : Below w.heap.size w w := Below.refl _ _
  have hMp := Lib.hid (fun W (hW : Below w.heap.size w W) => hM.below hW)
  clear hM
  go_enter Tryd.func57, Tryd.ntmps57
  go_wp2
  have c1 := m1.cell
  have f1 := m1.free
  have l1 := m1.lt
  have c2 := m2.cell
  have f2 := m2.free
  have l2 := m2.lt
  have c3 := m3.cell
  have f3 := m3.free
  have l3 := m3.lt
  have c4 := m4.cell
  have f4 := m4.free
  have l4 := m4.lt
  rename_i Q0 K0 hK0
  have hc1 : ∀ w', Below w.heap.size w w' → w'.cell? ⟨B1, 0, none⟩ = some (.int .i64 a) := fun w' h => (h.cell l1).trans c1
  have hc2 : ∀ w', Below w.heap.size w w' → w'.cell? ⟨B1, 1, none⟩ = some (.int .i64 b) := fun w' h => (h.cell l2).trans c2
  have hc3 : ∀ w', Below w.heap.size w w' → w'.cell? ⟨B2, 0, none⟩ = some (.int .i64 c) := fun w' h => (h.cell l3).trans c3
  have hc4 : ∀ w', Below w.heap.size w w' → w'.cell? ⟨B2, 1, none⟩ = some (.int .i64 d) := fun w' h => (h.cell l4).trans c4
  refine wp_region_held_drew (S := fun w' => Below w.heap.size w w') (by kernel_rfl) (hB.drew) (fun hHeld => ?_)
  refine take_l (i := 0) (v := rv a b) rfl (by kernel_rfl) (by kernel_rfl) (by kernel_rfl) (fun _ _ _ h => h) (Or.inl ⟨by rfl, ?_⟩) (by assumption) ?_
  · intro w' hSw
    have g1 := hc1 w' hSw
    have g2 := hc2 w' hSw
    go_simp; (try with_reducible rfl)
  (try dsimp only [Act.put, List.setIfInBounds_toArray, List.set_cons_zero, List.set_cons_succ])
  refine take_l (i := 2) (v := rv c d) rfl (by kernel_rfl) (by kernel_rfl) (by kernel_rfl) (fun _ _ _ h => h) (Or.inl ⟨by rfl, ?_⟩) (by assumption) ?_
  · intro w' hSw
    have g3 := hc3 w' hSw
    have g4 := hc4 w' hSw
    go_simp; (try with_reducible rfl)
  (try dsimp only [Act.put, List.setIfInBounds_toArray, List.set_cons_zero, List.set_cons_succ])
  clear hc1 hc2 hc3 hc4 m1 m2 m3 m4 c1 c2 c3 c4 f1 f2 f3 f4 l1 l2 l3 l4 hK0
  replace hB : Below w.heap.size w w.drew := hB.drew
  generalize hw0 : w.drew = w0 at *
  clear hw0
  refine wpAnyH_ready (rs := [1, 4, 5]) (by kernel_rfl) (by simp) ?_
  refine ready_l rfl (fun K1 hK1 => ?_) ?_
  · skip
    go_simp
    refine (of_bad a b _ ia ib h1 p (hMp.out _ hB)).mono ?_
    rintro e x2 ⟨rfl, hb1⟩
    replace hB := hB.trans (hb1.mono hB.size)
    have hb_x2 := hb1
    clear hb1
    unfold misE
    go_wp2
    exact ⟨rfl, rfl, hB⟩
  refine ready_l rfl (fun K1 hK1 => ?_) ?_
  · skip
    have hle4 := hB.size
    go_simp
    refine name_K ?_
    intro x3 hwx3
    have mAll : Mine x3 w0.heap.size 0 (.int .i64 0) ∧ Mine x3 w0.heap.size 1 (.int .i64 0) := by
      rw [hwx3]
      refine ⟨?_, ?_⟩ <;> (repeat first | with_reducible assumption | with_reducible refine Mine.drew ?_ | with_reducible refine Mine.drewN ?_ _ | ((with_reducible refine Mine.new ?_); rfl) | ((with_reducible refine Mine.newAt ?_ ?_) <;> first | rfl | (simp; done) | (simp only [World.size_alloc]; rfl)) | ((with_reducible refine Mine.set ?_ _); repeat first | exact Mine.slot (by with_reducible assumption) | with_reducible refine MineS.drew ?_ | with_reducible refine MineS.drewN ?_ _ | ((with_reducible refine MineS.new ?_); decide) | ((with_reducible refine MineS.newAt ?_ ?_) <;> first | decide | (simp; done)) | with_reducible refine MineS.set ?_ _ _ _ | with_reducible refine MineS.alloc ?_ _) | with_reducible refine Mine.other ?_ _ (by first | (left; omega) | (right; omega) | (simp; done) | (simp; omega)) | with_reducible refine Mine.alloc ?_ _)
    obtain ⟨m41, m42⟩ := mAll
    have hBzx3 := hB.size
    replace hB : Below w.heap.size w x3 := by rw [hwx3]; exact (by repeat first | with_reducible exact Below.refl _ _ | with_reducible assumption | with_reducible refine below_drewN ?_ _ | with_reducible refine Below.drew ?_ | with_reducible refine Below.setCell ?_ (by first | exact Nat.le_refl _ | (simp; done) | (simp; omega) | omega) _ | with_reducible refine Below.alloc ?_ (by first | exact Nat.le_refl _ | (simp; done) | (simp; omega) | omega) _ | exact Below.refl _ _ | assumption)
    clear hwx3 hBzx3
    refine hK1.out _ _ hB (fun _ => ?_)
    clear hK1 K1
    (try dsimp only [Act.put, List.setIfInBounds_toArray, List.set_cons_zero, List.set_cons_succ])
    refine wpAnyH_ready (rs := [1, 5]) (by kernel_rfl) (by simp) ?_
    refine ready_l rfl (fun K1 hK1 => ?_) ?_
    · skip
      go_simp
      refine (of_bad a b _ ia ib h1 p (hMp.out _ hB)).mono ?_
      rintro e x5 ⟨rfl, hb1⟩
      replace m41 := m41.below hb1
      replace m42 := m42.below hb1
      replace hB := hB.trans (hb1.mono hB.size)
      have hb_x5 := hb1
      clear hb1
      unfold misE
      go_wp2
      exact ⟨rfl, rfl, hB⟩
    refine ready_l rfl (fun K1 hK1 => ?_) AllReadyH.nil
    have hle5 := hB.size
    have hne := m41.lt
    go_simp
    refine name_K ?_
    intro x6 hwx6
    have mAll : Mine x6 w0.heap.size 0 (.int .i64 0) ∧ Mine x6 w0.heap.size 1 (.int .i64 0) ∧ Mine x6 x3.heap.size 0 (.int .i64 0) ∧ Mine x6 x3.heap.size 1 (.int .i64 0) := by
      rw [hwx6]
      refine ⟨?_, ?_, ?_, ?_⟩ <;> (repeat first | with_reducible assumption | with_reducible refine Mine.drew ?_ | with_reducible refine Mine.drewN ?_ _ | ((with_reducible refine Mine.new ?_); rfl) | ((with_reducible refine Mine.newAt ?_ ?_) <;> first | rfl | (simp; done) | (simp only [World.size_alloc]; rfl)) | ((with_reducible refine Mine.set ?_ _); repeat first | exact Mine.slot (by with_reducible assumption) | with_reducible refine MineS.drew ?_ | with_reducible refine MineS.drewN ?_ _ | ((with_reducible refine MineS.new ?_); decide) | ((with_reducible refine MineS.newAt ?_ ?_) <;> first | decide | (simp; done)) | with_reducible refine MineS.set ?_ _ _ _ | with_reducible refine MineS.alloc ?_ _) | with_reducible refine Mine.other ?_ _ (by first | (left; omega) | (right; omega) | (simp; done) | (simp; omega)) | with_reducible refine Mine.alloc ?_ _)
    clear m41 m42
    obtain ⟨m41, m42, m51, m52⟩ := mAll
    have hBzx6 := hB.size
    replace hB : Below w.heap.size w x6 := by rw [hwx6]; exact (by repeat first | with_reducible exact Below.refl _ _ | with_reducible assumption | with_reducible refine below_drewN ?_ _ | with_reducible refine Below.drew ?_ | with_reducible refine Below.setCell ?_ (by first | exact Nat.le_refl _ | (simp; done) | (simp; omega) | omega) _ | with_reducible refine Below.alloc ?_ (by first | exact Nat.le_refl _ | (simp; done) | (simp; omega) | omega) _ | exact Below.refl _ _ | assumption)
    clear hwx6 hBzx6
    refine hK1.out _ _ hB (fun _ => ?_)
    clear hK1 K1
    (try dsimp only [Act.put, List.setIfInBounds_toArray, List.set_cons_zero, List.set_cons_succ])
    refine wpAnyH_ready (rs := [1]) (by kernel_rfl) (by simp) ?_
    refine ready_l rfl (fun K1 hK1 => ?_) AllReadyH.nil
    go_simp
    refine (of_bad a b _ ia ib h1 p (hMp.out _ hB)).mono ?_
    rintro e x8 ⟨rfl, hb1⟩
    replace m41 := m41.below hb1
    replace m42 := m42.below hb1
    replace m51 := m51.below hb1
    replace m52 := m52.below hb1
    replace hB := hB.trans (hb1.mono hB.size)
    have hb_x8 := hb1
    clear hb1
    unfold misE
    go_wp2
    exact ⟨rfl, rfl, hB⟩
  refine ready_l rfl (fun K1 hK1 => ?_) AllReadyH.nil
  have hle5 := hB.size
  go_simp
  refine name_K ?_
  intro x9 hwx9
  have mAll : Mine x9 w0.heap.size 0 (.int .i64 0) ∧ Mine x9 w0.heap.size 1 (.int .i64 0) := by
    rw [hwx9]
    refine ⟨?_, ?_⟩ <;> (repeat first | with_reducible assumption | with_reducible refine Mine.drew ?_ | with_reducible refine Mine.drewN ?_ _ | ((with_reducible refine Mine.new ?_); rfl) | ((with_reducible refine Mine.newAt ?_ ?_) <;> first | rfl | (simp; done) | (simp only [World.size_alloc]; rfl)) | ((with_reducible refine Mine.set ?_ _); repeat first | exact Mine.slot (by with_reducible assumption) | with_reducible refine MineS.drew ?_ | with_reducible refine MineS.drewN ?_ _ | ((with_reducible refine MineS.new ?_); decide) | ((with_reducible refine MineS.newAt ?_ ?_) <;> first | decide | (simp; done)) | with_reducible refine MineS.set ?_ _ _ _ | with_reducible refine MineS.alloc ?_ _) | with_reducible refine Mine.other ?_ _ (by first | (left; omega) | (right; omega) | (simp; done) | (simp; omega)) | with_reducible refine Mine.alloc ?_ _)
  obtain ⟨m51, m52⟩ := mAll
  have hBzx9 := hB.size
  replace hB : Below w.heap.size w x9 := by rw [hwx9]; exact (by repeat first | with_reducible exact Below.refl _ _ | with_reducible assumption | with_reducible refine below_drewN ?_ _ | with_reducible refine Below.drew ?_ | with_reducible refine Below.setCell ?_ (by first | exact Nat.le_refl _ | (simp; done) | (simp; omega) | omega) _ | with_reducible refine Below.alloc ?_ (by first | exact Nat.le_refl _ | (simp; done) | (simp; omega) | omega) _ | exact Below.refl _ _ | assumption)
  clear hwx9 hBzx9
  refine hK1.out _ _ hB (fun _ => ?_)
  clear hK1 K1
  (try dsimp only [Act.put, List.setIfInBounds_toArray, List.set_cons_zero, List.set_cons_succ])
  refine wpAnyH_ready (rs := [1, 4]) (by kernel_rfl) (by simp) ?_
  refine ready_l rfl (fun K1 hK1 => ?_) ?_
  · skip
    go_simp
    refine (of_bad a b _ ia ib h1 p (hMp.out _ hB)).mono ?_
    rintro e x11 ⟨rfl, hb1⟩
    replace m51 := m51.below hb1
    replace m52 := m52.below hb1
    replace hB := hB.trans (hb1.mono hB.size)
    have hb_x11 := hb1
    clear hb1
    unfold misE
    go_wp2
    exact ⟨rfl, rfl, hB⟩
  refine ready_l rfl (fun K1 hK1 => ?_) AllReadyH.nil
  have hle4 := hB.size
  have hne := m51.lt
  go_simp
  refine name_K ?_
  intro x12 hwx12
  have mAll : Mine x12 w0.heap.size 0 (.int .i64 0) ∧ Mine x12 w0.heap.size 1 (.int .i64 0) ∧ Mine x12 x9.heap.size 0 (.int .i64 0) ∧ Mine x12 x9.heap.size 1 (.int .i64 0) := by
    rw [hwx12]
    refine ⟨?_, ?_, ?_, ?_⟩ <;> (repeat first | with_reducible assumption | with_reducible refine Mine.drew ?_ | with_reducible refine Mine.drewN ?_ _ | ((with_reducible refine Mine.new ?_); rfl) | ((with_reducible refine Mine.newAt ?_ ?_) <;> first | rfl | (simp; done) | (simp only [World.size_alloc]; rfl)) | ((with_reducible refine Mine.set ?_ _); repeat first | exact Mine.slot (by with_reducible assumption) | with_reducible refine MineS.drew ?_ | with_reducible refine MineS.drewN ?_ _ | ((with_reducible refine MineS.new ?_); decide) | ((with_reducible refine MineS.newAt ?_ ?_) <;> first | decide | (simp; done)) | with_reducible refine MineS.set ?_ _ _ _ | with_reducible refine MineS.alloc ?_ _) | with_reducible refine Mine.other ?_ _ (by first | (left; omega) | (right; omega) | (simp; done) | (simp; omega)) | with_reducible refine Mine.alloc ?_ _)
  clear m51 m52
  obtain ⟨m51, m52, m41, m42⟩ := mAll
  have hBzx12 := hB.size
  replace hB : Below w.heap.size w x12 := by rw [hwx12]; exact (by repeat first | with_reducible exact Below.refl _ _ | with_reducible assumption | with_reducible refine below_drewN ?_ _ | with_reducible refine Below.drew ?_ | with_reducible refine Below.setCell ?_ (by first | exact Nat.le_refl _ | (simp; done) | (simp; omega) | omega) _ | with_reducible refine Below.alloc ?_ (by first | exact Nat.le_refl _ | (simp; done) | (simp; omega) | omega) _ | exact Below.refl _ _ | assumption)
  clear hwx12 hBzx12
  refine hK1.out _ _ hB (fun _ => ?_)
  clear hK1 K1
  (try dsimp only [Act.put, List.setIfInBounds_toArray, List.set_cons_zero, List.set_cons_succ])
  refine wpAnyH_ready (rs := [1]) (by kernel_rfl) (by simp) ?_
  refine ready_l rfl (fun K1 hK1 => ?_) AllReadyH.nil
  go_simp
  refine (of_bad a b _ ia ib h1 p (hMp.out _ hB)).mono ?_
  rintro e x14 ⟨rfl, hb1⟩
  replace m51 := m51.below hb1
  replace m52 := m52.below hb1
  replace m41 := m41.below hb1
  replace m42 := m42.below hb1
  replace hB := hB.trans (hb1.mono hB.size)
  have hb_x14 := hb1
  clear hb1
  unfold misE
  go_wp2
  exact ⟨rfl, rfl, hB⟩

set_option maxRecDepth 100000 in
set_option maxHeartbeats 1000000 in
theorem Div1_badb (a b c d : Int) (B1 B2 : Nat) (w : World) (ic : I64 c) (id : I64 d) (h1 : vld a b = true) (h2 : vld c d = false) (p : Addr) (hM : Mis w p)
    (m1 : Mine w B1 0 (.int .i64 a)) (m2 : Mine w B1 1 (.int .i64 b)) (m3 : Mine w B2 0 (.int .i64 c)) (m4 : Mine w B2 1 (.int .i64 d)) :
    Calls Tryd.prog 57 #[.pointer (some ⟨B1, 0, none⟩), .pointer (some ⟨B2, 0, none⟩)] w fun e w' => e = misE p ∧ Below w.heap.size w w' := by
  have hB : Below w.heap.size w w := Below.refl _ _
  have hMp := Lib.hid (fun W (hW : Below w.heap.size w W) => hM.below hW)
  clear hM
  go_enter Tryd.func57, Tryd.ntmps57
  go_wp2
  have c1 := m1.cell
  have f1 := m1.free
  have l1 := m1.lt
  have c2 := m2.cell
  have f2 := m2.free
  have l2 := m2.lt
  have c3 := m3.cell
  have f3 := m3.free
  have l3 := m3.lt
  have c4 := m4.cell
  have f4 := m4.free
  have l4 := m4.lt
  rename_i Q0 K0 hK0
  have hc1 : ∀ w', Below w.heap.size w w' → w'.cell? ⟨B1, 0, none⟩ = some (.int .i64 a) := fun w' h => (h.cell l1).trans c1
  have hc2 : ∀ w', Below w.heap.size w w' → w'.cell? ⟨B1, 1, none⟩ = some (.int .i64 b) := fun w' h => (h.cell l2).trans c2
  have hc3 : ∀ w', Below w.heap.size w w' → w'.cell? ⟨B2, 0, none⟩ = some (.int .i64 c) := fun w' h => (h.cell l3).trans c3
  have hc4 : ∀ w', Below w.heap.size w w' → w'.cell? ⟨B2, 1, none⟩ = some (.int .i64 d) := fun w' h => (h.cell l4).trans c4
  refine wp_region_held_drew (S := fun w' => Below w.heap.size w w') (by kernel_rfl) (hB.drew) (fun hHeld => ?_)
  refine take_l (i := 0) (v := rv a b) rfl (by kernel_rfl) (by kernel_rfl) (by kernel_rfl) (fun _ _ _ h => h) (Or.inl ⟨by rfl, ?_⟩) (by assumption) ?_
  · intro w' hSw
    have g1 := hc1 w' hSw
    have g2 := hc2 w' hSw
    go_simp; (try with_reducible rfl)
  (try dsimp only [Act.put, List.setIfInBounds_toArray, List.set_cons_zero, List.set_cons_succ])
  refine take_l (i := 2) (v := rv c d) rfl (by kernel_rfl) (by kernel_rfl) (by kernel_rfl) (fun _ _ _ h => h) (Or.inl ⟨by rfl, ?_⟩) (by assumption) ?_
  · intro w' hSw
    have g3 := hc3 w' hSw
    have g4 := hc4 w' hSw
    go_simp; (try with_reducible rfl)
  (try dsimp only [Act.put, List.setIfInBounds_toArray, List.set_cons_zero, List.set_cons_succ])
  clear hc1 hc2 hc3 hc4 m1 m2 m3 m4 c1 c2 c3 c4 f1 f2 f3 f4 l1 l2 l3 l4 hK0
  replace hB : Below w.heap.size w w.drew := hB.drew
  generalize hw0 : w.drew = w0 at *
  clear hw0
  refine wpAnyH_ready (rs := [1, 4, 5]) (by kernel_rfl) (by simp) ?_
  refine ready_l rfl (fun K1 hK1 => ?_) ?_
  · skip
    go_simp
    refine (of_valid a b _ h1).mono ?_
    rintro e x2 ⟨rfl, hb1⟩
    replace hB := hB.trans (hb1.mono hB.size)
    have hb_x2 := hb1
    clear hb1
    clear hb_x2
    refine hK1.out _ _ hB (fun _ => ?_)
    clear hK1 K1
    (try dsimp only [Act.put, List.setIfInBounds_toArray, List.set_cons_zero, List.set_cons_succ])
    refine wpAnyH_ready (rs := [3, 4, 5]) (by kernel_rfl) (by simp) ?_
    refine ready_l rfl (fun K1 hK1 => ?_) ?_
    · skip
      go_simp
      refine (of_bad c d _ ic id h2 p (hMp.out _ hB)).mono ?_
      rintro e x4 ⟨rfl, hb1⟩
      replace hB := hB.trans (hb1.mono hB.size)
      have hb_x4 := hb1
      clear hb1
      unfold misE
      go_wp2
      exact ⟨rfl, rfl, hB⟩
    refine ready_l rfl (fun K1 hK1 => ?_) ?_
    · skip
      have hle4 := hB.size
      go_simp
      refine name_K ?_
      intro x5 hwx5
      have mAll : Mine x5 x2.heap.size 0 (.int .i64 0) ∧ Mine x5 x2.heap.size 1 (.int .i64 0) := by
        rw [hwx5]
        refine ⟨?_, ?_⟩ <;> (repeat first | with_reducible assumption | with_reducible refine Mine.drew ?_ | with_reducible refine Mine.drewN ?_ _ | ((with_reducible refine Mine.new ?_); rfl) | ((with_reducible refine Mine.newAt ?_ ?_) <;> first | rfl | (simp; done) | (simp only [World.size_alloc]; rfl)) | ((with_reducible refine Mine.set ?_ _); repeat first | exact Mine.slot (by with_reducible assumption) | with_reducible refine MineS.drew ?_ | with_reducible refine MineS.drewN ?_ _ | ((with_reducible refine MineS.new ?_); decide) | ((with_reducible refine MineS.newAt ?_ ?_) <;> first | decide | (simp; done)) | with_reducible refine MineS.set ?_ _ _ _ | with_reducible refine MineS.alloc ?_ _) | with_reducible refine Mine.other ?_ _ (by first | (left; omega) | (right; omega) | (simp; done) | (simp; omega)) | with_reducible refine Mine.alloc ?_ _)
      obtain ⟨m41, m42⟩ := mAll
      have hBzx5 := hB.size
      replace hB : Below w.heap.size w x5 := by rw [hwx5]; exact (by repeat first | with_reducible exact Below.refl _ _ | with_reducible assumption | with_reducible refine below_drewN ?_ _ | with_reducible refine Below.drew ?_ | with_reducible refine Below.setCell ?_ (by first | exact Nat.le_refl _ | (simp; done) | (simp; omega) | omega) _ | with_reducible refine Below.alloc ?_ (by first | exact Nat.le_refl _ | (simp; done) | (simp; omega) | omega) _ | exact Below.refl _ _ | assumption)
      clear hwx5 hBzx5
      refine hK1.out _ _ hB (fun _ => ?_)
      clear hK1 K1
      (try dsimp only [Act.put, List.setIfInBounds_toArray, List.set_cons_zero, List.set_cons_succ])
      refine wpAnyH_ready (rs := [3, 5]) (by kernel_rfl) (by simp) ?_
      refine ready_l rfl (fun K1 hK1 => ?_) ?_
      · skip
        go_simp
        refine (of_bad c d _ ic id h2 p (hMp.out _ hB)).mono ?_
        rintro e x7 ⟨rfl, hb1⟩
        replace m41 := m41.below hb1
        replace m42 := m42.below hb1
        replace hB := hB.trans (hb1.mono hB.size)
        have hb_x7 := hb1
        clear hb1
        unfold misE
        go_wp2
        exact ⟨rfl, rfl, hB⟩
      refine ready_l rfl (fun K1 hK1 => ?_) AllReadyH.nil
      have hle5 := hB.size
      have hne := m41.lt
      go_simp
      refine name_K ?_
      intro x8 hwx8
      have mAll : Mine x8 x2.heap.size 0 (.int .i64 0) ∧ Mine x8 x2.heap.size 1 (.int .i64 0) ∧ Mine x8 x5.heap.size 0 (.int .i64 0) ∧ Mine x8 x5.heap.size 1 (.int .i64 0) := by
        rw [hwx8]
        refine ⟨?_, ?_, ?_, ?_⟩ <;> (repeat first | with_reducible assumption | with_reducible refine Mine.drew ?_ | with_reducible refine Mine.drewN ?_ _ | ((with_reducible refine Mine.new ?_); rfl) | ((with_reducible refine Mine.newAt ?_ ?_) <;> first | rfl | (simp; done) | (simp only [World.size_alloc]; rfl)) | ((with_reducible refine Mine.set ?_ _); repeat first | exact Mine.slot (by with_reducible assumption) | with_reducible refine MineS.drew ?_ | with_reducible refine MineS.drewN ?_ _ | ((with_reducible refine MineS.new ?_); decide) | ((with_reducible refine MineS.newAt ?_ ?_) <;> first | decide | (simp; done)) | with_reducible refine MineS.set ?_ _ _ _ | with_reducible refine MineS.alloc ?_ _) | with_reducible refine Mine.other ?_ _ (by first | (left; omega) | (right; omega) | (simp; done) | (simp; omega)) | with_reducible refine Mine.alloc ?_ _)
      clear m41 m42
      obtain ⟨m41, m42, m51, m52⟩ := mAll
      have hBzx8 := hB.size
      replace hB : Below w.heap.size w x8 := by rw [hwx8]; exact (by repeat first | with_reducible exact Below.refl _ _ | with_reducible assumption | with_reducible refine below_drewN ?_ _ | with_reducible refine Below.drew ?_ | with_reducible refine Below.setCell ?_ (by first | exact Nat.le_refl _ | (simp; done) | (simp; omega) | omega) _ | with_reducible refine Below.alloc ?_ (by first | exact Nat.le_refl _ | (simp; done) | (simp; omega) | omega) _ | exact Below.refl _ _ | assumption)
      clear hwx8 hBzx8
      refine hK1.out _ _ hB (fun _ => ?_)
      clear hK1 K1
      (try dsimp only [Act.put, List.setIfInBounds_toArray, List.set_cons_zero, List.set_cons_succ])
      refine wpAnyH_ready (rs := [3]) (by kernel_rfl) (by simp) ?_
      refine ready_l rfl (fun K1 hK1 => ?_) AllReadyH.nil
      go_simp
      refine (of_bad c d _ ic id h2 p (hMp.out _ hB)).mono ?_
      rintro e x10 ⟨rfl, hb1⟩
      replace m41 := m41.below hb1
      replace m42 := m42.below hb1
      replace m51 := m51.below hb1
      replace m52 := m52.below hb1
      replace hB := hB.trans (hb1.mono hB.size)
      have hb_x10 := hb1
      clear hb1
      unfold misE
      go_wp2
      exact ⟨rfl, rfl, hB⟩
    refine ready_l rfl (fun K1 hK1 => ?_) AllReadyH.nil
    have hle5 := hB.size
    go_simp
    refine name_K ?_
    intro x11 hwx11
    have mAll : Mine x11 x2.heap.size 0 (.int .i64 0) ∧ Mine x11 x2.heap.size 1 (.int .i64 0) := by
      rw [hwx11]
      refine ⟨?_, ?_⟩ <;> (repeat first | with_reducible assumption | with_reducible refine Mine.drew ?_ | with_reducible refine Mine.drewN ?_ _ | ((with_reducible refine Mine.new ?_); rfl) | ((with_reducible refine Mine.newAt ?_ ?_) <;> first | rfl | (simp; done) | (simp only [World.size_alloc]; rfl)) | ((with_reducible refine Mine.set ?_ _); repeat first | exact Mine.slot (by with_reducible assumption) | with_reducible refine MineS.drew ?_ | with_reducible refine MineS.drewN ?_ _ | ((with_reducible refine MineS.new ?_); decide) | ((with_reducible refine MineS.newAt ?_ ?_) <;> first | decide | (simp; done)) | with_reducible refine MineS.set ?_ _ _ _ | with_reducible refine MineS.alloc ?_ _) | with_reducible refine Mine.other ?_ _ (by first | (left; omega) | (right; omega) | (simp; done) | (simp; omega)) | with_reducible refine Mine.alloc ?_ _)
    obtain ⟨m51, m52⟩ := mAll
    have hBzx11 := hB.size
    replace hB : Below w.heap.size w x11 := by rw [hwx11]; exact (by repeat first | with_reducible exact Below.refl _ _ | with_reducible assumption | with_reducible refine below_drewN ?_ _ | with_reducible refine Below.drew ?_ | with_reducible refine Below.setCell ?_ (by first | exact Nat.le_refl _ | (simp; done) | (simp; omega) | omega) _ | with_reducible refine Below.alloc ?_ (by first | exact Nat.le_refl _ | (simp; done) | (simp; omega) | omega) _ | exact Below.refl _ _ | assumption)
    clear hwx11 hBzx11
    refine hK1.out _ _ hB (fun _ => ?_)
    clear hK1 K1
    (try dsimp only [Act.put, List.setIfInBounds_toArray, List.set_cons_zero, List.set_cons_succ])
    refine wpAnyH_ready (rs := [3, 4]) (by kernel_rfl) (by simp) ?_
    refine ready_l rfl (fun K1 hK1 => ?_) ?_
    · skip
      go_simp
      refine (of_bad c d _ ic id h2 p (hMp.out _ hB)).mono ?_
      rintro e x13 ⟨rfl, hb1⟩
      replace m51 := m51.below hb1
      replace m52 := m52.below hb1
      replace hB := hB.trans (hb1.mono hB.size)
      have hb_x13 := hb1
      clear hb1
      unfold misE
      go_wp2
      exact ⟨rfl, rfl, hB⟩
    refine ready_l rfl (fun K1 hK1 => ?_) AllReadyH.nil
    have hle4 := hB.size
    have hne := m51.lt
    go_simp
    refine name_K ?_
    intro x14 hwx14
    have mAll : Mine x14 x2.heap.size 0 (.int .i64 0) ∧ Mine x14 x2.heap.size 1 (.int .i64 0) ∧ Mine x14 x11.heap.size 0 (.int .i64 0) ∧ Mine x14 x11.heap.size 1 (.int .i64 0) := by
      rw [hwx14]
      refine ⟨?_, ?_, ?_, ?_⟩ <;> (repeat first | with_reducible assumption | with_reducible refine Mine.drew ?_ | with_reducible refine Mine.drewN ?_ _ | ((with_reducible refine Mine.new ?_); rfl) | ((with_reducible refine Mine.newAt ?_ ?_) <;> first | rfl | (simp; done) | (simp only [World.size_alloc]; rfl)) | ((with_reducible refine Mine.set ?_ _); repeat first | exact Mine.slot (by with_reducible assumption) | with_reducible refine MineS.drew ?_ | with_reducible refine MineS.drewN ?_ _ | ((with_reducible refine MineS.new ?_); decide) | ((with_reducible refine MineS.newAt ?_ ?_) <;> first | decide | (simp; done)) | with_reducible refine MineS.set ?_ _ _ _ | with_reducible refine MineS.alloc ?_ _) | with_reducible refine Mine.other ?_ _ (by first | (left; omega) | (right; omega) | (simp; done) | (simp; omega)) | with_reducible refine Mine.alloc ?_ _)
    clear m51 m52
    obtain ⟨m51, m52, m41, m42⟩ := mAll
    have hBzx14 := hB.size
    replace hB : Below w.heap.size w x14 := by rw [hwx14]; exact (by repeat first | with_reducible exact Below.refl _ _ | with_reducible assumption | with_reducible refine below_drewN ?_ _ | with_reducible refine Below.drew ?_ | with_reducible refine Below.setCell ?_ (by first | exact Nat.le_refl _ | (simp; done) | (simp; omega) | omega) _ | with_reducible refine Below.alloc ?_ (by first | exact Nat.le_refl _ | (simp; done) | (simp; omega) | omega) _ | exact Below.refl _ _ | assumption)
    clear hwx14 hBzx14
    refine hK1.out _ _ hB (fun _ => ?_)
    clear hK1 K1
    (try dsimp only [Act.put, List.setIfInBounds_toArray, List.set_cons_zero, List.set_cons_succ])
    refine wpAnyH_ready (rs := [3]) (by kernel_rfl) (by simp) ?_
    refine ready_l rfl (fun K1 hK1 => ?_) AllReadyH.nil
    go_simp
    refine (of_bad c d _ ic id h2 p (hMp.out _ hB)).mono ?_
    rintro e x16 ⟨rfl, hb1⟩
    replace m51 := m51.below hb1
    replace m52 := m52.below hb1
    replace m41 := m41.below hb1
    replace m42 := m42.below hb1
    replace hB := hB.trans (hb1.mono hB.size)
    have hb_x16 := hb1
    clear hb1
    unfold misE
    go_wp2
    exact ⟨rfl, rfl, hB⟩
  refine ready_l rfl (fun K1 hK1 => ?_) ?_
  · skip
    have hle4 := hB.size
    go_simp
    refine name_K ?_
    intro x17 hwx17
    have mAll : Mine x17 w0.heap.size 0 (.int .i64 0) ∧ Mine x17 w0.heap.size 1 (.int .i64 0) := by
      rw [hwx17]
      refine ⟨?_, ?_⟩ <;> (repeat first | with_reducible assumption | with_reducible refine Mine.drew ?_ | with_reducible refine Mine.drewN ?_ _ | ((with_reducible refine Mine.new ?_); rfl) | ((with_reducible refine Mine.newAt ?_ ?_) <;> first | rfl | (simp; done) | (simp only [World.size_alloc]; rfl)) | ((with_reducible refine Mine.set ?_ _); repeat first | exact Mine.slot (by with_reducible assumption) | with_reducible refine MineS.drew ?_ | with_reducible refine MineS.drewN ?_ _ | ((with_reducible refine MineS.new ?_); decide) | ((with_reducible refine MineS.newAt ?_ ?_) <;> first | decide | (simp; done)) | with_reducible refine MineS.set ?_ _ _ _ | with_reducible refine MineS.alloc ?_ _) | with_reducible refine Mine.other ?_ _ (by first | (left; omega) | (right; omega) | (simp; done) | (simp; omega)) | with_reducible refine Mine.alloc ?_ _)
    obtain ⟨m41, m42⟩ := mAll
    have hBzx17 := hB.size
    replace hB : Below w.heap.size w x17 := by rw [hwx17]; exact (by repeat first | with_reducible exact Below.refl _ _ | with_reducible assumption | with_reducible refine below_drewN ?_ _ | with_reducible refine Below.drew ?_ | with_reducible refine Below.setCell ?_ (by first | exact Nat.le_refl _ | (simp; done) | (simp; omega) | omega) _ | with_reducible refine Below.alloc ?_ (by first | exact Nat.le_refl _ | (simp; done) | (simp; omega) | omega) _ | exact Below.refl _ _ | assumption)
    clear hwx17 hBzx17
    refine hK1.out _ _ hB (fun _ => ?_)
    clear hK1 K1
    (try dsimp only [Act.put, List.setIfInBounds_toArray, List.set_cons_zero, List.set_cons_succ])
    refine wpAnyH_ready (rs := [1, 5]) (by kernel_rfl) (by simp) ?_
    refine ready_l rfl (fun K1 hK1 => ?_) ?_
    · skip
      go_simp
      refine (of_valid a b _ h1).mono ?_
      rintro e x19 ⟨rfl, hb1⟩
      replace m41 := m41.below hb1
      replace m42 := m42.below hb1
      replace hB := hB.trans (hb1.mono hB.size)
      have hb_x19 := hb1
      clear hb1
      clear hb_x19
      refine hK1.out _ _ hB (fun _ => ?_)
      clear hK1 K1
      (try dsimp only [Act.put, List.setIfInBounds_toArray, List.set_cons_zero, List.set_cons_succ])
      refine wpAnyH_ready (rs := [3, 5]) (by kernel_rfl) (by simp) ?_
      refine ready_l rfl (fun K1 hK1 => ?_) ?_
      · skip
        go_simp
        refine (of_bad c d _ ic id h2 p (hMp.out _ hB)).mono ?_
        rintro e x21 ⟨rfl, hb1⟩
        replace m41 := m41.below hb1
        replace m42 := m42.below hb1
        replace hB := hB.trans (hb1.mono hB.size)
        have hb_x21 := hb1
        clear hb1
        unfold misE
        go_wp2
        exact ⟨rfl, rfl, hB⟩
      refine ready_l rfl (fun K1 hK1 => ?_) AllReadyH.nil
      have hle5 := hB.size
      have hne := m41.lt
      go_simp
      refine name_K ?_
      intro x22 hwx22
      have mAll : Mine x22 w0.heap.size 0 (.int .i64 0) ∧ Mine x22 w0.heap.size 1 (.int .i64 0) ∧ Mine x22 x19.heap.size 0 (.int .i64 0) ∧ Mine x22 x19.heap.size 1 (.int .i64 0) := by
        rw [hwx22]
        refine ⟨?_, ?_, ?_, ?_⟩ <;> (repeat first | with_reducible assumption | with_reducible refine Mine.drew ?_ | with_reducible refine Mine.drewN ?_ _ | ((with_reducible refine Mine.new ?_); rfl) | ((with_reducible refine Mine.newAt ?_ ?_) <;> first | rfl | (simp; done) | (simp only [World.size_alloc]; rfl)) | ((with_reducible refine Mine.set ?_ _); repeat first | exact Mine.slot (by with_reducible assumption) | with_reducible refine MineS.drew ?_ | with_reducible refine MineS.drewN ?_ _ | ((with_reducible refine MineS.new ?_); decide) | ((with_reducible refine MineS.newAt ?_ ?_) <;> first | decide | (simp; done)) | with_reducible refine MineS.set ?_ _ _ _ | with_reducible refine MineS.alloc ?_ _) | with_reducible refine Mine.other ?_ _ (by first | (left; omega) | (right; omega) | (simp; done) | (simp; omega)) | with_reducible refine Mine.alloc ?_ _)
      clear m41 m42
      obtain ⟨m41, m42, m51, m52⟩ := mAll
      have hBzx22 := hB.size
      replace hB : Below w.heap.size w x22 := by rw [hwx22]; exact (by repeat first | with_reducible exact Below.refl _ _ | with_reducible assumption | with_reducible refine below_drewN ?_ _ | with_reducible refine Below.drew ?_ | with_reducible refine Below.setCell ?_ (by first | exact Nat.le_refl _ | (simp; done) | (simp; omega) | omega) _ | with_reducible refine Below.alloc ?_ (by first | exact Nat.le_refl _ | (simp; done) | (simp; omega) | omega) _ | exact Below.refl _ _ | assumption)
      clear hwx22 hBzx22
      refine hK1.out _ _ hB (fun _ => ?_)
      clear hK1 K1
      (try dsimp only [Act.put, List.setIfInBounds_toArray, List.set_cons_zero, List.set_cons_succ])
      refine wpAnyH_ready (rs := [3]) (by kernel_rfl) (by simp) ?_
      refine ready_l rfl (fun K1 hK1 => ?_) AllReadyH.nil
      go_simp
      refine (of_bad c d _ ic id h2 p (hMp.out _ hB)).mono ?_
      rintro e x24 ⟨rfl, hb1⟩
      replace m41 := m41.below hb1
      replace m42 := m42.below hb1
      replace m51 := m51.below hb1
      replace m52 := m52.below hb1
      replace hB := hB.trans (hb1.mono hB.size)
      have hb_x24 := hb1
      clear hb1
      unfold misE
      go_wp2
      exact ⟨rfl, rfl, hB⟩
    refine ready_l rfl (fun K1 hK1 => ?_) AllReadyH.nil
    have hle5 := hB.size
    have hne := m41.lt
    go_simp
    refine name_K ?_
    intro x25 hwx25
    have mAll : Mine x25 w0.heap.size 0 (.int .i64 0) ∧ Mine x25 w0.heap.size 1 (.int .i64 0) ∧ Mine x25 x17.heap.size 0 (.int .i64 0) ∧ Mine x25 x17.heap.size 1 (.int .i64 0) := by
      rw [hwx25]
      refine ⟨?_, ?_, ?_, ?_⟩ <;> (repeat first | with_reducible assumption | with_reducible refine Mine.drew ?_ | with_reducible refine Mine.drewN ?_ _ | ((with_reducible refine Mine.new ?_); rfl) | ((with_reducible refine Mine.newAt ?_ ?_) <;> first | rfl | (simp; done) | (simp only [World.size_alloc]; rfl)) | ((with_reducible refine Mine.set ?_ _); repeat first | exact Mine.slot (by with_reducible assumption) | with_reducible refine MineS.drew ?_ | with_reducible refine MineS.drewN ?_ _ | ((with_reducible refine MineS.new ?_); decide) | ((with_reducible refine MineS.newAt ?_ ?_) <;> first | decide | (simp; done)) | with_reducible refine MineS.set ?_ _ _ _ | with_reducible refine MineS.alloc ?_ _) | with_reducible refine Mine.other ?_ _ (by first | (left; omega) | (right; omega) | (simp; done) | (simp; omega)) | with_reducible refine Mine.alloc ?_ _)
    clear m41 m42
    obtain ⟨m41, m42, m51, m52⟩ := mAll
    have hBzx25 := hB.size
    replace hB : Below w.heap.size w x25 := by rw [hwx25]; exact (by repeat first | with_reducible exact Below.refl _ _ | with_reducible assumption | with_reducible refine below_drewN ?_ _ | with_reducible refine Below.drew ?_ | with_reducible refine Below.setCell ?_ (by first | exact Nat.le_refl _ | (simp; done) | (simp; omega) | omega) _ | with_reducible refine Below.alloc ?_ (by first | exact Nat.le_refl _ | (simp; done) | (simp; omega) | omega) _ | exact Below.refl _ _ | assumption)
    clear hwx25 hBzx25
    refine hK1.out _ _ hB (fun _ => ?_)
    clear hK1 K1
    (try dsimp only [Act.put, List.setIfInBounds_toArray, List.set_cons_zero, List.set_cons_succ])
    refine wpAnyH_ready (rs := [1]) (by kernel_rfl) (by simp) ?_
    refine ready_l rfl (fun K1 hK1 => ?_) AllReadyH.nil
    go_simp
    refine (of_valid a b _ h1).mono ?_
    rintro e x27 ⟨rfl, hb1⟩
    replace m41 := m41.below hb1
    replace m42 := m42.below hb1
    replace m51 := m51.below hb1
    replace m52 := m52.below hb1
    replace hB := hB.trans (hb1.mono hB.size)
    have hb_x27 := hb1
    clear hb1
    clear hb_x27
    refine hK1.out _ _ hB (fun _ => ?_)
    clear hK1 K1
    (try dsimp only [Act.put, List.setIfInBounds_toArray, List.set_cons_zero, List.set_cons_succ])
    refine wpAnyH_ready (rs := [3]) (by kernel_rfl) (by simp) ?_
    refine ready_l rfl (fun K1 hK1 => ?_) AllReadyH.nil
    go_simp
    refine (of_bad c d _ ic id h2 p (hMp.out _ hB)).mono ?_
    rintro e x29 ⟨rfl, hb1⟩
    replace m41 := m41.below hb1
    replace m42 := m42.below hb1
    replace m51 := m51.below hb1
    replace m52 := m52.below hb1
    replace hB := hB.trans (hb1.mono hB.size)
    have hb_x29 := hb1
    clear hb1
    unfold misE
    go_wp2
    exact ⟨rfl, rfl, hB⟩
  refine ready_l rfl (fun K1 hK1 => ?_) AllReadyH.nil
  have hle5 := hB.size
  go_simp
  refine name_K ?_
  intro x30 hwx30
  have mAll : Mine x30 w0.heap.size 0 (.int .i64 0) ∧ Mine x30 w0.heap.size 1 (.int .i64 0) := by
    rw [hwx30]
    refine ⟨?_, ?_⟩ <;> (repeat first | with_reducible assumption | with_reducible refine Mine.drew ?_ | with_reducible refine Mine.drewN ?_ _ | ((with_reducible refine Mine.new ?_); rfl) | ((with_reducible refine Mine.newAt ?_ ?_) <;> first | rfl | (simp; done) | (simp only [World.size_alloc]; rfl)) | ((with_reducible refine Mine.set ?_ _); repeat first | exact Mine.slot (by with_reducible assumption) | with_reducible refine MineS.drew ?_ | with_reducible refine MineS.drewN ?_ _ | ((with_reducible refine MineS.new ?_); decide) | ((with_reducible refine MineS.newAt ?_ ?_) <;> first | decide | (simp; done)) | with_reducible refine MineS.set ?_ _ _ _ | with_reducible refine MineS.alloc ?_ _) | with_reducible refine Mine.other ?_ _ (by first | (left; omega) | (right; omega) | (simp; done) | (simp; omega)) | with_reducible refine Mine.alloc ?_ _)
  obtain ⟨m51, m52⟩ := mAll
  have hBzx30 := hB.size
  replace hB : Below w.heap.size w x30 := by rw [hwx30]; exact (by repeat first | with_reducible exact Below.refl _ _ | with_reducible assumption | with_reducible refine below_drewN ?_ _ | with_reducible refine Below.drew ?_ | with_reducible refine Below.setCell ?_ (by first | exact Nat.le_refl _ | (simp; done) | (simp; omega) | omega) _ | with_reducible refine Below.alloc ?_ (by first | exact Nat.le_refl _ | (simp; done) | (simp; omega) | omega) _ | exact Below.refl _ _ | assumption)
  clear hwx30 hBzx30
  refine hK1.out _ _ hB (fun _ => ?_)
  clear hK1 K1
  (try dsimp only [Act.put, List.setIfInBounds_toArray, List.set_cons_zero, List.set_cons_succ])
  refine wpAnyH_ready (rs := [1, 4]) (by kernel_rfl) (by simp) ?_
  refine ready_l rfl (fun K1 hK1 => ?_) ?_
  · skip
    go_simp
    refine (of_valid a b _ h1).mono ?_
    rintro e x32 ⟨rfl, hb1⟩
    replace m51 := m51.below hb1
    replace m52 := m52.below hb1
    replace hB := hB.trans (hb1.mono hB.size)
    have hb_x32 := hb1
    clear hb1
    clear hb_x32
    refine hK1.out _ _ hB (fun _ => ?_)
    clear hK1 K1
    (try dsimp only [Act.put, List.setIfInBounds_toArray, List.set_cons_zero, List.set_cons_succ])
    refine wpAnyH_ready (rs := [3, 4]) (by kernel_rfl) (by simp) ?_
    refine ready_l rfl (fun K1 hK1 => ?_) ?_
    · skip
      go_simp
      refine (of_bad c d _ ic id h2 p (hMp.out _ hB)).mono ?_
      rintro e x34 ⟨rfl, hb1⟩
      replace m51 := m51.below hb1
      replace m52 := m52.below hb1
      replace hB := hB.trans (hb1.mono hB.size)
      have hb_x34 := hb1
      clear hb1
      unfold misE
      go_wp2
      exact ⟨rfl, rfl, hB⟩
    refine ready_l rfl (fun K1 hK1 => ?_) AllReadyH.nil
    have hle4 := hB.size
    have hne := m51.lt
    go_simp
    refine name_K ?_
    intro x35 hwx35
    have mAll : Mine x35 w0.heap.size 0 (.int .i64 0) ∧ Mine x35 w0.heap.size 1 (.int .i64 0) ∧ Mine x35 x32.heap.size 0 (.int .i64 0) ∧ Mine x35 x32.heap.size 1 (.int .i64 0) := by
      rw [hwx35]
      refine ⟨?_, ?_, ?_, ?_⟩ <;> (repeat first | with_reducible assumption | with_reducible refine Mine.drew ?_ | with_reducible refine Mine.drewN ?_ _ | ((with_reducible refine Mine.new ?_); rfl) | ((with_reducible refine Mine.newAt ?_ ?_) <;> first | rfl | (simp; done) | (simp only [World.size_alloc]; rfl)) | ((with_reducible refine Mine.set ?_ _); repeat first | exact Mine.slot (by with_reducible assumption) | with_reducible refine MineS.drew ?_ | with_reducible refine MineS.drewN ?_ _ | ((with_reducible refine MineS.new ?_); decide) | ((with_reducible refine MineS.newAt ?_ ?_) <;> first | decide | (simp; done)) | with_reducible refine MineS.set ?_ _ _ _ | with_reducible refine MineS.alloc ?_ _) | with_reducible refine Mine.other ?_ _ (by first | (left; omega) | (right; omega) | (simp; done) | (simp; omega)) | with_reducible refine Mine.alloc ?_ _)
    clear m51 m52
    obtain ⟨m51, m52, m41, m42⟩ := mAll
    have hBzx35 := hB.size
    replace hB : Below w.heap.size w x35 := by rw [hwx35]; exact (by repeat first | with_reducible exact Below.refl _ _ | with_reducible assumption | with_reducible refine below_drewN ?_ _ | with_reducible refine Below.drew ?_ | with_reducible refine Below.setCell ?_ (by first | exact Nat.le_refl _ | (simp; done) | (simp; omega) | omega) _ | with_reducible refine Below.alloc ?_ (by first | exact Nat.le_refl _ | (simp; done) | (simp; omega) | omega) _ | exact Below.refl _ _ | assumption)
    clear hwx35 hBzx35
    refine hK1.out _ _ hB (fun _ => ?_)
    clear hK1 K1
    (try dsimp only [Act.put, List.setIfInBounds_toArray, List.set_cons_zero, List.set_cons_succ])
    refine wpAnyH_ready (rs := [3]) (by kernel_rfl) (by simp) ?_
    refine ready_l rfl (fun K1 hK1 => ?_) AllReadyH.nil
    go_simp
    refine (of_bad c d _ ic id h2 p (hMp.out _ hB)).mono ?_
    rintro e x37 ⟨rfl, hb1⟩
    replace m51 := m51.below hb1
    replace m52 := m52.below hb1
    replace m41 := m41.below hb1
    replace m42 := m42.below hb1
    replace hB := hB.trans (hb1.mono hB.size)
    have hb_x37 := hb1
    clear hb1
    unfold misE
    go_wp2
    exact ⟨rfl, rfl, hB⟩
  refine ready_l rfl (fun K1 hK1 => ?_) AllReadyH.nil
  have hle4 := hB.size
  have hne := m51.lt
  go_simp
  refine name_K ?_
  intro x38 hwx38
  have mAll : Mine x38 w0.heap.size 0 (.int .i64 0) ∧ Mine x38 w0.heap.size 1 (.int .i64 0) ∧ Mine x38 x30.heap.size 0 (.int .i64 0) ∧ Mine x38 x30.heap.size 1 (.int .i64 0) := by
    rw [hwx38]
    refine ⟨?_, ?_, ?_, ?_⟩ <;> (repeat first | with_reducible assumption | with_reducible refine Mine.drew ?_ | with_reducible refine Mine.drewN ?_ _ | ((with_reducible refine Mine.new ?_); rfl) | ((with_reducible refine Mine.newAt ?_ ?_) <;> first | rfl | (simp; done) | (simp only [World.size_alloc]; rfl)) | ((with_reducible refine Mine.set ?_ _); repeat first | exact Mine.slot (by with_reducible assumption) | with_reducible refine MineS.drew ?_ | with_reducible refine MineS.drewN ?_ _ | ((with_reducible refine MineS.new ?_); decide) | ((with_reducible refine MineS.newAt ?_ ?_) <;> first | decide | (simp; done)) | with_reducible refine MineS.set ?_ _ _ _ | with_reducible refine MineS.alloc ?_ _) | with_reducible refine Mine.other ?_ _ (by first | (left; omega) | (right; omega) | (simp; done) | (simp; omega)) | with_reducible refine Mine.alloc ?_ _)
  clear m51 m52
  obtain ⟨m51, m52, m41, m42⟩ := mAll
  have hBzx38 := hB.size
  replace hB : Below w.heap.size w x38 := by rw [hwx38]; exact (by repeat first | with_reducible exact Below.refl _ _ | with_reducible assumption | with_reducible refine below_drewN ?_ _ | with_reducible refine Below.drew ?_ | with_reducible refine Below.setCell ?_ (by first | exact Nat.le_refl _ | (simp; done) | (simp; omega) | omega) _ | with_reducible refine Below.alloc ?_ (by first | exact Nat.le_refl _ | (simp; done) | (simp; omega) | omega) _ | exact Below.refl _ _ | assumption)
  clear hwx38 hBzx38
  refine hK1.out _ _ hB (fun _ => ?_)
  clear hK1 K1
  (try dsimp only [Act.put, List.setIfInBounds_toArray, List.set_cons_zero, List.set_cons_succ])
  refine wpAnyH_ready (rs := [1]) (by kernel_rfl) (by simp) ?_
  refine ready_l rfl (fun K1 hK1 => ?_) AllReadyH.nil
  go_simp
  refine (of_valid a b _ h1).mono ?_
  rintro e x40 ⟨rfl, hb1⟩
  replace m51 := m51.below hb1
  replace m52 := m52.below hb1
  replace m41 := m41.below hb1
  replace m42 := m42.below hb1
  replace hB := hB.trans (hb1.mono hB.size)
  have hb_x40 := hb1
  clear hb1
  clear hb_x40
  refine hK1.out _ _ hB (fun _ => ?_)
  clear hK1 K1
  (try dsimp only [Act.put, List.setIfInBounds_toArray, List.set_cons_zero, List.set_cons_succ])
  refine wpAnyH_ready (rs := [3]) (by kernel_rfl) (by simp) ?_
  refine ready_l rfl (fun K1 hK1 => ?_) AllReadyH.nil
  go_simp
  refine (of_bad c d _ ic id h2 p (hMp.out _ hB)).mono ?_
  rintro e x42 ⟨rfl, hb1⟩
  replace m51 := m51.below hb1
  replace m52 := m52.below hb1
  replace m41 := m41.below hb1
  replace m42 := m42.below hb1
  replace hB := hB.trans (hb1.mono hB.size)
  have hb_x42 := hb1
  clear hb1
  unfold misE
  go_wp2
  exact ⟨rfl, rfl, hB⟩
end Go.Proofs.YtfojgdlegojdgaaDoor
