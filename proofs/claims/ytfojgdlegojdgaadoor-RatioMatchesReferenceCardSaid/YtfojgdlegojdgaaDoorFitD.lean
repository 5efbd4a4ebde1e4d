/-
  The contract of the closure of ratio.Div.
-/
import Derived.Test.YtfojgdlegojdgaaDoorFit
namespace Go.Proofs.YtfojgdlegojdgaaDoor
open Go.RowKit

set_option maxRecDepth 100000 in
set_option maxHeartbeats 1000000 in
theorem Div1_valid (a b c d : Int) (B1 B2 : Nat) (w : World) (h1 : vld a b = true) (h2 : vld c d = true)
    (m1 : Mine w B1 0 (.int .i64 a)) (m2 : Mine w B1 1 (.int .i64 b)) (m3 : Mine w B2 0 (.int .i64 c)) (m4 : Mine w B2 1 (.int .i64 d)) :
    Calls Tryd.prog 57 #[.pointer (some ⟨B1, 0, none⟩), .pointer (some ⟨B2, 0, none⟩)] w fun e w' => e = .returned (.tuple #[.int .i64 (a * d), .int .i64 (b * c)]) ∧ Below w.heap.size w w' := by
  have hB : Below w.heap.size w w := Below.refl _ _
  go_enter Tryd.func57, Tryd.ntmps57
  go_wp2
  have c1 := m1.cell
  have f1 := m1.free
  have l1 := m1.lt
  have c2 := m2.cell
  have f2 := m2.free
  have l2 := m2.lt
  have c3 := m3.cell
  have f3 := m3.free
  have l3 := m3.lt
  have c4 := m4.cell
  have f4 := m4.free
  have l4 := m4.lt
  rename_i Q0 K0 hK0
  have hEnd : ∀ (W : World) (P4 P5 : Nat), Below w.heap.size w W → Mine W P4 0 (.int .i64 a) → Mine W P4 1 (.int .i64 b) → Mine W P5 0 (.int .i64 c) → Mine W P5 1 (.int .i64 d) →
      K0 { tmps := #[.pointer (some ⟨B1, 0, none⟩), .pointer (some ⟨B2, 0, none⟩), .int .i64 0, .int .i64 0, .pointer (some ⟨P4, 0, none⟩), .pointer (some ⟨P5, 0, none⟩), rv a b, rv a b, rv c d, rv c d, undef, undef, undef, undef, undef, undef, undef, undef, undef, undef], defers := [] } W := by
    intro W P4 P5 hBW n1 n2 n3 n4
    have d1 := n1.cell
    have d2 := n2.cell
    have d3 := n3.cell
    have d4 := n4.cell
    have w1 := (sum_wrap h1 h2).1
    have w2 := (sum_wrap h1 h2).2.1
    rw [Int.mul_comm c b] at w2
    clear m1 m2 m3 m4 c1 c2 c3 c4 f1 f2 f3 f4 l1 l2 l3 l4 h1 h2
    go_wp2
    go_quiet (fail)
    go_wp2
    exact bodyPost_ret (v := .tuple #[.int .i64 (a * d), .int .i64 (b * c)]) (by simp [results, Tryd.results57, go_sem, w1, w2]) rfl ⟨rfl, below_drewN hBW _⟩
  have hc1 : ∀ w', Below w.heap.size w w' → w'.cell? ⟨B1, 0, none⟩ = some (.int .i64 a) := fun w' h => (h.cell l1).trans c1
  have hc2 : ∀ w', Below w.heap.size w w' → w'.cell? ⟨B1, 1, none⟩ = some (.int .i64 b) := fun w' h => (h.cell l2).trans c2
  have hc3 : ∀ w', Below w.heap.size w w' → w'.cell? ⟨B2, 0, none⟩ = some (.int .i64 c) := fun w' h => (h.cell l3).trans c3
  have hc4 : ∀ w', Below w.heap.size w w' → w'.cell? ⟨B2, 1, none⟩ = some (.int .i64 d) := fun w' h => (h.cell l4).trans c4
  refine wp_region_held_drew (S := fun w' => Below w.heap.size w w') (by kernel_rfl) (hB.drew) (fun hHeld => ?_)
  refine take_l (i := 0) (v := rv a b) rfl (by kernel_rfl) (by kernel_rfl) (by kernel_rfl) (fun _ _ _ h => h) (Or.inl ⟨by rfl, ?_⟩) (by assumption) ?_
  · intro w' hSw
    have g1 := hc1 w' hSw
    have g2 := hc2 w' hSw
    go_simp; (try with_reducible rfl)
  (try dsimp only [Act.put, List.setIfInBounds_toArray, List.set_cons_zero, List.set_cons_succ])
  refine take_l (i := 2) (v := rv c d) rfl (by kernel_rfl) (by kernel_rfl) (by kernel_rfl) (fun _ _ _ h => h) (Or.inl ⟨by rfl, ?_⟩) (by assumption) ?_
  · intro w' hSw
    have g3 := hc3 w' hSw
    have g4 := hc4 w' hSw
    go_simp; (try with_reducible rfl)
  (try dsimp only [Act.put, List.setIfInBounds_toArray, List.set_cons_zero, List.set_cons_succ])
  clear hc1 hc2 hc3 hc4 m1 m2 m3 m4 c1 c2 c3 c4 f1 f2 f3 f4 l1 l2 l3 l4 hK0
  replace hB : Below w.heap.size w w.drew := hB.drew
  generalize hw0 : w.drew = w0 at *
  clear hw0
  refine wpAnyH_ready (rs := [1, 4, 5]) (by kernel_rfl) (by simp) ?_
  refine ready_l rfl (fun K1 hK1 => ?_) ?_
  · skip
    go_simp
    refine (of_valid a b _ h1).mono ?_
    rintro e x2 ⟨rfl, hb1⟩
    replace hB := hB.trans (hb1.mono hB.size)
    have hb_x2 := hb1
    clear hb1
    clear hb_x2
    refine hK1.out _ _ hB (fun _ => ?_)
    clear hK1 K1
    (try dsimp only [Act.put, List.setIfInBounds_toArray, List.set_cons_zero, List.set_cons_succ])
    refine wpAnyH_ready (rs := [3, 4, 5]) (by kernel_rfl) (by simp) ?_
    refine ready_l rfl (fun K1 hK1 => ?_) ?_
    · skip
      go_simp
      refine (of_valid c d _ h2).mono ?_
      rintro e x4 ⟨rfl, hb1⟩
      replace hB := hB.trans (hb1.mono hB.size)
      have hb_x4 := hb1
      clear hb1
      clear hb_x4
      refine hK1.out _ _ hB (fun _ => ?_)
      clear hK1 K1
      (try dsimp only [Act.put, List.setIfInBounds_toArray, List.set_cons_zero, List.set_cons_succ])
      refine wpAnyH_ready (rs := [4, 5]) (by kernel_rfl) (by simp) ?_
      refine ready_l rfl (fun K1 hK1 => ?_) ?_
      · skip
        have hle4 := hB.size
        go_simp
        refine name_K ?_
        intro x6 hwx6
        have mAll : Mine x6 x4.heap.size 0 (.int .i64 0) ∧ Mine x6 x4.heap.size 1 (.int .i64 0) := by
          rw [hwx6]
          refine ⟨?_, ?_⟩ <;> (repeat first | with_reducible assumption | with_reducible refine Mine.drew ?_ | with_reducible refine Mine.drewN ?_ _ | ((with_reducible refine Mine.new ?_); rfl) | ((with_reducible refine Mine.newAt ?_ ?_) <;> first | rfl | (simp; done) | (simp only [World.size_alloc]; rfl)) | ((with_reducible refine Mine.set ?_ _); repeat first | exact Mine.slot (by with_reducible assumption) | with_reducible refine MineS.drew ?_ | with_reducible refine MineS.drewN ?_ _ | ((with_reducible refine MineS.new ?_); decide) | ((with_reducible refine MineS.newAt ?_ ?_) <;> first | decide | (simp; done)) | with_reducible refine MineS.set ?_ _ _ _ | with_reducible refine MineS.alloc ?_ _) | with_reducible refine Mine.other ?_ _ (by first | (left; omega) | (right; omega) | (simp; done) | (simp; omega)) | with_reducible refine Mine.alloc ?_ _)
        obtain ⟨m41, m42⟩ := mAll
        have hBzx6 := hB.size
        replace hB : Below w.heap.size w x6 := by rw [hwx6]; exact (by repeat first | with_reducible exact Below.refl _ _ | with_reducible assumption | with_reducible refine below_drewN ?_ _ | with_reducible refine Below.drew ?_ | with_reducible refine Below.setCell ?_ (by first | exact Nat.le_refl _ | (simp; done) | (simp; omega) | omega) _ | with_reducible refine Below.alloc ?_ (by first | exact Nat.le_refl _ | (simp; done) | (simp; omega) | omega) _ | exact Below.refl _ _ | assumption)
        clear hwx6 hBzx6
        refine hK1.out _ _ hB (fun _ => ?_)
        clear hK1 K1
        (try dsimp only [Act.put, List.setIfInBounds_toArray, List.set_cons_zero, List.set_cons_succ])
        refine wpAnyH_ready (rs := [5]) (by kernel_rfl) (by simp) ?_
        refine ready_l rfl (fun K1 hK1 => ?_) AllReadyH.nil
        have hle5 := hB.size
        have hne := m41.lt
        go_simp
        refine name_K ?_
        intro x8 hwx8
        have mAll : Mine x8 x4.heap.size 0 (.int .i64 0) ∧ Mine x8 x4.heap.size 1 (.int .i64 0) ∧ Mine x8 x6.heap.size 0 (.int .i64 0) ∧ Mine x8 x6.heap.size 1 (.int .i64 0) := by
          rw [hwx8]
          refine ⟨?_, ?_, ?_, ?_⟩ <;> (repeat first | with_reducible assumption | with_reducible refine Mine.drew ?_ | with_reducible refine Mine.drewN ?_ _ | ((with_reducible refine Mine.new ?_); rfl) | ((with_reducible refine Mine.newAt ?_ ?_) <;> first | rfl | (simp; done) | (simp only [World.size_alloc]; rfl)) | ((with_reducible refine Mine.set ?_ _); repeat first | exact Mine.slot (by with_reducible assumption) | with_reducible refine MineS.drew ?_ | with_reducible refine MineS.drewN ?_ _ | ((with_reducible refine MineS.new ?_); decide) | ((with_reducible refine MineS.newAt ?_ ?_) <;> first | decide | (simp; done)) | with_reducible refine MineS.set ?_ _ _ _ | with_reducible refine MineS.alloc ?_ _) | with_reducible refine Mine.other ?_ _ (by first | (left; omega) | (right; omega) | (simp; done) | (simp; omega)) | with_reducible refine Mine.alloc ?_ _)
        clear m41 m42
        obtain ⟨m41, m42, m51, m52⟩ := mAll
        have hBzx8 := hB.size
        replace hB : Below w.heap.size w x8 := by rw [hwx8]; exact (by repeat first | with_reducible exact Below.refl _ _ | with_reducible assumption | with_reducible refine below_drewN ?_ _ | with_reducible refine Below.drew ?_ | with_reducible refine Below.setCell ?_ (by first | exact Nat.le_refl _ | (simp; done) | (simp; omega) | omega) _ | with_reducible refine Below.alloc ?_ (by first | exact Nat.le_refl _ | (simp; done) | (simp; omega) | omega) _ | exact Below.refl _ _ | assumption)
        clear hwx8 hBzx8
        refine hK1.out _ _ hB (fun _ => ?_)
        clear hK1 K1
        (try dsimp only [Act.put, List.setIfInBounds_toArray, List.set_cons_zero, List.set_cons_succ])
        refine wpAnyH_ready (rs := [6]) (by kernel_rfl) (by simp) ?_
        refine ready_l rfl (fun K1 hK1 => ?_) AllReadyH.nil
        have c41 := m41.cell
        have f41 := m41.free
        have l41 := m41.lt
        have c42 := m42.cell
        have f42 := m42.free
        have l42 := m42.lt
        go_simp
        clear c41 f41 l41
        clear c42 f42 l42
        refine name_K ?_
        intro x10 hwx10
        have mAll : Mine x10 x4.heap.size 0 (.int .i64 a) ∧ Mine x10 x4.heap.size 1 (.int .i64 b) ∧ Mine x10 x6.heap.size 0 (.int .i64 0) ∧ Mine x10 x6.heap.size 1 (.int .i64 0) := by
          rw [hwx10]
          refine ⟨?_, ?_, ?_, ?_⟩ <;> (repeat first | with_reducible assumption | with_reducible refine Mine.drew ?_ | with_reducible refine Mine.drewN ?_ _ | ((with_reducible refine Mine.new ?_); rfl) | ((with_reducible refine Mine.newAt ?_ ?_) <;> first | rfl | (simp; done) | (simp only [World.size_alloc]; rfl)) | ((with_reducible refine Mine.set ?_ _); repeat first | exact Mine.slot (by with_reducible assumption) | with_reducible refine MineS.drew ?_ | with_reducible refine MineS.drewN ?_ _ | ((with_reducible refine MineS.new ?_); decide) | ((with_reducible refine MineS.newAt ?_ ?_) <;> first | decide | (simp; done)) | with_reducible refine MineS.set ?_ _ _ _ | with_reducible refine MineS.alloc ?_ _) | with_reducible refine Mine.other ?_ _ (by first | (left; omega) | (right; omega) | (simp; done) | (simp; omega)) | with_reducible refine Mine.alloc ?_ _)
        clear m41 m42 m51 m52
        obtain ⟨m41, m42, m51, m52⟩ := mAll
        have hBzx10 := hB.size
        replace hB : Below w.heap.size w x10 := by rw [hwx10]; exact (by repeat first | with_reducible exact Below.refl _ _ | with_reducible assumption | with_reducible refine below_drewN ?_ _ | with_reducible refine Below.drew ?_ | with_reducible refine Below.setCell ?_ (by first | exact Nat.le_refl _ | (simp; done) | (simp; omega) | omega) _ | with_reducible refine Below.alloc ?_ (by first | exact Nat.le_refl _ | (simp; done) | (simp; omega) | omega) _ | exact Below.refl _ _ | assumption)
        clear hwx10 hBzx10
        refine hK1.out _ _ hB (fun _ => ?_)
        clear hK1 K1
        (try dsimp only [Act.put, List.setIfInBounds_toArray, List.set_cons_zero, List.set_cons_succ])
        refine wpAnyH_ready (rs := [7]) (by kernel_rfl) (by simp) ?_
        refine ready_l rfl (fun K1 hK1 => ?_) AllReadyH.nil
        have c51 := m51.cell
        have f51 := m51.free
        have l51 := m51.lt
        have c52 := m52.cell
        have f52 := m52.free
        have l52 := m52.lt
        go_simp
        clear c51 f51 l51
        clear c52 f52 l52
        refine name_K ?_
        intro x12 hwx12
        have mAll : Mine x12 x4.heap.size 0 (.int .i64 a) ∧ Mine x12 x4.heap.size 1 (.int .i64 b) ∧ Mine x12 x6.heap.size 0 (.int .i64 c) ∧ Mine x12 x6.heap.size 1 (.int .i64 d) := by
          rw [hwx12]
          refine ⟨?_, ?_, ?_, ?_⟩ <;> (repeat first | with_reducible assumption | with_reducible refine Mine.drew ?_ | with_reducible refine Mine.drewN ?_ _ | ((with_reducible refine Mine.new ?_); rfl) | ((with_reducible refine Mine.newAt ?_ ?_) <;> first | rfl | (simp; done) | (simp only [World.size_alloc]; rfl)) | ((with_reducible refine Mine.set ?_ _); repeat first | exact Mine.slot (by with_reducible assumption) | with_reducible refine MineS.drew ?_ | with_reducible refine MineS.drewN ?_ _ | ((with_reducible refine MineS.new ?_); decide) | ((with_reducible refine MineS.newAt ?_ ?_) <;> first | decide | (simp; done)) | with_reducible refine MineS.set ?_ _ _ _ | with_reducible refine MineS.alloc ?_ _) | with_reducible refine Mine.other ?_ _ (by first | (left; omega) | (right; omega) | (simp; done) | (simp; omega)) | with_reducible refine Mine.alloc ?_ _)
        clear m41 m42 m51 m52
        obtain ⟨m41, m42, m51, m52⟩ := mAll
        have hBzx12 := hB.size
        replace hB : Below w.heap.size w x12 := by rw [hwx12]; exact (by repeat first | with_reducible exact Below.refl _ _ | with_reducible assumption | with_reducible refine below_drewN ?_ _ | with_reducible refine Below.drew ?_ | with_reducible refine Below.setCell ?_ (by first | exact Nat.le_refl _ | (simp; done) | (simp; omega) | omega) _ | with_reducible refine Below.alloc ?_ (by first | exact Nat.le_refl _ | (simp; done) | (simp; omega) | omega) _ | exact Below.refl _ _ | assumption)
        clear hwx12 hBzx12
        refine hK1.out _ _ hB (fun _ => ?_)
        clear hK1 K1
        (try dsimp only [Act.put, List.setIfInBounds_toArray, List.set_cons_zero, List.set_cons_succ])
        refine wpAnyH_done (by kernel_rfl) ?_ _
        exact hEnd _ _ _ hB m41 m42 m51 m52
      refine ready_l rfl (fun K1 hK1 => ?_) AllReadyH.nil
      have hle5 := hB.size
      go_simp
      refine name_K ?_
      intro x13 hwx13
      have mAll : Mine x13 x4.heap.size 0 (.int .i64 0) ∧ Mine x13 x4.heap.size 1 (.int .i64 0) := by
        rw [hwx13]
        refine ⟨?_, ?_⟩ <;> (repeat first | with_reducible assumption | with_reducible refine Mine.drew ?_ | with_reducible refine Mine.drewN ?_ _ | ((with_reducible refine Mine.new ?_); rfl) | ((with_reducible refine Mine.newAt ?_ ?_) <;> first | rfl | (simp; done) | (simp only [World.size_alloc]; rfl)) | ((with_reducible refine Mine.set ?_ _); repeat first | exact Mine.slot (by with_reducible assumption) | with_reducible refine MineS.drew ?_ | with_reducible refine MineS.drewN ?_ _ | ((with_reducible refine MineS.new ?_); decide) | ((with_reducible refine MineS.newAt ?_ ?_) <;> first | decide | (simp; done)) | with_reducible refine MineS.set ?_ _ _ _ | with_reducible refine MineS.alloc ?_ _) | with_reducible refine Mine.other ?_ _ (by first | (left; omega) | (right; omega) | (simp; done) | (simp; omega)) | with_reducible refine Mine.alloc ?_ _)
      obtain ⟨m51, m52⟩ := mAll
      have hBzx13 := hB.size
      replace hB : Below w.heap.size w x13 := by rw [hwx13]; exact (by repeat first | with_reducible exact Below.refl _ _ | with_reducible assumption | with_reducible refine below_drewN ?_ _ | with_reducible refine Below.drew ?_ | with_reducible refine Below.setCell ?_ (by first | exact Nat.le_refl _ | (simp; done) | (simp; omega) | omega) _ | with_reducible refine Below.alloc ?_ (by first | exact Nat.le_refl _ | (simp; done) | (simp; omega) | omega) _ | exact Below.refl _ _ | assumption)
      clear hwx13 hBzx13
      refine hK1.out _ _ hB (fun _ => ?_)
      clear hK1 K1
      (try dsimp only [Act.put, List.setIfInBounds_toArray, List.set_cons_zero, List.set_cons_succ])
      refine wpAnyH_ready (rs := [4]) (by kernel_rfl) (by simp) ?_
      refine ready_l rfl (fun K1 hK1 => ?_) AllReadyH.nil
      have hle4 := hB.size
      have hne := m51.lt
      go_simp
      refine name_K ?_
      intro x15 hwx15
      have mAll : Mine x15 x4.heap.size 0 (.int .i64 0) ∧ Mine x15 x4.heap.size 1 (.int .i64 0) ∧ Mine x15 x13.heap.size 0 (.int .i64 0) ∧ Mine x15 x13.heap.size 1 (.int .i64 0) := by
        rw [hwx15]
        refine ⟨?_, ?_, ?_, ?_⟩ <;> (repeat first | with_reducible assumption | with_reducible refine Mine.drew ?_ | with_reducible refine Mine.drewN ?_ _ | ((with_reducible refine Mine.new ?_); rfl) | ((with_reducible refine Mine.newAt ?_ ?_) <;> first | rfl | (simp; done) | (simp only [World.size_alloc]; rfl)) | ((with_reducible refine Mine.set ?_ _); repeat first | exact Mine.slot (by with_reducible assumption) | with_reducible refine MineS.drew ?_ | with_reducible refine MineS.drewN ?_ _ | ((with_reducible refine MineS.new ?_); decide) | ((with_reducible refine MineS.newAt ?_ ?_) <;> first | decide | (simp; done)) | with_reducible refine MineS.set ?_ _ _ _ | with_reducible refine MineS.alloc ?_ _) | with_reducible refine Mine.other ?_ _ (by first | (left; omega) | (right; omega) | (simp; done) | (simp; omega)) | with_reducible refine Mine.alloc ?_ _)
      clear m51 m52
      obtain ⟨m51, m52, m41, m42⟩ := mAll
      have hBzx15 := hB.size
      replace hB : Below w.heap.size w x15 := by rw [hwx15]; exact (by repeat first | with_reducible exact Below.refl _ _ | with_reducible assumption | with_reducible refine below_drewN ?_ _ | with_reducible refine Below.drew ?_ | with_reducible refine Below.setCell ?_ (by first | exact Nat.le_refl _ | (simp; done) | (simp; omega) | omega) _ | with_reducible refine Below.alloc ?_ (by first | exact Nat.le_refl _ | (simp; done) | (simp; omega) | omega) _ | exact Below.refl _ _ | assumption)
      clear hwx15 hBzx15
      refine hK1.out _ _ hB (fun _ => ?_)
      clear hK1 K1
      (try dsimp only [Act.put, List.setIfInBounds_toArray, List.set_cons_zero, List.set_cons_succ])
      refine wpAnyH_ready (rs := [6]) (by kernel_rfl) (by simp) ?_
      refine ready_l rfl (fun K1 hK1 => ?_) AllReadyH.nil
      have c41 := m41.cell
      have f41 := m41.free
      have l41 := m41.lt
      have c42 := m42.cell
      have f42 := m42.free
      have l42 := m42.lt
      go_simp
      clear c41 f41 l41
      clear c42 f42 l42
      refine name_K ?_
      intro x17 hwx17
      have mAll : Mine x17 x4.heap.size 0 (.int .i64 0) ∧ Mine x17 x4.heap.size 1 (.int .i64 0) ∧ Mine x17 x13.heap.size 0 (.int .i64 a) ∧ Mine x17 x13.heap.size 1 (.int .i64 b) := by
        rw [hwx17]
        refine ⟨?_, ?_, ?_, ?_⟩ <;> (repeat first | with_reducible assumption | with_reducible refine Mine.drew ?_ | with_reducible refine Mine.drewN ?_ _ | ((with_reducible refine Mine.new ?_); rfl) | ((with_reducible refine Mine.newAt ?_ ?_) <;> first | rfl | (simp; done) | (simp only [World.size_alloc]; rfl)) | ((with_reducible refine Mine.set ?_ _); repeat first | exact Mine.slot (by with_reducible assumption) | with_reducible refine MineS.drew ?_ | with_reducible refine MineS.drewN ?_ _ | ((with_reducible refine MineS.new ?_); decide) | ((with_reducible refine MineS.newAt ?_ ?_) <;> first | decide | (simp; done)) | with_reducible refine MineS.set ?_ _ _ _ | with_reducible refine MineS.alloc ?_ _) | with_reducible refine Mine.other ?_ _ (by first | (left; omega) | (right; omega) | (simp; done) | (simp; omega)) | with_reducible refine Mine.alloc ?_ _)
      clear m51 m52 m41 m42
      obtain ⟨m51, m52, m41, m42⟩ := mAll
      have hBzx17 := hB.size
      replace hB : Below w.heap.size w x17 := by rw [hwx17]; exact (by repeat first | with_reducible exact Below.refl _ _ | with_reducible assumption | with_reducible refine below_drewN ?_ _ | with_reducible refine Below.drew ?_ | with_reducible refine Below.setCell ?_ (by first | exact Nat.le_refl _ | (simp; done) | (simp; omega) | omega) _ | with_reducible refine Below.alloc ?_ (by first | exact Nat.le_refl _ | (simp; done) | (simp; omega) | omega) _ | exact Below.refl _ _ | assumption)
      clear hwx17 hBzx17
      refine hK1.out _ _ hB (fun _ => ?_)
      clear hK1 K1
      (try dsimp only [Act.put, List.setIfInBounds_toArray, List.set_cons_zero, List.set_cons_succ])
      refine wpAnyH_ready (rs := [7]) (by kernel_rfl) (by simp) ?_
      refine ready_l rfl (fun K1 hK1 => ?_) AllReadyH.nil
      have c51 := m51.cell
      have f51 := m51.free
      have l51 := m51.lt
      have c52 := m52.cell
      have f52 := m52.free
      have l52 := m52.lt
      go_simp
      clear c51 f51 l51
      clear c52 f52 l52
      refine name_K ?_
      intro x19 hwx19
      have mAll : Mine x19 x4.heap.size 0 (.int .i64 c) ∧ Mine x19 x4.heap.size 1 (.int .i64 d) ∧ Mine x19 x13.heap.size 0 (.int .i64 a) ∧ Mine x19 x13.heap.size 1 (.int .i64 b) := by
        rw [hwx19]
        refine ⟨?_, ?_, ?_, ?_⟩ <;> (repeat first | with_reducible assumption | with_reducible refine Mine.drew ?_ | with_reducible refine Mine.drewN ?_ _ | ((with_reducible refine Mine.new ?_); rfl) | ((with_reducible refine Mine.newAt ?_ ?_) <;> first | rfl | (simp; done) | (simp only [World.size_alloc]; rfl)) | ((with_reducible refine Mine.set ?_ _); repeat first | exact Mine.slot (by with_reducible assumption) | with_reducible refine MineS.drew ?_ | with_reducible refine MineS.drewN ?_ _ | ((with_reducible refine MineS.new ?_); decide) | ((with_reducible refine MineS.newAt ?_ ?_) <;> first | decide | (simp; done)) | with_reducible refine MineS.set ?_ _ _ _ | with_reducible refine MineS.alloc ?_ _) | with_reducible refine Mine.other ?_ _ (by first | (left; omega) | (right; omega) | (simp; done) | (simp; omega)) | with_reducible refine Mine.alloc ?_ _)
      clear m51 m52 m41 m42
      obtain ⟨m51, m52, m41, m42⟩ := mAll
      have hBzx19 := hB.size
      replace hB : Below w.heap.size w x19 := by rw [hwx19]; exact (by repeat first | with_reducible exact Below.refl _ _ | with_reducible assumption | with_reducible refine below_drewN ?_ _ | with_reducible refine Below.drew ?_ | with_reducible refine Below.setCell ?_ (by first | exact Nat.le_refl _ | (simp; done) | (simp; omega) | omega) _ | with_reducible refine Below.alloc ?_ (by first | exact Nat.le_refl _ | (simp; done) | (simp; omega) | omega) _ | exact Below.refl _ _ | assumption)
      clear hwx19 hBzx19
      refine hK1.out _ _ hB (fun _ => ?_)
      clear hK1 K1
      (try dsimp only [Act.put, List.setIfInBounds_toArray, List.set_cons_zero, List.set_cons_succ])
      refine wpAnyH_done (by kernel_rfl) ?_ _
      exact hEnd _ _ _ hB m41 m42 m51 m52
    refine ready_l rfl (fun K1 hK1 => ?_) ?_
    · skip
      have hle4 := hB.size
      go_simp
      refine name_K ?_
      intro x20 hwx20
      have mAll : Mine x20 x2.heap.size 0 (.int .i64 0) ∧ Mine x20 x2.heap.size 1 (.int .i64 0) := by
        rw [hwx20]
        refine ⟨?_, ?_⟩ <;> (repeat first | with_reducible assumption | with_reducible refine Mine.drew ?_ | with_reducible refine Mine.drewN ?_ _ | ((with_reducible refine Mine.new ?_); rfl) | ((with_reducible refine Mine.newAt ?_ ?_) <;> first | rfl | (simp; done) | (simp only [World.size_alloc]; rfl)) | ((with_reducible refine Mine.set ?_ _); repeat first | exact Mine.slot (by with_reducible assumption) | with_reducible refine MineS.drew ?_ | with_reducible refine MineS.drewN ?_ _ | ((with_reducible refine MineS.new ?_); decide) | ((with_reducible refine MineS.newAt ?_ ?_) <;> first | decide | (simp; done)) | with_reducible refine MineS.set ?_ _ _ _ | with_reducible refine MineS.alloc ?_ _) | with_reducible refine Mine.other ?_ _ (by first | (left; omega) | (right; omega) | (simp; done) | (simp; omega)) | with_reducible refine Mine.alloc ?_ _)
      obtain ⟨m41, m42⟩ := mAll
      have hBzx20 := hB.size
      replace hB : Below w.heap.size w x20 := by rw [hwx20]; exact (by repeat first | with_reducible exact Below.refl _ _ | with_reducible assumption | with_reducible refine below_drewN ?_ _ | with_reducible refine Below.drew ?_ | with_reducible refine Below.setCell ?_ (by first | exact Nat.le_refl _ | (simp; done) | (simp; omega) | omega) _ | with_reducible refine Below.alloc ?_ (by first | exact Nat.le_refl _ | (simp; done) | (simp; omega) | omega) _ | exact Below.refl _ _ | assumption)
      clear hwx20 hBzx20
      refine hK1.out _ _ hB (fun _ => ?_)
      clear hK1 K1
      (try dsimp only [Act.put, List.setIfInBounds_toArray, List.set_cons_zero, List.set_cons_succ])
      refine wpAnyH_ready (rs := [3, 5]) (by kernel_rfl) (by simp) ?_
      refine ready_l rfl (fun K1 hK1 => ?_) ?_
      · skip
        go_simp
        refine (of_valid c d _ h2).mono ?_
        rintro e x22 ⟨rfl, hb1⟩
        replace m41 := m41.below hb1
        replace m42 := m42.below hb1
        replace hB := hB.trans (hb1.mono hB.size)
        have hb_x22 := hb1
        clear hb1
        clear hb_x22
        refine hK1.out _ _ hB (fun _ => ?_)
        clear hK1 K1
        (try dsimp only [Act.put, List.setIfInBounds_toArray, List.set_cons_zero, List.set_cons_succ])
        refine wpAnyH_ready (rs := [5]) (by kernel_rfl) (by simp) ?_
        refine ready_l rfl (fun K1 hK1 => ?_) AllReadyH.nil
        have hle5 := hB.size
        have hne := m41.lt
        go_simp
        refine name_K ?_
        intro x24 hwx24
        have mAll : Mine x24 x2.heap.size 0 (.int .i64 0) ∧ Mine x24 x2.heap.size 1 (.int .i64 0) ∧ Mine x24 x22.heap.size 0 (.int .i64 0) ∧ Mine x24 x22.heap.size 1 (.int .i64 0) := by
          rw [hwx24]
          refine ⟨?_, ?_, ?_, ?_⟩ <;> (repeat first | with_reducible assumption | with_reducible refine Mine.drew ?_ | with_reducible refine Mine.drewN ?_ _ | ((with_reducible refine Mine.new ?_); rfl) | ((with_reducible refine Mine.newAt ?_ ?_) <;> first | rfl | (simp; done) | (simp only [World.size_alloc]; rfl)) | ((with_reducible refine Mine.set ?_ _); repeat first | exact Mine.slot (by with_reducible assumption) | with_reducible refine MineS.drew ?_ | with_reducible refine MineS.drewN ?_ _ | ((with_reducible refine MineS.new ?_); decide) | ((with_reducible refine MineS.newAt ?_ ?_) <;> first | decide | (simp; done)) | with_reducible refine MineS.set ?_ _ _ _ | with_reducible refine MineS.alloc ?_ _) | with_reducible refine Mine.other ?_ _ (by first | (left; omega) | (right; omega) | (simp; done) | (simp; omega)) | with_reducible refine Mine.alloc ?_ _)
        clear m41 m42
        obtain ⟨m41, m42, m51, m52⟩ := mAll
        have hBzx24 := hB.size
        replace hB : Below w.heap.size w x24 := by rw [hwx24]; exact (by repeat first | with_reducible exact Below.refl _ _ | with_reducible assumption | with_reducible refine below_drewN ?_ _ | with_reducible refine Below.drew ?_ | with_reducible refine Below.setCell ?_ (by first | exact Nat.le_refl _ | (simp; done) | (simp; omega) | omega) _ | with_reducible refine Below.alloc ?_ (by first | exact Nat.le_refl _ | (simp; done) | (simp; omega) | omega) _ | exact Below.refl _ _ | assumption)
        clear hwx24 hBzx24
        refine hK1.out _ _ hB (fun _ => ?_)
        clear hK1 K1
        (try dsimp only [Act.put, List.setIfInBounds_toArray, List.set_cons_zero, List.set_cons_succ])
        refine wpAnyH_ready (rs := [6]) (by kernel_rfl) (by simp) ?_
        refine ready_l rfl (fun K1 hK1 => ?_) AllReadyH.nil
        have c41 := m41.cell
        have f41 := m41.free
        have l41 := m41.lt
        have c42 := m42.cell
        have f42 := m42.free
        have l42 := m42.lt
        go_simp
        clear c41 f41 l41
        clear c42 f42 l42
        refine name_K ?_
        intro x26 hwx26
        have mAll : Mine x26 x2.heap.size 0 (.int .i64 a) ∧ Mine x26 x2.heap.size 1 (.int .i64 b) ∧ Mine x26 x22.heap.size 0 (.int .i64 0) ∧ Mine x26 x22.heap.size 1 (.int .i64 0) := by
          rw [hwx26]
          refine ⟨?_, ?_, ?_, ?_⟩ <;> (repeat first | with_reducible assumption | with_reducible refine Mine.drew ?_ | with_reducible refine Mine.drewN ?_ _ | ((with_reducible refine Mine.new ?_); rfl) | ((with_reducible refine Mine.newAt ?_ ?_) <;> first | rfl | (simp; done) | (simp only [World.size_alloc]; rfl)) | ((with_reducible refine Mine.set ?_ _); repeat first | exact Mine.slot (by with_reducible assumption) | with_reducible refine MineS.drew ?_ | with_reducible refine MineS.drewN ?_ _ | ((with_reducible refine MineS.new ?_); decide) | ((with_reducible refine MineS.newAt ?_ ?_) <;> first | decide | (simp; done)) | with_reducible refine MineS.set ?_ _ _ _ | with_reducible refine MineS.alloc ?_ _) | with_reducible refine Mine.other ?_ _ (by first | (left; omega) | (right; omega) | (simp; done) | (simp; omega)) | with_reducible refine Mine.alloc ?_ _)
        clear m41 m42 m51 m52
        obtain ⟨m41, m42, m51, m52⟩ := mAll
        have hBzx26 := hB.size
        replace hB : Below w.heap.size w x26 := by rw [hwx26]; exact (by repeat first | with_reducible exact Below.refl _ _ | with_reducible assumption | with_reducible refine below_drewN ?_ _ | with_reducible refine Below.drew ?_ | with_reducible refine Below.setCell ?_ (by first | exact Nat.le_refl _ | (simp; done) | (simp; omega) | omega) _ | with_reducible refine Below.alloc ?_ (by first | exact Nat.le_refl _ | (simp; done) | (simp; omega) | omega) _ | exact Below.refl _ _ | assumption)
        clear hwx26 hBzx26
        refine hK1.out _ _ hB (fun _ => ?_)
        clear hK1 K1
        (try dsimp only [Act.put, List.setIfInBounds_toArray, List.set_cons_zero, List.set_cons_succ])
        refine wpAnyH_ready (rs := [7]) (by kernel_rfl) (by simp) ?_
        refine ready_l rfl (fun K1 hK1 => ?_) AllReadyH.nil
        have c51 := m51.cell
        have f51 := m51.free
        have l51 := m51.lt
        have c52 := m52.cell
        have f52 := m52.free
        have l52 := m52.lt
        go_simp
        clear c51 f51 l51
        clear c52 f52 l52
        refine name_K ?_
        intro x28 hwx28
        have mAll : Mine x28 x2.heap.size 0 (.int .i64 a) ∧ Mine x28 x2.heap.size 1 (.int .i64 b) ∧ Mine x28 x22.heap.size 0 (.int .i64 c) ∧ Mine x28 x22.heap.size 1 (.int .i64 d) := by
          rw [hwx28]
          refine ⟨?_, ?_, ?_, ?_⟩ <;> (repeat first | with_reducible assumption | with_reducible refine Mine.drew ?_ | with_reducible refine Mine.drewN ?_ _ | ((with_reducible refine Mine.new ?_); rfl) | ((with_reducible refine Mine.newAt ?_ ?_) <;> first | rfl | (simp; done) | (simp only [World.size_alloc]; rfl)) | ((with_reducible refine Mine.set ?_ _); repeat first | exact Mine.slot (by with_reducible assumption) | with_reducible refine MineS.drew ?_ | with_reducible refine MineS.drewN ?_ _ | ((with_reducible refine MineS.new ?_); decide) | ((with_reducible refine MineS.newAt ?_ ?_) <;> first | decide | (simp; done)) | with_reducible refine MineS.set ?_ _ _ _ | with_reducible refine MineS.alloc ?_ _) | with_reducible refine Mine.other ?_ _ (by first | (left; omega) | (right; omega) | (simp; done) | (simp; omega)) | with_reducible refine Mine.alloc ?_ _)
        clear m41 m42 m51 m52
        obtain ⟨m41, m42, m51, m52⟩ := mAll
        have hBzx28 := hB.size
        replace hB : Below w.heap.size w x28 := by rw [hwx28]; exact (by repeat first | with_reducible exact Below.refl _ _ | with_reducible assumption | with_reducible refine below_drewN ?_ _ | with_reducible refine Below.drew ?_ | with_reducible refine Below.setCell ?_ (by first | exact Nat.le_refl _ | (simp; done) | (simp; omega) | omega) _ | with_reducible refine Below.alloc ?_ (by first | exact Nat.le_refl _ | (simp; done) | (simp; omega) | omega) _ | exact Below.refl _ _ | assumption)
        clear hwx28 hBzx28
        refine hK1.out _ _ hB (fun _ => ?_)
        clear hK1 K1
        (try dsimp only [Act.put, List.setIfInBounds_toArray, List.set_cons_zero, List.set_cons_succ])
        refine wpAnyH_done (by kernel_rfl) ?_ _
        exact hEnd _ _ _ hB m41 m42 m51 m52
      refine ready_l rfl (fun K1 hK1 => ?_) AllReadyH.nil
      have hle5 := hB.size
      have hne := m41.lt
      go_simp
      refine name_K ?_
      intro x29 hwx29
      have mAll : Mine x29 x2.heap.size 0 (.int .i64 0) ∧ Mine x29 x2.heap.size 1 (.int .i64 0) ∧ Mine x29 x20.heap.size 0 (.int .i64 0) ∧ Mine x29 x20.heap.size 1 (.int .i64 0) := by
        rw [hwx29]
        refine ⟨?_, ?_, ?_, ?_⟩ <;> (repeat first | with_reducible assumption | with_reducible refine Mine.drew ?_ | with_reducible refine Mine.drewN ?_ _ | ((with_reducible refine Mine.new ?_); rfl) | ((with_reducible refine Mine.newAt ?_ ?_) <;> first | rfl | (simp; done) | (simp only [World.size_alloc]; rfl)) | ((with_reducible refine Mine.set ?_ _); repeat first | exact Mine.slot (by with_reducible assumption) | with_reducible refine MineS.drew ?_ | with_reducible refine MineS.drewN ?_ _ | ((with_reducible refine MineS.new ?_); decide) | ((with_reducible refine MineS.newAt ?_ ?_) <;> first | decide | (simp; done)) | with_reducible refine MineS.set ?_ _ _ _ | with_reducible refine MineS.alloc ?_ _) | with_reducible refine Mine.other ?_ _ (by first | (left; omega) | (right; omega) | (simp; done) | (simp; omega)) | with_reducible refine Mine.alloc ?_ _)
      clear m41 m42
      obtain ⟨m41, m42, m51, m52⟩ := mAll
      have hBzx29 := hB.size
      replace hB : Below w.heap.size w x29 := by rw [hwx29]; exact (by repeat first | with_reducible exact Below.refl _ _ | with_reducible assumption | with_reducible refine below_drewN ?_ _ | with_reducible refine Below.drew ?_ | with_reducible refine Below.setCell ?_ (by first | exact Nat.le_refl _ | (simp; done) | (simp; omega) | omega) _ | with_reducible refine Below.alloc ?_ (by first | exact Nat.le_refl _ | (simp; done) | (simp; omega) | omega) _ | exact Below.refl _ _ | assumption)
      clear hwx29 hBzx29
      refine hK1.out _ _ hB (fun _ => ?_)
      clear hK1 K1
      (try dsimp only [Act.put, List.setIfInBounds_toArray, List.set_cons_zero, List.set_cons_succ])
      refine wpAnyH_ready (rs := [3]) (by kernel_rfl) (by simp) ?_
      refine ready_l rfl (fun K1 hK1 => ?_) AllReadyH.nil
      go_simp
      refine (of_valid c d _ h2).mono ?_
      rintro e x31 ⟨rfl, hb1⟩
      replace m41 := m41.below hb1
      replace m42 := m42.below hb1
      replace m51 := m51.below hb1
      replace m52 := m52.below hb1
      replace hB := hB.trans (hb1.mono hB.size)
      have hb_x31 := hb1
      clear hb1
      clear hb_x31
      refine hK1.out _ _ hB (fun _ => ?_)
      clear hK1 K1
      (try dsimp only [Act.put, List.setIfInBounds_toArray, List.set_cons_zero, List.set_cons_succ])
      refine wpAnyH_ready (rs := [6]) (by kernel_rfl) (by simp) ?_
      refine ready_l rfl (fun K1 hK1 => ?_) AllReadyH.nil
      have c41 := m41.cell
      have f41 := m41.free
      have l41 := m41.lt
      have c42 := m42.cell
      have f42 := m42.free
      have l42 := m42.lt
      go_simp
      clear c41 f41 l41
      clear c42 f42 l42
      refine name_K ?_
      intro x33 hwx33
      have mAll : Mine x33 x2.heap.size 0 (.int .i64 a) ∧ Mine x33 x2.heap.size 1 (.int .i64 b) ∧ Mine x33 x20.heap.size 0 (.int .i64 0) ∧ Mine x33 x20.heap.size 1 (.int .i64 0) := by
        rw [hwx33]
        refine ⟨?_, ?_, ?_, ?_⟩ <;> (repeat first | with_reducible assumption | with_reducible refine Mine.drew ?_ | with_reducible refine Mine.drewN ?_ _ | ((with_reducible refine Mine.new ?_); rfl) | ((with_reducible refine Mine.newAt ?_ ?_) <;> first | rfl | (simp; done) | (simp only [World.size_alloc]; rfl)) | ((with_reducible refine Mine.set ?_ _); repeat first | exact Mine.slot (by with_reducible assumption) | with_reducible refine MineS.drew ?_ | with_reducible refine MineS.drewN ?_ _ | ((with_reducible refine MineS.new ?_); decide) | ((with_reducible refine MineS.newAt ?_ ?_) <;> first | decide | (simp; done)) | with_reducible refine MineS.set ?_ _ _ _ | with_reducible refine MineS.alloc ?_ _) | with_reducible refine Mine.other ?_ _ (by first | (left; omega) | (right; omega) | (simp; done) | (simp; omega)) | with_reducible refine Mine.alloc ?_ _)
      clear m41 m42 m51 m52
      obtain ⟨m41, m42, m51, m52⟩ := mAll
      have hBzx33 := hB.size
      replace hB : Below w.heap.size w x33 := by rw [hwx33]; exact (by repeat first | with_reducible exact Below.refl _ _ | with_reducible assumption | with_reducible refine below_drewN ?_ _ | with_reducible refine Below.drew ?_ | with_reducible refine Below.setCell ?_ (by first | exact Nat.le_refl _ | (simp; done) | (simp; omega) | omega) _ | with_reducible refine Below.alloc ?_ (by first | exact Nat.le_refl _ | (simp; done) | (simp; omega) | omega) _ | exact Below.refl _ _ | assumption)
      clear hwx33 hBzx33
      refine hK1.out _ _ hB (fun _ => ?_)
      clear hK1 K1
      (try dsimp only [Act.put, List.setIfInBounds_toArray, List.set_cons_zero, List.set_cons_succ])
      refine wpAnyH_ready (rs := [7]) (by kernel_rfl) (by simp) ?_
      refine ready_l rfl (fun K1 hK1 => ?_) AllReadyH.nil
      have c51 := m51.cell
      have f51 := m51.free
      have l51 := m51.lt
      have c52 := m52.cell
      have f52 := m52.free
      have l52 := m52.lt
      go_simp
      clear c51 f51 l51
      clear c52 f52 l52
      refine name_K ?_
      intro x35 hwx35
      have mAll : Mine x35 x2.heap.size 0 (.int .i64 a) ∧ Mine x35 x2.heap.size 1 (.int .i64 b) ∧ Mine x35 x20.heap.size 0 (.int .i64 c) ∧ Mine x35 x20.heap.size 1 (.int .i64 d) := by
        rw [hwx35]
        refine ⟨?_, ?_, ?_, ?_⟩ <;> (repeat first | with_reducible assumption | with_reducible refine Mine.drew ?_ | with_reducible refine Mine.drewN ?_ _ | ((with_reducible refine Mine.new ?_); rfl) | ((with_reducible refine Mine.newAt ?_ ?_) <;> first | rfl | (simp; done) | (simp only [World.size_alloc]; rfl)) | ((with_reducible refine Mine.set ?_ _); repeat first | exact Mine.slot (by with_reducible assumption) | with_reducible refine MineS.drew ?_ | with_reducible refine MineS.drewN ?_ _ | ((with_reducible refine MineS.new ?_); decide) | ((with_reducible refine MineS.newAt ?_ ?_) <;> first | decide | (simp; done)) | with_reducible refine MineS.set ?_ _ _ _ | with_reducible refine MineS.alloc ?_ _) | with_reducible refine Mine.other ?_ _ (by first | (left; omega) | (right; omega) | (simp; done) | (simp; omega)) | with_reducible refine Mine.alloc ?_ _)
      clear m41 m42 m51 m52
      obtain ⟨m41, m42, m51, m52⟩ := mAll
      have hBzx35 := hB.size
      replace hB : Below w.heap.size w x35 := by rw [hwx35]; exact (by repeat first | with_reducible exact Below.refl _ _ | with_reducible assumption | with_reducible refine below_drewN ?_ _ | with_reducible refine Below.drew ?_ | with_reducible refine Below.setCell ?_ (by first | exact Nat.le_refl _ | (simp; done) | (simp; omega) | omega) _ | with_reducible refine Below.alloc ?_ (by first | exact Nat.le_refl _ | (simp; done) | (simp; omega) | omega) _ | exact Below.refl _ _ | assumption)
      clear hwx35 hBzx35
      refine hK1.out _ _ hB (fun _ => ?_)
      clear hK1 K1
      (try dsimp only [Act.put, List.setIfInBounds_toArray, List.set_cons_zero, List.set_cons_succ])
      refine wpAnyH_done (by kernel_rfl) ?_ _
      exact hEnd _ _ _ hB m41 m42 m51 m52
    refine ready_l rfl (fun K1 hK1 => ?_) AllReadyH.nil
    have hle5 := hB.size
    go_simp
    refine name_K ?_
    intro x36 hwx36
    have mAll : Mine x36 x2.heap.size 0 (.int .i64 0) ∧ Mine x36 x2.heap.size 1 (.int .i64 0) := by
      rw [hwx36]
      refine ⟨?_, ?_⟩ <;> (repeat first | with_reducible assumption | with_reducible refine Mine.drew ?_ | with_reducible refine Mine.drewN ?_ _ | ((with_reducible refine Mine.new ?_); rfl) | ((with_reducible refine Mine.newAt ?_ ?_) <;> first | rfl | (simp; done) | (simp only [World.size_alloc]; rfl)) | ((with_reducible refine Mine.set ?_ _); repeat first | exact Mine.slot (by with_reducible assumption) | with_reducible refine MineS.drew ?_ | with_reducible refine MineS.drewN ?_ _ | ((with_reducible refine MineS.new ?_); decide) | ((with_reducible refine MineS.newAt ?_ ?_) <;> first | decide | (simp; done)) | with_reducible refine MineS.set ?_ _ _ _ | with_reducible refine MineS.alloc ?_ _) | with_reducible refine Mine.other ?_ _ (by first | (left; omega) | (right; omega) | (simp; done) | (simp; omega)) | with_reducible refine Mine.alloc ?_ _)
    obtain ⟨m51, m52⟩ := mAll
    have hBzx36 := hB.size
    replace hB : Below w.heap.size w x36 := by rw [hwx36]; exact (by repeat first | with_reducible exact Below.refl _ _ | with_reducible assumption | with_reducible refine below_drewN ?_ _ | with_reducible refine Below.drew ?_ | with_reducible refine Below.setCell ?_ (by first | exact Nat.le_refl _ | (simp; done) | (simp; omega) | omega) _ | with_reducible refine Below.alloc ?_ (by first | exact Nat.le_refl _ | (simp; done) | (simp; omega) | omega) _ | exact Below.refl _ _ | assumption)
    clear hwx36 hBzx36
    refine hK1.out _ _ hB (fun _ => ?_)
    clear hK1 K1
    (try dsimp only [Act.put, List.setIfInBounds_toArray, List.set_cons_zero, List.set_cons_succ])
    refine wpAnyH_ready (rs := [3, 4]) (by kernel_rfl) (by simp) ?_
    refine ready_l rfl (fun K1 hK1 => ?_) ?_
    · skip
      go_simp
      refine (of_valid c d _ h2).mono ?_
      rintro e x38 ⟨rfl, hb1⟩
      replace m51 := m51.below hb1
      replace m52 := m52.below hb1
      replace hB := hB.trans (hb1.mono hB.size)
      have hb_x38 := hb1
      clear hb1
      clear hb_x38
      refine hK1.out _ _ hB (fun _ => ?_)
      clear hK1 K1
      (try dsimp only [Act.put, List.setIfInBounds_toArray, List.set_cons_zero, List.set_cons_succ])
      refine wpAnyH_ready (rs := [4]) (by kernel_rfl) (by simp) ?_
      refine ready_l rfl (fun K1 hK1 => ?_) AllReadyH.nil
      have hle4 := hB.size
      have hne := m51.lt
      go_simp
      refine name_K ?_
      intro x40 hwx40
      have mAll : Mine x40 x2.heap.size 0 (.int .i64 0) ∧ Mine x40 x2.heap.size 1 (.int .i64 0) ∧ Mine x40 x38.heap.size 0 (.int .i64 0) ∧ Mine x40 x38.heap.size 1 (.int .i64 0) := by
        rw [hwx40]
        refine ⟨?_, ?_, ?_, ?_⟩ <;> (repeat first | with_reducible assumption | with_reducible refine Mine.drew ?_ | with_reducible refine Mine.drewN ?_ _ | ((with_reducible refine Mine.new ?_); rfl) | ((with_reducible refine Mine.newAt ?_ ?_) <;> first | rfl | (simp; done) | (simp only [World.size_alloc]; rfl)) | ((with_reducible refine Mine.set ?_ _); repeat first | exact Mine.slot (by with_reducible assumption) | with_reducible refine MineS.drew ?_ | with_reducible refine MineS.drewN ?_ _ | ((with_reducible refine MineS.new ?_); decide) | ((with_reducible refine MineS.newAt ?_ ?_) <;> first | decide | (simp; done)) | with_reducible refine MineS.set ?_ _ _ _ | with_reducible refine MineS.alloc ?_ _) | with_reducible refine Mine.other ?_ _ (by first | (left; omega) | (right; omega) | (simp; done) | (simp; omega)) | with_reducible refine Mine.alloc ?_ _)
      clear m51 m52
      obtain ⟨m51, m52, m41, m42⟩ := mAll
      have hBzx40 := hB.size
      replace hB : Below w.heap.size w x40 := by rw [hwx40]; exact (by repeat first | with_reducible exact Below.refl _ _ | with_reducible assumption | with_reducible refine below_drewN ?_ _ | with_reducible refine Below.drew ?_ | with_reducible refine Below.setCell ?_ (by first | exact Nat.le_refl _ | (simp; done) | (simp; omega) | omega) _ | with_reducible refine Below.alloc ?_ (by first | exact Nat.le_refl _ | (simp; done) | (simp; omega) | omega) _ | exact Below.refl _ _ | assumption)
      clear hwx40 hBzx40
      refine hK1.out _ _ hB (fun _ => ?_)
      clear hK1 K1
      (try dsimp only [Act.put, List.setIfInBounds_toArray, List.set_cons_zero, List.set_cons_succ])
      refine wpAnyH_ready (rs := [6]) (by kernel_rfl) (by simp) ?_
      refine ready_l rfl (fun K1 hK1 => ?_) AllReadyH.nil
      have c41 := m41.cell
      have f41 := m41.free
      have l41 := m41.lt
      have c42 := m42.cell
      have f42 := m42.free
      have l42 := m42.lt
      go_simp
      clear c41 f41 l41
      clear c42 f42 l42
      refine name_K ?_
      intro x42 hwx42
      have mAll : Mine x42 x2.heap.size 0 (.int .i64 0) ∧ Mine x42 x2.heap.size 1 (.int .i64 0) ∧ Mine x42 x38.heap.size 0 (.int .i64 a) ∧ Mine x42 x38.heap.size 1 (.int .i64 b) := by
        rw [hwx42]
        refine ⟨?_, ?_, ?_, ?_⟩ <;> (repeat first | with_reducible assumption | with_reducible refine Mine.drew ?_ | with_reducible refine Mine.drewN ?_ _ | ((with_reducible refine Mine.new ?_); rfl) | ((with_reducible refine Mine.newAt ?_ ?_) <;> first | rfl | (simp; done) | (simp only [World.size_alloc]; rfl)) | ((with_reducible refine Mine.set ?_ _); repeat first | exact Mine.slot (by with_reducible assumption) | with_reducible refine MineS.drew ?_ | with_reducible refine MineS.drewN ?_ _ | ((with_reducible refine MineS.new ?_); decide) | ((with_reducible refine MineS.newAt ?_ ?_) <;> first | decide | (simp; done)) | with_reducible refine MineS.set ?_ _ _ _ | with_reducible refine MineS.alloc ?_ _) | with_reducible refine Mine.other ?_ _ (by first | (left; omega) | (right; omega) | (simp; done) | (simp; omega)) | with_reducible refine Mine.alloc ?_ _)
      clear m51 m52 m41 m42
      obtain ⟨m51, m52, m41, m42⟩ := mAll
      have hBzx42 := hB.size
      replace hB : Below w.heap.size w x42 := by rw [hwx42]; exact (by repeat first | with_reducible exact Below.refl _ _ | with_reducible assumption | with_reducible refine below_drewN ?_ _ | with_reducible refine Below.drew ?_ | with_reducible refine Below.setCell ?_ (by first | exact Nat.le_refl _ | (simp; done) | (simp; omega) | omega) _ | with_reducible refine Below.alloc ?_ (by first | exact Nat.le_refl _ | (simp; done) | (simp; omega) | omega) _ | exact Below.refl _ _ | assumption)
      clear hwx42 hBzx42
      refine hK1.out _ _ hB (fun _ => ?_)
      clear hK1 K1
      (try dsimp only [Act.put, List.setIfInBounds_toArray, List.set_cons_zero, List.set_cons_succ])
      refine wpAnyH_ready (rs := [7]) (by kernel_rfl) (by simp) ?_
      refine ready_l rfl (fun K1 hK1 => ?_) AllReadyH.nil
      have c51 := m51.cell
      have f51 := m51.free
      have l51 := m51.lt
      have c52 := m52.cell
      have f52 := m52.free
      have l52 := m52.lt
      go_simp
      clear c51 f51 l51
      clear c52 f52 l52
      refine name_K ?_
      intro x44 hwx44
      have mAll : Mine x44 x2.heap.size 0 (.int .i64 c) ∧ Mine x44 x2.heap.size 1 (.int .i64 d) ∧ Mine x44 x38.heap.size 0 (.int .i64 a) ∧ Mine x44 x38.heap.size 1 (.int .i64 b) := by
        rw [hwx44]
        refine ⟨?_, ?_, ?_, ?_⟩ <;> (repeat first | with_reducible assumption | with_reducible refine Mine.drew ?_ | with_reducible refine Mine.drewN ?_ _ | ((with_reducible refine Mine.new ?_); rfl) | ((with_reducible refine Mine.newAt ?_ ?_) <;> first | rfl | (simp; done) | (simp only [World.size_alloc]; rfl)) | ((with_reducible refine Mine.set ?_ _); repeat first | exact Mine.slot (by with_reducible assumption) | with_reducible refine MineS.drew ?_ | with_reducible refine MineS.drewN ?_ _ | ((with_reducible refine MineS.new ?_); decide) | ((with_reducible refine MineS.newAt ?_ ?_) <;> first | decide | (simp; done)) | with_reducible refine MineS.set ?_ _ _ _ | with_reducible refine MineS.alloc ?_ _) | with_reducible refine Mine.other ?_ _ (by first | (left; omega) | (right; omega) | (simp; done) | (simp; omega)) | with_reducible refine Mine.alloc ?_ _)
      clear m51 m52 m41 m42
      obtain ⟨m51, m52, m41, m42⟩ := mAll
      have hBzx44 := hB.size
      replace hB : Below w.heap.size w x44 := by rw [hwx44]; exact (by repeat first | with_reducible exact Below.refl _ _ | with_reducible assumption | with_reducible refine below_drewN ?_ _ | with_reducible refine Below.drew ?_ | with_reducible refine Below.setCell ?_ (by first | exact Nat.le_refl _ | (simp; done) | (simp; omega) | omega) _ | with_reducible refine Below.alloc ?_ (by first | exact Nat.le_refl _ | (simp; done) | (simp; omega) | omega) _ | exact Below.refl _ _ | assumption)
      clear hwx44 hBzx44
      refine hK1.out _ _ hB (fun _ => ?_)
      clear hK1 K1
      (try dsimp only [Act.put, List.setIfInBounds_toArray, List.set_cons_zero, List.set_cons_succ])
      refine wpAnyH_done (by kernel_rfl) ?_ _
      exact hEnd _ _ _ hB m41 m42 m51 m52
    refine ready_l rfl (fun K1 hK1 => ?_) AllReadyH.nil
    have hle4 := hB.size
    have hne := m51.lt
    go_simp
    refine name_K ?_
    intro x45 hwx45
    have mAll : Mine x45 x2.heap.size 0 (.int .i64 0) ∧ Mine x45 x2.heap.size 1 (.int .i64 0) ∧ Mine x45 x36.heap.size 0 (.int .i64 0) ∧ Mine x45 x36.heap.size 1 (.int .i64 0) := by
      rw [hwx45]
      refine ⟨?_, ?_, ?_, ?_⟩ <;> (repeat first | with_reducible assumption | with_reducible refine Mine.drew ?_ | with_reducible refine Mine.drewN ?_ _ | ((with_reducible refine Mine.new ?_); rfl) | ((with_reducible refine Mine.newAt ?_ ?_) <;> first | rfl | (simp; done) | (simp only [World.size_alloc]; rfl)) | ((with_reducible refine Mine.set ?_ _); repeat first | exact Mine.slot (by with_reducible assumption) | with_reducible refine MineS.drew ?_ | with_reducible refine MineS.drewN ?_ _ | ((with_reducible refine MineS.new ?_); decide) | ((with_reducible refine MineS.newAt ?_ ?_) <;> first | decide | (simp; done)) | with_reducible refine MineS.set ?_ _ _ _ | with_reducible refine MineS.alloc ?_ _) | with_reducible refine Mine.other ?_ _ (by first | (left; omega) | (right; omega) | (simp; done) | (simp; omega)) | with_reducible refine Mine.alloc ?_ _)
    clear m51 m52
    obtain ⟨m51, m52, m41, m42⟩ := mAll
    have hBzx45 := hB.size
    replace hB : Below w.heap.size w x45 := by rw [hwx45]; exact (by repeat first | with_reducible exact Below.refl _ _ | with_reducible assumption | with_reducible refine below_drewN ?_ _ | with_reducible refine Below.drew ?_ | with_reducible refine Below.setCell ?_ (by first | exact Nat.le_refl _ | (simp; done) | (simp; omega) | omega) _ | with_reducible refine Below.alloc ?_ (by first | exact Nat.le_refl _ | (simp; done) | (simp; omega) | omega) _ | exact Below.refl _ _ | assumption)
    clear hwx45 hBzx45
    refine hK1.out _ _ hB (fun _ => ?_)
    clear hK1 K1
    (try dsimp only [Act.put, List.setIfInBounds_toArray, List.set_cons_zero, List.set_cons_succ])
    refine wpAnyH_ready (rs := [3]) (by kernel_rfl) (by simp) ?_
    refine ready_l rfl (fun K1 hK1 => ?_) AllReadyH.nil
    go_simp
    refine (of_valid c d _ h2).mono ?_
    rintro e x47 ⟨rfl, hb1⟩
    replace m51 := m51.below hb1
    replace m52 := m52.below hb1
    replace m41 := m41.below hb1
    replace m42 := m42.below hb1
    replace hB := hB.trans (hb1.mono hB.size)
    have hb_x47 := hb1
    clear hb1
    clear hb_x47
    refine hK1.out _ _ hB (fun _ => ?_)
    clear hK1 K1
    (try dsimp only [Act.put, List.setIfInBounds_toArray, List.set_cons_zero, List.set_cons_succ])
    refine wpAnyH_ready (rs := [6]) (by kernel_rfl) (by simp) ?_
    refine ready_l rfl (fun K1 hK1 => ?_) AllReadyH.nil
    have c41 := m41.cell
    have f41 := m41.free
    have l41 := m41.lt
    have c42 := m42.cell
    have f42 := m42.free
    have l42 := m42.lt
    go_simp
    clear c41 f41 l41
    clear c42 f42 l42
    refine name_K ?_
    intro x49 hwx49
    have mAll : Mine x49 x2.heap.size 0 (.int .i64 0) ∧ Mine x49 x2.heap.size 1 (.int .i64 0) ∧ Mine x49 x36.heap.size 0 (.int .i64 a) ∧ Mine x49 x36.heap.size 1 (.int .i64 b) := by
      rw [hwx49]
      refine ⟨?_, ?_, ?_, ?_⟩ <;> (repeat first | with_reducible assumption | with_reducible refine Mine.drew ?_ | with_reducible refine Mine.drewN ?_ _ | ((with_reducible refine Mine.new ?_); rfl) | ((with_reducible refine Mine.newAt ?_ ?_) <;> first | rfl | (simp; done) | (simp only [World.size_alloc]; rfl)) | ((with_reducible refine Mine.set ?_ _); repeat first | exact Mine.slot (by with_reducible assumption) | with_reducible refine MineS.drew ?_ | with_reducible refine MineS.drewN ?_ _ | ((with_reducible refine MineS.new ?_); decide) | ((with_reducible refine MineS.newAt ?_ ?_) <;> first | decide | (simp; done)) | with_reducible refine MineS.set ?_ _ _ _ | with_reducible refine MineS.alloc ?_ _) | with_reducible refine Mine.other ?_ _ (by first | (left; omega) | (right; omega) | (simp; done) | (simp; omega)) | with_reducible refine Mine.alloc ?_ _)
    clear m51 m52 m41 m42
    obtain ⟨m51, m52, m41, m42⟩ := mAll
    have hBzx49 := hB.size
    replace hB : Below w.heap.size w x49 := by rw [hwx49]; exact (by repeat first | with_reducible exact Below.refl _ _ | with_reducible assumption | with_reducible refine below_drewN ?_ _ | with_reducible refine Below.drew ?_ | with_reducible refine Below.setCell ?_ (by first | exact Nat.le_refl _ | (simp; done) | (simp; omega) | omega) _ | with_reducible refine Below.alloc ?_ (by first | exact Nat.le_refl _ | (simp; done) | (simp; omega) | omega) _ | exact Below.refl _ _ | assumption)
    clear hwx49 hBzx49
    refine hK1.out _ _ hB (fun _ => ?_)
    clear hK1 K1
    (try dsimp only [Act.put, List.setIfInBounds_toArray, List.set_cons_zero, List.set_cons_succ])
    refine wpAnyH_ready (rs := [7]) (by kernel_rfl) (by simp) ?_
    refine ready_l rfl (fun K1 hK1 => ?_) AllReadyH.nil
    have c51 := m51.cell
    have f51 := m51.free
    have l51 := m51.lt
    have c52 := m52.cell
    have f52 := m52.free
    have l52 := m52.lt
    go_simp
    clear c51 f51 l51
    clear c52 f52 l52
    refine name_K ?_
    intro x51 hwx51
    have mAll : Mine x51 x2.heap.size 0 (.int .i64 c) ∧ Mine x51 x2.heap.size 1 (.int .i64 d) ∧ Mine x51 x36.heap.size 0 (.int .i64 a) ∧ Mine x51 x36.heap.size 1 (.int .i64 b) := by
      rw [hwx51]
      refine ⟨?_, ?_, ?_, ?_⟩ <;> (repeat first | with_reducible assumption | with_reducible refine Mine.drew ?_ | with_reducible refine Mine.drewN ?_ _ | ((with_reducible refine Mine.new ?_); rfl) | ((with_reducible refine Mine.newAt ?_ ?_) <;> first | rfl | (simp; done) | (simp only [World.size_alloc]; rfl)) | ((with_reducible refine Mine.set ?_ _); repeat first | exact Mine.slot (by with_reducible assumption) | with_reducible refine MineS.drew ?_ | with_reducible refine MineS.drewN ?_ _ | ((with_reducible refine MineS.new ?_); decide) | ((with_reducible refine MineS.newAt ?_ ?_) <;> first | decide | (simp; done)) | with_reducible refine MineS.set ?_ _ _ _ | with_reducible refine MineS.alloc ?_ _) | with_reducible refine Mine.other ?_ _ (by first | (left; omega) | (right; omega) | (simp; done) | (simp; omega)) | with_reducible refine Mine.alloc ?_ _)
    clear m51 m52 m41 m42
    obtain ⟨m51, m52, m41, m42⟩ := mAll
    have hBzx51 := hB.size
    replace hB : Below w.heap.size w x51 := by rw [hwx51]; exact (by repeat first | with_reducible exact Below.refl _ _ | with_reducible assumption | with_reducible refine below_drewN ?_ _ | with_reducible refine Below.drew ?_ | with_reducible refine Below.setCell ?_ (by first | exact Nat.le_refl _ | (simp; done) | (simp; omega) | omega) _ | with_reducible refine Below.alloc ?_ (by first | exact Nat.le_refl _ | (simp; done) | (simp; omega) | omega) _ | exact Below.refl _ _ | assumption)
    clear hwx51 hBzx51
    refine hK1.out _ _ hB (fun _ => ?_)
    clear hK1 K1
    (try dsimp only [Act.put, List.setIfInBounds_toArray, List.set_cons_zero, List.set_cons_succ])
    refine wpAnyH_done (by kernel_rfl) ?_ _
    exact hEnd _ _ _ hB m41 m42 m51 m52
  refine ready_l rfl (fun K1 hK1 => ?_) ?_
  · skip
    have hle4 := hB.size
    go_simp
    refine name_K ?_
    intro x52 hwx52
    have mAll : Mine x52 w0.heap.size 0 (.int .i64 0) ∧ Mine x52 w0.heap.size 1 (.int .i64 0) := by
      rw [hwx52]
      refine ⟨?_, ?_⟩ <;> (repeat first | with_reducible assumption | with_reducible refine Mine.drew ?_ | with_reducible refine Mine.drewN ?_ _ | ((with_reducible refine Mine.new ?_); rfl) | ((with_reducible refine Mine.newAt ?_ ?_) <;> first | rfl | (simp; done) | (simp only [World.size_alloc]; rfl)) | ((with_reducible refine Mine.set ?_ _); repeat first | exact Mine.slot (by with_reducible assumption) | with_reducible refine MineS.drew ?_ | with_reducible refine MineS.drewN ?_ _ | ((with_reducible refine MineS.new ?_); decide) | ((with_reducible refine MineS.newAt ?_ ?_) <;> first | decide | (simp; done)) | with_reducible refine MineS.set ?_ _ _ _ | with_reducible refine MineS.alloc ?_ _) | with_reducible refine Mine.other ?_ _ (by first | (left; omega) | (right; omega) | (simp; done) | (simp; omega)) | with_reducible refine Mine.alloc ?_ _)
    obtain ⟨m41, m42⟩ := mAll
    have hBzx52 := hB.size
    replace hB : Below w.heap.size w x52 := by rw [hwx52]; exact (by repeat first | with_reducible exact Below.refl _ _ | with_reducible assumption | with_reducible refine below_drewN ?_ _ | with_reducible refine Below.drew ?_ | with_reducible refine Below.setCell ?_ (by first | exact Nat.le_refl _ | (simp; done) | (simp; omega) | omega) _ | with_reducible refine Below.alloc ?_ (by first | exact Nat.le_refl _ | (simp; done) | (simp; omega) | omega) _ | exact Below.refl _ _ | assumption)
    clear hwx52 hBzx52
    refine hK1.out _ _ hB (fun _ => ?_)
    clear hK1 K1
    (try dsimp only [Act.put, List.setIfInBounds_toArray, List.set_cons_zero, List.set_cons_succ])
    refine wpAnyH_ready (rs := [1, 5]) (by kernel_rfl) (by simp) ?_
    refine ready_l rfl (fun K1 hK1 => ?_) ?_
    · skip
      go_simp
      refine (of_valid a b _ h1).mono ?_
      rintro e x54 ⟨rfl, hb1⟩
      replace m41 := m41.below hb1
      replace m42 := m42.below hb1
      replace hB := hB.trans (hb1.mono hB.size)
      have hb_x54 := hb1
      clear hb1
      clear hb_x54
      refine hK1.out _ _ hB (fun _ => ?_)
      clear hK1 K1
      (try dsimp only [Act.put, List.setIfInBounds_toArray, List.set_cons_zero, List.set_cons_succ])
      refine wpAnyH_ready (rs := [3, 5]) (by kernel_rfl) (by simp) ?_
      refine ready_l rfl (fun K1 hK1 => ?_) ?_
      · skip
        go_simp
        refine (of_valid c d _ h2).mono ?_
        rintro e x56 ⟨rfl, hb1⟩
        replace m41 := m41.below hb1
        replace m42 := m42.below hb1
        replace hB := hB.trans (hb1.mono hB.size)
        have hb_x56 := hb1
        clear hb1
        clear hb_x56
        refine hK1.out _ _ hB (fun _ => ?_)
        clear hK1 K1
        (try dsimp only [Act.put, List.setIfInBounds_toArray, List.set_cons_zero, List.set_cons_succ])
        refine wpAnyH_ready (rs := [5]) (by kernel_rfl) (by simp) ?_
        refine ready_l rfl (fun K1 hK1 => ?_) AllReadyH.nil
        have hle5 := hB.size
        have hne := m41.lt
        go_simp
        refine name_K ?_
        intro x58 hwx58
        have mAll : Mine x58 w0.heap.size 0 (.int .i64 0) ∧ Mine x58 w0.heap.size 1 (.int .i64 0) ∧ Mine x58 x56.heap.size 0 (.int .i64 0) ∧ Mine x58 x56.heap.size 1 (.int .i64 0) := by
          rw [hwx58]
          refine ⟨?_, ?_, ?_, ?_⟩ <;> (repeat first | with_reducible assumption | with_reducible refine Mine.drew ?_ | with_reducible refine Mine.drewN ?_ _ | ((with_reducible refine Mine.new ?_); rfl) | ((with_reducible refine Mine.newAt ?_ ?_) <;> first | rfl | (simp; done) | (simp only [World.size_alloc]; rfl)) | ((with_reducible refine Mine.set ?_ _); repeat first | exact Mine.slot (by with_reducible assumption) | with_reducible refine MineS.drew ?_ | with_reducible refine MineS.drewN ?_ _ | ((with_reducible refine MineS.new ?_); decide) | ((with_reducible refine MineS.newAt ?_ ?_) <;> first | decide | (simp; done)) | with_reducible refine MineS.set ?_ _ _ _ | with_reducible refine MineS.alloc ?_ _) | with_reducible refine Mine.other ?_ _ (by first | (left; omega) | (right; omega) | (simp; done) | (simp; omega)) | with_reducible refine Mine.alloc ?_ _)
        clear m41 m42
        obtain ⟨m41, m42, m51, m52⟩ := mAll
        have hBzx58 := hB.size
        replace hB : Below w.heap.size w x58 := by rw [hwx58]; exact (by repeat first | with_reducible exact Below.refl _ _ | with_reducible assumption | with_reducible refine below_drewN ?_ _ | with_reducible refine Below.drew ?_ | with_reducible refine Below.setCell ?_ (by first | exact Nat.le_refl _ | (simp; done) | (simp; omega) | omega) _ | with_reducible refine Below.alloc ?_ (by first | exact Nat.le_refl _ | (simp; done) | (simp; omega) | omega) _ | exact Below.refl _ _ | assumption)
        clear hwx58 hBzx58
        refine hK1.out _ _ hB (fun _ => ?_)
        clear hK1 K1
        (try dsimp only [Act.put, List.setIfInBounds_toArray, List.set_cons_zero, List.set_cons_succ])
        refine wpAnyH_ready (rs := [6]) (by kernel_rfl) (by simp) ?_
        refine ready_l rfl (fun K1 hK1 => ?_) AllReadyH.nil
        have c41 := m41.cell
        have f41 := m41.free
        have l41 := m41.lt
        have c42 := m42.cell
        have f42 := m42.free
        have l42 := m42.lt
        go_simp
        clear c41 f41 l41
        clear c42 f42 l42
        refine name_K ?_
        intro x60 hwx60
        have mAll : Mine x60 w0.heap.size 0 (.int .i64 a) ∧ Mine x60 w0.heap.size 1 (.int .i64 b) ∧ Mine x60 x56.heap.size 0 (.int .i64 0) ∧ Mine x60 x56.heap.size 1 (.int .i64 0) := by
          rw [hwx60]
          refine ⟨?_, ?_, ?_, ?_⟩ <;> (repeat first | with_reducible assumption | with_reducible refine Mine.drew ?_ | with_reducible refine Mine.drewN ?_ _ | ((with_reducible refine Mine.new ?_); rfl) | ((with_reducible refine Mine.newAt ?_ ?_) <;> first | rfl | (simp; done) | (simp only [World.size_alloc]; rfl)) | ((with_reducible refine Mine.set ?_ _); repeat first | exact Mine.slot (by with_reducible assumption) | with_reducible refine MineS.drew ?_ | with_reducible refine MineS.drewN ?_ _ | ((with_reducible refine MineS.new ?_); decide) | ((with_reducible refine MineS.newAt ?_ ?_) <;> first | decide | (simp; done)) | with_reducible refine MineS.set ?_ _ _ _ | with_reducible refine MineS.alloc ?_ _) | with_reducible refine Mine.other ?_ _ (by first | (left; omega) | (right; omega) | (simp; done) | (simp; omega)) | with_reducible refine Mine.alloc ?_ _)
        clear m41 m42 m51 m52
        obtain ⟨m41, m42, m51, m52⟩ := mAll
        have hBzx60 := hB.size
        replace hB : Below w.heap.size w x60 := by rw [hwx60]; exact (by repeat first | with_reducible exact Below.refl _ _ | with_reducible assumption | with_reducible refine below_drewN ?_ _ | with_reducible refine Below.drew ?_ | with_reducible refine Below.setCell ?_ (by first | exact Nat.le_refl _ | (simp; done) | (simp; omega) | omega) _ | with_reducible refine Below.alloc ?_ (by first | exact Nat.le_refl _ | (simp; done) | (simp; omega) | omega) _ | exact Below.refl _ _ | assumption)
        clear hwx60 hBzx60
        refine hK1.out _ _ hB (fun _ => ?_)
        clear hK1 K1
        (try dsimp only [Act.put, List.setIfInBounds_toArray, List.set_cons_zero, List.set_cons_succ])
        refine wpAnyH_ready (rs := [7]) (by kernel_rfl) (by simp) ?_
        refine ready_l rfl (fun K1 hK1 => ?_) AllReadyH.nil
        have c51 := m51.cell
        have f51 := m51.free
        have l51 := m51.lt
        have c52 := m52.cell
        have f52 := m52.free
        have l52 := m52.lt
        go_simp
        clear c51 f51 l51
        clear c52 f52 l52
        refine name_K ?_
        intro x62 hwx62
        have mAll : Mine x62 w0.heap.size 0 (.int .i64 a) ∧ Mine x62 w0.heap.size 1 (.int .i64 b) ∧ Mine x62 x56.heap.size 0 (.int .i64 c) ∧ Mine x62 x56.heap.size 1 (.int .i64 d) := by
          rw [hwx62]
          refine ⟨?_, ?_, ?_, ?_⟩ <;> (repeat first | with_reducible assumption | with_reducible refine Mine.drew ?_ | with_reducible refine Mine.drewN ?_ _ | ((with_reducible refine Mine.new ?_); rfl) | ((with_reducible refine Mine.newAt ?_ ?_) <;> first | rfl | (simp; done) | (simp only [World.size_alloc]; rfl)) | ((with_reducible refine Mine.set ?_ _); repeat first | exact Mine.slot (by with_reducible assumption) | with_reducible refine MineS.drew ?_ | with_reducible refine MineS.drewN ?_ _ | ((with_reducible refine MineS.new ?_); decide) | ((with_reducible refine MineS.newAt ?_ ?_) <;> first | decide | (simp; done)) | with_reducible refine MineS.set ?_ _ _ _ | with_reducible refine MineS.alloc ?_ _) | with_reducible refine Mine.other ?_ _ (by first | (left; omega) | (right; omega) | (simp; done) | (simp; omega)) | with_reducible refine Mine.alloc ?_ _)
        clear m41 m42 m51 m52
        obtain ⟨m41, m42, m51, m52⟩ := mAll
        have hBzx62 := hB.size
        replace hB : Below w.heap.size w x62 := by rw [hwx62]; exact (by repeat first | with_reducible exact Below.refl _ _ | with_reducible assumption | with_reducible refine below_drewN ?_ _ | with_reducible refine Below.drew ?_ | with_reducible refine Below.setCell ?_ (by first | exact Nat.le_refl _ | (simp; done) | (simp; omega) | omega) _ | with_reducible refine Below.alloc ?_ (by first | exact Nat.le_refl _ | (simp; done) | (simp; omega) | omega) _ | exact Below.refl _ _ | assumption)
        clear hwx62 hBzx62
        refine hK1.out _ _ hB (fun _ => ?_)
        clear hK1 K1
        (try dsimp only [Act.put, List.setIfInBounds_toArray, List.set_cons_zero, List.set_cons_succ])
        refine wpAnyH_done (by kernel_rfl) ?_ _
        exact hEnd _ _ _ hB m41 m42 m51 m52
      refine ready_l rfl (fun K1 hK1 => ?_) AllReadyH.nil
      have hle5 := hB.size
      have hne := m41.lt
      go_simp
      refine name_K ?_
      intro x63 hwx63
      have mAll : Mine x63 w0.heap.size 0 (.int .i64 0) ∧ Mine x63 w0.heap.size 1 (.int .i64 0) ∧ Mine x63 x54.heap.size 0 (.int .i64 0) ∧ Mine x63 x54.heap.size 1 (.int .i64 0) := by
        rw [hwx63]
        refine ⟨?_, ?_, ?_, ?_⟩ <;> (repeat first | with_reducible assumption | with_reducible refine Mine.drew ?_ | with_reducible refine Mine.drewN ?_ _ | ((with_reducible refine Mine.new ?_); rfl) | ((with_reducible refine Mine.newAt ?_ ?_) <;> first | rfl | (simp; done) | (simp only [World.size_alloc]; rfl)) | ((with_reducible refine Mine.set ?_ _); repeat first | exact Mine.slot (by with_reducible assumption) | with_reducible refine MineS.drew ?_ | with_reducible refine MineS.drewN ?_ _ | ((with_reducible refine MineS.new ?_); decide) | ((with_reducible refine MineS.newAt ?_ ?_) <;> first | decide | (simp; done)) | with_reducible refine MineS.set ?_ _ _ _ | with_reducible refine MineS.alloc ?_ _) | with_reducible refine Mine.other ?_ _ (by first | (left; omega) | (right; omega) | (simp; done) | (simp; omega)) | with_reducible refine Mine.alloc ?_ _)
      clear m41 m42
      obtain ⟨m41, m42, m51, m52⟩ := mAll
      have hBzx63 := hB.size
      replace hB : Below w.heap.size w x63 := by rw [hwx63]; exact (by repeat first | with_reducible exact Below.refl _ _ | with_reducible assumption | with_reducible refine below_drewN ?_ _ | with_reducible refine Below.drew ?_ | with_reducible refine Below.setCell ?_ (by first | exact Nat.le_refl _ | (simp; done) | (simp; omega) | omega) _ | with_reducible refine Below.alloc ?_ (by first | exact Nat.le_refl _ | (simp; done) | (simp; omega) | omega) _ | exact Below.refl _ _ | assumption)
      clear hwx63 hBzx63
      refine hK1.out _ _ hB (fun _ => ?_)
      clear hK1 K1
      (try dsimp only [Act.put, List.setIfInBounds_toArray, List.set_cons_zero, List.set_cons_succ])
      refine wpAnyH_ready (rs := [3]) (by kernel_rfl) (by simp) ?_
      refine ready_l rfl (fun K1 hK1 => ?_) AllReadyH.nil
      go_simp
      refine (of_valid c d _ h2).mono ?_
      rintro e x65 ⟨rfl, hb1⟩
      replace m41 := m41.below hb1
      replace m42 := m42.below hb1
      replace m51 := m51.below hb1
      replace m52 := m52.below hb1
      replace hB := hB.trans (hb1.mono hB.size)
      have hb_x65 := hb1
      clear hb1
      clear hb_x65
      refine hK1.out _ _ hB (fun _ => ?_)
      clear hK1 K1
      (try dsimp only [Act.put, List.setIfInBounds_toArray, List.set_cons_zero, List.set_cons_succ])
      refine wpAnyH_ready (rs := [6]) (by kernel_rfl) (by simp) ?_
      refine ready_l rfl (fun K1 hK1 => ?_) AllReadyH.nil
      have c41 := m41.cell
      have f41 := m41.free
      have l41 := m41.lt
      have c42 := m42.cell
      have f42 := m42.free
      have l42 := m42.lt
      go_simp
      clear c41 f41 l41
      clear c42 f42 l42
      refine name_K ?_
      intro x67 hwx67
      have mAll : Mine x67 w0.heap.size 0 (.int .i64 a) ∧ Mine x67 w0.heap.size 1 (.int .i64 b) ∧ Mine x67 x54.heap.size 0 (.int .i64 0) ∧ Mine x67 x54.heap.size 1 (.int .i64 0) := by
        rw [hwx67]
        refine ⟨?_, ?_, ?_, ?_⟩ <;> (repeat first | with_reducible assumption | with_reducible refine Mine.drew ?_ | with_reducible refine Mine.drewN ?_ _ | ((with_reducible refine Mine.new ?_); rfl) | ((with_reducible refine Mine.newAt ?_ ?_) <;> first | rfl | (simp; done) | (simp only [World.size_alloc]; rfl)) | ((with_reducible refine Mine.set ?_ _); repeat first | exact Mine.slot (by with_reducible assumption) | with_reducible refine MineS.drew ?_ | with_reducible refine MineS.drewN ?_ _ | ((with_reducible refine MineS.new ?_); decide) | ((with_reducible refine MineS.newAt ?_ ?_) <;> first | decide | (simp; done)) | with_reducible refine MineS.set ?_ _ _ _ | with_reducible refine MineS.alloc ?_ _) | with_reducible refine Mine.other ?_ _ (by first | (left; omega) | (right; omega) | (simp; done) | (simp; omega)) | with_reducible refine Mine.alloc ?_ _)
      clear m41 m42 m51 m52
      obtain ⟨m41, m42, m51, m52⟩ := mAll
      have hBzx67 := hB.size
      replace hB : Below w.heap.size w x67 := by rw [hwx67]; exact (by repeat first | with_reducible exact Below.refl _ _ | with_reducible assumption | with_reducible refine below_drewN ?_ _ | with_reducible refine Below.drew ?_ | with_reducible refine Below.setCell ?_ (by first | exact Nat.le_refl _ | (simp; done) | (simp; omega) | omega) _ | with_reducible refine Below.alloc ?_ (by first | exact Nat.le_refl _ | (simp; done) | (simp; omega) | omega) _ | exact Below.refl _ _ | assumption)
      clear hwx67 hBzx67
      refine hK1.out _ _ hB (fun _ => ?_)
      clear hK1 K1
      (try dsimp only [Act.put, List.setIfInBounds_toArray, List.set_cons_zero, List.set_cons_succ])
      refine wpAnyH_ready (rs := [7]) (by kernel_rfl) (by simp) ?_
      refine ready_l rfl (fun K1 hK1 => ?_) AllReadyH.nil
      have c51 := m51.cell
      have f51 := m51.free
      have l51 := m51.lt
      have c52 := m52.cell
      have f52 := m52.free
      have l52 := m52.lt
      go_simp
      clear c51 f51 l51
      clear c52 f52 l52
      refine name_K ?_
      intro x69 hwx69
      have mAll : Mine x69 w0.heap.size 0 (.int .i64 a) ∧ Mine x69 w0.heap.size 1 (.int .i64 b) ∧ Mine x69 x54.heap.size 0 (.int .i64 c) ∧ Mine x69 x54.heap.size 1 (.int .i64 d) := by
        rw [hwx69]
        refine ⟨?_, ?_, ?_, ?_⟩ <;> (repeat first | with_reducible assumption | with_reducible refine Mine.drew ?_ | with_reducible refine Mine.drewN ?_ _ | ((with_reducible refine Mine.new ?_); rfl) | ((with_reducible refine Mine.newAt ?_ ?_) <;> first | rfl | (simp; done) | (simp only [World.size_alloc]; rfl)) | ((with_reducible refine Mine.set ?_ _); repeat first | exact Mine.slot (by with_reducible assumption) | with_reducible refine MineS.drew ?_ | with_reducible refine MineS.drewN ?_ _ | ((with_reducible refine MineS.new ?_); decide) | ((with_reducible refine MineS.newAt ?_ ?_) <;> first | decide | (simp; done)) | with_reducible refine MineS.set ?_ _ _ _ | with_reducible refine MineS.alloc ?_ _) | with_reducible refine Mine.other ?_ _ (by first | (left; omega) | (right; omega) | (simp; done) | (simp; omega)) | with_reducible refine Mine.alloc ?_ _)
      clear m41 m42 m51 m52
      obtain ⟨m41, m42, m51, m52⟩ := mAll
      have hBzx69 := hB.size
      replace hB : Below w.heap.size w x69 := by rw [hwx69]; exact (by repeat first | with_reducible exact Below.refl _ _ | with_reducible assumption | with_reducible refine below_drewN ?_ _ | with_reducible refine Below.drew ?_ | with_reducible refine Below.setCell ?_ (by first | exact Nat.le_refl _ | (simp; done) | (simp; omega) | omega) _ | with_reducible refine Below.alloc ?_ (by first | exact Nat.le_refl _ | (simp; done) | (simp; omega) | omega) _ | exact Below.refl _ _ | assumption)
      clear hwx69 hBzx69
      refine hK1.out _ _ hB (fun _ => ?_)
      clear hK1 K1
      (try dsimp only [Act.put, List.setIfInBounds_toArray, List.set_cons_zero, List.set_cons_succ])
      refine wpAnyH_done (by kernel_rfl) ?_ _
      exact hEnd _ _ _ hB m41 m42 m51 m52
    refine ready_l rfl (fun K1 hK1 => ?_) AllReadyH.nil
    have hle5 := hB.size
    have hne := m41.lt
    go_simp
    refine name_K ?_
    intro x70 hwx70
    have mAll : Mine x70 w0.heap.size 0 (.int .i64 0) ∧ Mine x70 w0.heap.size 1 (.int .i64 0) ∧ Mine x70 x52.heap.size 0 (.int .i64 0) ∧ Mine x70 x52.heap.size 1 (.int .i64 0) := by
      rw [hwx70]
      refine ⟨?_, ?_, ?_, ?_⟩ <;> (repeat first | with_reducible assumption | with_reducible refine Mine.drew ?_ | with_reducible refine Mine.drewN ?_ _ | ((with_reducible refine Mine.new ?_); rfl) | ((with_reducible refine Mine.newAt ?_ ?_) <;> first | rfl | (simp; done) | (simp only [World.size_alloc]; rfl)) | ((with_reducible refine Mine.set ?_ _); repeat first | exact Mine.slot (by with_reducible assumption) | with_reducible refine MineS.drew ?_ | with_reducible refine MineS.drewN ?_ _ | ((with_reducible refine MineS.new ?_); decide) | ((with_reducible refine MineS.newAt ?_ ?_) <;> first | decide | (simp; done)) | with_reducible refine MineS.set ?_ _ _ _ | with_reducible refine MineS.alloc ?_ _) | with_reducible refine Mine.other ?_ _ (by first | (left; omega) | (right; omega) | (simp; done) | (simp; omega)) | with_reducible refine Mine.alloc ?_ _)
    clear m41 m42
    obtain ⟨m41, m42, m51, m52⟩ := mAll
    have hBzx70 := hB.size
    replace hB : Below w.heap.size w x70 := by rw [hwx70]; exact (by repeat first | with_reducible exact Below.refl _ _ | with_reducible assumption | with_reducible refine below_drewN ?_ _ | with_reducible refine Below.drew ?_ | with_reducible refine Below.setCell ?_ (by first | exact Nat.le_refl _ | (simp; done) | (simp; omega) | omega) _ | with_reducible refine Below.alloc ?_ (by first | exact Nat.le_refl _ | (simp; done) | (simp; omega) | omega) _ | exact Below.refl _ _ | assumption)
    clear hwx70 hBzx70
    refine hK1.out _ _ hB (fun _ => ?_)
    clear hK1 K1
    (try dsimp only [Act.put, List.setIfInBounds_toArray, List.set_cons_zero, List.set_cons_succ])
    refine wpAnyH_ready (rs := [1]) (by kernel_rfl) (by simp) ?_
    refine ready_l rfl (fun K1 hK1 => ?_) AllReadyH.nil
    go_simp
    refine (of_valid a b _ h1).mono ?_
    rintro e x72 ⟨rfl, hb1⟩
    replace m41 := m41.below hb1
    replace m42 := m42.below hb1
    replace m51 := m51.below hb1
    replace m52 := m52.below hb1
    replace hB := hB.trans (hb1.mono hB.size)
    have hb_x72 := hb1
    clear hb1
    clear hb_x72
    refine hK1.out _ _ hB (fun _ => ?_)
    clear hK1 K1
    (try dsimp only [Act.put, List.setIfInBounds_toArray, List.set_cons_zero, List.set_cons_succ])
    refine wpAnyH_ready (rs := [3]) (by kernel_rfl) (by simp) ?_
    refine ready_l rfl (fun K1 hK1 => ?_) AllReadyH.nil
    go_simp
    refine (of_valid c d _ h2).mono ?_
    rintro e x74 ⟨rfl, hb1⟩
    replace m41 := m41.below hb1
    replace m42 := m42.below hb1
    replace m51 := m51.below hb1
    replace m52 := m52.below hb1
    replace hB := hB.trans (hb1.mono hB.size)
    have hb_x74 := hb1
    clear hb1
    clear hb_x74
    refine hK1.out _ _ hB (fun _ => ?_)
    clear hK1 K1
    (try dsimp only [Act.put, List.setIfInBounds_toArray, List.set_cons_zero, List.set_cons_succ])
    refine wpAnyH_ready (rs := [6]) (by kernel_rfl) (by simp) ?_
    refine ready_l rfl (fun K1 hK1 => ?_) AllReadyH.nil
    have c41 := m41.cell
    have f41 := m41.free
    have l41 := m41.lt
    have c42 := m42.cell
    have f42 := m42.free
    have l42 := m42.lt
    go_simp
    clear c41 f41 l41
    clear c42 f42 l42
    refine name_K ?_
    intro x76 hwx76
    have mAll : Mine x76 w0.heap.size 0 (.int .i64 a) ∧ Mine x76 w0.heap.size 1 (.int .i64 b) ∧ Mine x76 x52.heap.size 0 (.int .i64 0) ∧ Mine x76 x52.heap.size 1 (.int .i64 0) := by
      rw [hwx76]
      refine ⟨?_, ?_, ?_, ?_⟩ <;> (repeat first | with_reducible assumption | with_reducible refine Mine.drew ?_ | with_reducible refine Mine.drewN ?_ _ | ((with_reducible refine Mine.new ?_); rfl) | ((with_reducible refine Mine.newAt ?_ ?_) <;> first | rfl | (simp; done) | (simp only [World.size_alloc]; rfl)) | ((with_reducible refine Mine.set ?_ _); repeat first | exact Mine.slot (by with_reducible assumption) | with_reducible refine MineS.drew ?_ | with_reducible refine MineS.drewN ?_ _ | ((with_reducible refine MineS.new ?_); decide) | ((with_reducible refine MineS.newAt ?_ ?_) <;> first | decide | (simp; done)) | with_reducible refine MineS.set ?_ _ _ _ | with_reducible refine MineS.alloc ?_ _) | with_reducible refine Mine.other ?_ _ (by first | (left; omega) | (right; omega) | (simp; done) | (simp; omega)) | with_reducible refine Mine.alloc ?_ _)
    clear m41 m42 m51 m52
    obtain ⟨m41, m42, m51, m52⟩ := mAll
    have hBzx76 := hB.size
    replace hB : Below w.heap.size w x76 := by rw [hwx76]; exact (by repeat first | with_reducible exact Below.refl _ _ | with_reducible assumption | with_reducible refine below_drewN ?_ _ | with_reducible refine Below.drew ?_ | with_reducible refine Below.setCell ?_ (by first | exact Nat.le_refl _ | (simp; done) | (simp; omega) | omega) _ | with_reducible refine Below.alloc ?_ (by first | exact Nat.le_refl _ | (simp; done) | (simp; omega) | omega) _ | exact Below.refl _ _ | assumption)
    clear hwx76 hBzx76
    refine hK1.out _ _ hB (fun _ => ?_)
    clear hK1 K1
    (try dsimp only [Act.put, List.setIfInBounds_toArray, List.set_cons_zero, List.set_cons_succ])
    refine wpAnyH_ready (rs := [7]) (by kernel_rfl) (by simp) ?_
    refine ready_l rfl (fun K1 hK1 => ?_) AllReadyH.nil
    have c51 := m51.cell
    have f51 := m51.free
    have l51 := m51.lt
    have c52 := m52.cell
    have f52 := m52.free
    have l52 := m52.lt
    go_simp
    clear c51 f51 l51
    clear c52 f52 l52
    refine name_K ?_
    intro x78 hwx78
    have mAll : Mine x78 w0.heap.size 0 (.int .i64 a) ∧ Mine x78 w0.heap.size 1 (.int .i64 b) ∧ Mine x78 x52.heap.size 0 (.int .i64 c) ∧ Mine x78 x52.heap.size 1 (.int .i64 d) := by
      rw [hwx78]
      refine ⟨?_, ?_, ?_, ?_⟩ <;> (repeat first | with_reducible assumption | with_reducible refine Mine.drew ?_ | with_reducible refine Mine.drewN ?_ _ | ((with_reducible refine Mine.new ?_); rfl) | ((with_reducible refine Mine.newAt ?_ ?_) <;> first | rfl | (simp; done) | (simp only [World.size_alloc]; rfl)) | ((with_reducible refine Mine.set ?_ _); repeat first | exact Mine.slot (by with_reducible assumption) | with_reducible refine MineS.drew ?_ | with_reducible refine MineS.drewN ?_ _ | ((with_reducible refine MineS.new ?_); decide) | ((with_reducible refine MineS.newAt ?_ ?_) <;> first | decide | (simp; done)) | with_reducible refine MineS.set ?_ _ _ _ | with_reducible refine MineS.alloc ?_ _) | with_reducible refine Mine.other ?_ _ (by first | (left; omega) | (right; omega) | (simp; done) | (simp; omega)) | with_reducible refine Mine.alloc ?_ _)
    clear m41 m42 m51 m52
    obtain ⟨m41, m42, m51, m52⟩ := mAll
    have hBzx78 := hB.size
    replace hB : Below w.heap.size w x78 := by rw [hwx78]; exact (by repeat first | with_reducible exact Below.refl _ _ | with_reducible assumption | with_reducible refine below_drewN ?_ _ | with_reducible refine Below.drew ?_ | with_reducible refine Below.setCell ?_ (by first | exact Nat.le_refl _ | (simp; done) | (simp; omega) | omega) _ | with_reducible refine Below.alloc ?_ (by first | exact Nat.le_refl _ | (simp; done) | (simp; omega) | omega) _ | exact Below.refl _ _ | assumption)
    clear hwx78 hBzx78
    refine hK1.out _ _ hB (fun _ => ?_)
    clear hK1 K1
    (try dsimp only [Act.put, List.setIfInBounds_toArray, List.set_cons_zero, List.set_cons_succ])
    refine wpAnyH_done (by kernel_rfl) ?_ _
    exact hEnd _ _ _ hB m41 m42 m51 m52
  refine ready_l rfl (fun K1 hK1 => ?_) AllReadyH.nil
  have hle5 := hB.size
  go_simp
  refine name_K ?_
  intro x79 hwx79
  have mAll : Mine x79 w0.heap.size 0 (.int .i64 0) ∧ Mine x79 w0.heap.size 1 (.int .i64 0) := by
    rw [hwx79]
    refine ⟨?_, ?_⟩ <;> (repeat first | with_reducible assumption | with_reducible refine Mine.drew ?_ | with_reducible refine Mine.drewN ?_ _ | ((with_reducible refine Mine.new ?_); rfl) | ((with_reducible refine Mine.newAt ?_ ?_) <;> first | rfl | (simp; done) | (simp only [World.size_alloc]; rfl)) | ((with_reducible refine Mine.set ?_ _); repeat first | exact Mine.slot (by with_reducible assumption) | with_reducible refine MineS.drew ?_ | with_reducible refine MineS.drewN ?_ _ | ((with_reducible refine MineS.new ?_); decide) | ((with_reducible refine MineS.newAt ?_ ?_) <;> first | decide | (simp; done)) | with_reducible refine MineS.set ?_ _ _ _ | with_reducible refine MineS.alloc ?_ _) | with_reducible refine Mine.other ?_ _ (by first | (left; omega) | (right; omega) | (simp; done) | (simp; omega)) | with_reducible refine Mine.alloc ?_ _)
  obtain ⟨m51, m52⟩ := mAll
  have hBzx79 := hB.size
  replace hB : Below w.heap.size w x79 := by rw [hwx79]; exact (by repeat first | with_reducible exact Below.refl _ _ | with_reducible assumption | with_reducible refine below_drewN ?_ _ | with_reducible refine Below.drew ?_ | with_reducible refine Below.setCell ?_ (by first | exact Nat.le_refl _ | (simp; done) | (simp; omega) | omega) _ | with_reducible refine Below.alloc ?_ (by first | exact Nat.le_refl _ | (simp; done) | (simp; omega) | omega) _ | exact Below.refl _ _ | assumption)
  clear hwx79 hBzx79
  refine hK1.out _ _ hB (fun _ => ?_)
  clear hK1 K1
  (try dsimp only [Act.put, List.setIfInBounds_toArray, List.set_cons_zero, List.set_cons_succ])
  refine wpAnyH_ready (rs := [1, 4]) (by kernel_rfl) (by simp) ?_
  refine ready_l rfl (fun K1 hK1 => ?_) ?_
  · skip
    go_simp
    refine (of_valid a b _ h1).mono ?_
    rintro e x81 ⟨rfl, hb1⟩
    replace m51 := m51.below hb1
    replace m52 := m52.below hb1
    replace hB := hB.trans (hb1.mono hB.size)
    have hb_x81 := hb1
    clear hb1
    clear hb_x81
    refine hK1.out _ _ hB (fun _ => ?_)
    clear hK1 K1
    (try dsimp only [Act.put, List.setIfInBounds_toArray, List.set_cons_zero, List.set_cons_succ])
    refine wpAnyH_ready (rs := [3, 4]) (by kernel_rfl) (by simp) ?_
    refine ready_l rfl (fun K1 hK1 => ?_) ?_
    · skip
      go_simp
      refine (of_valid c d _ h2).mono ?_
      rintro e x83 ⟨rfl, hb1⟩
      replace m51 := m51.below hb1
      replace m52 := m52.below hb1
      replace hB := hB.trans (hb1.mono hB.size)
      have hb_x83 := hb1
      clear hb1
      clear hb_x83
      refine hK1.out _ _ hB (fun _ => ?_)
      clear hK1 K1
      (try dsimp only [Act.put, List.setIfInBounds_toArray, List.set_cons_zero, List.set_cons_succ])
      refine wpAnyH_ready (rs := [4]) (by kernel_rfl) (by simp) ?_
      refine ready_l rfl (fun K1 hK1 => ?_) AllReadyH.nil
      have hle4 := hB.size
      have hne := m51.lt
      go_simp
      refine name_K ?_
      intro x85 hwx85
      have mAll : Mine x85 w0.heap.size 0 (.int .i64 0) ∧ Mine x85 w0.heap.size 1 (.int .i64 0) ∧ Mine x85 x83.heap.size 0 (.int .i64 0) ∧ Mine x85 x83.heap.size 1 (.int .i64 0) := by
        rw [hwx85]
        refine ⟨?_, ?_, ?_, ?_⟩ <;> (repeat first | with_reducible assumption | with_reducible refine Mine.drew ?_ | with_reducible refine Mine.drewN ?_ _ | ((with_reducible refine Mine.new ?_); rfl) | ((with_reducible refine Mine.newAt ?_ ?_) <;> first | rfl | (simp; done) | (simp only [World.size_alloc]; rfl)) | ((with_reducible refine Mine.set ?_ _); repeat first | exact Mine.slot (by with_reducible assumption) | with_reducible refine MineS.drew ?_ | with_reducible refine MineS.drewN ?_ _ | ((with_reducible refine MineS.new ?_); decide) | ((with_reducible refine MineS.newAt ?_ ?_) <;> first | decide | (simp; done)) | with_reducible refine MineS.set ?_ _ _ _ | with_reducible refine MineS.alloc ?_ _) | with_reducible refine Mine.other ?_ _ (by first | (left; omega) | (right; omega) | (simp; done) | (simp; omega)) | with_reducible refine Mine.alloc ?_ _)
      clear m51 m52
      obtain ⟨m51, m52, m41, m42⟩ := mAll
      have hBzx85 := hB.size
      replace hB : Below w.heap.size w x85 := by rw [hwx85]; exact (by repeat first | with_reducible exact Below.refl _ _ | with_reducible assumption | with_reducible refine below_drewN ?_ _ | with_reducible refine Below.drew ?_ | with_reducible refine Below.setCell ?_ (by first | exact Nat.le_refl _ | (simp; done) | (simp; omega) | omega) _ | with_reducible refine Below.alloc ?_ (by first | exact Nat.le_refl _ | (simp; done) | (simp; omega) | omega) _ | exact Below.refl _ _ | assumption)
      clear hwx85 hBzx85
      refine hK1.out _ _ hB (fun _ => ?_)
      clear hK1 K1
      (try dsimp only [Act.put, List.setIfInBounds_toArray, List.set_cons_zero, List.set_cons_succ])
      refine wpAnyH_ready (rs := [6]) (by kernel_rfl) (by simp) ?_
      refine ready_l rfl (fun K1 hK1 => ?_) AllReadyH.nil
      have c41 := m41.cell
      have f41 := m41.free
      have l41 := m41.lt
      have c42 := m42.cell
      have f42 := m42.free
      have l42 := m42.lt
      go_simp
      clear c41 f41 l41
      clear c42 f42 l42
      refine name_K ?_
      intro x87 hwx87
      have mAll : Mine x87 w0.heap.size 0 (.int .i64 0) ∧ Mine x87 w0.heap.size 1 (.int .i64 0) ∧ Mine x87 x83.heap.size 0 (.int .i64 a) ∧ Mine x87 x83.heap.size 1 (.int .i64 b) := by
        rw [hwx87]
        refine ⟨?_, ?_, ?_, ?_⟩ <;> (repeat first | with_reducible assumption | with_reducible refine Mine.drew ?_ | with_reducible refine Mine.drewN ?_ _ | ((with_reducible refine Mine.new ?_); rfl) | ((with_reducible refine Mine.newAt ?_ ?_) <;> first | rfl | (simp; done) | (simp only [World.size_alloc]; rfl)) | ((with_reducible refine Mine.set ?_ _); repeat first | exact Mine.slot (by with_reducible assumption) | with_reducible refine MineS.drew ?_ | with_reducible refine MineS.drewN ?_ _ | ((with_reducible refine MineS.new ?_); decide) | ((with_reducible refine MineS.newAt ?_ ?_) <;> first | decide | (simp; done)) | with_reducible refine MineS.set ?_ _ _ _ | with_reducible refine MineS.alloc ?_ _) | with_reducible refine Mine.other ?_ _ (by first | (left; omega) | (right; omega) | (simp; done) | (simp; omega)) | with_reducible refine Mine.alloc ?_ _)
      clear m51 m52 m41 m42
      obtain ⟨m51, m52, m41, m42⟩ := mAll
      have hBzx87 := hB.size
      replace hB : Below w.heap.size w x87 := by rw [hwx87]; exact (by repeat first | with_reducible exact Below.refl _ _ | with_reducible assumption | with_reducible refine below_drewN ?_ _ | with_reducible refine Below.drew ?_ | with_reducible refine Below.setCell ?_ (by first | exact Nat.le_refl _ | (simp; done) | (simp; omega) | omega) _ | with_reducible refine Below.alloc ?_ (by first | exact Nat.le_refl _ | (simp; done) | (simp; omega) | omega) _ | exact Below.refl _ _ | assumption)
      clear hwx87 hBzx87
      refine hK1.out _ _ hB (fun _ => ?_)
      clear hK1 K1
      (try dsimp only [Act.put, List.setIfInBounds_toArray, List.set_cons_zero, List.set_cons_succ])
      refine wpAnyH_ready (rs := [7]) (by kernel_rfl) (by simp) ?_
      refine ready_l rfl (fun K1 hK1 => ?_) AllReadyH.nil
      have c51 := m51.cell
      have f51 := m51.free
      have l51 := m51.lt
      have c52 := m52.cell
      have f52 := m52.free
      have l52 := m52.lt
      go_simp
      clear c51 f51 l51
      clear c52 f52 l52
      refine name_K ?_
      intro x89 hwx89
      have mAll : Mine x89 w0.heap.size 0 (.int .i64 c) ∧ Mine x89 w0.heap.size 1 (.int .i64 d) ∧ Mine x89 x83.heap.size 0 (.int .i64 a) ∧ Mine x89 x83.heap.size 1 (.int .i64 b) := by
        rw [hwx89]
        refine ⟨?_, ?_, ?_, ?_⟩ <;> (repeat first | with_reducible assumption | with_reducible refine Mine.drew ?_ | with_reducible refine Mine.drewN ?_ _ | ((with_reducible refine Mine.new ?_); rfl) | ((with_reducible refine Mine.newAt ?_ ?_) <;> first | rfl | (simp; done) | (simp only [World.size_alloc]; rfl)) | ((with_reducible refine Mine.set ?_ _); repeat first | exact Mine.slot (by with_reducible assumption) | with_reducible refine MineS.drew ?_ | with_reducible refine MineS.drewN ?_ _ | ((with_reducible refine MineS.new ?_); decide) | ((with_reducible refine MineS.newAt ?_ ?_) <;> first | decide | (simp; done)) | with_reducible refine MineS.set ?_ _ _ _ | with_reducible refine MineS.alloc ?_ _) | with_reducible refine Mine.other ?_ _ (by first | (left; omega) | (right; omega) | (simp; done) | (simp; omega)) | with_reducible refine Mine.alloc ?_ _)
      clear m51 m52 m41 m42
      obtain ⟨m51, m52, m41, m42⟩ := mAll
      have hBzx89 := hB.size
      replace hB : Below w.heap.size w x89 := by rw [hwx89]; exact (by repeat first | with_reducible exact Below.refl _ _ | with_reducible assumption | with_reducible refine below_drewN ?_ _ | with_reducible refine Below.drew ?_ | with_reducible refine Below.setCell ?_ (by first | exact Nat.le_refl _ | (simp; done) | (simp; omega) | omega) _ | with_reducible refine Below.alloc ?_ (by first | exact Nat.le_refl _ | (simp; done) | (simp; omega) | omega) _ | exact Below.refl _ _ | assumption)
      clear hwx89 hBzx89
      refine hK1.out _ _ hB (fun _ => ?_)
      clear hK1 K1
      (try dsimp only [Act.put, List.setIfInBounds_toArray, List.set_cons_zero, List.set_cons_succ])
      refine wpAnyH_done (by kernel_rfl) ?_ _
      exact hEnd _ _ _ hB m41 m42 m51 m52
    refine ready_l rfl (fun K1 hK1 => ?_) AllReadyH.nil
    have hle4 := hB.size
    have hne := m51.lt
    go_simp
    refine name_K ?_
    intro x90 hwx90
    have mAll : Mine x90 w0.heap.size 0 (.int .i64 0) ∧ Mine x90 w0.heap.size 1 (.int .i64 0) ∧ Mine x90 x81.heap.size 0 (.int .i64 0) ∧ Mine x90 x81.heap.size 1 (.int .i64 0) := by
      rw [hwx90]
      refine ⟨?_, ?_, ?_, ?_⟩ <;> (repeat first | with_reducible assumption | with_reducible refine Mine.drew ?_ | with_reducible refine Mine.drewN ?_ _ | ((with_reducible refine Mine.new ?_); rfl) | ((with_reducible refine Mine.newAt ?_ ?_) <;> first | rfl | (simp; done) | (simp only [World.size_alloc]; rfl)) | ((with_reducible refine Mine.set ?_ _); repeat first | exact Mine.slot (by with_reducible assumption) | with_reducible refine MineS.drew ?_ | with_reducible refine MineS.drewN ?_ _ | ((with_reducible refine MineS.new ?_); decide) | ((with_reducible refine MineS.newAt ?_ ?_) <;> first | decide | (simp; done)) | with_reducible refine MineS.set ?_ _ _ _ | with_reducible refine MineS.alloc ?_ _) | with_reducible refine Mine.other ?_ _ (by first | (left; omega) | (right; omega) | (simp; done) | (simp; omega)) | with_reducible refine Mine.alloc ?_ _)
    clear m51 m52
    obtain ⟨m51, m52, m41, m42⟩ := mAll
    have hBzx90 := hB.size
    replace hB : Below w.heap.size w x90 := by rw [hwx90]; exact (by repeat first | with_reducible exact Below.refl _ _ | with_reducible assumption | with_reducible refine below_drewN ?_ _ | with_reducible refine Below.drew ?_ | with_reducible refine Below.setCell ?_ (by first | exact Nat.le_refl _ | (simp; done) | (simp; omega) | omega) _ | with_reducible refine Below.alloc ?_ (by first | exact Nat.le_refl _ | (simp; done) | (simp; omega) | omega) _ | exact Below.refl _ _ | assumption)
    clear hwx90 hBzx90
    refine hK1.out _ _ hB (fun _ => ?_)
    clear hK1 K1
    (try dsimp only [Act.put, List.setIfInBounds_toArray, List.set_cons_zero, List.set_cons_succ])
    refine wpAnyH_ready (rs := [3]) (by kernel_rfl) (by simp) ?_
    refine ready_l rfl (fun K1 hK1 => ?_) AllReadyH.nil
    go_simp
    refine (of_valid c d _ h2).mono ?_
    rintro e x92 ⟨rfl, hb1⟩
    replace m51 := m51.below hb1
    replace m52 := m52.below hb1
    replace m41 := m41.below hb1
    replace m42 := m42.below hb1
    replace hB := hB.trans (hb1.mono hB.size)
    have hb_x92 := hb1
    clear hb1
    clear hb_x92
    refine hK1.out _ _ hB (fun _ => ?_)
    clear hK1 K1
    (try dsimp only [Act.put, List.setIfInBounds_toArray, List.set_cons_zero, List.set_cons_succ])
    refine wpAnyH_ready (rs := [6]) (by kernel_rfl) (by simp) ?_
    refine ready_l rfl (fun K1 hK1 => ?_) AllReadyH.nil
    have c41 := m41.cell
    have f41 := m41.free
    have l41 := m41.lt
    have c42 := m42.cell
    have f42 := m42.free
    have l42 := m42.lt
    go_simp
    clear c41 f41 l41
    clear c42 f42 l42
    refine name_K ?_
    intro x94 hwx94
    have mAll : Mine x94 w0.heap.size 0 (.int .i64 0) ∧ Mine x94 w0.heap.size 1 (.int .i64 0) ∧ Mine x94 x81.heap.size 0 (.int .i64 a) ∧ Mine x94 x81.heap.size 1 (.int .i64 b) := by
      rw [hwx94]
      refine ⟨?_, ?_, ?_, ?_⟩ <;> (repeat first | with_reducible assumption | with_reducible refine Mine.drew ?_ | with_reducible refine Mine.drewN ?_ _ | ((with_reducible refine Mine.new ?_); rfl) | ((with_reducible refine Mine.newAt ?_ ?_) <;> first | rfl | (simp; done) | (simp only [World.size_alloc]; rfl)) | ((with_reducible refine Mine.set ?_ _); repeat first | exact Mine.slot (by with_reducible assumption) | with_reducible refine MineS.drew ?_ | with_reducible refine MineS.drewN ?_ _ | ((with_reducible refine MineS.new ?_); decide) | ((with_reducible refine MineS.newAt ?_ ?_) <;> first | decide | (simp; done)) | with_reducible refine MineS.set ?_ _ _ _ | with_reducible refine MineS.alloc ?_ _) | with_reducible refine Mine.other ?_ _ (by first | (left; omega) | (right; omega) | (simp; done) | (simp; omega)) | with_reducible refine Mine.alloc ?_ _)
    clear m51 m52 m41 m42
    obtain ⟨m51, m52, m41, m42⟩ := mAll
    have hBzx94 := hB.size
    replace hB : Below w.heap.size w x94 := by rw [hwx94]; exact (by repeat first | with_reducible exact Below.refl _ _ | with_reducible assumption | with_reducible refine below_drewN ?_ _ | with_reducible refine Below.drew ?_ | with_reducible refine Below.setCell ?_ (by first | exact Nat.le_refl _ | (simp; done) | (simp; omega) | omega) _ | with_reducible refine Below.alloc ?_ (by first | exact Nat.le_refl _ | (simp; done) | (simp; omega) | omega) _ | exact Below.refl _ _ | assumption)
    clear hwx94 hBzx94
    refine hK1.out _ _ hB (fun _ => ?_)
    clear hK1 K1
    (try dsimp only [Act.put, List.setIfInBounds_toArray, List.set_cons_zero, List.set_cons_succ])
    refine wpAnyH_ready (rs := [7]) (by kernel_rfl) (by simp) ?_
    refine ready_l rfl (fun K1 hK1 => ?_) AllReadyH.nil
    have c51 := m51.cell
    have f51 := m51.free
    have l51 := m51.lt
    have c52 := m52.cell
    have f52 := m52.free
    have l52 := m52.lt
    go_simp
    clear c51 f51 l51
    clear c52 f52 l52
    refine name_K ?_
    intro x96 hwx96
    have mAll : Mine x96 w0.heap.size 0 (.int .i64 c) ∧ Mine x96 w0.heap.size 1 (.int .i64 d) ∧ Mine x96 x81.heap.size 0 (.int .i64 a) ∧ Mine x96 x81.heap.size 1 (.int .i64 b) := by
      rw [hwx96]
      refine ⟨?_, ?_, ?_, ?_⟩ <;> (repeat first | with_reducible assumption | with_reducible refine Mine.drew ?_ | with_reducible refine Mine.drewN ?_ _ | ((with_reducible refine Mine.new ?_); rfl) | ((with_reducible refine Mine.newAt ?_ ?_) <;> first | rfl | (simp; done) | (simp only [World.size_alloc]; rfl)) | ((with_reducible refine Mine.set ?_ _); repeat first | exact Mine.slot (by with_reducible assumption) | with_reducible refine MineS.drew ?_ | with_reducible refine MineS.drewN ?_ _ | ((with_reducible refine MineS.new ?_); decide) | ((with_reducible refine MineS.newAt ?_ ?_) <;> first | decide | (simp; done)) | with_reducible refine MineS.set ?_ _ _ _ | with_reducible refine MineS.alloc ?_ _) | with_reducible refine Mine.other ?_ _ (by first | (left; omega) | (right; omega) | (simp; done) | (simp; omega)) | with_reducible refine Mine.alloc ?_ _)
    clear m51 m52 m41 m42
    obtain ⟨m51, m52, m41, m42⟩ := mAll
    have hBzx96 := hB.size
    replace hB : Below w.heap.size w x96 := by rw [hwx96]; exact (by repeat first | with_reducible exact Below.refl _ _ | with_reducible assumption | with_reducible refine below_drewN ?_ _ | with_reducible refine Below.drew ?_ | with_reducible refine Below.setCell ?_ (by first | exact Nat.le_refl _ | (simp; done) | (simp; omega) | omega) _ | with_reducible refine Below.alloc ?_ (by first | exact Nat.le_refl _ | (simp; done) | (simp; omega) | omega) _ | exact Below.refl _ _ | assumption)
    clear hwx96 hBzx96
    refine hK1.out _ _ hB (fun _ => ?_)
    clear hK1 K1
    (try dsimp only [Act.put, List.setIfInBounds_toArray, List.set_cons_zero, List.set_cons_succ])
    refine wpAnyH_done (by kernel_rfl) ?_ _
    exact hEnd _ _ _ hB m41 m42 m51 m52
  refine ready_l rfl (fun K1 hK1 => ?_) AllReadyH.nil
  have hle4 := hB.size
  have hne := m51.lt
  go_simp
  refine name_K ?_
  intro x97 hwx97
  have mAll : Mine x97 w0.heap.size 0 (.int .i64 0) ∧ Mine x97 w0.heap.size 1 (.int .i64 0) ∧ Mine x97 x79.heap.size 0 (.int .i64 0) ∧ Mine x97 x79.heap.size 1 (.int .i64 0) := by
    rw [hwx97]
    refine ⟨?_, ?_, ?_, ?_⟩ <;> (repeat first | with_reducible assumption | with_reducible refine Mine.drew ?_ | with_reducible refine Mine.drewN ?_ _ | ((with_reducible refine Mine.new ?_); rfl) | ((with_reducible refine Mine.newAt ?_ ?_) <;> first | rfl | (simp; done) | (simp only [World.size_alloc]; rfl)) | ((with_reducible refine Mine.set ?_ _); repeat first | exact Mine.slot (by with_reducible assumption) | with_reducible refine MineS.drew ?_ | with_reducible refine MineS.drewN ?_ _ | ((with_reducible refine MineS.new ?_); decide) | ((with_reducible refine MineS.newAt ?_ ?_) <;> first | decide | (simp; done)) | with_reducible refine MineS.set ?_ _ _ _ | with_reducible refine MineS.alloc ?_ _) | with_reducible refine Mine.other ?_ _ (by first | (left; omega) | (right; omega) | (simp; done) | (simp; omega)) | with_reducible refine Mine.alloc ?_ _)
  clear m51 m52
  obtain ⟨m51, m52, m41, m42⟩ := mAll
  have hBzx97 := hB.size
  replace hB : Below w.heap.size w x97 := by rw [hwx97]; exact (by repeat first | with_reducible exact Below.refl _ _ | with_reducible assumption | with_reducible refine below_drewN ?_ _ | with_reducible refine Below.drew ?_ | with_reducible refine Below.setCell ?_ (by first | exact Nat.le_refl _ | (simp; done) | (simp; omega) | omega) _ | with_reducible refine Below.alloc ?_ (by first | exact Nat.le_refl _ | (simp; done) | (simp; omega) | omega) _ | exact Below.refl _ _ | assumption)
  clear hwx97 hBzx97
  refine hK1.out _ _ hB (fun _ => ?_)
  clear hK1 K1
  (try dsimp only [Act.put, List.setIfInBounds_toArray, List.set_cons_zero, List.set_cons_succ])
  refine wpAnyH_ready (rs := [1]) (by kernel_rfl) (by simp) ?_
  refine ready_l rfl (fun K1 hK1 => ?_) AllReadyH.nil
  go_simp
  refine (of_valid a b _ h1).mono ?_
  rintro e x99 ⟨rfl, hb1⟩
  replace m51 := m51.below hb1
  replace m52 := m52.below hb1
  replace m41 := m41.below hb1
  replace m42 := m42.below hb1
  replace hB := hB.trans (hb1.mono hB.size)
  have hb_x99 := hb1
  clear hb1
  clear hb_x99
  refine hK1.out _ _ hB (fun _ => ?_)
  clear hK1 K1
  (try dsimp only [Act.put, List.setIfInBounds_toArray, List.set_cons_zero, List.set_cons_succ])
  refine wpAnyH_ready (rs := [3]) (by kernel_rfl) (by simp) ?_
  refine ready_l rfl (fun K1 hK1 => ?_) AllReadyH.nil
  go_simp
  refine (of_valid c d _ h2).mono ?_
  rintro e x101 ⟨rfl, hb1⟩
  replace m51 := m51.below hb1
  replace m52 := m52.below hb1
  replace m41 := m41.below hb1
  replace m42 := m42.below hb1
  replace hB := hB.trans (hb1.mono hB.size)
  have hb_x101 := hb1
  clear hb1
  clear hb_x101
  refine hK1.out _ _ hB (fun _ => ?_)
  clear hK1 K1
  (try dsimp only [Act.put, List.setIfInBounds_toArray, List.set_cons_zero, List.set_cons_succ])
  refine wpAnyH_ready (rs := [6]) (by kernel_rfl) (by simp) ?_
  refine ready_l rfl (fun K1 hK1 => ?_) AllReadyH.nil
  have c41 := m41.cell
  have f41 := m41.free
  have l41 := m41.lt
  have c42 := m42.cell
  have f42 := m42.free
  have l42 := m42.lt
  go_simp
  clear c41 f41 l41
  clear c42 f42 l42
  refine name_K ?_
  intro x103 hwx103
  have mAll : Mine x103 w0.heap.size 0 (.int .i64 0) ∧ Mine x103 w0.heap.size 1 (.int .i64 0) ∧ Mine x103 x79.heap.size 0 (.int .i64 a) ∧ Mine x103 x79.heap.size 1 (.int .i64 b) := by
    rw [hwx103]
    refine ⟨?_, ?_, ?_, ?_⟩ <;> (repeat first | with_reducible assumption | with_reducible refine Mine.drew ?_ | with_reducible refine Mine.drewN ?_ _ | ((with_reducible refine Mine.new ?_); rfl) | ((with_reducible refine Mine.newAt ?_ ?_) <;> first | rfl | (simp; done) | (simp only [World.size_alloc]; rfl)) | ((with_reducible refine Mine.set ?_ _); repeat first | exact Mine.slot (by with_reducible assumption) | with_reducible refine MineS.drew ?_ | with_reducible refine MineS.drewN ?_ _ | ((with_reducible refine MineS.new ?_); decide) | ((with_reducible refine MineS.newAt ?_ ?_) <;> first | decide | (simp; done)) | with_reducible refine MineS.set ?_ _ _ _ | with_reducible refine MineS.alloc ?_ _) | with_reducible refine Mine.other ?_ _ (by first | (left; omega) | (right; omega) | (simp; done) | (simp; omega)) | with_reducible refine Mine.alloc ?_ _)
  clear m51 m52 m41 m42
  obtain ⟨m51, m52, m41, m42⟩ := mAll
  have hBzx103 := hB.size
  replace hB : Below w.heap.size w x103 := by rw [hwx103]; exact (by repeat first | with_reducible exact Below.refl _ _ | with_reducible assumption | with_reducible refine below_drewN ?_ _ | with_reducible refine Below.drew ?_ | with_reducible refine Below.setCell ?_ (by first | exact Nat.le_refl _ | (simp; done) | (simp; omega) | omega) _ | with_reducible refine Below.alloc ?_ (by first | exact Nat.le_refl _ | (simp; done) | (simp; omega) | omega) _ | exact Below.refl _ _ | assumption)
  clear hwx103 hBzx103
  refine hK1.out _ _ hB (fun _ => ?_)
  clear hK1 K1
  (try dsimp only [Act.put, List.setIfInBounds_toArray, List.set_cons_zero, List.set_cons_succ])
  refine wpAnyH_ready (rs := [7]) (by kernel_rfl) (by simp) ?_
  refine ready_l rfl (fun K1 hK1 => ?_) AllReadyH.nil
  have c51 := m51.cell
  have f51 := m51.free
  have l51 := m51.lt
  have c52 := m52.cell
  have f52 := m52.free
  have l52 := m52.lt
  go_simp
  clear c51 f51 l51
  clear c52 f52 l52
  refine name_K ?_
  intro x105 hwx105
  have mAll : Mine x105 w0.heap.size 0 (.int .i64 c) ∧ Mine x105 w0.heap.size 1 (.int .i64 d) ∧ Mine x105 x79.heap.size 0 (.int .i64 a) ∧ Mine x105 x79.heap.size 1 (.int .i64 b) := by
    rw [hwx105]
    refine ⟨?_, ?_, ?_, ?_⟩ <;> (repeat first | with_reducible assumption | with_reducible refine Mine.drew ?_ | with_reducible refine Mine.drewN ?_ _ | ((with_reducible refine Mine.new ?_); rfl) | ((with_reducible refine Mine.newAt ?_ ?_) <;> first | rfl | (simp; done) | (simp only [World.size_alloc]; rfl)) | ((with_reducible refine Mine.set ?_ _); repeat first | exact Mine.slot (by with_reducible assumption) | with_reducible refine MineS.drew ?_ | with_reducible refine MineS.drewN ?_ _ | ((with_reducible refine MineS.new ?_); decide) | ((with_reducible refine MineS.newAt ?_ ?_) <;> first | decide | (simp; done)) | with_reducible refine MineS.set ?_ _ _ _ | with_reducible refine MineS.alloc ?_ _) | with_reducible refine Mine.other ?_ _ (by first | (left; omega) | (right; omega) | (simp; done) | (simp; omega)) | with_reducible refine Mine.alloc ?_ _)
  clear m51 m52 m41 m42
  obtain ⟨m51, m52, m41, m42⟩ := mAll
  have hBzx105 := hB.size
  replace hB : Below w.heap.size w x105 := by rw [hwx105]; exact (by repeat first | with_reducible exact Below.refl _ _ | with_reducible assumption | with_reducible refine below_drewN ?_ _ | with_reducible refine Below.drew ?_ | with_reducible refine Below.setCell ?_ (by first | exact Nat.le_refl _ | (simp; done) | (simp; omega) | omega) _ | with_reducible refine Below.alloc ?_ (by first | exact Nat.le_refl _ | (simp; done) | (simp; omega) | omega) _ | exact Below.refl _ _ | assumption)
  clear hwx105 hBzx105
  refine hK1.out _ _ hB (fun _ => ?_)
  clear hK1 K1
  (try dsimp only [Act.put, List.setIfInBounds_toArray, List.set_cons_zero, List.set_cons_succ])
  refine wpAnyH_done (by kernel_rfl) ?_ _
  exact hEnd _ _ _ hB m41 m42 m51 m52
end Go.Proofs.YtfojgdlegojdgaaDoor
