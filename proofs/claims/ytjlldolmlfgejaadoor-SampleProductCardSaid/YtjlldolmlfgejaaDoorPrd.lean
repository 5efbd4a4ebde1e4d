/-
  The walk of SampleProduct.
-/
import Derived.Test.YtjlldolmlfgejaaDoorSane
import Derived.Test.YtjlldolmlfgejaaDoorMath5
import Derived.Test.YtjlldolmlfgejaaDoorFit2
namespace Go.Proofs.YtjlldolmlfgejaaDoor
open Go.RowKit

/-- Between two rounds: no hit among the first i. -/
def PrdRel (W0 : World) (n bad k b8 : Nat) (v : Value) (wr : World) : Prop :=
  ∃ i : Nat, i ≤ k ∧ v = .int .i64 i ∧ Mine wr b8 0 (.int .i64 (missv n bad i).1) ∧ Mine wr b8 1 (.int .i64 (missv n bad i).2.1) ∧ Below W0.heap.size W0 wr

theorem name_prd {W0 W : World} {n bad k b8 : Nat} {v : Value} (h : ∀ w', w' = W → PrdRel W0 n bad k b8 v w') : PrdRel W0 n bad k b8 v W := h W rfl

set_option maxRecDepth 100000 in
set_option maxHeartbeats 4000000 in
theorem PrdLaw_any (a0 a1 a2 : Int) (w : World) (i0 : I64 a0) (i1 : I64 a1) (i2 : I64 a2) (hG : w.rangeAt 0 0 (u32s KS)) :
    Calls Tryd.prog 10 #[.int .i64 a0, .int .i64 a1, .int .i64 a2] w fun e w' => e = .returned (.bool true) ∧ Below w.heap.size w w' := by
  have hB : Below w.heap.size w w := Below.refl _ _
  have p0 := pick_any a0 24
  have hm := pickv_lt a0 24 (by omega)
  generalize pickv a0 24 = m at *
  have p1 := pick_any a1 (1 + m + 1)
  have hb := pickv_lt a1 (1 + m + 1) (by omega)
  generalize pickv a1 (1 + m + 1) = bad at *
  have p2 := pick_any a2 (1 + m + 1)
  have hk := pickv_lt a2 (1 + m + 1) (by omega)
  generalize pickv a2 (1 + m + 1) = k at *
  obtain ⟨n, hn⟩ : ∃ n, n = 1 + m := ⟨_, rfl⟩
  rw [← hn] at p1 p2 hb hk
  have hn1 : 1 ≤ n := by omega
  have hn24 : n ≤ 24 := by omega
  have hb' : bad ≤ n := by omega
  have hk' : k ≤ n := by omega
  have D0 := Detect_any n bad k
  rw [detv_in hn1 hn24 hb' hk'] at D0
  have hvD := Lib.hid (det_vld hn24 hb' hk')
  have hsum := Lib.hid (sum_law hn24 hb' hk')
  have hz := Lib.hid (miss_zero n bad hn24)
  generalize det n bad k = D at *
  replace p0 := Lib.hid p0
  replace p1 := Lib.hid p1
  replace p2 := Lib.hid p2
  replace hn := Lib.hid hn
  replace D0 := Lib.hid D0
  go_enter Tryd.func10, Tryd.ntmps10
  go_wp2_with fail
  refine (sane_any _ hG).mono ?_
  rintro e ws ⟨rfl, hb1⟩
  replace hB := hB.trans (hb1.mono hB.size)
  have hb_ws := hb1
  clear hb1
  clear hG
  go_wp2_with fail
  refine (p0.out _ i0 (by omega) (by omega)).mono ?_; rintro e wp ⟨rfl, rfl⟩
  go_wp2_with fail
  rw [show (1 : Int) + (m : Int) = (n : Int) from by have := hn.out; omega]
  rw [show (n : Int) + 1 = ((n + 1 : Nat) : Int) from rfl]
  refine (p1.out _ i1 (by omega) (by omega)).mono ?_; rintro e wp ⟨rfl, rfl⟩
  go_wp2_with fail
  refine (p2.out _ i2 (by omega) (by omega)).mono ?_; rintro e wp ⟨rfl, rfl⟩
  go_wp2_with fail
  refine (is_any 1 1 _).mono ?_
  rintro e wi ⟨rfl, hb1⟩
  replace hB := hB.trans (hb1.mono hB.size)
  have hb_wi := hb1
  clear hb1
  go_wp2_with fail
  have hb8 := hB.size
  refine name_wp ?_
  intro wl hwwl
  replace m1 : Mine wl wi.heap.size 0 (.int .i64 1) := by rw [hwwl]; (repeat first | with_reducible assumption | with_reducible refine Mine.drew ?_ | with_reducible refine Mine.drewN ?_ _ | ((with_reducible refine Mine.new ?_); rfl) | ((with_reducible refine Mine.newAt ?_ ?_) <;> first | rfl | (simp; done) | (simp only [World.size_alloc]; rfl)) | ((with_reducible refine Mine.set ?_ _); repeat first | exact Mine.slot (by with_reducible assumption) | with_reducible refine MineS.drew ?_ | with_reducible refine MineS.drewN ?_ _ | exact MineS.new (by decide) | exact MineS.newAt (by decide) (by simp) | with_reducible refine MineS.set ?_ _ _ _ | with_reducible refine MineS.alloc ?_ _) | with_reducible refine Mine.other ?_ _ (by first | (left; omega) | (right; omega) | (simp; done) | (simp; omega)) | with_reducible refine Mine.alloc ?_ _)
  replace m2 : Mine wl wi.heap.size 1 (.int .i64 1) := by rw [hwwl]; (repeat first | with_reducible assumption | with_reducible refine Mine.drew ?_ | with_reducible refine Mine.drewN ?_ _ | ((with_reducible refine Mine.new ?_); rfl) | ((with_reducible refine Mine.newAt ?_ ?_) <;> first | rfl | (simp; done) | (simp only [World.size_alloc]; rfl)) | ((with_reducible refine Mine.set ?_ _); repeat first | exact Mine.slot (by with_reducible assumption) | with_reducible refine MineS.drew ?_ | with_reducible refine MineS.drewN ?_ _ | exact MineS.new (by decide) | exact MineS.newAt (by decide) (by simp) | with_reducible refine MineS.set ?_ _ _ _ | with_reducible refine MineS.alloc ?_ _) | with_reducible refine Mine.other ?_ _ (by first | (left; omega) | (right; omega) | (simp; done) | (simp; omega)) | with_reducible refine Mine.alloc ?_ _)
  have hBzwl := hB.size
  replace hB : Below w.heap.size w wl := by rw [hwwl]; exact (by repeat first | exact Below.refl _ _ | assumption | refine below_drewN ?_ _ | refine Below.drew ?_ | refine Below.setCell ?_ (by first | exact Nat.le_refl _ | (simp; done) | (simp; omega) | omega) _ | refine Below.alloc ?_ (by first | exact Nat.le_refl _ | (simp; done) | (simp; omega) | omega) _)
  clear hwwl hBzwl
  generalize wi.heap.size = b8 at *
  go_loopw [9] (fun v wr => PrdRel w n bad k b8 v wr) (fun v _ => k - (intOf v).toNat)
  case atStart => exact ⟨0, by omega, rfl, by rw [hz.out]; exact m1, by rw [hz.out]; exact m2, hB⟩
  case round =>
    clear hB m1 m2 hz
    obtain ⟨i, hi, rfl, m1, m2, hB⟩ := hrel
    have hlr := m1.lt
    by_cases hlt : i < k
    · have hd : decide ((i : Int) < (k : Int)) = true := by simpa using hlt
      obtain ⟨s1, s2, s3, s4⟩ := step_law hn24 hb' (show i < n by omega)
      have hMk := Make_all ((n - bad - i : Nat) : Int) ((n - i : Nat) : Int)
      have hsd : mk ((n - bad - i : Nat) : Int) ((n - i : Nat) : Int) = shr n bad i := rfl
      rw [hsd, s2] at hMk
      have hMu := fun w => Mul_valid (missv n bad i).1 (missv n bad i).2.1 (shr n bad i).1 (shr n bad i).2.1 w s3 s4
      simp only [s1] at hMu
      clear s1 s2 s3 s4 hsd
      generalize shr n bad i = L at *
      obtain ⟨M', hM'⟩ : ∃ M', M' = missv n bad (i + 1) := ⟨_, rfl⟩
      rw [← hM'] at hMu
      replace hM' := Lib.hid hM'
      generalize missv n bad i = M at *
      replace hMk := Lib.hid hMk
      replace hMu := Lib.hid hMu
      go_wp2_with fail
      rw [show max ((n : Int) - (bad : Int) - (i : Int)) 0 = ((n - bad - i : Nat) : Int) from by omega, show (n : Int) - (i : Int) = ((n - i : Nat) : Int) from by omega]
      refine (hMk.out _ ⟨by omega, by omega⟩ ⟨by omega, by omega⟩).mono ?_
      rintro e wk ⟨rfl, hb1⟩
      replace m1 := m1.below hb1
      replace m2 := m2.below hb1
      replace hB := hB.trans (hb1.mono hB.size)
      have hb_wk := hb1
      clear hb1
      have c1 := m1.cell
      have f1 := m1.free
      have l1 := m1.lt
      have c2 := m2.cell
      have f2 := m2.free
      have l2 := m2.lt
      go_wp2_with fail
      clear c1 f1 l1
      clear c2 f2 l2
      refine name_calls ?_
      intro wx hwwx
      replace m1 : Mine wx b8 0 (.int .i64 M.1) := by rw [hwwx]; (repeat first | with_reducible assumption | with_reducible refine Mine.drew ?_ | with_reducible refine Mine.drewN ?_ _ | ((with_reducible refine Mine.new ?_); rfl) | ((with_reducible refine Mine.newAt ?_ ?_) <;> first | rfl | (simp; done) | (simp only [World.size_alloc]; rfl)) | ((with_reducible refine Mine.set ?_ _); repeat first | exact Mine.slot (by with_reducible assumption) | with_reducible refine MineS.drew ?_ | with_reducible refine MineS.drewN ?_ _ | exact MineS.new (by decide) | exact MineS.newAt (by decide) (by simp) | with_reducible refine MineS.set ?_ _ _ _ | with_reducible refine MineS.alloc ?_ _) | with_reducible refine Mine.other ?_ _ (by first | (left; omega) | (right; omega) | (simp; done) | (simp; omega)) | with_reducible refine Mine.alloc ?_ _)
      replace m2 : Mine wx b8 1 (.int .i64 M.2.1) := by rw [hwwx]; (repeat first | with_reducible assumption | with_reducible refine Mine.drew ?_ | with_reducible refine Mine.drewN ?_ _ | ((with_reducible refine Mine.new ?_); rfl) | ((with_reducible refine Mine.newAt ?_ ?_) <;> first | rfl | (simp; done) | (simp only [World.size_alloc]; rfl)) | ((with_reducible refine Mine.set ?_ _); repeat first | exact Mine.slot (by with_reducible assumption) | with_reducible refine MineS.drew ?_ | with_reducible refine MineS.drewN ?_ _ | exact MineS.new (by decide) | exact MineS.newAt (by decide) (by simp) | with_reducible refine MineS.set ?_ _ _ _ | with_reducible refine MineS.alloc ?_ _) | with_reducible refine Mine.other ?_ _ (by first | (left; omega) | (right; omega) | (simp; done) | (simp; omega)) | with_reducible refine Mine.alloc ?_ _)
      replace m3 : Mine wx wk.heap.size 0 (.int .i64 L.1) := by rw [hwwx]; (repeat first | with_reducible assumption | with_reducible refine Mine.drew ?_ | with_reducible refine Mine.drewN ?_ _ | ((with_reducible refine Mine.new ?_); rfl) | ((with_reducible refine Mine.newAt ?_ ?_) <;> first | rfl | (simp; done) | (simp only [World.size_alloc]; rfl)) | ((with_reducible refine Mine.set ?_ _); repeat first | exact Mine.slot (by with_reducible assumption) | with_reducible refine MineS.drew ?_ | with_reducible refine MineS.drewN ?_ _ | exact MineS.new (by decide) | exact MineS.newAt (by decide) (by simp) | with_reducible refine MineS.set ?_ _ _ _ | with_reducible refine MineS.alloc ?_ _) | with_reducible refine Mine.other ?_ _ (by first | (left; omega) | (right; omega) | (simp; done) | (simp; omega)) | with_reducible refine Mine.alloc ?_ _)
      replace m4 : Mine wx wk.heap.size 1 (.int .i64 L.2.1) := by rw [hwwx]; (repeat first | with_reducible assumption | with_reducible refine Mine.drew ?_ | with_reducible refine Mine.drewN ?_ _ | ((with_reducible refine Mine.new ?_); rfl) | ((with_reducible refine Mine.newAt ?_ ?_) <;> first | rfl | (simp; done) | (simp only [World.size_alloc]; rfl)) | ((with_reducible refine Mine.set ?_ _); repeat first | exact Mine.slot (by with_reducible assumption) | with_reducible refine MineS.drew ?_ | with_reducible refine MineS.drewN ?_ _ | exact MineS.new (by decide) | exact MineS.newAt (by decide) (by simp) | with_reducible refine MineS.set ?_ _ _ _ | with_reducible refine MineS.alloc ?_ _) | with_reducible refine Mine.other ?_ _ (by first | (left; omega) | (right; omega) | (simp; done) | (simp; omega)) | with_reducible refine Mine.alloc ?_ _)
      have hBzwx := hB.size
      replace hB : Below w.heap.size w wx := by rw [hwwx]; exact (by repeat first | exact Below.refl _ _ | assumption | refine below_drewN ?_ _ | refine Below.drew ?_ | refine Below.setCell ?_ (by first | exact Nat.le_refl _ | (simp; done) | (simp; omega) | omega) _ | refine Below.alloc ?_ (by first | exact Nat.le_refl _ | (simp; done) | (simp; omega) | omega) _)
      clear hwwx hBzwx
      refine (hMu.out _).mono ?_
      rintro e wm ⟨rfl, hb1⟩
      replace m1 := m1.below hb1
      replace m2 := m2.below hb1
      replace hB := hB.trans (hb1.mono hB.size)
      have hb_wm := hb1
      clear hb1
      have c1 := m1.cell
      have f1 := m1.free
      have l1 := m1.lt
      have c2 := m2.cell
      have f2 := m2.free
      have l2 := m2.lt
      go_wp2
      clear c1 f1 l1
      clear c2 f2 l2
      go_roundw
      case rel =>
        refine name_prd ?_
        intro wy hwwy
        replace m1 : Mine wy b8 0 (.int .i64 M'.1) := by rw [hwwy]; (repeat first | with_reducible assumption | with_reducible refine Mine.drew ?_ | with_reducible refine Mine.drewN ?_ _ | ((with_reducible refine Mine.new ?_); rfl) | ((with_reducible refine Mine.newAt ?_ ?_) <;> first | rfl | (simp; done) | (simp only [World.size_alloc]; rfl)) | ((with_reducible refine Mine.set ?_ _); repeat first | exact Mine.slot (by with_reducible assumption) | with_reducible refine MineS.drew ?_ | with_reducible refine MineS.drewN ?_ _ | exact MineS.new (by decide) | exact MineS.newAt (by decide) (by simp) | with_reducible refine MineS.set ?_ _ _ _ | with_reducible refine MineS.alloc ?_ _) | with_reducible refine Mine.other ?_ _ (by first | (left; omega) | (right; omega) | (simp; done) | (simp; omega)) | with_reducible refine Mine.alloc ?_ _)
        replace m2 : Mine wy b8 1 (.int .i64 M'.2.1) := by rw [hwwy]; (repeat first | with_reducible assumption | with_reducible refine Mine.drew ?_ | with_reducible refine Mine.drewN ?_ _ | ((with_reducible refine Mine.new ?_); rfl) | ((with_reducible refine Mine.newAt ?_ ?_) <;> first | rfl | (simp; done) | (simp only [World.size_alloc]; rfl)) | ((with_reducible refine Mine.set ?_ _); repeat first | exact Mine.slot (by with_reducible assumption) | with_reducible refine MineS.drew ?_ | with_reducible refine MineS.drewN ?_ _ | exact MineS.new (by decide) | exact MineS.newAt (by decide) (by simp) | with_reducible refine MineS.set ?_ _ _ _ | with_reducible refine MineS.alloc ?_ _) | with_reducible refine Mine.other ?_ _ (by first | (left; omega) | (right; omega) | (simp; done) | (simp; omega)) | with_reducible refine Mine.alloc ?_ _)
        have hBzwy := hB.size
        replace hB : Below w.heap.size w wy := by rw [hwwy]; exact (by repeat first | exact Below.refl _ _ | assumption | refine below_drewN ?_ _ | refine Below.drew ?_ | refine Below.setCell ?_ (by first | exact Nat.le_refl _ | (simp; done) | (simp; omega) | omega) _ | refine Below.alloc ?_ (by first | exact Nat.le_refl _ | (simp; done) | (simp; omega) | omega) _)
        clear hwwy hBzwy
        exact ⟨i + 1, by omega, by go_num, by rw [← hM'.out]; exact m1, by rw [← hM'.out]; exact m2, hB⟩
      case measure => simp [intOf]; omega
    · have hd : decide ((i : Int) < (k : Int)) = false := by simp; omega
      obtain rfl : k = i := by omega
      obtain ⟨t1, t2⟩ := hsum.out
      clear hsum
      have hA := fun w => Add_valid D.1 D.2.1 (missv n bad k).1 (missv n bad k).2.1 w hvD.out t2
      simp only [t1] at hA
      clear t1 t2
      generalize missv n bad k = M at *
      replace hA := Lib.hid hA
      go_wp2_with fail
      refine (D0.out _).mono ?_
      rintro e wd ⟨rfl, hb1⟩
      replace m1 := m1.below hb1
      replace m2 := m2.below hb1
      replace hB := hB.trans (hb1.mono hB.size)
      have hb_wd := hb1
      clear hb1
      have c1 := m1.cell
      have f1 := m1.free
      have l1 := m1.lt
      have c2 := m2.cell
      have f2 := m2.free
      have l2 := m2.lt
      go_wp2_with fail
      clear c1 f1 l1
      clear c2 f2 l2
      refine name_calls ?_
      intro wx hwwx
      replace m1 : Mine wx b8 0 (.int .i64 M.1) := by rw [hwwx]; (repeat first | with_reducible assumption | with_reducible refine Mine.drew ?_ | with_reducible refine Mine.drewN ?_ _ | ((with_reducible refine Mine.new ?_); rfl) | ((with_reducible refine Mine.newAt ?_ ?_) <;> first | rfl | (simp; done) | (simp only [World.size_alloc]; rfl)) | ((with_reducible refine Mine.set ?_ _); repeat first | exact Mine.slot (by with_reducible assumption) | with_reducible refine MineS.drew ?_ | with_reducible refine MineS.drewN ?_ _ | exact MineS.new (by decide) | exact MineS.newAt (by decide) (by simp) | with_reducible refine MineS.set ?_ _ _ _ | with_reducible refine MineS.alloc ?_ _) | with_reducible refine Mine.other ?_ _ (by first | (left; omega) | (right; omega) | (simp; done) | (simp; omega)) | with_reducible refine Mine.alloc ?_ _)
      replace m2 : Mine wx b8 1 (.int .i64 M.2.1) := by rw [hwwx]; (repeat first | with_reducible assumption | with_reducible refine Mine.drew ?_ | with_reducible refine Mine.drewN ?_ _ | ((with_reducible refine Mine.new ?_); rfl) | ((with_reducible refine Mine.newAt ?_ ?_) <;> first | rfl | (simp; done) | (simp only [World.size_alloc]; rfl)) | ((with_reducible refine Mine.set ?_ _); repeat first | exact Mine.slot (by with_reducible assumption) | with_reducible refine MineS.drew ?_ | with_reducible refine MineS.drewN ?_ _ | exact MineS.new (by decide) | exact MineS.newAt (by decide) (by simp) | with_reducible refine MineS.set ?_ _ _ _ | with_reducible refine MineS.alloc ?_ _) | with_reducible refine Mine.other ?_ _ (by first | (left; omega) | (right; omega) | (simp; done) | (simp; omega)) | with_reducible refine Mine.alloc ?_ _)
      have hBzwx := hB.size
      replace hB : Below w.heap.size w wx := by rw [hwwx]; exact (by repeat first | exact Below.refl _ _ | assumption | refine below_drewN ?_ _ | refine Below.drew ?_ | refine Below.setCell ?_ (by first | exact Nat.le_refl _ | (simp; done) | (simp; omega) | omega) _ | refine Below.alloc ?_ (by first | exact Nat.le_refl _ | (simp; done) | (simp; omega) | omega) _)
      clear hwwx hBzwx
      refine (hA.out _).mono ?_
      rintro e wa ⟨rfl, hb1⟩
      replace hB := hB.trans (hb1.mono hB.size)
      have hb_wa := hb1
      clear hb1
      have hEq := run_eq_rv
      go_wp2_with fail
      refine name_wp ?_
      intro wq hwwq
      replace m5 : Mine wq wa.heap.size 0 (.int .i64 1) := by rw [hwwq]; (repeat first | with_reducible assumption | with_reducible refine Mine.drew ?_ | with_reducible refine Mine.drewN ?_ _ | ((with_reducible refine Mine.new ?_); rfl) | ((with_reducible refine Mine.newAt ?_ ?_) <;> first | rfl | (simp; done) | (simp only [World.size_alloc]; rfl)) | ((with_reducible refine Mine.set ?_ _); repeat first | exact Mine.slot (by with_reducible assumption) | with_reducible refine MineS.drew ?_ | with_reducible refine MineS.drewN ?_ _ | exact MineS.new (by decide) | exact MineS.newAt (by decide) (by simp) | with_reducible refine MineS.set ?_ _ _ _ | with_reducible refine MineS.alloc ?_ _) | with_reducible refine Mine.other ?_ _ (by first | (left; omega) | (right; omega) | (simp; done) | (simp; omega)) | with_reducible refine Mine.alloc ?_ _)
      replace m6 : Mine wq wa.heap.size 1 (.int .i64 1) := by rw [hwwq]; (repeat first | with_reducible assumption | with_reducible refine Mine.drew ?_ | with_reducible refine Mine.drewN ?_ _ | ((with_reducible refine Mine.new ?_); rfl) | ((with_reducible refine Mine.newAt ?_ ?_) <;> first | rfl | (simp; done) | (simp only [World.size_alloc]; rfl)) | ((with_reducible refine Mine.set ?_ _); repeat first | exact Mine.slot (by with_reducible assumption) | with_reducible refine MineS.drew ?_ | with_reducible refine MineS.drewN ?_ _ | exact MineS.new (by decide) | exact MineS.newAt (by decide) (by simp) | with_reducible refine MineS.set ?_ _ _ _ | with_reducible refine MineS.alloc ?_ _) | with_reducible refine Mine.other ?_ _ (by first | (left; omega) | (right; omega) | (simp; done) | (simp; omega)) | with_reducible refine Mine.alloc ?_ _)
      have hBzwq := hB.size
      replace hB : Below w.heap.size w wq := by rw [hwwq]; exact (by repeat first | exact Below.refl _ _ | assumption | refine below_drewN ?_ _ | refine Below.drew ?_ | refine Below.setCell ?_ (by first | exact Nat.le_refl _ | (simp; done) | (simp; omega) | omega) _ | refine Below.alloc ?_ (by first | exact Nat.le_refl _ | (simp; done) | (simp; omega) | omega) _)
      clear hwwq hBzwq
      generalize wa.heap.size = b16 at *
      have hBq := hB.size
      have c5 := m5.cell
      have f5 := m5.free
      have l5 := m5.lt
      have c6 := m6.cell
      have f6 := m6.free
      have l6 := m6.lt
      refine wp_region_held_drew (S := fun w' => w'.cell? ⟨b16, 0, none⟩ = some (.int .i64 1) ∧ w'.cell? ⟨b16, 1, none⟩ = some (.int .i64 1)) (by kernel_rfl) (by first | (dsimp only; go_keep) | go_keep) (fun hHeld => ?_)
      refine take_l (i := 0) (v := ?_) rfl (by kernel_rfl) (by kernel_rfl) (by kernel_rfl) (fun _ _ _ h => h) (Or.inl ⟨by rfl, ?_⟩) (by assumption) ?_
      rotate_left
      · intro w hSw; (try dsimp only at hSw); go_simp; (try with_reducible rfl)
      (try simp only [Act.put, List.setIfInBounds_toArray, List.set_cons_zero, List.set_cons_succ])
      refine take_l (i := 1) (v := ?_) rfl (by kernel_rfl) (by kernel_rfl) (by kernel_rfl) (fun _ _ _ h => h) (Or.inl ⟨by rfl, ?_⟩) (by assumption) ?_
      rotate_left
      · intro w hSw; (try dsimp only at hSw); go_simp; (try with_reducible rfl)
      (try simp only [Act.put, List.setIfInBounds_toArray, List.set_cons_zero, List.set_cons_succ])
      refine take_l (i := 2) (v := ?_) rfl (by kernel_rfl) (by kernel_rfl) (by kernel_rfl) (fun _ _ _ h => h) (Or.inl ⟨by rfl, ?_⟩) (by assumption) ?_
      rotate_left
      · intro w hSw; (try dsimp only at hSw); go_simp; (try with_reducible rfl)
      (try simp only [Act.put, List.setIfInBounds_toArray, List.set_cons_zero, List.set_cons_succ])
      refine take_l (i := 3) (v := ?_) rfl (by kernel_rfl) (by kernel_rfl) (by kernel_rfl) (fun _ _ _ h => h) (Or.inl ⟨by rfl, ?_⟩) (by assumption) ?_
      rotate_left
      · intro w hSw; (try dsimp only at hSw); go_simp; (try with_reducible rfl)
      (try simp only [Act.put, List.setIfInBounds_toArray, List.set_cons_zero, List.set_cons_succ])
      refine take_l (i := 4) (v := ?_) rfl (by kernel_rfl) (by kernel_rfl) (by kernel_rfl) (fun _ _ _ h => h) (Or.inl ⟨by rfl, ?_⟩) (by assumption) ?_
      rotate_left
      · intro w hSw; (try dsimp only at hSw); go_simp; (try with_reducible rfl)
      (try simp only [Act.put, List.setIfInBounds_toArray, List.set_cons_zero, List.set_cons_succ])
      refine take_l (i := 5) (v := ?_) rfl (by kernel_rfl) (by kernel_rfl) (by kernel_rfl) (fun _ _ _ h => h) (Or.inl ⟨by rfl, ?_⟩) (by assumption) ?_
      rotate_left
      · intro w hSw; (try dsimp only at hSw); go_simp; (try with_reducible rfl)
      (try simp only [Act.put, List.setIfInBounds_toArray, List.set_cons_zero, List.set_cons_succ])
      refine take_l (i := 6) (v := ?_) rfl (by kernel_rfl) (by kernel_rfl) (by kernel_rfl) (fun _ _ _ h => h) (Or.inl ⟨by rfl, ?_⟩) (by assumption) ?_
      rotate_left
      · intro w hSw; (try dsimp only at hSw); go_simp; (try with_reducible rfl)
      (try simp only [Act.put, List.setIfInBounds_toArray, List.set_cons_zero, List.set_cons_succ])
      refine take_l (i := 7) (v := ?_) rfl (by kernel_rfl) (by kernel_rfl) (by kernel_rfl) (fun _ _ _ h => h) (Or.inl ⟨by rfl, ?_⟩) (by assumption) ?_
      rotate_left
      · intro w hSw; (try dsimp only at hSw); go_simp; (try with_reducible rfl)
      (try simp only [Act.put, List.setIfInBounds_toArray, List.set_cons_zero, List.set_cons_succ])
      refine take_l (i := 8) (v := ?_) rfl (by kernel_rfl) (by kernel_rfl) (by kernel_rfl) (fun _ _ _ h => h) (Or.inl ⟨by rfl, ?_⟩) (by assumption) ?_
      rotate_left
      · intro w hSw; (try dsimp only at hSw); go_simp; (try with_reducible rfl)
      (try simp only [Act.put, List.setIfInBounds_toArray, List.set_cons_zero, List.set_cons_succ])
      refine take_l (i := 9) (v := ?_) rfl (by kernel_rfl) (by kernel_rfl) (by kernel_rfl) (fun _ _ _ h => h) (Or.inl ⟨by rfl, ?_⟩) (by assumption) ?_
      rotate_left
      · intro w hSw; (try dsimp only at hSw); go_simp; (try with_reducible rfl)
      (try simp only [Act.put, List.setIfInBounds_toArray, List.set_cons_zero, List.set_cons_succ])
      refine take_l (i := 10) (v := ?_) rfl (by kernel_rfl) (by kernel_rfl) (by kernel_rfl) (fun _ _ _ h => h) (Or.inl ⟨by rfl, ?_⟩) (by assumption) ?_
      rotate_left
      · intro w hSw; (try dsimp only at hSw); go_simp; (try with_reducible rfl)
      (try simp only [Act.put, List.setIfInBounds_toArray, List.set_cons_zero, List.set_cons_succ])
      refine wpAnyH_ready (rs := [11]) (by kernel_rfl) (by simp) ?_
      refine ready_l rfl (fun K hK => ?_) AllReadyH.nil
      go_simp
      (go_at_call 24; refine (is_any _ _ _).mono ?_; rintro e wj ⟨rfl, hbwj⟩; have n5wj : Mine wj b16 0 (.int .i64 1) := Mine.below (by (repeat first | with_reducible assumption | with_reducible refine Mine.drew ?_ | with_reducible refine Mine.drewN ?_ _ | ((with_reducible refine Mine.new ?_); rfl) | ((with_reducible refine Mine.newAt ?_ ?_) <;> first | rfl | (simp; done) | (simp only [World.size_alloc]; rfl)) | ((with_reducible refine Mine.set ?_ _); repeat first | exact Mine.slot (by with_reducible assumption) | with_reducible refine MineS.drew ?_ | with_reducible refine MineS.drewN ?_ _ | exact MineS.new (by decide) | exact MineS.newAt (by decide) (by simp) | with_reducible refine MineS.set ?_ _ _ _ | with_reducible refine MineS.alloc ?_ _) | with_reducible refine Mine.other ?_ _ (by first | (left; omega) | (right; omega) | (simp; done) | (simp; omega)) | with_reducible refine Mine.alloc ?_ _)) hbwj; have g5wj := n5wj.cell; have gf5wj := n5wj.free; have n6wj : Mine wj b16 1 (.int .i64 1) := Mine.below (by (repeat first | with_reducible assumption | with_reducible refine Mine.drew ?_ | with_reducible refine Mine.drewN ?_ _ | ((with_reducible refine Mine.new ?_); rfl) | ((with_reducible refine Mine.newAt ?_ ?_) <;> first | rfl | (simp; done) | (simp only [World.size_alloc]; rfl)) | ((with_reducible refine Mine.set ?_ _); repeat first | exact Mine.slot (by with_reducible assumption) | with_reducible refine MineS.drew ?_ | with_reducible refine MineS.drewN ?_ _ | exact MineS.new (by decide) | exact MineS.newAt (by decide) (by simp) | with_reducible refine MineS.set ?_ _ _ _ | with_reducible refine MineS.alloc ?_ _) | with_reducible refine Mine.other ?_ _ (by first | (left; omega) | (right; omega) | (simp; done) | (simp; omega)) | with_reducible refine Mine.alloc ?_ _)) hbwj; have g6wj := n6wj.cell; have gf6wj := n6wj.free; have hBwj : Below w.heap.size w wj := Below.trans (by repeat first | exact Below.refl _ _ | assumption | refine below_drewN ?_ _ | refine Below.drew ?_ | refine Below.setCell ?_ (by first | exact Nat.le_refl _ | (simp; done) | (simp; omega) | omega) _ | refine Below.alloc ?_ (by first | exact Nat.le_refl _ | (simp; done) | (simp; omega) | omega) _) (hbwj.mono (by first | exact Nat.le_refl _ | assumption | (simp; done) | (simp; omega) | omega)); have hzwj := hbwj.size; )
      refine hK.out _ _ (by first | (dsimp only; go_keep) | go_keep) (fun hHeld => ?_)
      clear hK K
      (try simp only [Act.put, List.setIfInBounds_toArray, List.set_cons_zero, List.set_cons_succ])
      refine take_l (i := 12) (v := ?_) rfl (by kernel_rfl) (by kernel_rfl) (by kernel_rfl) (fun _ _ _ h => h) (Or.inl ⟨by rfl, ?_⟩) (by assumption) ?_
      rotate_left
      · intro w hSw; (try dsimp only at hSw); go_simp; (try with_reducible rfl)
      (try simp only [Act.put, List.setIfInBounds_toArray, List.set_cons_zero, List.set_cons_succ])
      refine take_l (i := 13) (v := ?_) rfl (by kernel_rfl) (by kernel_rfl) (by kernel_rfl) (fun _ _ _ h => h) (Or.inl ⟨by rfl, ?_⟩) (by assumption) ?_
      rotate_left
      · intro w hSw; (try dsimp only at hSw); go_simp; (try with_reducible rfl)
      (try simp only [Act.put, List.setIfInBounds_toArray, List.set_cons_zero, List.set_cons_succ])
      refine take_l (i := 14) (v := ?_) rfl (by kernel_rfl) (by kernel_rfl) (by kernel_rfl) (fun _ _ _ h => h) (Or.inl ⟨by rfl, ?_⟩) (by assumption) ?_
      rotate_left
      · intro w hSw; (try dsimp only at hSw); go_simp; (try with_reducible rfl)
      (try simp only [Act.put, List.setIfInBounds_toArray, List.set_cons_zero, List.set_cons_succ])
      refine wpAnyH_done (by kernel_rfl) ?_ _
      go_wp2
      go_ret
      exact ⟨rfl, hBwj⟩
end Go.Proofs.YtjlldolmlfgejaaDoor
