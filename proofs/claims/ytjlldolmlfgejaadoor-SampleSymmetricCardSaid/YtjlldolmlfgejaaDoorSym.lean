/-
  The walk of SampleSymmetric.
-/
import Derived.Test.YtjlldolmlfgejaaDoorSane
import Derived.Test.YtjlldolmlfgejaaDoorMath1
import Derived.Deep.RegionHeld3
import Derived.IntWalk
namespace Go.Proofs.YtjlldolmlfgejaaDoor
open Go.RowKit

section
variable {P : Program} {Q : Exit → Act → World → Prop} {md : Region.Mode} {S : World → Prop}
/-- An operation of a region that is written out, taken first. -/
theorem take_l {l : List Oper} {i : Nat} {oi : Oper} {v : Value} {fuel : Nat} {listed : Array Bool} {a : Act} {w : World} (hi : l[i]? = some oi)
    (hs : Region.noSelect l.toArray = true) (hf : Region.free md l.toArray listed i = true) (hr : (Region.ready md l.toArray listed).contains i = true)
    (hQ : ∀ c a w, Q (.panic c) (a.put oi.dst v) w → Q (.panic c) a w) (hy : YieldsIf P l.toArray S oi v a) (hS : S w)
    (h : wpAnyH P md l.toArray Q S fuel (listed.setIfInBounds i true) (a.put oi.dst v) w) : wpAnyH P md l.toArray Q S (fuel + 1) listed a w :=
  wpAnyH_take (by simpa using hi) hs hf hr hQ hy hS h
theorem ready_l {l : List Oper} {fuel : Nat} {listed : Array Bool} {a : Act} {w : World} {i : Nat} {o : Oper} {rs : List Nat} (ho : l[i]? = some o)
    (h : ∀ K' : Act → World → Prop, Shut (∀ a w, S w → (S w → wpAnyH P md l.toArray Q S fuel (listed.setIfInBounds i true) a w) → K' a w) → if Region.wanted o (yielded l.toArray a.tmps) = true then Oper.wp P o a w K' Q else K' (a.put o.dst undef) w)
    (hs : AllReadyH P md l.toArray Q S fuel listed a w rs) : AllReadyH P md l.toArray Q S fuel listed a w (i :: rs) :=
  AllReadyH.cons (by simpa using ho) h hs
end

theorem I64.of_num {n d : Int} (h : vld n d = true) : I64 n := by have := I64.of_vld_num h; exact ⟨by omega, by omega⟩
theorem I64.of_den {n d : Int} (h : vld n d = true) : I64 d := by have := I64.of_vld_den h; exact ⟨by omega, by omega⟩
theorem detv_in {n bad k : Nat} (h1 : 1 ≤ n) (hn : n ≤ 24) (hb : bad ≤ n) (hk : k ≤ n) : detv n bad k = ((det n bad k).1, (det n bad k).2.1, 0) := by
  have hp : pop (n : Int) [(bad : Int), (k : Int)] = true := by simp [pop, outB]; omega
  simp [detv, hp]

set_option maxRecDepth 100000 in
set_option maxHeartbeats 4000000 in
theorem Sym_any (a0 a1 a2 : Int) (w : World) (i0 : I64 a0) (i1 : I64 a1) (i2 : I64 a2) (hG : w.rangeAt 0 0 (u32s KS)) :
    Calls Tryd.prog 6 #[.int .i64 a0, .int .i64 a1, .int .i64 a2] w fun e w' => e = .returned (.bool true) ∧ Below w.heap.size w w' := by
  have hB : Below w.heap.size w w := Below.refl _ _
  have p0 := pick_any a0 24
  have hm := pickv_lt a0 24 (by omega)
  generalize pickv a0 24 = m at *
  have p1 := pick_any a1 (1 + m + 1)
  have hb := pickv_lt a1 (1 + m + 1) (by omega)
  generalize pickv a1 (1 + m + 1) = bad at *
  have p2 := pick_any a2 (1 + m + 1)
  have hk := pickv_lt a2 (1 + m + 1) (by omega)
  generalize pickv a2 (1 + m + 1) = k at *
  obtain ⟨n, hn⟩ : ∃ n, n = 1 + m := ⟨_, rfl⟩
  rw [← hn] at p1 p2 hb hk
  have hn1 : 1 ≤ n := by omega
  have hn24 : n ≤ 24 := by omega
  have hb' : bad ≤ n := by omega
  have hk' : k ≤ n := by omega
  have D1 := Detect_any n bad k
  have D2 := Detect_any n k bad
  rw [detv_in hn1 hn24 hb' hk'] at D1
  rw [detv_in hn1 hn24 hk' hb', ← det_sym hn24 hb' hk'] at D2
  have h1 := det_one hn24 hb' hk'
  have h0 := det_nil hn24 hb' hk'
  have hvx := det_vld hn24 hb' hk'
  generalize hD : det n bad k = D at *
  replace p0 := Lib.hid p0
  replace p1 := Lib.hid p1
  replace p2 := Lib.hid p2
  replace D1 := Lib.hid D1
  replace D2 := Lib.hid D2
  replace hD := Lib.hid hD
  replace h1 := Lib.hid h1
  replace h0 := Lib.hid h0
  replace hn := Lib.hid hn
  go_enter Tryd.func6, Tryd.ntmps6
  go_wp2_with fail
  refine (sane_any _ hG).mono ?_
  rintro e wc1 ⟨rfl, hb1⟩
  replace hB := hB.trans (hb1.mono hB.size)
  have hb_wc1 := hb1
  clear hb1
  go_wp2_with fail
  refine (p0.out _ i0 (by omega) (by omega)).mono ?_; rintro e wp ⟨rfl, rfl⟩
  go_wp2_with fail
  rw [show (1 : Int) + (m : Int) = (n : Int) from by have := hn.out; omega]
  rw [show (n : Int) + 1 = ((n + 1 : Nat) : Int) from rfl]
  refine (p1.out _ i1 (by omega) (by omega)).mono ?_; rintro e wp ⟨rfl, rfl⟩
  go_wp2_with fail
  refine (p2.out _ i2 (by omega) (by omega)).mono ?_; rintro e wp ⟨rfl, rfl⟩
  go_wp2_with fail
  refine (D1.out _).mono ?_
  rintro e wc2 ⟨rfl, hb1⟩
  replace hB := hB.trans (hb1.mono hB.size)
  have hb_wc2 := hb1
  clear hb1
  go_wp2_with fail
  refine name_calls ?_
  intro w1 hww1
  replace m11 : Mine w1 wc2.heap.size 0 (.int .i64 D.1) := by rw [hww1]; (repeat first | with_reducible assumption | with_reducible refine Mine.drew ?_ | with_reducible refine Mine.drewN ?_ _ | ((with_reducible refine Mine.new ?_); rfl) | ((with_reducible refine Mine.newAt ?_ ?_) <;> first | rfl | (simp; done) | (simp only [World.size_alloc]; rfl)) | ((with_reducible refine Mine.set ?_ _); repeat first | exact Mine.slot (by with_reducible assumption) | with_reducible refine MineS.drew ?_ | with_reducible refine MineS.drewN ?_ _ | exact MineS.new (by decide) | with_reducible refine MineS.set ?_ _ _ _ | with_reducible refine MineS.alloc ?_ _) | with_reducible refine Mine.other ?_ _ (by first | (left; omega) | (right; omega) | (simp; done) | (simp; omega)) | with_reducible refine Mine.alloc ?_ _)
  replace m12 : Mine w1 wc2.heap.size 1 (.int .i64 D.2.1) := by rw [hww1]; (repeat first | with_reducible assumption | with_reducible refine Mine.drew ?_ | with_reducible refine Mine.drewN ?_ _ | ((with_reducible refine Mine.new ?_); rfl) | ((with_reducible refine Mine.newAt ?_ ?_) <;> first | rfl | (simp; done) | (simp only [World.size_alloc]; rfl)) | ((with_reducible refine Mine.set ?_ _); repeat first | exact Mine.slot (by with_reducible assumption) | with_reducible refine MineS.drew ?_ | with_reducible refine MineS.drewN ?_ _ | exact MineS.new (by decide) | with_reducible refine MineS.set ?_ _ _ _ | with_reducible refine MineS.alloc ?_ _) | with_reducible refine Mine.other ?_ _ (by first | (left; omega) | (right; omega) | (simp; done) | (simp; omega)) | with_reducible refine Mine.alloc ?_ _)
  have hBzw1 := hB.size
  replace hB : Below w.heap.size w w1 := by rw [hww1]; exact (by repeat first | exact Below.refl _ _ | assumption | refine below_drewN ?_ _ | refine Below.drew ?_ | refine Below.setCell ?_ (by first | exact Nat.le_refl _ | (simp; done) | (simp; omega) | omega) _ | refine Below.alloc ?_ (by first | exact Nat.le_refl _ | (simp; done) | (simp; omega) | omega) _)
  clear hww1 hBzw1
  have l1 := m11.lt
  generalize wc2.heap.size = b1 at *
  refine (D2.out _).mono ?_
  rintro e wc3 ⟨rfl, hb1⟩
  replace m11 := m11.below hb1
  replace m12 := m12.below hb1
  replace hB := hB.trans (hb1.mono hB.size)
  have hb_wc3 := hb1
  clear hb1
  go_wp2_with fail
  refine name_wp ?_
  intro w2 hww2
  replace m11 : Mine w2 b1 0 (.int .i64 D.1) := by rw [hww2]; (repeat first | with_reducible assumption | with_reducible refine Mine.drew ?_ | with_reducible refine Mine.drewN ?_ _ | ((with_reducible refine Mine.new ?_); rfl) | ((with_reducible refine Mine.newAt ?_ ?_) <;> first | rfl | (simp; done) | (simp only [World.size_alloc]; rfl)) | ((with_reducible refine Mine.set ?_ _); repeat first | exact Mine.slot (by with_reducible assumption) | with_reducible refine MineS.drew ?_ | with_reducible refine MineS.drewN ?_ _ | exact MineS.new (by decide) | with_reducible refine MineS.set ?_ _ _ _ | with_reducible refine MineS.alloc ?_ _) | with_reducible refine Mine.other ?_ _ (by first | (left; omega) | (right; omega) | (simp; done) | (simp; omega)) | with_reducible refine Mine.alloc ?_ _)
  replace m12 : Mine w2 b1 1 (.int .i64 D.2.1) := by rw [hww2]; (repeat first | with_reducible assumption | with_reducible refine Mine.drew ?_ | with_reducible refine Mine.drewN ?_ _ | ((with_reducible refine Mine.new ?_); rfl) | ((with_reducible refine Mine.newAt ?_ ?_) <;> first | rfl | (simp; done) | (simp only [World.size_alloc]; rfl)) | ((with_reducible refine Mine.set ?_ _); repeat first | exact Mine.slot (by with_reducible assumption) | with_reducible refine MineS.drew ?_ | with_reducible refine MineS.drewN ?_ _ | exact MineS.new (by decide) | with_reducible refine MineS.set ?_ _ _ _ | with_reducible refine MineS.alloc ?_ _) | with_reducible refine Mine.other ?_ _ (by first | (left; omega) | (right; omega) | (simp; done) | (simp; omega)) | with_reducible refine Mine.alloc ?_ _)
  replace m13 : Mine w2 wc3.heap.size 0 (.int .i64 D.1) := by rw [hww2]; (repeat first | with_reducible assumption | with_reducible refine Mine.drew ?_ | with_reducible refine Mine.drewN ?_ _ | ((with_reducible refine Mine.new ?_); rfl) | ((with_reducible refine Mine.newAt ?_ ?_) <;> first | rfl | (simp; done) | (simp only [World.size_alloc]; rfl)) | ((with_reducible refine Mine.set ?_ _); repeat first | exact Mine.slot (by with_reducible assumption) | with_reducible refine MineS.drew ?_ | with_reducible refine MineS.drewN ?_ _ | exact MineS.new (by decide) | with_reducible refine MineS.set ?_ _ _ _ | with_reducible refine MineS.alloc ?_ _) | with_reducible refine Mine.other ?_ _ (by first | (left; omega) | (right; omega) | (simp; done) | (simp; omega)) | with_reducible refine Mine.alloc ?_ _)
  replace m14 : Mine w2 wc3.heap.size 1 (.int .i64 D.2.1) := by rw [hww2]; (repeat first | with_reducible assumption | with_reducible refine Mine.drew ?_ | with_reducible refine Mine.drewN ?_ _ | ((with_reducible refine Mine.new ?_); rfl) | ((with_reducible refine Mine.newAt ?_ ?_) <;> first | rfl | (simp; done) | (simp only [World.size_alloc]; rfl)) | ((with_reducible refine Mine.set ?_ _); repeat first | exact Mine.slot (by with_reducible assumption) | with_reducible refine MineS.drew ?_ | with_reducible refine MineS.drewN ?_ _ | exact MineS.new (by decide) | with_reducible refine MineS.set ?_ _ _ _ | with_reducible refine MineS.alloc ?_ _) | with_reducible refine Mine.other ?_ _ (by first | (left; omega) | (right; omega) | (simp; done) | (simp; omega)) | with_reducible refine Mine.alloc ?_ _)
  have hBzw2 := hB.size
  replace hB : Below w.heap.size w w2 := by rw [hww2]; exact (by repeat first | exact Below.refl _ _ | assumption | refine below_drewN ?_ _ | refine Below.drew ?_ | refine Below.setCell ?_ (by first | exact Nat.le_refl _ | (simp; done) | (simp; omega) | omega) _ | refine Below.alloc ?_ (by first | exact Nat.le_refl _ | (simp; done) | (simp; omega) | omega) _)
  clear hww2 hBzw2
  have l2 := m13.lt
  generalize wc3.heap.size = b2 at *
  replace h1 := h1.out
  replace h0 := h0.out
  replace hD := hD.out
  have hzd : w.heap.size ≤ w2.drew.heap.size := hB.size
  have s1 : IntKind.i64.wrap ((n : Int) - bad) = n - bad := IntWalk.i64_in _ (by omega)
  have hcases : ((D.1 == 1 && D.2.1 == 1) = true ∧ (D.1 == 0 && D.2.1 == 1) = false ∧ decide ((n : Int) - (bad : Int) < (k : Int)) = true ∧ ((k : Int) == 0) = false ∧ ((bad : Int) == 0) = false) ∨
      ((D.1 == 1 && D.2.1 == 1) = false ∧ (D.1 == 0 && D.2.1 == 1) = true ∧ decide ((n : Int) - (bad : Int) < (k : Int)) = false ∧ ((k : Int) == 0) = true ∧ True) ∨
      ((D.1 == 1 && D.2.1 == 1) = false ∧ (D.1 == 0 && D.2.1 == 1) = true ∧ decide ((n : Int) - (bad : Int) < (k : Int)) = false ∧ ((k : Int) == 0) = false ∧ ((bad : Int) == 0) = true) ∨
      ((D.1 == 1 && D.2.1 == 1) = false ∧ (D.1 == 0 && D.2.1 == 1) = false ∧ decide ((n : Int) - (bad : Int) < (k : Int)) = false ∧ ((k : Int) == 0) = false ∧ ((bad : Int) == 0) = false) := by
    rw [h1, h0]
    have g : decide ((n : Int) - (bad : Int) < (k : Int)) = decide (n - bad < k) := decide_eq_decide.2 (by omega)
    rw [g]
    by_cases gk : k = 0
    · subst gk; simp
    · by_cases gb : bad = 0
      · subst gb; simp [gk]; omega
      · by_cases g2 : n - bad < k
        · simp [gk, gb, g2]
        · simp [gk, gb, g2]
  have hmono : Hid (bad < n → cmpr D.1 D.2.1 (det n (bad + 1) k).1 (det n (bad + 1) k).2.1 ≤ 0) := fun g => by
    have := det_mono hn24 g hk'
    rwa [hD] at this
  clear h1 h0 hD p0 p1 p2 D1 D2 hm hb hk hG
  generalize D.1 = x at *
  generalize D.2.1 = y at *
  have hEq := run_eq_rv
  have hNe := run_ne_rv
  rcases hcases with ⟨e1, e0, e2, e3, e4⟩ | ⟨e1, e0, e2, e3, e4⟩ | ⟨e1, e0, e2, e3, e4⟩ | ⟨e1, e0, e2, e3, e4⟩
  · have c11 := m11.cell
    have f11 := m11.free
    have l11 := m11.lt
    have c12 := m12.cell
    have f12 := m12.free
    have l12 := m12.lt
    have c13 := m13.cell
    have f13 := m13.free
    have l13 := m13.lt
    have c14 := m14.cell
    have f14 := m14.free
    have l14 := m14.lt
    refine wp_region_held_drew (S := fun w' => w'.cell? ⟨b1, 0, none⟩ = some (.int .i64 x) ∧ w'.cell? ⟨b1, 1, none⟩ = some (.int .i64 y) ∧ w'.cell? ⟨b2, 0, none⟩ = some (.int .i64 x) ∧ w'.cell? ⟨b2, 1, none⟩ = some (.int .i64 y)) (by kernel_rfl) (by first | (dsimp only; go_keep) | go_keep) (fun hHeld => ?_)
    refine take_l (i := 0) (v := ?_) rfl (by kernel_rfl) (by kernel_rfl) (by kernel_rfl) (fun _ _ _ h => h) (Or.inl ⟨by rfl, ?_⟩) (by assumption) ?_
    rotate_left
    · intro w hSw; (try dsimp only at hSw); go_simp; (try with_reducible rfl)
    (try simp only [Act.put, List.setIfInBounds_toArray, List.set_cons_zero, List.set_cons_succ])
    refine take_l (i := 1) (v := ?_) rfl (by kernel_rfl) (by kernel_rfl) (by kernel_rfl) (fun _ _ _ h => h) (Or.inl ⟨by rfl, ?_⟩) (by assumption) ?_
    rotate_left
    · intro w hSw; (try dsimp only at hSw); go_simp; (try with_reducible rfl)
    (try simp only [Act.put, List.setIfInBounds_toArray, List.set_cons_zero, List.set_cons_succ])
    refine take_l (i := 2) (v := ?_) rfl (by kernel_rfl) (by kernel_rfl) (by kernel_rfl) (fun _ _ _ h => h) (Or.inl ⟨by rfl, ?_⟩) (by assumption) ?_
    rotate_left
    · intro w hSw; (try dsimp only at hSw); go_simp; (try with_reducible rfl)
    (try simp only [Act.put, List.setIfInBounds_toArray, List.set_cons_zero, List.set_cons_succ])
    refine take_l (i := 3) (v := ?_) rfl (by kernel_rfl) (by kernel_rfl) (by kernel_rfl) (fun _ _ _ h => h) (Or.inl ⟨by rfl, ?_⟩) (by assumption) ?_
    rotate_left
    · intro w hSw; (try dsimp only at hSw); go_simp; (try with_reducible rfl)
    (try simp only [Act.put, List.setIfInBounds_toArray, List.set_cons_zero, List.set_cons_succ])
    refine take_l (i := 4) (v := ?_) rfl (by kernel_rfl) (by kernel_rfl) (by kernel_rfl) (fun _ _ _ h => h) (Or.inl ⟨by rfl, ?_⟩) (by assumption) ?_
    rotate_left
    · intro w hSw; (try dsimp only at hSw); go_simp; (try with_reducible rfl)
    (try simp only [Act.put, List.setIfInBounds_toArray, List.set_cons_zero, List.set_cons_succ])
    refine take_l (i := 5) (v := ?_) rfl (by kernel_rfl) (by kernel_rfl) (by kernel_rfl) (fun _ _ _ h => h) (Or.inl ⟨by rfl, ?_⟩) (by assumption) ?_
    rotate_left
    · intro w hSw; (try dsimp only at hSw); go_simp; (try with_reducible rfl)
    (try simp only [Act.put, List.setIfInBounds_toArray, List.set_cons_zero, List.set_cons_succ])
    refine take_l (i := 6) (v := ?_) rfl (by kernel_rfl) (by kernel_rfl) (by kernel_rfl) (fun _ _ _ h => h) (Or.inl ⟨by rfl, ?_⟩) (by assumption) ?_
    rotate_left
    · intro w hSw; (try dsimp only at hSw); go_simp; (try with_reducible rfl)
    (try simp only [Act.put, List.setIfInBounds_toArray, List.set_cons_zero, List.set_cons_succ])
    refine take_l (i := 7) (v := ?_) rfl (by kernel_rfl) (by kernel_rfl) (by kernel_rfl) (fun _ _ _ h => h) (Or.inl ⟨by rfl, ?_⟩) (by assumption) ?_
    rotate_left
    · intro w hSw; (try dsimp only at hSw); go_simp; (try with_reducible rfl)
    (try simp only [Act.put, List.setIfInBounds_toArray, List.set_cons_zero, List.set_cons_succ])
    refine take_l (i := 8) (v := ?_) rfl (by kernel_rfl) (by kernel_rfl) (by kernel_rfl) (fun _ _ _ h => h) (Or.inl ⟨by rfl, ?_⟩) (by assumption) ?_
    rotate_left
    · intro w hSw; (try dsimp only at hSw); go_simp; (try with_reducible rfl)
    (try simp only [Act.put, List.setIfInBounds_toArray, List.set_cons_zero, List.set_cons_succ])
    refine take_l (i := 9) (v := ?_) rfl (by kernel_rfl) (by kernel_rfl) (by kernel_rfl) (fun _ _ _ h => h) (Or.inl ⟨by rfl, ?_⟩) (by assumption) ?_
    rotate_left
    · intro w hSw; (try dsimp only at hSw); go_simp; (try with_reducible rfl)
    (try simp only [Act.put, List.setIfInBounds_toArray, List.set_cons_zero, List.set_cons_succ])
    refine take_l (i := 10) (v := ?_) rfl (by kernel_rfl) (by kernel_rfl) (by kernel_rfl) (fun _ _ _ h => h) (Or.inl ⟨by rfl, ?_⟩) (by assumption) ?_
    rotate_left
    · intro w hSw; (try dsimp only at hSw); go_simp; (try with_reducible rfl)
    (try simp only [Act.put, List.setIfInBounds_toArray, List.set_cons_zero, List.set_cons_succ])
    refine take_l (i := 11) (v := ?_) rfl (by kernel_rfl) (by kernel_rfl) (by kernel_rfl) (fun _ _ _ h => h) (Or.inl ⟨by rfl, ?_⟩) (by assumption) ?_
    rotate_left
    · intro w hSw; (try dsimp only at hSw); go_simp; (try with_reducible rfl)
    (try simp only [Act.put, List.setIfInBounds_toArray, List.set_cons_zero, List.set_cons_succ])
    refine take_l (i := 12) (v := ?_) rfl (by kernel_rfl) (by kernel_rfl) (by kernel_rfl) (fun _ _ _ h => h) (Or.inl ⟨by rfl, ?_⟩) (by assumption) ?_
    rotate_left
    · intro w hSw; (try dsimp only at hSw); go_simp; (try with_reducible rfl)
    (try simp only [Act.put, List.setIfInBounds_toArray, List.set_cons_zero, List.set_cons_succ])
    refine take_l (i := 15) (v := ?_) rfl (by kernel_rfl) (by kernel_rfl) (by kernel_rfl) (fun _ _ _ h => h) (Or.inl ⟨by rfl, ?_⟩) (by assumption) ?_
    rotate_left
    · intro w hSw; (try dsimp only at hSw); go_simp; (try with_reducible rfl)
    (try simp only [Act.put, List.setIfInBounds_toArray, List.set_cons_zero, List.set_cons_succ])
    refine take_l (i := 16) (v := ?_) rfl (by kernel_rfl) (by kernel_rfl) (by kernel_rfl) (fun _ _ _ h => h) (Or.inl ⟨by rfl, ?_⟩) (by assumption) ?_
    rotate_left
    · intro w hSw; (try dsimp only at hSw); go_simp; (try with_reducible rfl)
    (try simp only [Act.put, List.setIfInBounds_toArray, List.set_cons_zero, List.set_cons_succ])
    refine take_l (i := 17) (v := ?_) rfl (by kernel_rfl) (by kernel_rfl) (by kernel_rfl) (fun _ _ _ h => h) (Or.inl ⟨by rfl, ?_⟩) (by assumption) ?_
    rotate_left
    · intro w hSw; (try dsimp only at hSw); go_simp; (try with_reducible rfl)
    (try simp only [Act.put, List.setIfInBounds_toArray, List.set_cons_zero, List.set_cons_succ])
    refine take_l (i := 18) (v := ?_) rfl (by kernel_rfl) (by kernel_rfl) (by kernel_rfl) (fun _ _ _ h => h) (Or.inl ⟨by rfl, ?_⟩) (by assumption) ?_
    rotate_left
    · intro w hSw; (try dsimp only at hSw); go_simp; (try with_reducible rfl)
    (try simp only [Act.put, List.setIfInBounds_toArray, List.set_cons_zero, List.set_cons_succ])
    refine take_l (i := 19) (v := ?_) rfl (by kernel_rfl) (by kernel_rfl) (by kernel_rfl) (fun _ _ _ h => h) (Or.inl ⟨by rfl, ?_⟩) (by assumption) ?_
    rotate_left
    · intro w hSw; (try dsimp only at hSw); go_simp; (try with_reducible rfl)
    (try simp only [Act.put, List.setIfInBounds_toArray, List.set_cons_zero, List.set_cons_succ])
    refine wpAnyH_ready (rs := [13]) (by kernel_rfl) (by simp) ?_
    refine ready_l rfl (fun K hK => ?_) AllReadyH.nil
    go_simp
    (go_at_call 24; refine (is_any _ _ _).mono ?_; rintro e wi ⟨rfl, hbwi⟩; have n11wi : Mine wi b1 0 (.int .i64 x) := Mine.below (by (repeat first | with_reducible assumption | with_reducible refine Mine.drew ?_ | with_reducible refine Mine.drewN ?_ _ | ((with_reducible refine Mine.new ?_); rfl) | ((with_reducible refine Mine.newAt ?_ ?_) <;> first | rfl | (simp; done) | (simp only [World.size_alloc]; rfl)) | ((with_reducible refine Mine.set ?_ _); repeat first | exact Mine.slot (by with_reducible assumption) | with_reducible refine MineS.drew ?_ | with_reducible refine MineS.drewN ?_ _ | exact MineS.new (by decide) | with_reducible refine MineS.set ?_ _ _ _ | with_reducible refine MineS.alloc ?_ _) | with_reducible refine Mine.other ?_ _ (by first | (left; omega) | (right; omega) | (simp; done) | (simp; omega)) | with_reducible refine Mine.alloc ?_ _)) hbwi; have g11wi := n11wi.cell; have gf11wi := n11wi.free; have n12wi : Mine wi b1 1 (.int .i64 y) := Mine.below (by (repeat first | with_reducible assumption | with_reducible refine Mine.drew ?_ | with_reducible refine Mine.drewN ?_ _ | ((with_reducible refine Mine.new ?_); rfl) | ((with_reducible refine Mine.newAt ?_ ?_) <;> first | rfl | (simp; done) | (simp only [World.size_alloc]; rfl)) | ((with_reducible refine Mine.set ?_ _); repeat first | exact Mine.slot (by with_reducible assumption) | with_reducible refine MineS.drew ?_ | with_reducible refine MineS.drewN ?_ _ | exact MineS.new (by decide) | with_reducible refine MineS.set ?_ _ _ _ | with_reducible refine MineS.alloc ?_ _) | with_reducible refine Mine.other ?_ _ (by first | (left; omega) | (right; omega) | (simp; done) | (simp; omega)) | with_reducible refine Mine.alloc ?_ _)) hbwi; have g12wi := n12wi.cell; have gf12wi := n12wi.free; have n13wi : Mine wi b2 0 (.int .i64 x) := Mine.below (by (repeat first | with_reducible assumption | with_reducible refine Mine.drew ?_ | with_reducible refine Mine.drewN ?_ _ | ((with_reducible refine Mine.new ?_); rfl) | ((with_reducible refine Mine.newAt ?_ ?_) <;> first | rfl | (simp; done) | (simp only [World.size_alloc]; rfl)) | ((with_reducible refine Mine.set ?_ _); repeat first | exact Mine.slot (by with_reducible assumption) | with_reducible refine MineS.drew ?_ | with_reducible refine MineS.drewN ?_ _ | exact MineS.new (by decide) | with_reducible refine MineS.set ?_ _ _ _ | with_reducible refine MineS.alloc ?_ _) | with_reducible refine Mine.other ?_ _ (by first | (left; omega) | (right; omega) | (simp; done) | (simp; omega)) | with_reducible refine Mine.alloc ?_ _)) hbwi; have g13wi := n13wi.cell; have gf13wi := n13wi.free; have n14wi : Mine wi b2 1 (.int .i64 y) := Mine.below (by (repeat first | with_reducible assumption | with_reducible refine Mine.drew ?_ | with_reducible refine Mine.drewN ?_ _ | ((with_reducible refine Mine.new ?_); rfl) | ((with_reducible refine Mine.newAt ?_ ?_) <;> first | rfl | (simp; done) | (simp only [World.size_alloc]; rfl)) | ((with_reducible refine Mine.set ?_ _); repeat first | exact Mine.slot (by with_reducible assumption) | with_reducible refine MineS.drew ?_ | with_reducible refine MineS.drewN ?_ _ | exact MineS.new (by decide) | with_reducible refine MineS.set ?_ _ _ _ | with_reducible refine MineS.alloc ?_ _) | with_reducible refine Mine.other ?_ _ (by first | (left; omega) | (right; omega) | (simp; done) | (simp; omega)) | with_reducible refine Mine.alloc ?_ _)) hbwi; have g14wi := n14wi.cell; have gf14wi := n14wi.free; have hBwi : Below w.heap.size w wi := Below.trans (by repeat first | exact Below.refl _ _ | assumption | refine below_drewN ?_ _ | refine Below.drew ?_ | refine Below.setCell ?_ (by first | exact Nat.le_refl _ | (simp; done) | (simp; omega) | omega) _ | refine Below.alloc ?_ (by first | exact Nat.le_refl _ | (simp; done) | (simp; omega) | omega) _) (hbwi.mono (by first | exact Nat.le_refl _ | assumption | (simp; done) | (simp; omega) | omega)); have hzwi := hbwi.size; )
    refine hK.out _ _ (by first | (dsimp only; go_keep) | go_keep) (fun hHeld => ?_)
    clear hK K
    (try simp only [Act.put, List.setIfInBounds_toArray, List.set_cons_zero, List.set_cons_succ])
    refine take_l (i := 14) (v := ?_) rfl (by kernel_rfl) (by kernel_rfl) (by kernel_rfl) (fun _ _ _ h => h) (Or.inl ⟨by rfl, ?_⟩) (by assumption) ?_
    rotate_left
    · intro w hSw; (try dsimp only at hSw); go_simp; (try with_reducible rfl)
    (try simp only [Act.put, List.setIfInBounds_toArray, List.set_cons_zero, List.set_cons_succ])
    refine take_l (i := 20) (v := ?_) rfl (by kernel_rfl) (by kernel_rfl) (by kernel_rfl) (fun _ _ _ h => h) (Or.inl ⟨by rfl, ?_⟩) (by assumption) ?_
    rotate_left
    · intro w hSw; (try dsimp only at hSw); go_simp; (try with_reducible rfl)
    (try simp only [Act.put, List.setIfInBounds_toArray, List.set_cons_zero, List.set_cons_succ])
    refine take_l (i := 21) (v := ?_) rfl (by kernel_rfl) (by kernel_rfl) (by kernel_rfl) (fun _ _ _ h => h) (Or.inl ⟨by rfl, ?_⟩) (by assumption) ?_
    rotate_left
    · intro w hSw; (try dsimp only at hSw); go_simp; (try with_reducible rfl)
    (try simp only [Act.put, List.setIfInBounds_toArray, List.set_cons_zero, List.set_cons_succ])
    refine take_l (i := 22) (v := ?_) rfl (by kernel_rfl) (by kernel_rfl) (by kernel_rfl) (fun _ _ _ h => h) (Or.inl ⟨by rfl, ?_⟩) (by assumption) ?_
    rotate_left
    · intro w hSw; (try dsimp only at hSw); go_simp; (try with_reducible rfl)
    (try simp only [Act.put, List.setIfInBounds_toArray, List.set_cons_zero, List.set_cons_succ])
    refine take_l (i := 23) (v := ?_) rfl (by kernel_rfl) (by kernel_rfl) (by kernel_rfl) (fun _ _ _ h => h) (Or.inl ⟨by rfl, ?_⟩) (by assumption) ?_
    rotate_left
    · intro w hSw; (try dsimp only at hSw); go_simp; (try with_reducible rfl)
    (try simp only [Act.put, List.setIfInBounds_toArray, List.set_cons_zero, List.set_cons_succ])
    refine take_l (i := 26) (v := ?_) rfl (by kernel_rfl) (by kernel_rfl) (by kernel_rfl) (fun _ _ _ h => h) (Or.inl ⟨by rfl, ?_⟩) (by assumption) ?_
    rotate_left
    · intro w hSw; (try dsimp only at hSw); go_simp; (try with_reducible rfl)
    (try simp only [Act.put, List.setIfInBounds_toArray, List.set_cons_zero, List.set_cons_succ])
    refine take_l (i := 27) (v := ?_) rfl (by kernel_rfl) (by kernel_rfl) (by kernel_rfl) (fun _ _ _ h => h) (Or.inl ⟨by rfl, ?_⟩) (by assumption) ?_
    rotate_left
    · intro w hSw; (try dsimp only at hSw); go_simp; (try with_reducible rfl)
    (try simp only [Act.put, List.setIfInBounds_toArray, List.set_cons_zero, List.set_cons_succ])
    refine wpAnyH_ready (rs := [24]) (by kernel_rfl) (by simp) ?_
    refine ready_l rfl (fun K hK => ?_) AllReadyH.nil
    go_simp
    (go_at_call 24; refine (is_any _ _ _).mono ?_; rintro e wi ⟨rfl, hbwi⟩; have n11wi : Mine wi b1 0 (.int .i64 x) := Mine.below (by (repeat first | with_reducible assumption | with_reducible refine Mine.drew ?_ | with_reducible refine Mine.drewN ?_ _ | ((with_reducible refine Mine.new ?_); rfl) | ((with_reducible refine Mine.newAt ?_ ?_) <;> first | rfl | (simp; done) | (simp only [World.size_alloc]; rfl)) | ((with_reducible refine Mine.set ?_ _); repeat first | exact Mine.slot (by with_reducible assumption) | with_reducible refine MineS.drew ?_ | with_reducible refine MineS.drewN ?_ _ | exact MineS.new (by decide) | with_reducible refine MineS.set ?_ _ _ _ | with_reducible refine MineS.alloc ?_ _) | with_reducible refine Mine.other ?_ _ (by first | (left; omega) | (right; omega) | (simp; done) | (simp; omega)) | with_reducible refine Mine.alloc ?_ _)) hbwi; have g11wi := n11wi.cell; have gf11wi := n11wi.free; have n12wi : Mine wi b1 1 (.int .i64 y) := Mine.below (by (repeat first | with_reducible assumption | with_reducible refine Mine.drew ?_ | with_reducible refine Mine.drewN ?_ _ | ((with_reducible refine Mine.new ?_); rfl) | ((with_reducible refine Mine.newAt ?_ ?_) <;> first | rfl | (simp; done) | (simp only [World.size_alloc]; rfl)) | ((with_reducible refine Mine.set ?_ _); repeat first | exact Mine.slot (by with_reducible assumption) | with_reducible refine MineS.drew ?_ | with_reducible refine MineS.drewN ?_ _ | exact MineS.new (by decide) | with_reducible refine MineS.set ?_ _ _ _ | with_reducible refine MineS.alloc ?_ _) | with_reducible refine Mine.other ?_ _ (by first | (left; omega) | (right; omega) | (simp; done) | (simp; omega)) | with_reducible refine Mine.alloc ?_ _)) hbwi; have g12wi := n12wi.cell; have gf12wi := n12wi.free; have n13wi : Mine wi b2 0 (.int .i64 x) := Mine.below (by (repeat first | with_reducible assumption | with_reducible refine Mine.drew ?_ | with_reducible refine Mine.drewN ?_ _ | ((with_reducible refine Mine.new ?_); rfl) | ((with_reducible refine Mine.newAt ?_ ?_) <;> first | rfl | (simp; done) | (simp only [World.size_alloc]; rfl)) | ((with_reducible refine Mine.set ?_ _); repeat first | exact Mine.slot (by with_reducible assumption) | with_reducible refine MineS.drew ?_ | with_reducible refine MineS.drewN ?_ _ | exact MineS.new (by decide) | with_reducible refine MineS.set ?_ _ _ _ | with_reducible refine MineS.alloc ?_ _) | with_reducible refine Mine.other ?_ _ (by first | (left; omega) | (right; omega) | (simp; done) | (simp; omega)) | with_reducible refine Mine.alloc ?_ _)) hbwi; have g13wi := n13wi.cell; have gf13wi := n13wi.free; have n14wi : Mine wi b2 1 (.int .i64 y) := Mine.below (by (repeat first | with_reducible assumption | with_reducible refine Mine.drew ?_ | with_reducible refine Mine.drewN ?_ _ | ((with_reducible refine Mine.new ?_); rfl) | ((with_reducible refine Mine.newAt ?_ ?_) <;> first | rfl | (simp; done) | (simp only [World.size_alloc]; rfl)) | ((with_reducible refine Mine.set ?_ _); repeat first | exact Mine.slot (by with_reducible assumption) | with_reducible refine MineS.drew ?_ | with_reducible refine MineS.drewN ?_ _ | exact MineS.new (by decide) | with_reducible refine MineS.set ?_ _ _ _ | with_reducible refine MineS.alloc ?_ _) | with_reducible refine Mine.other ?_ _ (by first | (left; omega) | (right; omega) | (simp; done) | (simp; omega)) | with_reducible refine Mine.alloc ?_ _)) hbwi; have g14wi := n14wi.cell; have gf14wi := n14wi.free; have hBwi : Below w.heap.size w wi := Below.trans (by repeat first | exact Below.refl _ _ | assumption | refine below_drewN ?_ _ | refine Below.drew ?_ | refine Below.setCell ?_ (by first | exact Nat.le_refl _ | (simp; done) | (simp; omega) | omega) _ | refine Below.alloc ?_ (by first | exact Nat.le_refl _ | (simp; done) | (simp; omega) | omega) _) (hbwi.mono (by first | exact Nat.le_refl _ | assumption | (simp; done) | (simp; omega) | omega)); have hzwi := hbwi.size; )
    refine hK.out _ _ (by first | (dsimp only; go_keep) | go_keep) (fun hHeld => ?_)
    clear hK K
    (try simp only [Act.put, List.setIfInBounds_toArray, List.set_cons_zero, List.set_cons_succ])
    refine take_l (i := 25) (v := ?_) rfl (by kernel_rfl) (by kernel_rfl) (by kernel_rfl) (fun _ _ _ h => h) (Or.inl ⟨by rfl, ?_⟩) (by assumption) ?_
    rotate_left
    · intro w hSw; (try dsimp only at hSw); go_simp; (try with_reducible rfl)
    (try simp only [Act.put, List.setIfInBounds_toArray, List.set_cons_zero, List.set_cons_succ])
    refine take_l (i := 28) (v := ?_) rfl (by kernel_rfl) (by kernel_rfl) (by kernel_rfl) (fun _ _ _ h => h) (Or.inl ⟨by rfl, ?_⟩) (by assumption) ?_
    rotate_left
    · intro w hSw; (try dsimp only at hSw); go_simp; (try with_reducible rfl)
    (try simp only [Act.put, List.setIfInBounds_toArray, List.set_cons_zero, List.set_cons_succ])
    refine take_l (i := 29) (v := ?_) rfl (by kernel_rfl) (by kernel_rfl) (by kernel_rfl) (fun _ _ _ h => h) (Or.inl ⟨by rfl, ?_⟩) (by assumption) ?_
    rotate_left
    · intro w hSw; (try dsimp only at hSw); go_simp; (try with_reducible rfl)
    (try simp only [Act.put, List.setIfInBounds_toArray, List.set_cons_zero, List.set_cons_succ])
    refine take_l (i := 30) (v := ?_) rfl (by kernel_rfl) (by kernel_rfl) (by kernel_rfl) (fun _ _ _ h => h) (Or.inl ⟨by rfl, ?_⟩) (by assumption) ?_
    rotate_left
    · intro w hSw; (try dsimp only at hSw); go_simp; (try with_reducible rfl)
    (try simp only [Act.put, List.setIfInBounds_toArray, List.set_cons_zero, List.set_cons_succ])
    refine take_l (i := 31) (v := ?_) rfl (by kernel_rfl) (by kernel_rfl) (by kernel_rfl) (fun _ _ _ h => h) (Or.inl ⟨by rfl, ?_⟩) (by assumption) ?_
    rotate_left
    · intro w hSw; (try dsimp only at hSw); go_simp; (try with_reducible rfl)
    (try simp only [Act.put, List.setIfInBounds_toArray, List.set_cons_zero, List.set_cons_succ])
    refine take_l (i := 32) (v := ?_) rfl (by kernel_rfl) (by kernel_rfl) (by kernel_rfl) (fun _ _ _ h => h) (Or.inl ⟨by rfl, ?_⟩) (by assumption) ?_
    rotate_left
    · intro w hSw; (try dsimp only at hSw); go_simp; (try with_reducible rfl)
    (try simp only [Act.put, List.setIfInBounds_toArray, List.set_cons_zero, List.set_cons_succ])
    refine take_l (i := 33) (v := ?_) rfl (by kernel_rfl) (by kernel_rfl) (by kernel_rfl) (fun _ _ _ h => h) (Or.inl ⟨by rfl, ?_⟩) (by assumption) ?_
    rotate_left
    · intro w hSw; (try dsimp only at hSw); go_simp; (try with_reducible rfl)
    (try simp only [Act.put, List.setIfInBounds_toArray, List.set_cons_zero, List.set_cons_succ])
    refine wpAnyH_done (by kernel_rfl) ?_ _
    by_cases hbn : bad = n
    · have e5 : ((bad : Int) == (n : Int)) = true := by simp [hbn]
      go_wp2
      go_ret
      exact ⟨rfl, hBwi⟩
    · have e5 : ((bad : Int) == (n : Int)) = false := by simp; omega
      have D3 := Detect_any n (bad + 1 : Nat) k
      rw [detv_in hn1 hn24 (by omega : bad + 1 ≤ n) hk'] at D3
      have C3 := Compare_any x y (det n (bad + 1) k).1 (det n (bad + 1) k).2.1
      have hle := hmono.out (by omega)
      have v3 := det_vld hn24 (by omega : bad + 1 ≤ n) hk'
      generalize det n (bad + 1) k = D' at *
      generalize cmpr x y D'.1 D'.2.1 = c at *
      replace D3 := Lib.hid D3
      replace C3 := Lib.hid C3
      have ix : I64 x := I64.of_num hvx
      have iy : I64 y := I64.of_den hvx
      have iz : I64 D'.1 := I64.of_num v3
      have iw : I64 D'.2.1 := I64.of_den v3
      have hle' : decide (c ≤ 0) = true := by simpa using hle
      clear v3 hle hHeld
      go_wp2_with fail
      rw [show (bad : Int) + 1 = ((bad + 1 : Nat) : Int) from rfl]
      refine (D3.out _).mono ?_
      rintro e w7 ⟨rfl, hb7⟩
      have m7a := n11wi.below hb7
      have m7b := n12wi.below hb7
      have hB7 := hBwi.trans (hb7.mono hBwi.size)
      have hlt7 := m7a.lt
      have c7a := m7a.cell
      have c7b := m7b.cell
      go_wp2_with fail
      refine (C3.out _ ix iy iz iw).mono ?_
      rintro e w8 ⟨rfl, hb8⟩
      go_wp2
      go_ret
      exact ⟨rfl, (hB7.alloc hB7.size _).trans (hb8.mono (by have := hB7.size; simp; omega))⟩
  · have c11 := m11.cell
    have f11 := m11.free
    have l11 := m11.lt
    have c12 := m12.cell
    have f12 := m12.free
    have l12 := m12.lt
    have c13 := m13.cell
    have f13 := m13.free
    have l13 := m13.lt
    have c14 := m14.cell
    have f14 := m14.free
    have l14 := m14.lt
    refine wp_region_held_drew (S := fun w' => w'.cell? ⟨b1, 0, none⟩ = some (.int .i64 x) ∧ w'.cell? ⟨b1, 1, none⟩ = some (.int .i64 y) ∧ w'.cell? ⟨b2, 0, none⟩ = some (.int .i64 x) ∧ w'.cell? ⟨b2, 1, none⟩ = some (.int .i64 y)) (by kernel_rfl) (by first | (dsimp only; go_keep) | go_keep) (fun hHeld => ?_)
    refine take_l (i := 0) (v := ?_) rfl (by kernel_rfl) (by kernel_rfl) (by kernel_rfl) (fun _ _ _ h => h) (Or.inl ⟨by rfl, ?_⟩) (by assumption) ?_
    rotate_left
    · intro w hSw; (try dsimp only at hSw); go_simp; (try with_reducible rfl)
    (try simp only [Act.put, List.setIfInBounds_toArray, List.set_cons_zero, List.set_cons_succ])
    refine take_l (i := 1) (v := ?_) rfl (by kernel_rfl) (by kernel_rfl) (by kernel_rfl) (fun _ _ _ h => h) (Or.inl ⟨by rfl, ?_⟩) (by assumption) ?_
    rotate_left
    · intro w hSw; (try dsimp only at hSw); go_simp; (try with_reducible rfl)
    (try simp only [Act.put, List.setIfInBounds_toArray, List.set_cons_zero, List.set_cons_succ])
    refine take_l (i := 2) (v := ?_) rfl (by kernel_rfl) (by kernel_rfl) (by kernel_rfl) (fun _ _ _ h => h) (Or.inl ⟨by rfl, ?_⟩) (by assumption) ?_
    rotate_left
    · intro w hSw; (try dsimp only at hSw); go_simp; (try with_reducible rfl)
    (try simp only [Act.put, List.setIfInBounds_toArray, List.set_cons_zero, List.set_cons_succ])
    refine take_l (i := 3) (v := ?_) rfl (by kernel_rfl) (by kernel_rfl) (by kernel_rfl) (fun _ _ _ h => h) (Or.inl ⟨by rfl, ?_⟩) (by assumption) ?_
    rotate_left
    · intro w hSw; (try dsimp only at hSw); go_simp; (try with_reducible rfl)
    (try simp only [Act.put, List.setIfInBounds_toArray, List.set_cons_zero, List.set_cons_succ])
    refine take_l (i := 4) (v := ?_) rfl (by kernel_rfl) (by kernel_rfl) (by kernel_rfl) (fun _ _ _ h => h) (Or.inl ⟨by rfl, ?_⟩) (by assumption) ?_
    rotate_left
    · intro w hSw; (try dsimp only at hSw); go_simp; (try with_reducible rfl)
    (try simp only [Act.put, List.setIfInBounds_toArray, List.set_cons_zero, List.set_cons_succ])
    refine take_l (i := 5) (v := ?_) rfl (by kernel_rfl) (by kernel_rfl) (by kernel_rfl) (fun _ _ _ h => h) (Or.inl ⟨by rfl, ?_⟩) (by assumption) ?_
    rotate_left
    · intro w hSw; (try dsimp only at hSw); go_simp; (try with_reducible rfl)
    (try simp only [Act.put, List.setIfInBounds_toArray, List.set_cons_zero, List.set_cons_succ])
    refine take_l (i := 6) (v := ?_) rfl (by kernel_rfl) (by kernel_rfl) (by kernel_rfl) (fun _ _ _ h => h) (Or.inl ⟨by rfl, ?_⟩) (by assumption) ?_
    rotate_left
    · intro w hSw; (try dsimp only at hSw); go_simp; (try with_reducible rfl)
    (try simp only [Act.put, List.setIfInBounds_toArray, List.set_cons_zero, List.set_cons_succ])
    refine take_l (i := 7) (v := ?_) rfl (by kernel_rfl) (by kernel_rfl) (by kernel_rfl) (fun _ _ _ h => h) (Or.inl ⟨by rfl, ?_⟩) (by assumption) ?_
    rotate_left
    · intro w hSw; (try dsimp only at hSw); go_simp; (try with_reducible rfl)
    (try simp only [Act.put, List.setIfInBounds_toArray, List.set_cons_zero, List.set_cons_succ])
    refine take_l (i := 8) (v := ?_) rfl (by kernel_rfl) (by kernel_rfl) (by kernel_rfl) (fun _ _ _ h => h) (Or.inl ⟨by rfl, ?_⟩) (by assumption) ?_
    rotate_left
    · intro w hSw; (try dsimp only at hSw); go_simp; (try with_reducible rfl)
    (try simp only [Act.put, List.setIfInBounds_toArray, List.set_cons_zero, List.set_cons_succ])
    refine take_l (i := 9) (v := ?_) rfl (by kernel_rfl) (by kernel_rfl) (by kernel_rfl) (fun _ _ _ h => h) (Or.inl ⟨by rfl, ?_⟩) (by assumption) ?_
    rotate_left
    · intro w hSw; (try dsimp only at hSw); go_simp; (try with_reducible rfl)
    (try simp only [Act.put, List.setIfInBounds_toArray, List.set_cons_zero, List.set_cons_succ])
    refine take_l (i := 10) (v := ?_) rfl (by kernel_rfl) (by kernel_rfl) (by kernel_rfl) (fun _ _ _ h => h) (Or.inl ⟨by rfl, ?_⟩) (by assumption) ?_
    rotate_left
    · intro w hSw; (try dsimp only at hSw); go_simp; (try with_reducible rfl)
    (try simp only [Act.put, List.setIfInBounds_toArray, List.set_cons_zero, List.set_cons_succ])
    refine take_l (i := 11) (v := ?_) rfl (by kernel_rfl) (by kernel_rfl) (by kernel_rfl) (fun _ _ _ h => h) (Or.inl ⟨by rfl, ?_⟩) (by assumption) ?_
    rotate_left
    · intro w hSw; (try dsimp only at hSw); go_simp; (try with_reducible rfl)
    (try simp only [Act.put, List.setIfInBounds_toArray, List.set_cons_zero, List.set_cons_succ])
    refine take_l (i := 12) (v := ?_) rfl (by kernel_rfl) (by kernel_rfl) (by kernel_rfl) (fun _ _ _ h => h) (Or.inl ⟨by rfl, ?_⟩) (by assumption) ?_
    rotate_left
    · intro w hSw; (try dsimp only at hSw); go_simp; (try with_reducible rfl)
    (try simp only [Act.put, List.setIfInBounds_toArray, List.set_cons_zero, List.set_cons_succ])
    refine take_l (i := 15) (v := ?_) rfl (by kernel_rfl) (by kernel_rfl) (by kernel_rfl) (fun _ _ _ h => h) (Or.inl ⟨by rfl, ?_⟩) (by assumption) ?_
    rotate_left
    · intro w hSw; (try dsimp only at hSw); go_simp; (try with_reducible rfl)
    (try simp only [Act.put, List.setIfInBounds_toArray, List.set_cons_zero, List.set_cons_succ])
    refine take_l (i := 16) (v := ?_) rfl (by kernel_rfl) (by kernel_rfl) (by kernel_rfl) (fun _ _ _ h => h) (Or.inl ⟨by rfl, ?_⟩) (by assumption) ?_
    rotate_left
    · intro w hSw; (try dsimp only at hSw); go_simp; (try with_reducible rfl)
    (try simp only [Act.put, List.setIfInBounds_toArray, List.set_cons_zero, List.set_cons_succ])
    refine take_l (i := 17) (v := ?_) rfl (by kernel_rfl) (by kernel_rfl) (by kernel_rfl) (fun _ _ _ h => h) (Or.inl ⟨by rfl, ?_⟩) (by assumption) ?_
    rotate_left
    · intro w hSw; (try dsimp only at hSw); go_simp; (try with_reducible rfl)
    (try simp only [Act.put, List.setIfInBounds_toArray, List.set_cons_zero, List.set_cons_succ])
    refine take_l (i := 18) (v := ?_) rfl (by kernel_rfl) (by kernel_rfl) (by kernel_rfl) (fun _ _ _ h => h) (Or.inl ⟨by rfl, ?_⟩) (by assumption) ?_
    rotate_left
    · intro w hSw; (try dsimp only at hSw); go_simp; (try with_reducible rfl)
    (try simp only [Act.put, List.setIfInBounds_toArray, List.set_cons_zero, List.set_cons_succ])
    refine take_l (i := 19) (v := ?_) rfl (by kernel_rfl) (by kernel_rfl) (by kernel_rfl) (fun _ _ _ h => h) (Or.inl ⟨by rfl, ?_⟩) (by assumption) ?_
    rotate_left
    · intro w hSw; (try dsimp only at hSw); go_simp; (try with_reducible rfl)
    (try simp only [Act.put, List.setIfInBounds_toArray, List.set_cons_zero, List.set_cons_succ])
    refine wpAnyH_ready (rs := [13]) (by kernel_rfl) (by simp) ?_
    refine ready_l rfl (fun K hK => ?_) AllReadyH.nil
    go_simp
    (go_at_call 24; refine (is_any _ _ _).mono ?_; rintro e wi ⟨rfl, hbwi⟩; have n11wi : Mine wi b1 0 (.int .i64 x) := Mine.below (by (repeat first | with_reducible assumption | with_reducible refine Mine.drew ?_ | with_reducible refine Mine.drewN ?_ _ | ((with_reducible refine Mine.new ?_); rfl) | ((with_reducible refine Mine.newAt ?_ ?_) <;> first | rfl | (simp; done) | (simp only [World.size_alloc]; rfl)) | ((with_reducible refine Mine.set ?_ _); repeat first | exact Mine.slot (by with_reducible assumption) | with_reducible refine MineS.drew ?_ | with_reducible refine MineS.drewN ?_ _ | exact MineS.new (by decide) | with_reducible refine MineS.set ?_ _ _ _ | with_reducible refine MineS.alloc ?_ _) | with_reducible refine Mine.other ?_ _ (by first | (left; omega) | (right; omega) | (simp; done) | (simp; omega)) | with_reducible refine Mine.alloc ?_ _)) hbwi; have g11wi := n11wi.cell; have gf11wi := n11wi.free; have n12wi : Mine wi b1 1 (.int .i64 y) := Mine.below (by (repeat first | with_reducible assumption | with_reducible refine Mine.drew ?_ | with_reducible refine Mine.drewN ?_ _ | ((with_reducible refine Mine.new ?_); rfl) | ((with_reducible refine Mine.newAt ?_ ?_) <;> first | rfl | (simp; done) | (simp only [World.size_alloc]; rfl)) | ((with_reducible refine Mine.set ?_ _); repeat first | exact Mine.slot (by with_reducible assumption) | with_reducible refine MineS.drew ?_ | with_reducible refine MineS.drewN ?_ _ | exact MineS.new (by decide) | with_reducible refine MineS.set ?_ _ _ _ | with_reducible refine MineS.alloc ?_ _) | with_reducible refine Mine.other ?_ _ (by first | (left; omega) | (right; omega) | (simp; done) | (simp; omega)) | with_reducible refine Mine.alloc ?_ _)) hbwi; have g12wi := n12wi.cell; have gf12wi := n12wi.free; have n13wi : Mine wi b2 0 (.int .i64 x) := Mine.below (by (repeat first | with_reducible assumption | with_reducible refine Mine.drew ?_ | with_reducible refine Mine.drewN ?_ _ | ((with_reducible refine Mine.new ?_); rfl) | ((with_reducible refine Mine.newAt ?_ ?_) <;> first | rfl | (simp; done) | (simp only [World.size_alloc]; rfl)) | ((with_reducible refine Mine.set ?_ _); repeat first | exact Mine.slot (by with_reducible assumption) | with_reducible refine MineS.drew ?_ | with_reducible refine MineS.drewN ?_ _ | exact MineS.new (by decide) | with_reducible refine MineS.set ?_ _ _ _ | with_reducible refine MineS.alloc ?_ _) | with_reducible refine Mine.other ?_ _ (by first | (left; omega) | (right; omega) | (simp; done) | (simp; omega)) | with_reducible refine Mine.alloc ?_ _)) hbwi; have g13wi := n13wi.cell; have gf13wi := n13wi.free; have n14wi : Mine wi b2 1 (.int .i64 y) := Mine.below (by (repeat first | with_reducible assumption | with_reducible refine Mine.drew ?_ | with_reducible refine Mine.drewN ?_ _ | ((with_reducible refine Mine.new ?_); rfl) | ((with_reducible refine Mine.newAt ?_ ?_) <;> first | rfl | (simp; done) | (simp only [World.size_alloc]; rfl)) | ((with_reducible refine Mine.set ?_ _); repeat first | exact Mine.slot (by with_reducible assumption) | with_reducible refine MineS.drew ?_ | with_reducible refine MineS.drewN ?_ _ | exact MineS.new (by decide) | with_reducible refine MineS.set ?_ _ _ _ | with_reducible refine MineS.alloc ?_ _) | with_reducible refine Mine.other ?_ _ (by first | (left; omega) | (right; omega) | (simp; done) | (simp; omega)) | with_reducible refine Mine.alloc ?_ _)) hbwi; have g14wi := n14wi.cell; have gf14wi := n14wi.free; have hBwi : Below w.heap.size w wi := Below.trans (by repeat first | exact Below.refl _ _ | assumption | refine below_drewN ?_ _ | refine Below.drew ?_ | refine Below.setCell ?_ (by first | exact Nat.le_refl _ | (simp; done) | (simp; omega) | omega) _ | refine Below.alloc ?_ (by first | exact Nat.le_refl _ | (simp; done) | (simp; omega) | omega) _) (hbwi.mono (by first | exact Nat.le_refl _ | assumption | (simp; done) | (simp; omega) | omega)); have hzwi := hbwi.size; )
    refine hK.out _ _ (by first | (dsimp only; go_keep) | go_keep) (fun hHeld => ?_)
    clear hK K
    (try simp only [Act.put, List.setIfInBounds_toArray, List.set_cons_zero, List.set_cons_succ])
    refine take_l (i := 14) (v := ?_) rfl (by kernel_rfl) (by kernel_rfl) (by kernel_rfl) (fun _ _ _ h => h) (Or.inl ⟨by rfl, ?_⟩) (by assumption) ?_
    rotate_left
    · intro w hSw; (try dsimp only at hSw); go_simp; (try with_reducible rfl)
    (try simp only [Act.put, List.setIfInBounds_toArray, List.set_cons_zero, List.set_cons_succ])
    refine take_l (i := 20) (v := ?_) rfl (by kernel_rfl) (by kernel_rfl) (by kernel_rfl) (fun _ _ _ h => h) (Or.inl ⟨by rfl, ?_⟩) (by assumption) ?_
    rotate_left
    · intro w hSw; (try dsimp only at hSw); go_simp; (try with_reducible rfl)
    (try simp only [Act.put, List.setIfInBounds_toArray, List.set_cons_zero, List.set_cons_succ])
    refine take_l (i := 21) (v := ?_) rfl (by kernel_rfl) (by kernel_rfl) (by kernel_rfl) (fun _ _ _ h => h) (Or.inl ⟨by rfl, ?_⟩) (by assumption) ?_
    rotate_left
    · intro w hSw; (try dsimp only at hSw); go_simp; (try with_reducible rfl)
    (try simp only [Act.put, List.setIfInBounds_toArray, List.set_cons_zero, List.set_cons_succ])
    refine take_l (i := 22) (v := ?_) rfl (by kernel_rfl) (by kernel_rfl) (by kernel_rfl) (fun _ _ _ h => h) (Or.inl ⟨by rfl, ?_⟩) (by assumption) ?_
    rotate_left
    · intro w hSw; (try dsimp only at hSw); go_simp; (try with_reducible rfl)
    (try simp only [Act.put, List.setIfInBounds_toArray, List.set_cons_zero, List.set_cons_succ])
    refine take_l (i := 23) (v := ?_) rfl (by kernel_rfl) (by kernel_rfl) (by kernel_rfl) (fun _ _ _ h => h) (Or.inl ⟨by rfl, ?_⟩) (by assumption) ?_
    rotate_left
    · intro w hSw; (try dsimp only at hSw); go_simp; (try with_reducible rfl)
    (try simp only [Act.put, List.setIfInBounds_toArray, List.set_cons_zero, List.set_cons_succ])
    refine take_l (i := 26) (v := ?_) rfl (by kernel_rfl) (by kernel_rfl) (by kernel_rfl) (fun _ _ _ h => h) (Or.inl ⟨by rfl, ?_⟩) (by assumption) ?_
    rotate_left
    · intro w hSw; (try dsimp only at hSw); go_simp; (try with_reducible rfl)
    (try simp only [Act.put, List.setIfInBounds_toArray, List.set_cons_zero, List.set_cons_succ])
    refine take_l (i := 27) (v := ?_) rfl (by kernel_rfl) (by kernel_rfl) (by kernel_rfl) (fun _ _ _ h => h) (Or.inl ⟨by rfl, ?_⟩) (by assumption) ?_
    rotate_left
    · intro w hSw; (try dsimp only at hSw); go_simp; (try with_reducible rfl)
    (try simp only [Act.put, List.setIfInBounds_toArray, List.set_cons_zero, List.set_cons_succ])
    refine wpAnyH_ready (rs := [24]) (by kernel_rfl) (by simp) ?_
    refine ready_l rfl (fun K hK => ?_) AllReadyH.nil
    go_simp
    (go_at_call 24; refine (is_any _ _ _).mono ?_; rintro e wi ⟨rfl, hbwi⟩; have n11wi : Mine wi b1 0 (.int .i64 x) := Mine.below (by (repeat first | with_reducible assumption | with_reducible refine Mine.drew ?_ | with_reducible refine Mine.drewN ?_ _ | ((with_reducible refine Mine.new ?_); rfl) | ((with_reducible refine Mine.newAt ?_ ?_) <;> first | rfl | (simp; done) | (simp only [World.size_alloc]; rfl)) | ((with_reducible refine Mine.set ?_ _); repeat first | exact Mine.slot (by with_reducible assumption) | with_reducible refine MineS.drew ?_ | with_reducible refine MineS.drewN ?_ _ | exact MineS.new (by decide) | with_reducible refine MineS.set ?_ _ _ _ | with_reducible refine MineS.alloc ?_ _) | with_reducible refine Mine.other ?_ _ (by first | (left; omega) | (right; omega) | (simp; done) | (simp; omega)) | with_reducible refine Mine.alloc ?_ _)) hbwi; have g11wi := n11wi.cell; have gf11wi := n11wi.free; have n12wi : Mine wi b1 1 (.int .i64 y) := Mine.below (by (repeat first | with_reducible assumption | with_reducible refine Mine.drew ?_ | with_reducible refine Mine.drewN ?_ _ | ((with_reducible refine Mine.new ?_); rfl) | ((with_reducible refine Mine.newAt ?_ ?_) <;> first | rfl | (simp; done) | (simp only [World.size_alloc]; rfl)) | ((with_reducible refine Mine.set ?_ _); repeat first | exact Mine.slot (by with_reducible assumption) | with_reducible refine MineS.drew ?_ | with_reducible refine MineS.drewN ?_ _ | exact MineS.new (by decide) | with_reducible refine MineS.set ?_ _ _ _ | with_reducible refine MineS.alloc ?_ _) | with_reducible refine Mine.other ?_ _ (by first | (left; omega) | (right; omega) | (simp; done) | (simp; omega)) | with_reducible refine Mine.alloc ?_ _)) hbwi; have g12wi := n12wi.cell; have gf12wi := n12wi.free; have n13wi : Mine wi b2 0 (.int .i64 x) := Mine.below (by (repeat first | with_reducible assumption | with_reducible refine Mine.drew ?_ | with_reducible refine Mine.drewN ?_ _ | ((with_reducible refine Mine.new ?_); rfl) | ((with_reducible refine Mine.newAt ?_ ?_) <;> first | rfl | (simp; done) | (simp only [World.size_alloc]; rfl)) | ((with_reducible refine Mine.set ?_ _); repeat first | exact Mine.slot (by with_reducible assumption) | with_reducible refine MineS.drew ?_ | with_reducible refine MineS.drewN ?_ _ | exact MineS.new (by decide) | with_reducible refine MineS.set ?_ _ _ _ | with_reducible refine MineS.alloc ?_ _) | with_reducible refine Mine.other ?_ _ (by first | (left; omega) | (right; omega) | (simp; done) | (simp; omega)) | with_reducible refine Mine.alloc ?_ _)) hbwi; have g13wi := n13wi.cell; have gf13wi := n13wi.free; have n14wi : Mine wi b2 1 (.int .i64 y) := Mine.below (by (repeat first | with_reducible assumption | with_reducible refine Mine.drew ?_ | with_reducible refine Mine.drewN ?_ _ | ((with_reducible refine Mine.new ?_); rfl) | ((with_reducible refine Mine.newAt ?_ ?_) <;> first | rfl | (simp; done) | (simp only [World.size_alloc]; rfl)) | ((with_reducible refine Mine.set ?_ _); repeat first | exact Mine.slot (by with_reducible assumption) | with_reducible refine MineS.drew ?_ | with_reducible refine MineS.drewN ?_ _ | exact MineS.new (by decide) | with_reducible refine MineS.set ?_ _ _ _ | with_reducible refine MineS.alloc ?_ _) | with_reducible refine Mine.other ?_ _ (by first | (left; omega) | (right; omega) | (simp; done) | (simp; omega)) | with_reducible refine Mine.alloc ?_ _)) hbwi; have g14wi := n14wi.cell; have gf14wi := n14wi.free; have hBwi : Below w.heap.size w wi := Below.trans (by repeat first | exact Below.refl _ _ | assumption | refine below_drewN ?_ _ | refine Below.drew ?_ | refine Below.setCell ?_ (by first | exact Nat.le_refl _ | (simp; done) | (simp; omega) | omega) _ | refine Below.alloc ?_ (by first | exact Nat.le_refl _ | (simp; done) | (simp; omega) | omega) _) (hbwi.mono (by first | exact Nat.le_refl _ | assumption | (simp; done) | (simp; omega) | omega)); have hzwi := hbwi.size; )
    refine hK.out _ _ (by first | (dsimp only; go_keep) | go_keep) (fun hHeld => ?_)
    clear hK K
    (try simp only [Act.put, List.setIfInBounds_toArray, List.set_cons_zero, List.set_cons_succ])
    refine take_l (i := 25) (v := ?_) rfl (by kernel_rfl) (by kernel_rfl) (by kernel_rfl) (fun _ _ _ h => h) (Or.inl ⟨by rfl, ?_⟩) (by assumption) ?_
    rotate_left
    · intro w hSw; (try dsimp only at hSw); go_simp; (try with_reducible rfl)
    (try simp only [Act.put, List.setIfInBounds_toArray, List.set_cons_zero, List.set_cons_succ])
    refine take_l (i := 28) (v := ?_) rfl (by kernel_rfl) (by kernel_rfl) (by kernel_rfl) (fun _ _ _ h => h) (Or.inl ⟨by rfl, ?_⟩) (by assumption) ?_
    rotate_left
    · intro w hSw; (try dsimp only at hSw); go_simp; (try with_reducible rfl)
    (try simp only [Act.put, List.setIfInBounds_toArray, List.set_cons_zero, List.set_cons_succ])
    refine take_l (i := 29) (v := undef) rfl (by kernel_rfl) (by kernel_rfl) (by kernel_rfl) (fun _ _ _ h => h) (Or.inr ⟨by rfl, rfl⟩) (by assumption) ?_
    (try simp only [Act.put, List.setIfInBounds_toArray, List.set_cons_zero, List.set_cons_succ])
    refine take_l (i := 30) (v := undef) rfl (by kernel_rfl) (by kernel_rfl) (by kernel_rfl) (fun _ _ _ h => h) (Or.inr ⟨by rfl, rfl⟩) (by assumption) ?_
    (try simp only [Act.put, List.setIfInBounds_toArray, List.set_cons_zero, List.set_cons_succ])
    refine take_l (i := 31) (v := ?_) rfl (by kernel_rfl) (by kernel_rfl) (by kernel_rfl) (fun _ _ _ h => h) (Or.inl ⟨by rfl, ?_⟩) (by assumption) ?_
    rotate_left
    · intro w hSw; (try dsimp only at hSw); go_simp; (try with_reducible rfl)
    (try simp only [Act.put, List.setIfInBounds_toArray, List.set_cons_zero, List.set_cons_succ])
    refine take_l (i := 32) (v := ?_) rfl (by kernel_rfl) (by kernel_rfl) (by kernel_rfl) (fun _ _ _ h => h) (Or.inl ⟨by rfl, ?_⟩) (by assumption) ?_
    rotate_left
    · intro w hSw; (try dsimp only at hSw); go_simp; (try with_reducible rfl)
    (try simp only [Act.put, List.setIfInBounds_toArray, List.set_cons_zero, List.set_cons_succ])
    refine take_l (i := 33) (v := ?_) rfl (by kernel_rfl) (by kernel_rfl) (by kernel_rfl) (fun _ _ _ h => h) (Or.inl ⟨by rfl, ?_⟩) (by assumption) ?_
    rotate_left
    · intro w hSw; (try dsimp only at hSw); go_simp; (try with_reducible rfl)
    (try simp only [Act.put, List.setIfInBounds_toArray, List.set_cons_zero, List.set_cons_succ])
    refine wpAnyH_done (by kernel_rfl) ?_ _
    by_cases hbn : bad = n
    · have e5 : ((bad : Int) == (n : Int)) = true := by simp [hbn]
      go_wp2
      go_ret
      exact ⟨rfl, hBwi⟩
    · have e5 : ((bad : Int) == (n : Int)) = false := by simp; omega
      have D3 := Detect_any n (bad + 1 : Nat) k
      rw [detv_in hn1 hn24 (by omega : bad + 1 ≤ n) hk'] at D3
      have C3 := Compare_any x y (det n (bad + 1) k).1 (det n (bad + 1) k).2.1
      have hle := hmono.out (by omega)
      have v3 := det_vld hn24 (by omega : bad + 1 ≤ n) hk'
      generalize det n (bad + 1) k = D' at *
      generalize cmpr x y D'.1 D'.2.1 = c at *
      replace D3 := Lib.hid D3
      replace C3 := Lib.hid C3
      have ix : I64 x := I64.of_num hvx
      have iy : I64 y := I64.of_den hvx
      have iz : I64 D'.1 := I64.of_num v3
      have iw : I64 D'.2.1 := I64.of_den v3
      have hle' : decide (c ≤ 0) = true := by simpa using hle
      clear v3 hle hHeld
      go_wp2_with fail
      rw [show (bad : Int) + 1 = ((bad + 1 : Nat) : Int) from rfl]
      refine (D3.out _).mono ?_
      rintro e w7 ⟨rfl, hb7⟩
      have m7a := n11wi.below hb7
      have m7b := n12wi.below hb7
      have hB7 := hBwi.trans (hb7.mono hBwi.size)
      have hlt7 := m7a.lt
      have c7a := m7a.cell
      have c7b := m7b.cell
      go_wp2_with fail
      refine (C3.out _ ix iy iz iw).mono ?_
      rintro e w8 ⟨rfl, hb8⟩
      go_wp2
      go_ret
      exact ⟨rfl, (hB7.alloc hB7.size _).trans (hb8.mono (by have := hB7.size; simp; omega))⟩
  · have c11 := m11.cell
    have f11 := m11.free
    have l11 := m11.lt
    have c12 := m12.cell
    have f12 := m12.free
    have l12 := m12.lt
    have c13 := m13.cell
    have f13 := m13.free
    have l13 := m13.lt
    have c14 := m14.cell
    have f14 := m14.free
    have l14 := m14.lt
    refine wp_region_held_drew (S := fun w' => w'.cell? ⟨b1, 0, none⟩ = some (.int .i64 x) ∧ w'.cell? ⟨b1, 1, none⟩ = some (.int .i64 y) ∧ w'.cell? ⟨b2, 0, none⟩ = some (.int .i64 x) ∧ w'.cell? ⟨b2, 1, none⟩ = some (.int .i64 y)) (by kernel_rfl) (by first | (dsimp only; go_keep) | go_keep) (fun hHeld => ?_)
    refine take_l (i := 0) (v := ?_) rfl (by kernel_rfl) (by kernel_rfl) (by kernel_rfl) (fun _ _ _ h => h) (Or.inl ⟨by rfl, ?_⟩) (by assumption) ?_
    rotate_left
    · intro w hSw; (try dsimp only at hSw); go_simp; (try with_reducible rfl)
    (try simp only [Act.put, List.setIfInBounds_toArray, List.set_cons_zero, List.set_cons_succ])
    refine take_l (i := 1) (v := ?_) rfl (by kernel_rfl) (by kernel_rfl) (by kernel_rfl) (fun _ _ _ h => h) (Or.inl ⟨by rfl, ?_⟩) (by assumption) ?_
    rotate_left
    · intro w hSw; (try dsimp only at hSw); go_simp; (try with_reducible rfl)
    (try simp only [Act.put, List.setIfInBounds_toArray, List.set_cons_zero, List.set_cons_succ])
    refine take_l (i := 2) (v := ?_) rfl (by kernel_rfl) (by kernel_rfl) (by kernel_rfl) (fun _ _ _ h => h) (Or.inl ⟨by rfl, ?_⟩) (by assumption) ?_
    rotate_left
    · intro w hSw; (try dsimp only at hSw); go_simp; (try with_reducible rfl)
    (try simp only [Act.put, List.setIfInBounds_toArray, List.set_cons_zero, List.set_cons_succ])
    refine take_l (i := 3) (v := ?_) rfl (by kernel_rfl) (by kernel_rfl) (by kernel_rfl) (fun _ _ _ h => h) (Or.inl ⟨by rfl, ?_⟩) (by assumption) ?_
    rotate_left
    · intro w hSw; (try dsimp only at hSw); go_simp; (try with_reducible rfl)
    (try simp only [Act.put, List.setIfInBounds_toArray, List.set_cons_zero, List.set_cons_succ])
    refine take_l (i := 4) (v := ?_) rfl (by kernel_rfl) (by kernel_rfl) (by kernel_rfl) (fun _ _ _ h => h) (Or.inl ⟨by rfl, ?_⟩) (by assumption) ?_
    rotate_left
    · intro w hSw; (try dsimp only at hSw); go_simp; (try with_reducible rfl)
    (try simp only [Act.put, List.setIfInBounds_toArray, List.set_cons_zero, List.set_cons_succ])
    refine take_l (i := 5) (v := ?_) rfl (by kernel_rfl) (by kernel_rfl) (by kernel_rfl) (fun _ _ _ h => h) (Or.inl ⟨by rfl, ?_⟩) (by assumption) ?_
    rotate_left
    · intro w hSw; (try dsimp only at hSw); go_simp; (try with_reducible rfl)
    (try simp only [Act.put, List.setIfInBounds_toArray, List.set_cons_zero, List.set_cons_succ])
    refine take_l (i := 6) (v := ?_) rfl (by kernel_rfl) (by kernel_rfl) (by kernel_rfl) (fun _ _ _ h => h) (Or.inl ⟨by rfl, ?_⟩) (by assumption) ?_
    rotate_left
    · intro w hSw; (try dsimp only at hSw); go_simp; (try with_reducible rfl)
    (try simp only [Act.put, List.setIfInBounds_toArray, List.set_cons_zero, List.set_cons_succ])
    refine take_l (i := 7) (v := ?_) rfl (by kernel_rfl) (by kernel_rfl) (by kernel_rfl) (fun _ _ _ h => h) (Or.inl ⟨by rfl, ?_⟩) (by assumption) ?_
    rotate_left
    · intro w hSw; (try dsimp only at hSw); go_simp; (try with_reducible rfl)
    (try simp only [Act.put, List.setIfInBounds_toArray, List.set_cons_zero, List.set_cons_succ])
    refine take_l (i := 8) (v := ?_) rfl (by kernel_rfl) (by kernel_rfl) (by kernel_rfl) (fun _ _ _ h => h) (Or.inl ⟨by rfl, ?_⟩) (by assumption) ?_
    rotate_left
    · intro w hSw; (try dsimp only at hSw); go_simp; (try with_reducible rfl)
    (try simp only [Act.put, List.setIfInBounds_toArray, List.set_cons_zero, List.set_cons_succ])
    refine take_l (i := 9) (v := ?_) rfl (by kernel_rfl) (by kernel_rfl) (by kernel_rfl) (fun _ _ _ h => h) (Or.inl ⟨by rfl, ?_⟩) (by assumption) ?_
    rotate_left
    · intro w hSw; (try dsimp only at hSw); go_simp; (try with_reducible rfl)
    (try simp only [Act.put, List.setIfInBounds_toArray, List.set_cons_zero, List.set_cons_succ])
    refine take_l (i := 10) (v := ?_) rfl (by kernel_rfl) (by kernel_rfl) (by kernel_rfl) (fun _ _ _ h => h) (Or.inl ⟨by rfl, ?_⟩) (by assumption) ?_
    rotate_left
    · intro w hSw; (try dsimp only at hSw); go_simp; (try with_reducible rfl)
    (try simp only [Act.put, List.setIfInBounds_toArray, List.set_cons_zero, List.set_cons_succ])
    refine take_l (i := 11) (v := ?_) rfl (by kernel_rfl) (by kernel_rfl) (by kernel_rfl) (fun _ _ _ h => h) (Or.inl ⟨by rfl, ?_⟩) (by assumption) ?_
    rotate_left
    · intro w hSw; (try dsimp only at hSw); go_simp; (try with_reducible rfl)
    (try simp only [Act.put, List.setIfInBounds_toArray, List.set_cons_zero, List.set_cons_succ])
    refine take_l (i := 12) (v := ?_) rfl (by kernel_rfl) (by kernel_rfl) (by kernel_rfl) (fun _ _ _ h => h) (Or.inl ⟨by rfl, ?_⟩) (by assumption) ?_
    rotate_left
    · intro w hSw; (try dsimp only at hSw); go_simp; (try with_reducible rfl)
    (try simp only [Act.put, List.setIfInBounds_toArray, List.set_cons_zero, List.set_cons_succ])
    refine take_l (i := 15) (v := ?_) rfl (by kernel_rfl) (by kernel_rfl) (by kernel_rfl) (fun _ _ _ h => h) (Or.inl ⟨by rfl, ?_⟩) (by assumption) ?_
    rotate_left
    · intro w hSw; (try dsimp only at hSw); go_simp; (try with_reducible rfl)
    (try simp only [Act.put, List.setIfInBounds_toArray, List.set_cons_zero, List.set_cons_succ])
    refine take_l (i := 16) (v := ?_) rfl (by kernel_rfl) (by kernel_rfl) (by kernel_rfl) (fun _ _ _ h => h) (Or.inl ⟨by rfl, ?_⟩) (by assumption) ?_
    rotate_left
    · intro w hSw; (try dsimp only at hSw); go_simp; (try with_reducible rfl)
    (try simp only [Act.put, List.setIfInBounds_toArray, List.set_cons_zero, List.set_cons_succ])
    refine take_l (i := 17) (v := ?_) rfl (by kernel_rfl) (by kernel_rfl) (by kernel_rfl) (fun _ _ _ h => h) (Or.inl ⟨by rfl, ?_⟩) (by assumption) ?_
    rotate_left
    · intro w hSw; (try dsimp only at hSw); go_simp; (try with_reducible rfl)
    (try simp only [Act.put, List.setIfInBounds_toArray, List.set_cons_zero, List.set_cons_succ])
    refine take_l (i := 18) (v := ?_) rfl (by kernel_rfl) (by kernel_rfl) (by kernel_rfl) (fun _ _ _ h => h) (Or.inl ⟨by rfl, ?_⟩) (by assumption) ?_
    rotate_left
    · intro w hSw; (try dsimp only at hSw); go_simp; (try with_reducible rfl)
    (try simp only [Act.put, List.setIfInBounds_toArray, List.set_cons_zero, List.set_cons_succ])
    refine take_l (i := 19) (v := ?_) rfl (by kernel_rfl) (by kernel_rfl) (by kernel_rfl) (fun _ _ _ h => h) (Or.inl ⟨by rfl, ?_⟩) (by assumption) ?_
    rotate_left
    · intro w hSw; (try dsimp only at hSw); go_simp; (try with_reducible rfl)
    (try simp only [Act.put, List.setIfInBounds_toArray, List.set_cons_zero, List.set_cons_succ])
    refine wpAnyH_ready (rs := [13]) (by kernel_rfl) (by simp) ?_
    refine ready_l rfl (fun K hK => ?_) AllReadyH.nil
    go_simp
    (go_at_call 24; refine (is_any _ _ _).mono ?_; rintro e wi ⟨rfl, hbwi⟩; have n11wi : Mine wi b1 0 (.int .i64 x) := Mine.below (by (repeat first | with_reducible assumption | with_reducible refine Mine.drew ?_ | with_reducible refine Mine.drewN ?_ _ | ((with_reducible refine Mine.new ?_); rfl) | ((with_reducible refine Mine.newAt ?_ ?_) <;> first | rfl | (simp; done) | (simp only [World.size_alloc]; rfl)) | ((with_reducible refine Mine.set ?_ _); repeat first | exact Mine.slot (by with_reducible assumption) | with_reducible refine MineS.drew ?_ | with_reducible refine MineS.drewN ?_ _ | exact MineS.new (by decide) | with_reducible refine MineS.set ?_ _ _ _ | with_reducible refine MineS.alloc ?_ _) | with_reducible refine Mine.other ?_ _ (by first | (left; omega) | (right; omega) | (simp; done) | (simp; omega)) | with_reducible refine Mine.alloc ?_ _)) hbwi; have g11wi := n11wi.cell; have gf11wi := n11wi.free; have n12wi : Mine wi b1 1 (.int .i64 y) := Mine.below (by (repeat first | with_reducible assumption | with_reducible refine Mine.drew ?_ | with_reducible refine Mine.drewN ?_ _ | ((with_reducible refine Mine.new ?_); rfl) | ((with_reducible refine Mine.newAt ?_ ?_) <;> first | rfl | (simp; done) | (simp only [World.size_alloc]; rfl)) | ((with_reducible refine Mine.set ?_ _); repeat first | exact Mine.slot (by with_reducible assumption) | with_reducible refine MineS.drew ?_ | with_reducible refine MineS.drewN ?_ _ | exact MineS.new (by decide) | with_reducible refine MineS.set ?_ _ _ _ | with_reducible refine MineS.alloc ?_ _) | with_reducible refine Mine.other ?_ _ (by first | (left; omega) | (right; omega) | (simp; done) | (simp; omega)) | with_reducible refine Mine.alloc ?_ _)) hbwi; have g12wi := n12wi.cell; have gf12wi := n12wi.free; have n13wi : Mine wi b2 0 (.int .i64 x) := Mine.below (by (repeat first | with_reducible assumption | with_reducible refine Mine.drew ?_ | with_reducible refine Mine.drewN ?_ _ | ((with_reducible refine Mine.new ?_); rfl) | ((with_reducible refine Mine.newAt ?_ ?_) <;> first | rfl | (simp; done) | (simp only [World.size_alloc]; rfl)) | ((with_reducible refine Mine.set ?_ _); repeat first | exact Mine.slot (by with_reducible assumption) | with_reducible refine MineS.drew ?_ | with_reducible refine MineS.drewN ?_ _ | exact MineS.new (by decide) | with_reducible refine MineS.set ?_ _ _ _ | with_reducible refine MineS.alloc ?_ _) | with_reducible refine Mine.other ?_ _ (by first | (left; omega) | (right; omega) | (simp; done) | (simp; omega)) | with_reducible refine Mine.alloc ?_ _)) hbwi; have g13wi := n13wi.cell; have gf13wi := n13wi.free; have n14wi : Mine wi b2 1 (.int .i64 y) := Mine.below (by (repeat first | with_reducible assumption | with_reducible refine Mine.drew ?_ | with_reducible refine Mine.drewN ?_ _ | ((with_reducible refine Mine.new ?_); rfl) | ((with_reducible refine Mine.newAt ?_ ?_) <;> first | rfl | (simp; done) | (simp only [World.size_alloc]; rfl)) | ((with_reducible refine Mine.set ?_ _); repeat first | exact Mine.slot (by with_reducible assumption) | with_reducible refine MineS.drew ?_ | with_reducible refine MineS.drewN ?_ _ | exact MineS.new (by decide) | with_reducible refine MineS.set ?_ _ _ _ | with_reducible refine MineS.alloc ?_ _) | with_reducible refine Mine.other ?_ _ (by first | (left; omega) | (right; omega) | (simp; done) | (simp; omega)) | with_reducible refine Mine.alloc ?_ _)) hbwi; have g14wi := n14wi.cell; have gf14wi := n14wi.free; have hBwi : Below w.heap.size w wi := Below.trans (by repeat first | exact Below.refl _ _ | assumption | refine below_drewN ?_ _ | refine Below.drew ?_ | refine Below.setCell ?_ (by first | exact Nat.le_refl _ | (simp; done) | (simp; omega) | omega) _ | refine Below.alloc ?_ (by first | exact Nat.le_refl _ | (simp; done) | (simp; omega) | omega) _) (hbwi.mono (by first | exact Nat.le_refl _ | assumption | (simp; done) | (simp; omega) | omega)); have hzwi := hbwi.size; )
    refine hK.out _ _ (by first | (dsimp only; go_keep) | go_keep) (fun hHeld => ?_)
    clear hK K
    (try simp only [Act.put, List.setIfInBounds_toArray, List.set_cons_zero, List.set_cons_succ])
    refine take_l (i := 14) (v := ?_) rfl (by kernel_rfl) (by kernel_rfl) (by kernel_rfl) (fun _ _ _ h => h) (Or.inl ⟨by rfl, ?_⟩) (by assumption) ?_
    rotate_left
    · intro w hSw; (try dsimp only at hSw); go_simp; (try with_reducible rfl)
    (try simp only [Act.put, List.setIfInBounds_toArray, List.set_cons_zero, List.set_cons_succ])
    refine take_l (i := 20) (v := ?_) rfl (by kernel_rfl) (by kernel_rfl) (by kernel_rfl) (fun _ _ _ h => h) (Or.inl ⟨by rfl, ?_⟩) (by assumption) ?_
    rotate_left
    · intro w hSw; (try dsimp only at hSw); go_simp; (try with_reducible rfl)
    (try simp only [Act.put, List.setIfInBounds_toArray, List.set_cons_zero, List.set_cons_succ])
    refine take_l (i := 21) (v := ?_) rfl (by kernel_rfl) (by kernel_rfl) (by kernel_rfl) (fun _ _ _ h => h) (Or.inl ⟨by rfl, ?_⟩) (by assumption) ?_
    rotate_left
    · intro w hSw; (try dsimp only at hSw); go_simp; (try with_reducible rfl)
    (try simp only [Act.put, List.setIfInBounds_toArray, List.set_cons_zero, List.set_cons_succ])
    refine take_l (i := 22) (v := ?_) rfl (by kernel_rfl) (by kernel_rfl) (by kernel_rfl) (fun _ _ _ h => h) (Or.inl ⟨by rfl, ?_⟩) (by assumption) ?_
    rotate_left
    · intro w hSw; (try dsimp only at hSw); go_simp; (try with_reducible rfl)
    (try simp only [Act.put, List.setIfInBounds_toArray, List.set_cons_zero, List.set_cons_succ])
    refine take_l (i := 23) (v := ?_) rfl (by kernel_rfl) (by kernel_rfl) (by kernel_rfl) (fun _ _ _ h => h) (Or.inl ⟨by rfl, ?_⟩) (by assumption) ?_
    rotate_left
    · intro w hSw; (try dsimp only at hSw); go_simp; (try with_reducible rfl)
    (try simp only [Act.put, List.setIfInBounds_toArray, List.set_cons_zero, List.set_cons_succ])
    refine take_l (i := 26) (v := ?_) rfl (by kernel_rfl) (by kernel_rfl) (by kernel_rfl) (fun _ _ _ h => h) (Or.inl ⟨by rfl, ?_⟩) (by assumption) ?_
    rotate_left
    · intro w hSw; (try dsimp only at hSw); go_simp; (try with_reducible rfl)
    (try simp only [Act.put, List.setIfInBounds_toArray, List.set_cons_zero, List.set_cons_succ])
    refine take_l (i := 27) (v := ?_) rfl (by kernel_rfl) (by kernel_rfl) (by kernel_rfl) (fun _ _ _ h => h) (Or.inl ⟨by rfl, ?_⟩) (by assumption) ?_
    rotate_left
    · intro w hSw; (try dsimp only at hSw); go_simp; (try with_reducible rfl)
    (try simp only [Act.put, List.setIfInBounds_toArray, List.set_cons_zero, List.set_cons_succ])
    refine wpAnyH_ready (rs := [24]) (by kernel_rfl) (by simp) ?_
    refine ready_l rfl (fun K hK => ?_) AllReadyH.nil
    go_simp
    (go_at_call 24; refine (is_any _ _ _).mono ?_; rintro e wi ⟨rfl, hbwi⟩; have n11wi : Mine wi b1 0 (.int .i64 x) := Mine.below (by (repeat first | with_reducible assumption | with_reducible refine Mine.drew ?_ | with_reducible refine Mine.drewN ?_ _ | ((with_reducible refine Mine.new ?_); rfl) | ((with_reducible refine Mine.newAt ?_ ?_) <;> first | rfl | (simp; done) | (simp only [World.size_alloc]; rfl)) | ((with_reducible refine Mine.set ?_ _); repeat first | exact Mine.slot (by with_reducible assumption) | with_reducible refine MineS.drew ?_ | with_reducible refine MineS.drewN ?_ _ | exact MineS.new (by decide) | with_reducible refine MineS.set ?_ _ _ _ | with_reducible refine MineS.alloc ?_ _) | with_reducible refine Mine.other ?_ _ (by first | (left; omega) | (right; omega) | (simp; done) | (simp; omega)) | with_reducible refine Mine.alloc ?_ _)) hbwi; have g11wi := n11wi.cell; have gf11wi := n11wi.free; have n12wi : Mine wi b1 1 (.int .i64 y) := Mine.below (by (repeat first | with_reducible assumption | with_reducible refine Mine.drew ?_ | with_reducible refine Mine.drewN ?_ _ | ((with_reducible refine Mine.new ?_); rfl) | ((with_reducible refine Mine.newAt ?_ ?_) <;> first | rfl | (simp; done) | (simp only [World.size_alloc]; rfl)) | ((with_reducible refine Mine.set ?_ _); repeat first | exact Mine.slot (by with_reducible assumption) | with_reducible refine MineS.drew ?_ | with_reducible refine MineS.drewN ?_ _ | exact MineS.new (by decide) | with_reducible refine MineS.set ?_ _ _ _ | with_reducible refine MineS.alloc ?_ _) | with_reducible refine Mine.other ?_ _ (by first | (left; omega) | (right; omega) | (simp; done) | (simp; omega)) | with_reducible refine Mine.alloc ?_ _)) hbwi; have g12wi := n12wi.cell; have gf12wi := n12wi.free; have n13wi : Mine wi b2 0 (.int .i64 x) := Mine.below (by (repeat first | with_reducible assumption | with_reducible refine Mine.drew ?_ | with_reducible refine Mine.drewN ?_ _ | ((with_reducible refine Mine.new ?_); rfl) | ((with_reducible refine Mine.newAt ?_ ?_) <;> first | rfl | (simp; done) | (simp only [World.size_alloc]; rfl)) | ((with_reducible refine Mine.set ?_ _); repeat first | exact Mine.slot (by with_reducible assumption) | with_reducible refine MineS.drew ?_ | with_reducible refine MineS.drewN ?_ _ | exact MineS.new (by decide) | with_reducible refine MineS.set ?_ _ _ _ | with_reducible refine MineS.alloc ?_ _) | with_reducible refine Mine.other ?_ _ (by first | (left; omega) | (right; omega) | (simp; done) | (simp; omega)) | with_reducible refine Mine.alloc ?_ _)) hbwi; have g13wi := n13wi.cell; have gf13wi := n13wi.free; have n14wi : Mine wi b2 1 (.int .i64 y) := Mine.below (by (repeat first | with_reducible assumption | with_reducible refine Mine.drew ?_ | with_reducible refine Mine.drewN ?_ _ | ((with_reducible refine Mine.new ?_); rfl) | ((with_reducible refine Mine.newAt ?_ ?_) <;> first | rfl | (simp; done) | (simp only [World.size_alloc]; rfl)) | ((with_reducible refine Mine.set ?_ _); repeat first | exact Mine.slot (by with_reducible assumption) | with_reducible refine MineS.drew ?_ | with_reducible refine MineS.drewN ?_ _ | exact MineS.new (by decide) | with_reducible refine MineS.set ?_ _ _ _ | with_reducible refine MineS.alloc ?_ _) | with_reducible refine Mine.other ?_ _ (by first | (left; omega) | (right; omega) | (simp; done) | (simp; omega)) | with_reducible refine Mine.alloc ?_ _)) hbwi; have g14wi := n14wi.cell; have gf14wi := n14wi.free; have hBwi : Below w.heap.size w wi := Below.trans (by repeat first | exact Below.refl _ _ | assumption | refine below_drewN ?_ _ | refine Below.drew ?_ | refine Below.setCell ?_ (by first | exact Nat.le_refl _ | (simp; done) | (simp; omega) | omega) _ | refine Below.alloc ?_ (by first | exact Nat.le_refl _ | (simp; done) | (simp; omega) | omega) _) (hbwi.mono (by first | exact Nat.le_refl _ | assumption | (simp; done) | (simp; omega) | omega)); have hzwi := hbwi.size; )
    refine hK.out _ _ (by first | (dsimp only; go_keep) | go_keep) (fun hHeld => ?_)
    clear hK K
    (try simp only [Act.put, List.setIfInBounds_toArray, List.set_cons_zero, List.set_cons_succ])
    refine take_l (i := 25) (v := ?_) rfl (by kernel_rfl) (by kernel_rfl) (by kernel_rfl) (fun _ _ _ h => h) (Or.inl ⟨by rfl, ?_⟩) (by assumption) ?_
    rotate_left
    · intro w hSw; (try dsimp only at hSw); go_simp; (try with_reducible rfl)
    (try simp only [Act.put, List.setIfInBounds_toArray, List.set_cons_zero, List.set_cons_succ])
    refine take_l (i := 28) (v := ?_) rfl (by kernel_rfl) (by kernel_rfl) (by kernel_rfl) (fun _ _ _ h => h) (Or.inl ⟨by rfl, ?_⟩) (by assumption) ?_
    rotate_left
    · intro w hSw; (try dsimp only at hSw); go_simp; (try with_reducible rfl)
    (try simp only [Act.put, List.setIfInBounds_toArray, List.set_cons_zero, List.set_cons_succ])
    refine take_l (i := 29) (v := ?_) rfl (by kernel_rfl) (by kernel_rfl) (by kernel_rfl) (fun _ _ _ h => h) (Or.inl ⟨by rfl, ?_⟩) (by assumption) ?_
    rotate_left
    · intro w hSw; (try dsimp only at hSw); go_simp; (try with_reducible rfl)
    (try simp only [Act.put, List.setIfInBounds_toArray, List.set_cons_zero, List.set_cons_succ])
    refine take_l (i := 30) (v := ?_) rfl (by kernel_rfl) (by kernel_rfl) (by kernel_rfl) (fun _ _ _ h => h) (Or.inl ⟨by rfl, ?_⟩) (by assumption) ?_
    rotate_left
    · intro w hSw; (try dsimp only at hSw); go_simp; (try with_reducible rfl)
    (try simp only [Act.put, List.setIfInBounds_toArray, List.set_cons_zero, List.set_cons_succ])
    refine take_l (i := 31) (v := ?_) rfl (by kernel_rfl) (by kernel_rfl) (by kernel_rfl) (fun _ _ _ h => h) (Or.inl ⟨by rfl, ?_⟩) (by assumption) ?_
    rotate_left
    · intro w hSw; (try dsimp only at hSw); go_simp; (try with_reducible rfl)
    (try simp only [Act.put, List.setIfInBounds_toArray, List.set_cons_zero, List.set_cons_succ])
    refine take_l (i := 32) (v := ?_) rfl (by kernel_rfl) (by kernel_rfl) (by kernel_rfl) (fun _ _ _ h => h) (Or.inl ⟨by rfl, ?_⟩) (by assumption) ?_
    rotate_left
    · intro w hSw; (try dsimp only at hSw); go_simp; (try with_reducible rfl)
    (try simp only [Act.put, List.setIfInBounds_toArray, List.set_cons_zero, List.set_cons_succ])
    refine take_l (i := 33) (v := ?_) rfl (by kernel_rfl) (by kernel_rfl) (by kernel_rfl) (fun _ _ _ h => h) (Or.inl ⟨by rfl, ?_⟩) (by assumption) ?_
    rotate_left
    · intro w hSw; (try dsimp only at hSw); go_simp; (try with_reducible rfl)
    (try simp only [Act.put, List.setIfInBounds_toArray, List.set_cons_zero, List.set_cons_succ])
    refine wpAnyH_done (by kernel_rfl) ?_ _
    by_cases hbn : bad = n
    · have e5 : ((bad : Int) == (n : Int)) = true := by simp [hbn]
      go_wp2
      go_ret
      exact ⟨rfl, hBwi⟩
    · have e5 : ((bad : Int) == (n : Int)) = false := by simp; omega
      have D3 := Detect_any n (bad + 1 : Nat) k
      rw [detv_in hn1 hn24 (by omega : bad + 1 ≤ n) hk'] at D3
      have C3 := Compare_any x y (det n (bad + 1) k).1 (det n (bad + 1) k).2.1
      have hle := hmono.out (by omega)
      have v3 := det_vld hn24 (by omega : bad + 1 ≤ n) hk'
      generalize det n (bad + 1) k = D' at *
      generalize cmpr x y D'.1 D'.2.1 = c at *
      replace D3 := Lib.hid D3
      replace C3 := Lib.hid C3
      have ix : I64 x := I64.of_num hvx
      have iy : I64 y := I64.of_den hvx
      have iz : I64 D'.1 := I64.of_num v3
      have iw : I64 D'.2.1 := I64.of_den v3
      have hle' : decide (c ≤ 0) = true := by simpa using hle
      clear v3 hle hHeld
      go_wp2_with fail
      rw [show (bad : Int) + 1 = ((bad + 1 : Nat) : Int) from rfl]
      refine (D3.out _).mono ?_
      rintro e w7 ⟨rfl, hb7⟩
      have m7a := n11wi.below hb7
      have m7b := n12wi.below hb7
      have hB7 := hBwi.trans (hb7.mono hBwi.size)
      have hlt7 := m7a.lt
      have c7a := m7a.cell
      have c7b := m7b.cell
      go_wp2_with fail
      refine (C3.out _ ix iy iz iw).mono ?_
      rintro e w8 ⟨rfl, hb8⟩
      go_wp2
      go_ret
      exact ⟨rfl, (hB7.alloc hB7.size _).trans (hb8.mono (by have := hB7.size; simp; omega))⟩
  · have c11 := m11.cell
    have f11 := m11.free
    have l11 := m11.lt
    have c12 := m12.cell
    have f12 := m12.free
    have l12 := m12.lt
    have c13 := m13.cell
    have f13 := m13.free
    have l13 := m13.lt
    have c14 := m14.cell
    have f14 := m14.free
    have l14 := m14.lt
    refine wp_region_held_drew (S := fun w' => w'.cell? ⟨b1, 0, none⟩ = some (.int .i64 x) ∧ w'.cell? ⟨b1, 1, none⟩ = some (.int .i64 y) ∧ w'.cell? ⟨b2, 0, none⟩ = some (.int .i64 x) ∧ w'.cell? ⟨b2, 1, none⟩ = some (.int .i64 y)) (by kernel_rfl) (by first | (dsimp only; go_keep) | go_keep) (fun hHeld => ?_)
    refine take_l (i := 0) (v := ?_) rfl (by kernel_rfl) (by kernel_rfl) (by kernel_rfl) (fun _ _ _ h => h) (Or.inl ⟨by rfl, ?_⟩) (by assumption) ?_
    rotate_left
    · intro w hSw; (try dsimp only at hSw); go_simp; (try with_reducible rfl)
    (try simp only [Act.put, List.setIfInBounds_toArray, List.set_cons_zero, List.set_cons_succ])
    refine take_l (i := 1) (v := ?_) rfl (by kernel_rfl) (by kernel_rfl) (by kernel_rfl) (fun _ _ _ h => h) (Or.inl ⟨by rfl, ?_⟩) (by assumption) ?_
    rotate_left
    · intro w hSw; (try dsimp only at hSw); go_simp; (try with_reducible rfl)
    (try simp only [Act.put, List.setIfInBounds_toArray, List.set_cons_zero, List.set_cons_succ])
    refine take_l (i := 2) (v := ?_) rfl (by kernel_rfl) (by kernel_rfl) (by kernel_rfl) (fun _ _ _ h => h) (Or.inl ⟨by rfl, ?_⟩) (by assumption) ?_
    rotate_left
    · intro w hSw; (try dsimp only at hSw); go_simp; (try with_reducible rfl)
    (try simp only [Act.put, List.setIfInBounds_toArray, List.set_cons_zero, List.set_cons_succ])
    refine take_l (i := 3) (v := ?_) rfl (by kernel_rfl) (by kernel_rfl) (by kernel_rfl) (fun _ _ _ h => h) (Or.inl ⟨by rfl, ?_⟩) (by assumption) ?_
    rotate_left
    · intro w hSw; (try dsimp only at hSw); go_simp; (try with_reducible rfl)
    (try simp only [Act.put, List.setIfInBounds_toArray, List.set_cons_zero, List.set_cons_succ])
    refine take_l (i := 4) (v := ?_) rfl (by kernel_rfl) (by kernel_rfl) (by kernel_rfl) (fun _ _ _ h => h) (Or.inl ⟨by rfl, ?_⟩) (by assumption) ?_
    rotate_left
    · intro w hSw; (try dsimp only at hSw); go_simp; (try with_reducible rfl)
    (try simp only [Act.put, List.setIfInBounds_toArray, List.set_cons_zero, List.set_cons_succ])
    refine take_l (i := 5) (v := ?_) rfl (by kernel_rfl) (by kernel_rfl) (by kernel_rfl) (fun _ _ _ h => h) (Or.inl ⟨by rfl, ?_⟩) (by assumption) ?_
    rotate_left
    · intro w hSw; (try dsimp only at hSw); go_simp; (try with_reducible rfl)
    (try simp only [Act.put, List.setIfInBounds_toArray, List.set_cons_zero, List.set_cons_succ])
    refine take_l (i := 6) (v := ?_) rfl (by kernel_rfl) (by kernel_rfl) (by kernel_rfl) (fun _ _ _ h => h) (Or.inl ⟨by rfl, ?_⟩) (by assumption) ?_
    rotate_left
    · intro w hSw; (try dsimp only at hSw); go_simp; (try with_reducible rfl)
    (try simp only [Act.put, List.setIfInBounds_toArray, List.set_cons_zero, List.set_cons_succ])
    refine take_l (i := 7) (v := ?_) rfl (by kernel_rfl) (by kernel_rfl) (by kernel_rfl) (fun _ _ _ h => h) (Or.inl ⟨by rfl, ?_⟩) (by assumption) ?_
    rotate_left
    · intro w hSw; (try dsimp only at hSw); go_simp; (try with_reducible rfl)
    (try simp only [Act.put, List.setIfInBounds_toArray, List.set_cons_zero, List.set_cons_succ])
    refine take_l (i := 8) (v := ?_) rfl (by kernel_rfl) (by kernel_rfl) (by kernel_rfl) (fun _ _ _ h => h) (Or.inl ⟨by rfl, ?_⟩) (by assumption) ?_
    rotate_left
    · intro w hSw; (try dsimp only at hSw); go_simp; (try with_reducible rfl)
    (try simp only [Act.put, List.setIfInBounds_toArray, List.set_cons_zero, List.set_cons_succ])
    refine take_l (i := 9) (v := ?_) rfl (by kernel_rfl) (by kernel_rfl) (by kernel_rfl) (fun _ _ _ h => h) (Or.inl ⟨by rfl, ?_⟩) (by assumption) ?_
    rotate_left
    · intro w hSw; (try dsimp only at hSw); go_simp; (try with_reducible rfl)
    (try simp only [Act.put, List.setIfInBounds_toArray, List.set_cons_zero, List.set_cons_succ])
    refine take_l (i := 10) (v := ?_) rfl (by kernel_rfl) (by kernel_rfl) (by kernel_rfl) (fun _ _ _ h => h) (Or.inl ⟨by rfl, ?_⟩) (by assumption) ?_
    rotate_left
    · intro w hSw; (try dsimp only at hSw); go_simp; (try with_reducible rfl)
    (try simp only [Act.put, List.setIfInBounds_toArray, List.set_cons_zero, List.set_cons_succ])
    refine take_l (i := 11) (v := ?_) rfl (by kernel_rfl) (by kernel_rfl) (by kernel_rfl) (fun _ _ _ h => h) (Or.inl ⟨by rfl, ?_⟩) (by assumption) ?_
    rotate_left
    · intro w hSw; (try dsimp only at hSw); go_simp; (try with_reducible rfl)
    (try simp only [Act.put, List.setIfInBounds_toArray, List.set_cons_zero, List.set_cons_succ])
    refine take_l (i := 12) (v := ?_) rfl (by kernel_rfl) (by kernel_rfl) (by kernel_rfl) (fun _ _ _ h => h) (Or.inl ⟨by rfl, ?_⟩) (by assumption) ?_
    rotate_left
    · intro w hSw; (try dsimp only at hSw); go_simp; (try with_reducible rfl)
    (try simp only [Act.put, List.setIfInBounds_toArray, List.set_cons_zero, List.set_cons_succ])
    refine take_l (i := 15) (v := ?_) rfl (by kernel_rfl) (by kernel_rfl) (by kernel_rfl) (fun _ _ _ h => h) (Or.inl ⟨by rfl, ?_⟩) (by assumption) ?_
    rotate_left
    · intro w hSw; (try dsimp only at hSw); go_simp; (try with_reducible rfl)
    (try simp only [Act.put, List.setIfInBounds_toArray, List.set_cons_zero, List.set_cons_succ])
    refine take_l (i := 16) (v := ?_) rfl (by kernel_rfl) (by kernel_rfl) (by kernel_rfl) (fun _ _ _ h => h) (Or.inl ⟨by rfl, ?_⟩) (by assumption) ?_
    rotate_left
    · intro w hSw; (try dsimp only at hSw); go_simp; (try with_reducible rfl)
    (try simp only [Act.put, List.setIfInBounds_toArray, List.set_cons_zero, List.set_cons_succ])
    refine take_l (i := 17) (v := ?_) rfl (by kernel_rfl) (by kernel_rfl) (by kernel_rfl) (fun _ _ _ h => h) (Or.inl ⟨by rfl, ?_⟩) (by assumption) ?_
    rotate_left
    · intro w hSw; (try dsimp only at hSw); go_simp; (try with_reducible rfl)
    (try simp only [Act.put, List.setIfInBounds_toArray, List.set_cons_zero, List.set_cons_succ])
    refine take_l (i := 18) (v := ?_) rfl (by kernel_rfl) (by kernel_rfl) (by kernel_rfl) (fun _ _ _ h => h) (Or.inl ⟨by rfl, ?_⟩) (by assumption) ?_
    rotate_left
    · intro w hSw; (try dsimp only at hSw); go_simp; (try with_reducible rfl)
    (try simp only [Act.put, List.setIfInBounds_toArray, List.set_cons_zero, List.set_cons_succ])
    refine take_l (i := 19) (v := ?_) rfl (by kernel_rfl) (by kernel_rfl) (by kernel_rfl) (fun _ _ _ h => h) (Or.inl ⟨by rfl, ?_⟩) (by assumption) ?_
    rotate_left
    · intro w hSw; (try dsimp only at hSw); go_simp; (try with_reducible rfl)
    (try simp only [Act.put, List.setIfInBounds_toArray, List.set_cons_zero, List.set_cons_succ])
    refine wpAnyH_ready (rs := [13]) (by kernel_rfl) (by simp) ?_
    refine ready_l rfl (fun K hK => ?_) AllReadyH.nil
    go_simp
    (go_at_call 24; refine (is_any _ _ _).mono ?_; rintro e wi ⟨rfl, hbwi⟩; have n11wi : Mine wi b1 0 (.int .i64 x) := Mine.below (by (repeat first | with_reducible assumption | with_reducible refine Mine.drew ?_ | with_reducible refine Mine.drewN ?_ _ | ((with_reducible refine Mine.new ?_); rfl) | ((with_reducible refine Mine.newAt ?_ ?_) <;> first | rfl | (simp; done) | (simp only [World.size_alloc]; rfl)) | ((with_reducible refine Mine.set ?_ _); repeat first | exact Mine.slot (by with_reducible assumption) | with_reducible refine MineS.drew ?_ | with_reducible refine MineS.drewN ?_ _ | exact MineS.new (by decide) | with_reducible refine MineS.set ?_ _ _ _ | with_reducible refine MineS.alloc ?_ _) | with_reducible refine Mine.other ?_ _ (by first | (left; omega) | (right; omega) | (simp; done) | (simp; omega)) | with_reducible refine Mine.alloc ?_ _)) hbwi; have g11wi := n11wi.cell; have gf11wi := n11wi.free; have n12wi : Mine wi b1 1 (.int .i64 y) := Mine.below (by (repeat first | with_reducible assumption | with_reducible refine Mine.drew ?_ | with_reducible refine Mine.drewN ?_ _ | ((with_reducible refine Mine.new ?_); rfl) | ((with_reducible refine Mine.newAt ?_ ?_) <;> first | rfl | (simp; done) | (simp only [World.size_alloc]; rfl)) | ((with_reducible refine Mine.set ?_ _); repeat first | exact Mine.slot (by with_reducible assumption) | with_reducible refine MineS.drew ?_ | with_reducible refine MineS.drewN ?_ _ | exact MineS.new (by decide) | with_reducible refine MineS.set ?_ _ _ _ | with_reducible refine MineS.alloc ?_ _) | with_reducible refine Mine.other ?_ _ (by first | (left; omega) | (right; omega) | (simp; done) | (simp; omega)) | with_reducible refine Mine.alloc ?_ _)) hbwi; have g12wi := n12wi.cell; have gf12wi := n12wi.free; have n13wi : Mine wi b2 0 (.int .i64 x) := Mine.below (by (repeat first | with_reducible assumption | with_reducible refine Mine.drew ?_ | with_reducible refine Mine.drewN ?_ _ | ((with_reducible refine Mine.new ?_); rfl) | ((with_reducible refine Mine.newAt ?_ ?_) <;> first | rfl | (simp; done) | (simp only [World.size_alloc]; rfl)) | ((with_reducible refine Mine.set ?_ _); repeat first | exact Mine.slot (by with_reducible assumption) | with_reducible refine MineS.drew ?_ | with_reducible refine MineS.drewN ?_ _ | exact MineS.new (by decide) | with_reducible refine MineS.set ?_ _ _ _ | with_reducible refine MineS.alloc ?_ _) | with_reducible refine Mine.other ?_ _ (by first | (left; omega) | (right; omega) | (simp; done) | (simp; omega)) | with_reducible refine Mine.alloc ?_ _)) hbwi; have g13wi := n13wi.cell; have gf13wi := n13wi.free; have n14wi : Mine wi b2 1 (.int .i64 y) := Mine.below (by (repeat first | with_reducible assumption | with_reducible refine Mine.drew ?_ | with_reducible refine Mine.drewN ?_ _ | ((with_reducible refine Mine.new ?_); rfl) | ((with_reducible refine Mine.newAt ?_ ?_) <;> first | rfl | (simp; done) | (simp only [World.size_alloc]; rfl)) | ((with_reducible refine Mine.set ?_ _); repeat first | exact Mine.slot (by with_reducible assumption) | with_reducible refine MineS.drew ?_ | with_reducible refine MineS.drewN ?_ _ | exact MineS.new (by decide) | with_reducible refine MineS.set ?_ _ _ _ | with_reducible refine MineS.alloc ?_ _) | with_reducible refine Mine.other ?_ _ (by first | (left; omega) | (right; omega) | (simp; done) | (simp; omega)) | with_reducible refine Mine.alloc ?_ _)) hbwi; have g14wi := n14wi.cell; have gf14wi := n14wi.free; have hBwi : Below w.heap.size w wi := Below.trans (by repeat first | exact Below.refl _ _ | assumption | refine below_drewN ?_ _ | refine Below.drew ?_ | refine Below.setCell ?_ (by first | exact Nat.le_refl _ | (simp; done) | (simp; omega) | omega) _ | refine Below.alloc ?_ (by first | exact Nat.le_refl _ | (simp; done) | (simp; omega) | omega) _) (hbwi.mono (by first | exact Nat.le_refl _ | assumption | (simp; done) | (simp; omega) | omega)); have hzwi := hbwi.size; )
    refine hK.out _ _ (by first | (dsimp only; go_keep) | go_keep) (fun hHeld => ?_)
    clear hK K
    (try simp only [Act.put, List.setIfInBounds_toArray, List.set_cons_zero, List.set_cons_succ])
    refine take_l (i := 14) (v := ?_) rfl (by kernel_rfl) (by kernel_rfl) (by kernel_rfl) (fun _ _ _ h => h) (Or.inl ⟨by rfl, ?_⟩) (by assumption) ?_
    rotate_left
    · intro w hSw; (try dsimp only at hSw); go_simp; (try with_reducible rfl)
    (try simp only [Act.put, List.setIfInBounds_toArray, List.set_cons_zero, List.set_cons_succ])
    refine take_l (i := 20) (v := ?_) rfl (by kernel_rfl) (by kernel_rfl) (by kernel_rfl) (fun _ _ _ h => h) (Or.inl ⟨by rfl, ?_⟩) (by assumption) ?_
    rotate_left
    · intro w hSw; (try dsimp only at hSw); go_simp; (try with_reducible rfl)
    (try simp only [Act.put, List.setIfInBounds_toArray, List.set_cons_zero, List.set_cons_succ])
    refine take_l (i := 21) (v := ?_) rfl (by kernel_rfl) (by kernel_rfl) (by kernel_rfl) (fun _ _ _ h => h) (Or.inl ⟨by rfl, ?_⟩) (by assumption) ?_
    rotate_left
    · intro w hSw; (try dsimp only at hSw); go_simp; (try with_reducible rfl)
    (try simp only [Act.put, List.setIfInBounds_toArray, List.set_cons_zero, List.set_cons_succ])
    refine take_l (i := 22) (v := ?_) rfl (by kernel_rfl) (by kernel_rfl) (by kernel_rfl) (fun _ _ _ h => h) (Or.inl ⟨by rfl, ?_⟩) (by assumption) ?_
    rotate_left
    · intro w hSw; (try dsimp only at hSw); go_simp; (try with_reducible rfl)
    (try simp only [Act.put, List.setIfInBounds_toArray, List.set_cons_zero, List.set_cons_succ])
    refine take_l (i := 23) (v := ?_) rfl (by kernel_rfl) (by kernel_rfl) (by kernel_rfl) (fun _ _ _ h => h) (Or.inl ⟨by rfl, ?_⟩) (by assumption) ?_
    rotate_left
    · intro w hSw; (try dsimp only at hSw); go_simp; (try with_reducible rfl)
    (try simp only [Act.put, List.setIfInBounds_toArray, List.set_cons_zero, List.set_cons_succ])
    refine take_l (i := 26) (v := ?_) rfl (by kernel_rfl) (by kernel_rfl) (by kernel_rfl) (fun _ _ _ h => h) (Or.inl ⟨by rfl, ?_⟩) (by assumption) ?_
    rotate_left
    · intro w hSw; (try dsimp only at hSw); go_simp; (try with_reducible rfl)
    (try simp only [Act.put, List.setIfInBounds_toArray, List.set_cons_zero, List.set_cons_succ])
    refine take_l (i := 27) (v := ?_) rfl (by kernel_rfl) (by kernel_rfl) (by kernel_rfl) (fun _ _ _ h => h) (Or.inl ⟨by rfl, ?_⟩) (by assumption) ?_
    rotate_left
    · intro w hSw; (try dsimp only at hSw); go_simp; (try with_reducible rfl)
    (try simp only [Act.put, List.setIfInBounds_toArray, List.set_cons_zero, List.set_cons_succ])
    refine wpAnyH_ready (rs := [24]) (by kernel_rfl) (by simp) ?_
    refine ready_l rfl (fun K hK => ?_) AllReadyH.nil
    go_simp
    (go_at_call 24; refine (is_any _ _ _).mono ?_; rintro e wi ⟨rfl, hbwi⟩; have n11wi : Mine wi b1 0 (.int .i64 x) := Mine.below (by (repeat first | with_reducible assumption | with_reducible refine Mine.drew ?_ | with_reducible refine Mine.drewN ?_ _ | ((with_reducible refine Mine.new ?_); rfl) | ((with_reducible refine Mine.newAt ?_ ?_) <;> first | rfl | (simp; done) | (simp only [World.size_alloc]; rfl)) | ((with_reducible refine Mine.set ?_ _); repeat first | exact Mine.slot (by with_reducible assumption) | with_reducible refine MineS.drew ?_ | with_reducible refine MineS.drewN ?_ _ | exact MineS.new (by decide) | with_reducible refine MineS.set ?_ _ _ _ | with_reducible refine MineS.alloc ?_ _) | with_reducible refine Mine.other ?_ _ (by first | (left; omega) | (right; omega) | (simp; done) | (simp; omega)) | with_reducible refine Mine.alloc ?_ _)) hbwi; have g11wi := n11wi.cell; have gf11wi := n11wi.free; have n12wi : Mine wi b1 1 (.int .i64 y) := Mine.below (by (repeat first | with_reducible assumption | with_reducible refine Mine.drew ?_ | with_reducible refine Mine.drewN ?_ _ | ((with_reducible refine Mine.new ?_); rfl) | ((with_reducible refine Mine.newAt ?_ ?_) <;> first | rfl | (simp; done) | (simp only [World.size_alloc]; rfl)) | ((with_reducible refine Mine.set ?_ _); repeat first | exact Mine.slot (by with_reducible assumption) | with_reducible refine MineS.drew ?_ | with_reducible refine MineS.drewN ?_ _ | exact MineS.new (by decide) | with_reducible refine MineS.set ?_ _ _ _ | with_reducible refine MineS.alloc ?_ _) | with_reducible refine Mine.other ?_ _ (by first | (left; omega) | (right; omega) | (simp; done) | (simp; omega)) | with_reducible refine Mine.alloc ?_ _)) hbwi; have g12wi := n12wi.cell; have gf12wi := n12wi.free; have n13wi : Mine wi b2 0 (.int .i64 x) := Mine.below (by (repeat first | with_reducible assumption | with_reducible refine Mine.drew ?_ | with_reducible refine Mine.drewN ?_ _ | ((with_reducible refine Mine.new ?_); rfl) | ((with_reducible refine Mine.newAt ?_ ?_) <;> first | rfl | (simp; done) | (simp only [World.size_alloc]; rfl)) | ((with_reducible refine Mine.set ?_ _); repeat first | exact Mine.slot (by with_reducible assumption) | with_reducible refine MineS.drew ?_ | with_reducible refine MineS.drewN ?_ _ | exact MineS.new (by decide) | with_reducible refine MineS.set ?_ _ _ _ | with_reducible refine MineS.alloc ?_ _) | with_reducible refine Mine.other ?_ _ (by first | (left; omega) | (right; omega) | (simp; done) | (simp; omega)) | with_reducible refine Mine.alloc ?_ _)) hbwi; have g13wi := n13wi.cell; have gf13wi := n13wi.free; have n14wi : Mine wi b2 1 (.int .i64 y) := Mine.below (by (repeat first | with_reducible assumption | with_reducible refine Mine.drew ?_ | with_reducible refine Mine.drewN ?_ _ | ((with_reducible refine Mine.new ?_); rfl) | ((with_reducible refine Mine.newAt ?_ ?_) <;> first | rfl | (simp; done) | (simp only [World.size_alloc]; rfl)) | ((with_reducible refine Mine.set ?_ _); repeat first | exact Mine.slot (by with_reducible assumption) | with_reducible refine MineS.drew ?_ | with_reducible refine MineS.drewN ?_ _ | exact MineS.new (by decide) | with_reducible refine MineS.set ?_ _ _ _ | with_reducible refine MineS.alloc ?_ _) | with_reducible refine Mine.other ?_ _ (by first | (left; omega) | (right; omega) | (simp; done) | (simp; omega)) | with_reducible refine Mine.alloc ?_ _)) hbwi; have g14wi := n14wi.cell; have gf14wi := n14wi.free; have hBwi : Below w.heap.size w wi := Below.trans (by repeat first | exact Below.refl _ _ | assumption | refine below_drewN ?_ _ | refine Below.drew ?_ | refine Below.setCell ?_ (by first | exact Nat.le_refl _ | (simp; done) | (simp; omega) | omega) _ | refine Below.alloc ?_ (by first | exact Nat.le_refl _ | (simp; done) | (simp; omega) | omega) _) (hbwi.mono (by first | exact Nat.le_refl _ | assumption | (simp; done) | (simp; omega) | omega)); have hzwi := hbwi.size; )
    refine hK.out _ _ (by first | (dsimp only; go_keep) | go_keep) (fun hHeld => ?_)
    clear hK K
    (try simp only [Act.put, List.setIfInBounds_toArray, List.set_cons_zero, List.set_cons_succ])
    refine take_l (i := 25) (v := ?_) rfl (by kernel_rfl) (by kernel_rfl) (by kernel_rfl) (fun _ _ _ h => h) (Or.inl ⟨by rfl, ?_⟩) (by assumption) ?_
    rotate_left
    · intro w hSw; (try dsimp only at hSw); go_simp; (try with_reducible rfl)
    (try simp only [Act.put, List.setIfInBounds_toArray, List.set_cons_zero, List.set_cons_succ])
    refine take_l (i := 28) (v := ?_) rfl (by kernel_rfl) (by kernel_rfl) (by kernel_rfl) (fun _ _ _ h => h) (Or.inl ⟨by rfl, ?_⟩) (by assumption) ?_
    rotate_left
    · intro w hSw; (try dsimp only at hSw); go_simp; (try with_reducible rfl)
    (try simp only [Act.put, List.setIfInBounds_toArray, List.set_cons_zero, List.set_cons_succ])
    refine take_l (i := 29) (v := ?_) rfl (by kernel_rfl) (by kernel_rfl) (by kernel_rfl) (fun _ _ _ h => h) (Or.inl ⟨by rfl, ?_⟩) (by assumption) ?_
    rotate_left
    · intro w hSw; (try dsimp only at hSw); go_simp; (try with_reducible rfl)
    (try simp only [Act.put, List.setIfInBounds_toArray, List.set_cons_zero, List.set_cons_succ])
    refine take_l (i := 30) (v := ?_) rfl (by kernel_rfl) (by kernel_rfl) (by kernel_rfl) (fun _ _ _ h => h) (Or.inl ⟨by rfl, ?_⟩) (by assumption) ?_
    rotate_left
    · intro w hSw; (try dsimp only at hSw); go_simp; (try with_reducible rfl)
    (try simp only [Act.put, List.setIfInBounds_toArray, List.set_cons_zero, List.set_cons_succ])
    refine take_l (i := 31) (v := ?_) rfl (by kernel_rfl) (by kernel_rfl) (by kernel_rfl) (fun _ _ _ h => h) (Or.inl ⟨by rfl, ?_⟩) (by assumption) ?_
    rotate_left
    · intro w hSw; (try dsimp only at hSw); go_simp; (try with_reducible rfl)
    (try simp only [Act.put, List.setIfInBounds_toArray, List.set_cons_zero, List.set_cons_succ])
    refine take_l (i := 32) (v := ?_) rfl (by kernel_rfl) (by kernel_rfl) (by kernel_rfl) (fun _ _ _ h => h) (Or.inl ⟨by rfl, ?_⟩) (by assumption) ?_
    rotate_left
    · intro w hSw; (try dsimp only at hSw); go_simp; (try with_reducible rfl)
    (try simp only [Act.put, List.setIfInBounds_toArray, List.set_cons_zero, List.set_cons_succ])
    refine take_l (i := 33) (v := ?_) rfl (by kernel_rfl) (by kernel_rfl) (by kernel_rfl) (fun _ _ _ h => h) (Or.inl ⟨by rfl, ?_⟩) (by assumption) ?_
    rotate_left
    · intro w hSw; (try dsimp only at hSw); go_simp; (try with_reducible rfl)
    (try simp only [Act.put, List.setIfInBounds_toArray, List.set_cons_zero, List.set_cons_succ])
    refine wpAnyH_done (by kernel_rfl) ?_ _
    by_cases hbn : bad = n
    · have e5 : ((bad : Int) == (n : Int)) = true := by simp [hbn]
      go_wp2
      go_ret
      exact ⟨rfl, hBwi⟩
    · have e5 : ((bad : Int) == (n : Int)) = false := by simp; omega
      have D3 := Detect_any n (bad + 1 : Nat) k
      rw [detv_in hn1 hn24 (by omega : bad + 1 ≤ n) hk'] at D3
      have C3 := Compare_any x y (det n (bad + 1) k).1 (det n (bad + 1) k).2.1
      have hle := hmono.out (by omega)
      have v3 := det_vld hn24 (by omega : bad + 1 ≤ n) hk'
      generalize det n (bad + 1) k = D' at *
      generalize cmpr x y D'.1 D'.2.1 = c at *
      replace D3 := Lib.hid D3
      replace C3 := Lib.hid C3
      have ix : I64 x := I64.of_num hvx
      have iy : I64 y := I64.of_den hvx
      have iz : I64 D'.1 := I64.of_num v3
      have iw : I64 D'.2.1 := I64.of_den v3
      have hle' : decide (c ≤ 0) = true := by simpa using hle
      clear v3 hle hHeld
      go_wp2_with fail
      rw [show (bad : Int) + 1 = ((bad + 1 : Nat) : Int) from rfl]
      refine (D3.out _).mono ?_
      rintro e w7 ⟨rfl, hb7⟩
      have m7a := n11wi.below hb7
      have m7b := n12wi.below hb7
      have hB7 := hBwi.trans (hb7.mono hBwi.size)
      have hlt7 := m7a.lt
      have c7a := m7a.cell
      have c7b := m7b.cell
      go_wp2_with fail
      refine (C3.out _ ix iy iz iw).mono ?_
      rintro e w8 ⟨rfl, hb8⟩
      go_wp2
      go_ret
      exact ⟨rfl, (hB7.alloc hB7.size _).trans (hb8.mono (by have := hB7.size; simp; omega))⟩
end Go.Proofs.YtjlldolmlfgejaaDoor
