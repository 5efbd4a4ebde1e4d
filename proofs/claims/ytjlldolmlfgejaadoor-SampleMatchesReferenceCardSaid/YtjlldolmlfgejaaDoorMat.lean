/-
  The walk of SampleMatchesReference.
-/
import Derived.Test.YtjlldolmlfgejaaDoorSane
import Derived.Test.YtjlldolmlfgejaaDoorRefN
namespace Go.Proofs.YtjlldolmlfgejaaDoor
open Go.RowKit

section
variable {P : Program} {Q : Exit → Act → World → Prop} {md : Region.Mode} {S : World → Prop}
theorem take_l {l : List Oper} {i : Nat} {oi : Oper} {v : Value} {fuel : Nat} {listed : Array Bool} {a : Act} {w : World} (hi : l[i]? = some oi)
    (hs : Region.noSelect l.toArray = true) (hf : Region.free md l.toArray listed i = true) (hr : (Region.ready md l.toArray listed).contains i = true)
    (hQ : ∀ c a w, Q (.panic c) (a.put oi.dst v) w → Q (.panic c) a w) (hy : YieldsIf P l.toArray S oi v a) (hS : S w)
    (h : wpAnyH P md l.toArray Q S fuel (listed.setIfInBounds i true) (a.put oi.dst v) w) : wpAnyH P md l.toArray Q S (fuel + 1) listed a w :=
  wpAnyH_take (by simpa using hi) hs hf hr hQ hy hS h
theorem ready_l {l : List Oper} {fuel : Nat} {listed : Array Bool} {a : Act} {w : World} {i : Nat} {o : Oper} {rs : List Nat} (ho : l[i]? = some o)
    (h : ∀ K' : Act → World → Prop, Shut (∀ a w, S w → (S w → wpAnyH P md l.toArray Q S fuel (listed.setIfInBounds i true) a w) → K' a w) → if Region.wanted o (yielded l.toArray a.tmps) = true then Oper.wp P o a w K' Q else K' (a.put o.dst undef) w)
    (hs : AllReadyH P md l.toArray Q S fuel listed a w rs) : AllReadyH P md l.toArray Q S fuel listed a w (i :: rs) :=
  AllReadyH.cons (by simpa using ho) h hs
end

/-- The six numbers of the two populations. -/
structure SixAt (w : World) (B : Nat) (x0 x1 x2 x3 x4 x5 : Int) : Prop where
  c0 : Mine w B 0 (.int .i64 x0)
  c1 : Mine w B 1 (.int .i64 x1)
  c2 : Mine w B 2 (.int .i64 x2)
  c3 : Mine w B 3 (.int .i64 x3)
  c4 : Mine w B 4 (.int .i64 x4)
  c5 : Mine w B 5 (.int .i64 x5)
theorem SixAt.below {w w' : World} {B : Nat} {x0 x1 x2 x3 x4 x5 : Int} (h : SixAt w B x0 x1 x2 x3 x4 x5) (hb : Below w.heap.size w w') : SixAt w' B x0 x1 x2 x3 x4 x5 :=
  ⟨h.c0.below hb, h.c1.below hb, h.c2.below hb, h.c3.below hb, h.c4.below hb, h.c5.below hb⟩

theorem SixAt.drew {w : World} {B : Nat} {x0 x1 x2 x3 x4 x5 : Int} (h : SixAt w B x0 x1 x2 x3 x4 x5) : SixAt w.drew B x0 x1 x2 x3 x4 x5 :=
  ⟨h.c0.drew, h.c1.drew, h.c2.drew, h.c3.drew, h.c4.drew, h.c5.drew⟩
/-- What the inner loop keeps: the numbers, the population at hand, the two levels. -/
structure InRel (W0 wr : World) (B b15 bL : Nat) (x0 x1 x2 x3 x4 x5 p q X0 X1 X2 p' q' : Int) : Prop where
  h6 : SixAt wr B x0 x1 x2 x3 x4 x5
  hB : Below W0.heap.size W0 wr
  m1 : Mine wr W0.heap.size 0 (.int .i64 p)
  m2 : Mine wr W0.heap.size 1 (.int .i64 q)
  m21 : Mine wr b15 0 (.int .i64 X0)
  m22 : Mine wr b15 1 (.int .i64 X1)
  m23 : Mine wr b15 2 (.int .i64 X2)
  m41 : Mine wr bL 0 (.int .i64 p)
  m42 : Mine wr bL 1 (.int .i64 q)
  m43 : Mine wr bL 2 (.int .i64 p')
  m44 : Mine wr bL 3 (.int .i64 q')

set_option maxRecDepth 100000 in
set_option maxHeartbeats 4000000 in
theorem MatLaw_any (a0 a1 a2 p q a4 a5 : Int) (w : World) (i0 : I64 a0) (i1 : I64 a1) (i2 : I64 a2) (ip : I64 p) (iq : I64 q) (i4 : I64 a4) (i5 : I64 a5) (hG : w.rangeAt 0 0 (u32s KS)) :
    Calls Tryd.prog 3 #[.int .i64 a0, .int .i64 a1, .int .i64 a2, rv p q, .int .i64 a4, .int .i64 a5] w fun e w' => e = .returned (.bool true) ∧ Below w.heap.size w w' := by
  have hB : Below w.heap.size w w := Below.refl _ _
  have p0 := pick_any a0 25
  have h0 := pickv_lt a0 25 (by omega)
  generalize pickv a0 25 = y0 at *
  have p1 := pick_any a1 26
  have h1 := pickv_lt a1 26 (by omega)
  generalize pickv a1 26 = y1 at *
  have p2 := pick_any a2 26
  have h2 := pickv_lt a2 26 (by omega)
  generalize pickv a2 26 = y2 at *
  replace p0 := Lib.hid p0
  replace p1 := Lib.hid p1
  replace p2 := Lib.hid p2
  go_enter Tryd.func3, Tryd.ntmps3
  go_wp2_with fail
  have hG' : (w.alloc (.cells #[.int .i64 p, .int .i64 q] 23)).rangeAt 0 0 (u32s KS) := fun j v hv => by
    have h := hG j v hv
    exact (((Below.refl w.heap.size w).alloc (Nat.le_refl _) _).cell (World.block_lt_of_cell? w _ h)).trans h
  clear hG
  refine name_calls ?_
  intro w1 hww1
  replace m1 : Mine w1 w.heap.size 0 (.int .i64 p) := by rw [hww1]; (repeat first | with_reducible assumption | with_reducible refine Mine.drew ?_ | with_reducible refine Mine.drewN ?_ _ | ((with_reducible refine Mine.new ?_); rfl) | ((with_reducible refine Mine.newAt ?_ ?_) <;> first | rfl | (simp; done) | (simp only [World.size_alloc]; rfl)) | ((with_reducible refine Mine.set ?_ _); repeat first | exact Mine.slot (by with_reducible assumption) | with_reducible refine MineS.drew ?_ | with_reducible refine MineS.drewN ?_ _ | exact MineS.new (by decide) | exact MineS.newAt (by decide) (by simp) | with_reducible refine MineS.set ?_ _ _ _ | with_reducible refine MineS.alloc ?_ _) | with_reducible refine Mine.other ?_ _ (by first | (left; omega) | (right; omega) | (simp; done) | (simp; omega)) | with_reducible refine Mine.alloc ?_ _)
  replace m2 : Mine w1 w.heap.size 1 (.int .i64 q) := by rw [hww1]; (repeat first | with_reducible assumption | with_reducible refine Mine.drew ?_ | with_reducible refine Mine.drewN ?_ _ | ((with_reducible refine Mine.new ?_); rfl) | ((with_reducible refine Mine.newAt ?_ ?_) <;> first | rfl | (simp; done) | (simp only [World.size_alloc]; rfl)) | ((with_reducible refine Mine.set ?_ _); repeat first | exact Mine.slot (by with_reducible assumption) | with_reducible refine MineS.drew ?_ | with_reducible refine MineS.drewN ?_ _ | exact MineS.new (by decide) | exact MineS.newAt (by decide) (by simp) | with_reducible refine MineS.set ?_ _ _ _ | with_reducible refine MineS.alloc ?_ _) | with_reducible refine Mine.other ?_ _ (by first | (left; omega) | (right; omega) | (simp; done) | (simp; omega)) | with_reducible refine Mine.alloc ?_ _)
  have hBzw1 := hB.size
  replace hG' : w1.rangeAt 0 0 (u32s KS) := by rw [hww1]; exact hG'
  replace hB : Below w.heap.size w w1 := by rw [hww1]; exact (by repeat first | exact Below.refl _ _ | assumption | refine below_drewN ?_ _ | refine Below.drew ?_ | refine Below.setCell ?_ (by first | exact Nat.le_refl _ | (simp; done) | (simp; omega) | omega) _ | refine Below.alloc ?_ (by first | exact Nat.le_refl _ | (simp; done) | (simp; omega) | omega) _)
  clear hww1 hBzw1
  refine (sane_any _ hG').mono ?_
  rintro e ws ⟨rfl, hb1⟩
  replace m1 := m1.below hb1
  replace m2 := m2.below hb1
  replace hB := hB.trans (hb1.mono hB.size)
  have hb_ws := hb1
  clear hb1
  clear hG'
  go_wp2_with fail
  refine (p0.out _ i0 (by omega) (by omega)).mono ?_; rintro e wp ⟨rfl, rfl⟩
  go_wp2_with fail
  refine (p1.out _ i1 (by omega) (by omega)).mono ?_; rintro e wp ⟨rfl, rfl⟩
  go_wp2_with fail
  refine (p2.out _ i2 (by omega) (by omega)).mono ?_; rintro e wp ⟨rfl, rfl⟩
  go_wp2_with fail
  refine name_wp ?_
  intro wl hwwl
  replace m1 : Mine wl w.heap.size 0 (.int .i64 p) := by rw [hwwl]; (repeat first | with_reducible assumption | with_reducible refine Mine.drew ?_ | with_reducible refine Mine.drewN ?_ _ | ((with_reducible refine Mine.new ?_); rfl) | ((with_reducible refine Mine.newAt ?_ ?_) <;> first | rfl | (simp; done) | (simp only [World.size_alloc]; rfl)) | ((with_reducible refine Mine.set ?_ _); repeat first | exact Mine.slot (by with_reducible assumption) | with_reducible refine MineS.drew ?_ | with_reducible refine MineS.drewN ?_ _ | exact MineS.new (by decide) | exact MineS.newAt (by decide) (by simp) | with_reducible refine MineS.set ?_ _ _ _ | with_reducible refine MineS.alloc ?_ _) | with_reducible refine Mine.other ?_ _ (by first | (left; omega) | (right; omega) | (simp; done) | (simp; omega)) | with_reducible refine Mine.alloc ?_ _)
  replace m2 : Mine wl w.heap.size 1 (.int .i64 q) := by rw [hwwl]; (repeat first | with_reducible assumption | with_reducible refine Mine.drew ?_ | with_reducible refine Mine.drewN ?_ _ | ((with_reducible refine Mine.new ?_); rfl) | ((with_reducible refine Mine.newAt ?_ ?_) <;> first | rfl | (simp; done) | (simp only [World.size_alloc]; rfl)) | ((with_reducible refine Mine.set ?_ _); repeat first | exact Mine.slot (by with_reducible assumption) | with_reducible refine MineS.drew ?_ | with_reducible refine MineS.drewN ?_ _ | exact MineS.new (by decide) | exact MineS.newAt (by decide) (by simp) | with_reducible refine MineS.set ?_ _ _ _ | with_reducible refine MineS.alloc ?_ _) | with_reducible refine Mine.other ?_ _ (by first | (left; omega) | (right; omega) | (simp; done) | (simp; omega)) | with_reducible refine Mine.alloc ?_ _)
  replace m11 : Mine wl wp.heap.size 0 (.int .i64 a0) := by rw [hwwl]; (repeat first | with_reducible assumption | with_reducible refine Mine.drew ?_ | with_reducible refine Mine.drewN ?_ _ | ((with_reducible refine Mine.new ?_); rfl) | ((with_reducible refine Mine.newAt ?_ ?_) <;> first | rfl | (simp; done) | (simp only [World.size_alloc]; rfl)) | ((with_reducible refine Mine.set ?_ _); repeat first | exact Mine.slot (by with_reducible assumption) | with_reducible refine MineS.drew ?_ | with_reducible refine MineS.drewN ?_ _ | exact MineS.new (by decide) | exact MineS.newAt (by decide) (by simp) | with_reducible refine MineS.set ?_ _ _ _ | with_reducible refine MineS.alloc ?_ _) | with_reducible refine Mine.other ?_ _ (by first | (left; omega) | (right; omega) | (simp; done) | (simp; omega)) | with_reducible refine Mine.alloc ?_ _)
  replace m12 : Mine wl wp.heap.size 1 (.int .i64 a1) := by rw [hwwl]; (repeat first | with_reducible assumption | with_reducible refine Mine.drew ?_ | with_reducible refine Mine.drewN ?_ _ | ((with_reducible refine Mine.new ?_); rfl) | ((with_reducible refine Mine.newAt ?_ ?_) <;> first | rfl | (simp; done) | (simp only [World.size_alloc]; rfl)) | ((with_reducible refine Mine.set ?_ _); repeat first | exact Mine.slot (by with_reducible assumption) | with_reducible refine MineS.drew ?_ | with_reducible refine MineS.drewN ?_ _ | exact MineS.new (by decide) | exact MineS.newAt (by decide) (by simp) | with_reducible refine MineS.set ?_ _ _ _ | with_reducible refine MineS.alloc ?_ _) | with_reducible refine Mine.other ?_ _ (by first | (left; omega) | (right; omega) | (simp; done) | (simp; omega)) | with_reducible refine Mine.alloc ?_ _)
  replace m13 : Mine wl wp.heap.size 2 (.int .i64 a2) := by rw [hwwl]; (repeat first | with_reducible assumption | with_reducible refine Mine.drew ?_ | with_reducible refine Mine.drewN ?_ _ | ((with_reducible refine Mine.new ?_); rfl) | ((with_reducible refine Mine.newAt ?_ ?_) <;> first | rfl | (simp; done) | (simp only [World.size_alloc]; rfl)) | ((with_reducible refine Mine.set ?_ _); repeat first | exact Mine.slot (by with_reducible assumption) | with_reducible refine MineS.drew ?_ | with_reducible refine MineS.drewN ?_ _ | exact MineS.new (by decide) | exact MineS.newAt (by decide) (by simp) | with_reducible refine MineS.set ?_ _ _ _ | with_reducible refine MineS.alloc ?_ _) | with_reducible refine Mine.other ?_ _ (by first | (left; omega) | (right; omega) | (simp; done) | (simp; omega)) | with_reducible refine Mine.alloc ?_ _)
  replace m14 : Mine wl wp.heap.size 3 (.int .i64 (1 + y0)) := by rw [hwwl]; (repeat first | with_reducible assumption | with_reducible refine Mine.drew ?_ | with_reducible refine Mine.drewN ?_ _ | ((with_reducible refine Mine.new ?_); rfl) | ((with_reducible refine Mine.newAt ?_ ?_) <;> first | rfl | (simp; done) | (simp only [World.size_alloc]; rfl)) | ((with_reducible refine Mine.set ?_ _); repeat first | exact Mine.slot (by with_reducible assumption) | with_reducible refine MineS.drew ?_ | with_reducible refine MineS.drewN ?_ _ | exact MineS.new (by decide) | exact MineS.newAt (by decide) (by simp) | with_reducible refine MineS.set ?_ _ _ _ | with_reducible refine MineS.alloc ?_ _) | with_reducible refine Mine.other ?_ _ (by first | (left; omega) | (right; omega) | (simp; done) | (simp; omega)) | with_reducible refine Mine.alloc ?_ _)
  replace m15 : Mine wl wp.heap.size 4 (.int .i64 y1) := by rw [hwwl]; (repeat first | with_reducible assumption | with_reducible refine Mine.drew ?_ | with_reducible refine Mine.drewN ?_ _ | ((with_reducible refine Mine.new ?_); rfl) | ((with_reducible refine Mine.newAt ?_ ?_) <;> first | rfl | (simp; done) | (simp only [World.size_alloc]; rfl)) | ((with_reducible refine Mine.set ?_ _); repeat first | exact Mine.slot (by with_reducible assumption) | with_reducible refine MineS.drew ?_ | with_reducible refine MineS.drewN ?_ _ | exact MineS.new (by decide) | exact MineS.newAt (by decide) (by simp) | with_reducible refine MineS.set ?_ _ _ _ | with_reducible refine MineS.alloc ?_ _) | with_reducible refine Mine.other ?_ _ (by first | (left; omega) | (right; omega) | (simp; done) | (simp; omega)) | with_reducible refine Mine.alloc ?_ _)
  replace m16 : Mine wl wp.heap.size 5 (.int .i64 y2) := by rw [hwwl]; (repeat first | with_reducible assumption | with_reducible refine Mine.drew ?_ | with_reducible refine Mine.drewN ?_ _ | ((with_reducible refine Mine.new ?_); rfl) | ((with_reducible refine Mine.newAt ?_ ?_) <;> first | rfl | (simp; done) | (simp only [World.size_alloc]; rfl)) | ((with_reducible refine Mine.set ?_ _); repeat first | exact Mine.slot (by with_reducible assumption) | with_reducible refine MineS.drew ?_ | with_reducible refine MineS.drewN ?_ _ | exact MineS.new (by decide) | exact MineS.newAt (by decide) (by simp) | with_reducible refine MineS.set ?_ _ _ _ | with_reducible refine MineS.alloc ?_ _) | with_reducible refine Mine.other ?_ _ (by first | (left; omega) | (right; omega) | (simp; done) | (simp; omega)) | with_reducible refine Mine.alloc ?_ _)
  have hBzwl := hB.size
  replace hB : Below w.heap.size w wl := by rw [hwwl]; exact (by repeat first | exact Below.refl _ _ | assumption | refine below_drewN ?_ _ | refine Below.drew ?_ | refine Below.setCell ?_ (by first | exact Nat.le_refl _ | (simp; done) | (simp; omega) | omega) _ | refine Below.alloc ?_ (by first | exact Nat.le_refl _ | (simp; done) | (simp; omega) | omega) _)
  clear hwwl hBzwl
  have h6 : SixAt wl wp.heap.size a0 a1 a2 (1 + y0) y1 y2 := ⟨m11, m12, m13, m14, m15, m16⟩
  clear m11 m12 m13 m14 m15 m16
  generalize wp.heap.size = B at *
  clear hb_ws p0 p1 p2
  go_loopw [45] (fun v wr => ∃ i : Nat, i ≤ 2 ∧ v = .int .i64 i ∧ SixAt wr B a0 a1 a2 (1 + y0) y1 y2 ∧ Below w.heap.size w wr ∧ Mine wr w.heap.size 0 (.int .i64 p) ∧ Mine wr w.heap.size 1 (.int .i64 q)) (fun v _ => 2 - (intOf v).toNat)
  case atStart => exact ⟨0, by omega, rfl, h6, hB, m1, m2⟩
  case round =>
    clear hB m1 m2 h6
    obtain ⟨i, hi, rfl, h6, hB, m1, m2⟩ := hrel
    have hcase : i = 0 ∨ i = 1 ∨ i = 2 := by omega
    rcases hcase with rfl | rfl | rfl
    · have z0 := h6.c0.cell
      have z1 := h6.c1.cell
      have z2 := h6.c2.cell
      have hD1 := fun w => Detect_any a0 a1 a2 w
      have hD2 := fun w => refDetect_any a0 a1 a2 w
      generalize detv a0 a1 a2 = D at *
      replace hD1 := Lib.hid hD1
      replace hD2 := Lib.hid hD2
      have hL := lawLevel_any a4 a5
      have hlv := (lvl_vld (levelv_lvl a4 a5)).1
      generalize levelv a4 a5 = L at *
      have jx : I64 L.1 := I64.of_num hlv
      have jy : I64 L.2.1 := I64.of_den hlv
      clear hlv
      go_wp2_with fail
      refine name_calls ?_
      intro w2 hww2
      replace m1 : Mine w2 w.heap.size 0 (.int .i64 p) := by rw [hww2]; (repeat first | with_reducible assumption | with_reducible refine Mine.drew ?_ | with_reducible refine Mine.drewN ?_ _ | ((with_reducible refine Mine.new ?_); rfl) | ((with_reducible refine Mine.newAt ?_ ?_) <;> first | rfl | (simp; done) | (simp only [World.size_alloc]; rfl)) | ((with_reducible refine Mine.set ?_ _); repeat first | exact Mine.slot (by with_reducible assumption) | with_reducible refine MineS.drew ?_ | with_reducible refine MineS.drewN ?_ _ | exact MineS.new (by decide) | exact MineS.newAt (by decide) (by simp) | with_reducible refine MineS.set ?_ _ _ _ | with_reducible refine MineS.alloc ?_ _) | with_reducible refine Mine.other ?_ _ (by first | (left; omega) | (right; omega) | (simp; done) | (simp; omega)) | with_reducible refine Mine.alloc ?_ _)
      replace m2 : Mine w2 w.heap.size 1 (.int .i64 q) := by rw [hww2]; (repeat first | with_reducible assumption | with_reducible refine Mine.drew ?_ | with_reducible refine Mine.drewN ?_ _ | ((with_reducible refine Mine.new ?_); rfl) | ((with_reducible refine Mine.newAt ?_ ?_) <;> first | rfl | (simp; done) | (simp only [World.size_alloc]; rfl)) | ((with_reducible refine Mine.set ?_ _); repeat first | exact Mine.slot (by with_reducible assumption) | with_reducible refine MineS.drew ?_ | with_reducible refine MineS.drewN ?_ _ | exact MineS.new (by decide) | exact MineS.newAt (by decide) (by simp) | with_reducible refine MineS.set ?_ _ _ _ | with_reducible refine MineS.alloc ?_ _) | with_reducible refine Mine.other ?_ _ (by first | (left; omega) | (right; omega) | (simp; done) | (simp; omega)) | with_reducible refine Mine.alloc ?_ _)
      replace m21 : Mine w2 wr.heap.size 0 (.int .i64 (a0)) := by rw [hww2]; (repeat first | with_reducible assumption | with_reducible refine Mine.drew ?_ | with_reducible refine Mine.drewN ?_ _ | ((with_reducible refine Mine.new ?_); rfl) | ((with_reducible refine Mine.newAt ?_ ?_) <;> first | rfl | (simp; done) | (simp only [World.size_alloc]; rfl)) | ((with_reducible refine Mine.set ?_ _); repeat first | exact Mine.slot (by with_reducible assumption) | with_reducible refine MineS.drew ?_ | with_reducible refine MineS.drewN ?_ _ | exact MineS.new (by decide) | exact MineS.newAt (by decide) (by simp) | with_reducible refine MineS.set ?_ _ _ _ | with_reducible refine MineS.alloc ?_ _) | with_reducible refine Mine.other ?_ _ (by first | (left; omega) | (right; omega) | (simp; done) | (simp; omega)) | with_reducible refine Mine.alloc ?_ _)
      replace m22 : Mine w2 wr.heap.size 1 (.int .i64 a1) := by rw [hww2]; (repeat first | with_reducible assumption | with_reducible refine Mine.drew ?_ | with_reducible refine Mine.drewN ?_ _ | ((with_reducible refine Mine.new ?_); rfl) | ((with_reducible refine Mine.newAt ?_ ?_) <;> first | rfl | (simp; done) | (simp only [World.size_alloc]; rfl)) | ((with_reducible refine Mine.set ?_ _); repeat first | exact Mine.slot (by with_reducible assumption) | with_reducible refine MineS.drew ?_ | with_reducible refine MineS.drewN ?_ _ | exact MineS.new (by decide) | exact MineS.newAt (by decide) (by simp) | with_reducible refine MineS.set ?_ _ _ _ | with_reducible refine MineS.alloc ?_ _) | with_reducible refine Mine.other ?_ _ (by first | (left; omega) | (right; omega) | (simp; done) | (simp; omega)) | with_reducible refine Mine.alloc ?_ _)
      replace m23 : Mine w2 wr.heap.size 2 (.int .i64 a2) := by rw [hww2]; (repeat first | with_reducible assumption | with_reducible refine Mine.drew ?_ | with_reducible refine Mine.drewN ?_ _ | ((with_reducible refine Mine.new ?_); rfl) | ((with_reducible refine Mine.newAt ?_ ?_) <;> first | rfl | (simp; done) | (simp only [World.size_alloc]; rfl)) | ((with_reducible refine Mine.set ?_ _); repeat first | exact Mine.slot (by with_reducible assumption) | with_reducible refine MineS.drew ?_ | with_reducible refine MineS.drewN ?_ _ | exact MineS.new (by decide) | exact MineS.newAt (by decide) (by simp) | with_reducible refine MineS.set ?_ _ _ _ | with_reducible refine MineS.alloc ?_ _) | with_reducible refine Mine.other ?_ _ (by first | (left; omega) | (right; omega) | (simp; done) | (simp; omega)) | with_reducible refine Mine.alloc ?_ _)
      have hBzw2 := hB.size
      replace h6 : SixAt w2 B a0 a1 a2 (1 + y0) y1 y2 := by rw [hww2]; exact h6.below ((Below.refl _ _).alloc (Nat.le_refl _) _)
      replace hB : Below w.heap.size w w2 := by rw [hww2]; exact (by repeat first | exact Below.refl _ _ | assumption | refine below_drewN ?_ _ | refine Below.drew ?_ | refine Below.setCell ?_ (by first | exact Nat.le_refl _ | (simp; done) | (simp; omega) | omega) _ | refine Below.alloc ?_ (by first | exact Nat.le_refl _ | (simp; done) | (simp; omega) | omega) _)
      clear hww2 hBzw2
      generalize wr.heap.size = b15 at *
      clear z0 z1 z2
      refine (hD1.out _).mono ?_
      rintro e w3 ⟨rfl, hb1⟩
      replace m1 := m1.below hb1
      replace m2 := m2.below hb1
      replace m21 := m21.below hb1
      replace m22 := m22.below hb1
      replace m23 := m23.below hb1
      replace hB := hB.trans (hb1.mono hB.size)
      have hb_w3 := hb1
      clear hb1
      replace h6 := h6.below hb_w3
      have c21 := m21.cell
      have f21 := m21.free
      have l21 := m21.lt
      have c22 := m22.cell
      have f22 := m22.free
      have l22 := m22.lt
      have c23 := m23.cell
      have f23 := m23.free
      have l23 := m23.lt
      go_wp2_with fail
      clear c21 f21 l21
      clear c22 f22 l22
      clear c23 f23 l23
      refine name_calls ?_
      intro w4 hww4
      replace m1 : Mine w4 w.heap.size 0 (.int .i64 p) := by rw [hww4]; (repeat first | with_reducible assumption | with_reducible refine Mine.drew ?_ | with_reducible refine Mine.drewN ?_ _ | ((with_reducible refine Mine.new ?_); rfl) | ((with_reducible refine Mine.newAt ?_ ?_) <;> first | rfl | (simp; done) | (simp only [World.size_alloc]; rfl)) | ((with_reducible refine Mine.set ?_ _); repeat first | exact Mine.slot (by with_reducible assumption) | with_reducible refine MineS.drew ?_ | with_reducible refine MineS.drewN ?_ _ | exact MineS.new (by decide) | exact MineS.newAt (by decide) (by simp) | with_reducible refine MineS.set ?_ _ _ _ | with_reducible refine MineS.alloc ?_ _) | with_reducible refine Mine.other ?_ _ (by first | (left; omega) | (right; omega) | (simp; done) | (simp; omega)) | with_reducible refine Mine.alloc ?_ _)
      replace m2 : Mine w4 w.heap.size 1 (.int .i64 q) := by rw [hww4]; (repeat first | with_reducible assumption | with_reducible refine Mine.drew ?_ | with_reducible refine Mine.drewN ?_ _ | ((with_reducible refine Mine.new ?_); rfl) | ((with_reducible refine Mine.newAt ?_ ?_) <;> first | rfl | (simp; done) | (simp only [World.size_alloc]; rfl)) | ((with_reducible refine Mine.set ?_ _); repeat first | exact Mine.slot (by with_reducible assumption) | with_reducible refine MineS.drew ?_ | with_reducible refine MineS.drewN ?_ _ | exact MineS.new (by decide) | exact MineS.newAt (by decide) (by simp) | with_reducible refine MineS.set ?_ _ _ _ | with_reducible refine MineS.alloc ?_ _) | with_reducible refine Mine.other ?_ _ (by first | (left; omega) | (right; omega) | (simp; done) | (simp; omega)) | with_reducible refine Mine.alloc ?_ _)
      replace m21 : Mine w4 b15 0 (.int .i64 (a0)) := by rw [hww4]; (repeat first | with_reducible assumption | with_reducible refine Mine.drew ?_ | with_reducible refine Mine.drewN ?_ _ | ((with_reducible refine Mine.new ?_); rfl) | ((with_reducible refine Mine.newAt ?_ ?_) <;> first | rfl | (simp; done) | (simp only [World.size_alloc]; rfl)) | ((with_reducible refine Mine.set ?_ _); repeat first | exact Mine.slot (by with_reducible assumption) | with_reducible refine MineS.drew ?_ | with_reducible refine MineS.drewN ?_ _ | exact MineS.new (by decide) | exact MineS.newAt (by decide) (by simp) | with_reducible refine MineS.set ?_ _ _ _ | with_reducible refine MineS.alloc ?_ _) | with_reducible refine Mine.other ?_ _ (by first | (left; omega) | (right; omega) | (simp; done) | (simp; omega)) | with_reducible refine Mine.alloc ?_ _)
      replace m22 : Mine w4 b15 1 (.int .i64 a1) := by rw [hww4]; (repeat first | with_reducible assumption | with_reducible refine Mine.drew ?_ | with_reducible refine Mine.drewN ?_ _ | ((with_reducible refine Mine.new ?_); rfl) | ((with_reducible refine Mine.newAt ?_ ?_) <;> first | rfl | (simp; done) | (simp only [World.size_alloc]; rfl)) | ((with_reducible refine Mine.set ?_ _); repeat first | exact Mine.slot (by with_reducible assumption) | with_reducible refine MineS.drew ?_ | with_reducible refine MineS.drewN ?_ _ | exact MineS.new (by decide) | exact MineS.newAt (by decide) (by simp) | with_reducible refine MineS.set ?_ _ _ _ | with_reducible refine MineS.alloc ?_ _) | with_reducible refine Mine.other ?_ _ (by first | (left; omega) | (right; omega) | (simp; done) | (simp; omega)) | with_reducible refine Mine.alloc ?_ _)
      replace m23 : Mine w4 b15 2 (.int .i64 a2) := by rw [hww4]; (repeat first | with_reducible assumption | with_reducible refine Mine.drew ?_ | with_reducible refine Mine.drewN ?_ _ | ((with_reducible refine Mine.new ?_); rfl) | ((with_reducible refine Mine.newAt ?_ ?_) <;> first | rfl | (simp; done) | (simp only [World.size_alloc]; rfl)) | ((with_reducible refine Mine.set ?_ _); repeat first | exact Mine.slot (by with_reducible assumption) | with_reducible refine MineS.drew ?_ | with_reducible refine MineS.drewN ?_ _ | exact MineS.new (by decide) | exact MineS.newAt (by decide) (by simp) | with_reducible refine MineS.set ?_ _ _ _ | with_reducible refine MineS.alloc ?_ _) | with_reducible refine Mine.other ?_ _ (by first | (left; omega) | (right; omega) | (simp; done) | (simp; omega)) | with_reducible refine Mine.alloc ?_ _)
      replace m31 : Mine w4 w3.heap.size 0 (.int .i64 D.1) := by rw [hww4]; (repeat first | with_reducible assumption | with_reducible refine Mine.drew ?_ | with_reducible refine Mine.drewN ?_ _ | ((with_reducible refine Mine.new ?_); rfl) | ((with_reducible refine Mine.newAt ?_ ?_) <;> first | rfl | (simp; done) | (simp only [World.size_alloc]; rfl)) | ((with_reducible refine Mine.set ?_ _); repeat first | exact Mine.slot (by with_reducible assumption) | with_reducible refine MineS.drew ?_ | with_reducible refine MineS.drewN ?_ _ | exact MineS.new (by decide) | exact MineS.newAt (by decide) (by simp) | with_reducible refine MineS.set ?_ _ _ _ | with_reducible refine MineS.alloc ?_ _) | with_reducible refine Mine.other ?_ _ (by first | (left; omega) | (right; omega) | (simp; done) | (simp; omega)) | with_reducible refine Mine.alloc ?_ _)
      replace m32 : Mine w4 w3.heap.size 1 (.int .i64 D.2.1) := by rw [hww4]; (repeat first | with_reducible assumption | with_reducible refine Mine.drew ?_ | with_reducible refine Mine.drewN ?_ _ | ((with_reducible refine Mine.new ?_); rfl) | ((with_reducible refine Mine.newAt ?_ ?_) <;> first | rfl | (simp; done) | (simp only [World.size_alloc]; rfl)) | ((with_reducible refine Mine.set ?_ _); repeat first | exact Mine.slot (by with_reducible assumption) | with_reducible refine MineS.drew ?_ | with_reducible refine MineS.drewN ?_ _ | exact MineS.new (by decide) | exact MineS.newAt (by decide) (by simp) | with_reducible refine MineS.set ?_ _ _ _ | with_reducible refine MineS.alloc ?_ _) | with_reducible refine Mine.other ?_ _ (by first | (left; omega) | (right; omega) | (simp; done) | (simp; omega)) | with_reducible refine Mine.alloc ?_ _)
      have hBzw4 := hB.size
      replace h6 : SixAt w4 B a0 a1 a2 (1 + y0) y1 y2 := by rw [hww4]; exact h6.below ((Below.refl _ _).alloc (Nat.le_refl _) _)
      replace hB : Below w.heap.size w w4 := by rw [hww4]; exact (by repeat first | exact Below.refl _ _ | assumption | refine below_drewN ?_ _ | refine Below.drew ?_ | refine Below.setCell ?_ (by first | exact Nat.le_refl _ | (simp; done) | (simp; omega) | omega) _ | refine Below.alloc ?_ (by first | exact Nat.le_refl _ | (simp; done) | (simp; omega) | omega) _)
      clear hww4 hBzw4
      refine (hD2.out _).mono ?_
      rintro e w5 ⟨rfl, hb1⟩
      replace m1 := m1.below hb1
      replace m2 := m2.below hb1
      replace m21 := m21.below hb1
      replace m22 := m22.below hb1
      replace m23 := m23.below hb1
      replace m31 := m31.below hb1
      replace m32 := m32.below hb1
      replace hB := hB.trans (hb1.mono hB.size)
      have hb_w5 := hb1
      clear hb1
      replace h6 := h6.below hb_w5
      have hNe := run_ne_rv
      have c31 := m31.cell
      have f31 := m31.free
      have l31 := m31.lt
      have c32 := m32.cell
      have f32 := m32.free
      have l32 := m32.lt
      go_wp2_with fail
      clear c31 f31 l31
      clear c32 f32 l32
      refine name_wp ?_
      intro w6 hww6
      replace m1 : Mine w6 w.heap.size 0 (.int .i64 p) := by rw [hww6]; (repeat first | with_reducible assumption | with_reducible refine Mine.drew ?_ | with_reducible refine Mine.drewN ?_ _ | ((with_reducible refine Mine.new ?_); rfl) | ((with_reducible refine Mine.newAt ?_ ?_) <;> first | rfl | (simp; done) | (simp only [World.size_alloc]; rfl)) | ((with_reducible refine Mine.set ?_ _); repeat first | exact Mine.slot (by with_reducible assumption) | with_reducible refine MineS.drew ?_ | with_reducible refine MineS.drewN ?_ _ | exact MineS.new (by decide) | exact MineS.newAt (by decide) (by simp) | with_reducible refine MineS.set ?_ _ _ _ | with_reducible refine MineS.alloc ?_ _) | with_reducible refine Mine.other ?_ _ (by first | (left; omega) | (right; omega) | (simp; done) | (simp; omega)) | with_reducible refine Mine.alloc ?_ _)
      replace m2 : Mine w6 w.heap.size 1 (.int .i64 q) := by rw [hww6]; (repeat first | with_reducible assumption | with_reducible refine Mine.drew ?_ | with_reducible refine Mine.drewN ?_ _ | ((with_reducible refine Mine.new ?_); rfl) | ((with_reducible refine Mine.newAt ?_ ?_) <;> first | rfl | (simp; done) | (simp only [World.size_alloc]; rfl)) | ((with_reducible refine Mine.set ?_ _); repeat first | exact Mine.slot (by with_reducible assumption) | with_reducible refine MineS.drew ?_ | with_reducible refine MineS.drewN ?_ _ | exact MineS.new (by decide) | exact MineS.newAt (by decide) (by simp) | with_reducible refine MineS.set ?_ _ _ _ | with_reducible refine MineS.alloc ?_ _) | with_reducible refine Mine.other ?_ _ (by first | (left; omega) | (right; omega) | (simp; done) | (simp; omega)) | with_reducible refine Mine.alloc ?_ _)
      replace m21 : Mine w6 b15 0 (.int .i64 (a0)) := by rw [hww6]; (repeat first | with_reducible assumption | with_reducible refine Mine.drew ?_ | with_reducible refine Mine.drewN ?_ _ | ((with_reducible refine Mine.new ?_); rfl) | ((with_reducible refine Mine.newAt ?_ ?_) <;> first | rfl | (simp; done) | (simp only [World.size_alloc]; rfl)) | ((with_reducible refine Mine.set ?_ _); repeat first | exact Mine.slot (by with_reducible assumption) | with_reducible refine MineS.drew ?_ | with_reducible refine MineS.drewN ?_ _ | exact MineS.new (by decide) | exact MineS.newAt (by decide) (by simp) | with_reducible refine MineS.set ?_ _ _ _ | with_reducible refine MineS.alloc ?_ _) | with_reducible refine Mine.other ?_ _ (by first | (left; omega) | (right; omega) | (simp; done) | (simp; omega)) | with_reducible refine Mine.alloc ?_ _)
      replace m22 : Mine w6 b15 1 (.int .i64 a1) := by rw [hww6]; (repeat first | with_reducible assumption | with_reducible refine Mine.drew ?_ | with_reducible refine Mine.drewN ?_ _ | ((with_reducible refine Mine.new ?_); rfl) | ((with_reducible refine Mine.newAt ?_ ?_) <;> first | rfl | (simp; done) | (simp only [World.size_alloc]; rfl)) | ((with_reducible refine Mine.set ?_ _); repeat first | exact Mine.slot (by with_reducible assumption) | with_reducible refine MineS.drew ?_ | with_reducible refine MineS.drewN ?_ _ | exact MineS.new (by decide) | exact MineS.newAt (by decide) (by simp) | with_reducible refine MineS.set ?_ _ _ _ | with_reducible refine MineS.alloc ?_ _) | with_reducible refine Mine.other ?_ _ (by first | (left; omega) | (right; omega) | (simp; done) | (simp; omega)) | with_reducible refine Mine.alloc ?_ _)
      replace m23 : Mine w6 b15 2 (.int .i64 a2) := by rw [hww6]; (repeat first | with_reducible assumption | with_reducible refine Mine.drew ?_ | with_reducible refine Mine.drewN ?_ _ | ((with_reducible refine Mine.new ?_); rfl) | ((with_reducible refine Mine.newAt ?_ ?_) <;> first | rfl | (simp; done) | (simp only [World.size_alloc]; rfl)) | ((with_reducible refine Mine.set ?_ _); repeat first | exact Mine.slot (by with_reducible assumption) | with_reducible refine MineS.drew ?_ | with_reducible refine MineS.drewN ?_ _ | exact MineS.new (by decide) | exact MineS.newAt (by decide) (by simp) | with_reducible refine MineS.set ?_ _ _ _ | with_reducible refine MineS.alloc ?_ _) | with_reducible refine Mine.other ?_ _ (by first | (left; omega) | (right; omega) | (simp; done) | (simp; omega)) | with_reducible refine Mine.alloc ?_ _)
      have hBzw6 := hB.size
      replace h6 : SixAt w6 B a0 a1 a2 (1 + y0) y1 y2 := by rw [hww6]; exact h6.below ((Below.refl _ _).alloc (Nat.le_refl _) _)
      replace hB : Below w.heap.size w w6 := by rw [hww6]; exact (by repeat first | exact Below.refl _ _ | assumption | refine below_drewN ?_ _ | refine Below.drew ?_ | refine Below.setCell ?_ (by first | exact Nat.le_refl _ | (simp; done) | (simp; omega) | omega) _ | refine Below.alloc ?_ (by first | exact Nat.le_refl _ | (simp; done) | (simp; omega) | omega) _)
      clear hww6 hBzw6
      have hBq := hB.size
      clear m31 m32 hNe hb_w3 hb_w5
      replace hL := Lib.hid hL
      have c1 := m1.cell
      have f1 := m1.free
      have l1 := m1.lt
      have c2 := m2.cell
      have f2 := m2.free
      have l2 := m2.lt
      refine wp_region_held_drew (S := fun w' => w'.cell? ⟨w.heap.size, 0, none⟩ = some (.int .i64 p) ∧ w'.cell? ⟨w.heap.size, 1, none⟩ = some (.int .i64 q)) (by kernel_rfl) (by first | (dsimp only; go_keep) | go_keep) (fun hHeld => ?_)
      refine take_l (i := 0) (v := ?_) rfl (by kernel_rfl) (by kernel_rfl) (by kernel_rfl) (fun _ _ _ h => h) (Or.inl ⟨by rfl, ?_⟩) (by assumption) ?_
      rotate_left
      · intro w hSw; (try dsimp only at hSw); go_simp; (try with_reducible rfl)
      (try simp only [Act.put, List.setIfInBounds_toArray, List.set_cons_zero, List.set_cons_succ])
      refine take_l (i := 1) (v := ?_) rfl (by kernel_rfl) (by kernel_rfl) (by kernel_rfl) (fun _ _ _ h => h) (Or.inl ⟨by rfl, ?_⟩) (by assumption) ?_
      rotate_left
      · intro w hSw; (try dsimp only at hSw); go_simp; (try with_reducible rfl)
      (try simp only [Act.put, List.setIfInBounds_toArray, List.set_cons_zero, List.set_cons_succ])
      refine take_l (i := 2) (v := ?_) rfl (by kernel_rfl) (by kernel_rfl) (by kernel_rfl) (fun _ _ _ h => h) (Or.inl ⟨by rfl, ?_⟩) (by assumption) ?_
      rotate_left
      · intro w hSw; (try dsimp only at hSw); go_simp; (try with_reducible rfl)
      (try simp only [Act.put, List.setIfInBounds_toArray, List.set_cons_zero, List.set_cons_succ])
      refine take_l (i := 6) (v := ?_) rfl (by kernel_rfl) (by kernel_rfl) (by kernel_rfl) (fun _ _ _ h => h) (Or.inl ⟨by rfl, ?_⟩) (by assumption) ?_
      rotate_left
      · intro w hSw; (try dsimp only at hSw); go_simp; (try with_reducible rfl)
      (try simp only [Act.put, List.setIfInBounds_toArray, List.set_cons_zero, List.set_cons_succ])
      refine wpAnyH_ready (rs := [3]) (by kernel_rfl) (by simp) ?_
      refine ready_l rfl (fun K hK => ?_) AllReadyH.nil
      go_simp
      (go_at_call 15; refine (hL.out _ i4 i5).mono ?_; rintro e wl ⟨rfl, hbwl⟩; have n1wl : Mine wl w.heap.size 0 (.int .i64 p) := Mine.below (by (repeat first | with_reducible assumption | with_reducible refine Mine.drew ?_ | with_reducible refine Mine.drewN ?_ _ | ((with_reducible refine Mine.new ?_); rfl) | ((with_reducible refine Mine.newAt ?_ ?_) <;> first | rfl | (simp; done) | (simp only [World.size_alloc]; rfl)) | ((with_reducible refine Mine.set ?_ _); repeat first | exact Mine.slot (by with_reducible assumption) | with_reducible refine MineS.drew ?_ | with_reducible refine MineS.drewN ?_ _ | exact MineS.new (by decide) | exact MineS.newAt (by decide) (by simp) | with_reducible refine MineS.set ?_ _ _ _ | with_reducible refine MineS.alloc ?_ _) | with_reducible refine Mine.other ?_ _ (by first | (left; omega) | (right; omega) | (simp; done) | (simp; omega)) | with_reducible refine Mine.alloc ?_ _)) hbwl; have g1wl := n1wl.cell; have gf1wl := n1wl.free; have n2wl : Mine wl w.heap.size 1 (.int .i64 q) := Mine.below (by (repeat first | with_reducible assumption | with_reducible refine Mine.drew ?_ | with_reducible refine Mine.drewN ?_ _ | ((with_reducible refine Mine.new ?_); rfl) | ((with_reducible refine Mine.newAt ?_ ?_) <;> first | rfl | (simp; done) | (simp only [World.size_alloc]; rfl)) | ((with_reducible refine Mine.set ?_ _); repeat first | exact Mine.slot (by with_reducible assumption) | with_reducible refine MineS.drew ?_ | with_reducible refine MineS.drewN ?_ _ | exact MineS.new (by decide) | exact MineS.newAt (by decide) (by simp) | with_reducible refine MineS.set ?_ _ _ _ | with_reducible refine MineS.alloc ?_ _) | with_reducible refine Mine.other ?_ _ (by first | (left; omega) | (right; omega) | (simp; done) | (simp; omega)) | with_reducible refine Mine.alloc ?_ _)) hbwl; have g2wl := n2wl.cell; have gf2wl := n2wl.free; have n21wl : Mine wl b15 0 (.int .i64 (a0)) := Mine.below (by (repeat first | with_reducible assumption | with_reducible refine Mine.drew ?_ | with_reducible refine Mine.drewN ?_ _ | ((with_reducible refine Mine.new ?_); rfl) | ((with_reducible refine Mine.newAt ?_ ?_) <;> first | rfl | (simp; done) | (simp only [World.size_alloc]; rfl)) | ((with_reducible refine Mine.set ?_ _); repeat first | exact Mine.slot (by with_reducible assumption) | with_reducible refine MineS.drew ?_ | with_reducible refine MineS.drewN ?_ _ | exact MineS.new (by decide) | exact MineS.newAt (by decide) (by simp) | with_reducible refine MineS.set ?_ _ _ _ | with_reducible refine MineS.alloc ?_ _) | with_reducible refine Mine.other ?_ _ (by first | (left; omega) | (right; omega) | (simp; done) | (simp; omega)) | with_reducible refine Mine.alloc ?_ _)) hbwl; have g21wl := n21wl.cell; have gf21wl := n21wl.free; have n22wl : Mine wl b15 1 (.int .i64 a1) := Mine.below (by (repeat first | with_reducible assumption | with_reducible refine Mine.drew ?_ | with_reducible refine Mine.drewN ?_ _ | ((with_reducible refine Mine.new ?_); rfl) | ((with_reducible refine Mine.newAt ?_ ?_) <;> first | rfl | (simp; done) | (simp only [World.size_alloc]; rfl)) | ((with_reducible refine Mine.set ?_ _); repeat first | exact Mine.slot (by with_reducible assumption) | with_reducible refine MineS.drew ?_ | with_reducible refine MineS.drewN ?_ _ | exact MineS.new (by decide) | exact MineS.newAt (by decide) (by simp) | with_reducible refine MineS.set ?_ _ _ _ | with_reducible refine MineS.alloc ?_ _) | with_reducible refine Mine.other ?_ _ (by first | (left; omega) | (right; omega) | (simp; done) | (simp; omega)) | with_reducible refine Mine.alloc ?_ _)) hbwl; have g22wl := n22wl.cell; have gf22wl := n22wl.free; have n23wl : Mine wl b15 2 (.int .i64 a2) := Mine.below (by (repeat first | with_reducible assumption | with_reducible refine Mine.drew ?_ | with_reducible refine Mine.drewN ?_ _ | ((with_reducible refine Mine.new ?_); rfl) | ((with_reducible refine Mine.newAt ?_ ?_) <;> first | rfl | (simp; done) | (simp only [World.size_alloc]; rfl)) | ((with_reducible refine Mine.set ?_ _); repeat first | exact Mine.slot (by with_reducible assumption) | with_reducible refine MineS.drew ?_ | with_reducible refine MineS.drewN ?_ _ | exact MineS.new (by decide) | exact MineS.newAt (by decide) (by simp) | with_reducible refine MineS.set ?_ _ _ _ | with_reducible refine MineS.alloc ?_ _) | with_reducible refine Mine.other ?_ _ (by first | (left; omega) | (right; omega) | (simp; done) | (simp; omega)) | with_reducible refine Mine.alloc ?_ _)) hbwl; have g23wl := n23wl.cell; have gf23wl := n23wl.free; have hBwl : Below w.heap.size w wl := Below.trans (by repeat first | exact Below.refl _ _ | assumption | refine below_drewN ?_ _ | refine Below.drew ?_ | refine Below.setCell ?_ (by first | exact Nat.le_refl _ | (simp; done) | (simp; omega) | omega) _ | refine Below.alloc ?_ (by first | exact Nat.le_refl _ | (simp; done) | (simp; omega) | omega) _) (hbwl.mono (by first | exact Nat.le_refl _ | assumption | (simp; done) | (simp; omega) | omega)); have hzwl := hbwl.size; have h6l := (SixAt.drew h6).below hbwl)
      refine hK.out _ _ (by first | (dsimp only; go_keep) | go_keep) (fun hHeld => ?_)
      clear hK K
      (try simp only [Act.put, List.setIfInBounds_toArray, List.set_cons_zero, List.set_cons_succ])
      refine wpAnyH_ready (rs := [4]) (by kernel_rfl) (by simp) ?_
      refine ready_l rfl (fun K hK => ?_) AllReadyH.nil
      go_simp
      refine hK.out _ _ (by first | (dsimp only; go_keep) | go_keep) (fun hHeld => ?_)
      clear hK K
      (try simp only [Act.put, List.setIfInBounds_toArray, List.set_cons_zero, List.set_cons_succ])
      refine take_l (i := 5) (v := ?_) rfl (by kernel_rfl) (by kernel_rfl) (by kernel_rfl) (fun _ _ _ h => h) (Or.inl ⟨by rfl, ?_⟩) (by assumption) ?_
      rotate_left
      · intro w hSw; (try dsimp only at hSw); go_simp; (try with_reducible rfl)
      (try simp only [Act.put, List.setIfInBounds_toArray, List.set_cons_zero, List.set_cons_succ])
      refine wpAnyH_done (by kernel_rfl) ?_ _
      have hBzl := hBwl.size
      refine name_then ?_
      intro w7 hww7
      replace m1 : Mine w7 w.heap.size 0 (.int .i64 p) := by rw [hww7]; (repeat first | with_reducible assumption | with_reducible refine Mine.drew ?_ | with_reducible refine Mine.drewN ?_ _ | ((with_reducible refine Mine.new ?_); rfl) | ((with_reducible refine Mine.newAt ?_ ?_) <;> first | rfl | (simp; done) | (simp only [World.size_alloc]; rfl)) | ((with_reducible refine Mine.set ?_ _); repeat first | exact Mine.slot (by with_reducible assumption) | with_reducible refine MineS.drew ?_ | with_reducible refine MineS.drewN ?_ _ | exact MineS.new (by decide) | exact MineS.newAt (by decide) (by simp) | with_reducible refine MineS.set ?_ _ _ _ | with_reducible refine MineS.alloc ?_ _) | with_reducible refine Mine.other ?_ _ (by first | (left; omega) | (right; omega) | (simp; done) | (simp; omega)) | with_reducible refine Mine.alloc ?_ _)
      replace m2 : Mine w7 w.heap.size 1 (.int .i64 q) := by rw [hww7]; (repeat first | with_reducible assumption | with_reducible refine Mine.drew ?_ | with_reducible refine Mine.drewN ?_ _ | ((with_reducible refine Mine.new ?_); rfl) | ((with_reducible refine Mine.newAt ?_ ?_) <;> first | rfl | (simp; done) | (simp only [World.size_alloc]; rfl)) | ((with_reducible refine Mine.set ?_ _); repeat first | exact Mine.slot (by with_reducible assumption) | with_reducible refine MineS.drew ?_ | with_reducible refine MineS.drewN ?_ _ | exact MineS.new (by decide) | exact MineS.newAt (by decide) (by simp) | with_reducible refine MineS.set ?_ _ _ _ | with_reducible refine MineS.alloc ?_ _) | with_reducible refine Mine.other ?_ _ (by first | (left; omega) | (right; omega) | (simp; done) | (simp; omega)) | with_reducible refine Mine.alloc ?_ _)
      replace m21 : Mine w7 b15 0 (.int .i64 (a0)) := by rw [hww7]; (repeat first | with_reducible assumption | with_reducible refine Mine.drew ?_ | with_reducible refine Mine.drewN ?_ _ | ((with_reducible refine Mine.new ?_); rfl) | ((with_reducible refine Mine.newAt ?_ ?_) <;> first | rfl | (simp; done) | (simp only [World.size_alloc]; rfl)) | ((with_reducible refine Mine.set ?_ _); repeat first | exact Mine.slot (by with_reducible assumption) | with_reducible refine MineS.drew ?_ | with_reducible refine MineS.drewN ?_ _ | exact MineS.new (by decide) | exact MineS.newAt (by decide) (by simp) | with_reducible refine MineS.set ?_ _ _ _ | with_reducible refine MineS.alloc ?_ _) | with_reducible refine Mine.other ?_ _ (by first | (left; omega) | (right; omega) | (simp; done) | (simp; omega)) | with_reducible refine Mine.alloc ?_ _)
      replace m22 : Mine w7 b15 1 (.int .i64 a1) := by rw [hww7]; (repeat first | with_reducible assumption | with_reducible refine Mine.drew ?_ | with_reducible refine Mine.drewN ?_ _ | ((with_reducible refine Mine.new ?_); rfl) | ((with_reducible refine Mine.newAt ?_ ?_) <;> first | rfl | (simp; done) | (simp only [World.size_alloc]; rfl)) | ((with_reducible refine Mine.set ?_ _); repeat first | exact Mine.slot (by with_reducible assumption) | with_reducible refine MineS.drew ?_ | with_reducible refine MineS.drewN ?_ _ | exact MineS.new (by decide) | exact MineS.newAt (by decide) (by simp) | with_reducible refine MineS.set ?_ _ _ _ | with_reducible refine MineS.alloc ?_ _) | with_reducible refine Mine.other ?_ _ (by first | (left; omega) | (right; omega) | (simp; done) | (simp; omega)) | with_reducible refine Mine.alloc ?_ _)
      replace m23 : Mine w7 b15 2 (.int .i64 a2) := by rw [hww7]; (repeat first | with_reducible assumption | with_reducible refine Mine.drew ?_ | with_reducible refine Mine.drewN ?_ _ | ((with_reducible refine Mine.new ?_); rfl) | ((with_reducible refine Mine.newAt ?_ ?_) <;> first | rfl | (simp; done) | (simp only [World.size_alloc]; rfl)) | ((with_reducible refine Mine.set ?_ _); repeat first | exact Mine.slot (by with_reducible assumption) | with_reducible refine MineS.drew ?_ | with_reducible refine MineS.drewN ?_ _ | exact MineS.new (by decide) | exact MineS.newAt (by decide) (by simp) | with_reducible refine MineS.set ?_ _ _ _ | with_reducible refine MineS.alloc ?_ _) | with_reducible refine Mine.other ?_ _ (by first | (left; omega) | (right; omega) | (simp; done) | (simp; omega)) | with_reducible refine Mine.alloc ?_ _)
      replace m41 : Mine w7 wl.heap.size 0 (.int .i64 p) := by rw [hww7]; (repeat first | with_reducible assumption | with_reducible refine Mine.drew ?_ | with_reducible refine Mine.drewN ?_ _ | ((with_reducible refine Mine.new ?_); rfl) | ((with_reducible refine Mine.newAt ?_ ?_) <;> first | rfl | (simp; done) | (simp only [World.size_alloc]; rfl)) | ((with_reducible refine Mine.set ?_ _); repeat first | exact Mine.slot (by with_reducible assumption) | with_reducible refine MineS.drew ?_ | with_reducible refine MineS.drewN ?_ _ | exact MineS.new (by decide) | exact MineS.newAt (by decide) (by simp) | with_reducible refine MineS.set ?_ _ _ _ | with_reducible refine MineS.alloc ?_ _) | with_reducible refine Mine.other ?_ _ (by first | (left; omega) | (right; omega) | (simp; done) | (simp; omega)) | with_reducible refine Mine.alloc ?_ _)
      replace m42 : Mine w7 wl.heap.size 1 (.int .i64 q) := by rw [hww7]; (repeat first | with_reducible assumption | with_reducible refine Mine.drew ?_ | with_reducible refine Mine.drewN ?_ _ | ((with_reducible refine Mine.new ?_); rfl) | ((with_reducible refine Mine.newAt ?_ ?_) <;> first | rfl | (simp; done) | (simp only [World.size_alloc]; rfl)) | ((with_reducible refine Mine.set ?_ _); repeat first | exact Mine.slot (by with_reducible assumption) | with_reducible refine MineS.drew ?_ | with_reducible refine MineS.drewN ?_ _ | exact MineS.new (by decide) | exact MineS.newAt (by decide) (by simp) | with_reducible refine MineS.set ?_ _ _ _ | with_reducible refine MineS.alloc ?_ _) | with_reducible refine Mine.other ?_ _ (by first | (left; omega) | (right; omega) | (simp; done) | (simp; omega)) | with_reducible refine Mine.alloc ?_ _)
      replace m43 : Mine w7 wl.heap.size 2 (.int .i64 L.1) := by rw [hww7]; (repeat first | with_reducible assumption | with_reducible refine Mine.drew ?_ | with_reducible refine Mine.drewN ?_ _ | ((with_reducible refine Mine.new ?_); rfl) | ((with_reducible refine Mine.newAt ?_ ?_) <;> first | rfl | (simp; done) | (simp only [World.size_alloc]; rfl)) | ((with_reducible refine Mine.set ?_ _); repeat first | exact Mine.slot (by with_reducible assumption) | with_reducible refine MineS.drew ?_ | with_reducible refine MineS.drewN ?_ _ | exact MineS.new (by decide) | exact MineS.newAt (by decide) (by simp) | with_reducible refine MineS.set ?_ _ _ _ | with_reducible refine MineS.alloc ?_ _) | with_reducible refine Mine.other ?_ _ (by first | (left; omega) | (right; omega) | (simp; done) | (simp; omega)) | with_reducible refine Mine.alloc ?_ _)
      replace m44 : Mine w7 wl.heap.size 3 (.int .i64 L.2.1) := by rw [hww7]; (repeat first | with_reducible assumption | with_reducible refine Mine.drew ?_ | with_reducible refine Mine.drewN ?_ _ | ((with_reducible refine Mine.new ?_); rfl) | ((with_reducible refine Mine.newAt ?_ ?_) <;> first | rfl | (simp; done) | (simp only [World.size_alloc]; rfl)) | ((with_reducible refine Mine.set ?_ _); repeat first | exact Mine.slot (by with_reducible assumption) | with_reducible refine MineS.drew ?_ | with_reducible refine MineS.drewN ?_ _ | exact MineS.new (by decide) | exact MineS.newAt (by decide) (by simp) | with_reducible refine MineS.set ?_ _ _ _ | with_reducible refine MineS.alloc ?_ _) | with_reducible refine Mine.other ?_ _ (by first | (left; omega) | (right; omega) | (simp; done) | (simp; omega)) | with_reducible refine Mine.alloc ?_ _)
      have hBzw7 := hB.size
      replace h6l : SixAt w7 B a0 a1 a2 (1 + y0) y1 y2 := by rw [hww7]; exact h6l.below ((Below.refl _ _).alloc (Nat.le_refl _) _)
      replace hB : Below w.heap.size w w7 := by rw [hww7]; exact (by repeat first | exact Below.refl _ _ | assumption | refine below_drewN ?_ _ | refine Below.drew ?_ | refine Below.setCell ?_ (by first | exact Nat.le_refl _ | (simp; done) | (simp; omega) | omega) _ | refine Below.alloc ?_ (by first | exact Nat.le_refl _ | (simp; done) | (simp; omega) | omega) _)
      clear hww7 hBzw7
      generalize wl.heap.size = bL at *
      have hR : InRel w w7 B b15 bL a0 a1 a2 (1 + y0) y1 y2 p q (a0) a1 a2 L.1 L.2.1 := ⟨h6l, hB, m1, m2, m21, m22, m23, m41, m42, m43, m44⟩
      clear h6 h6l hB m1 m2 m21 m22 m23 m41 m42 m43 m44 hBq hHeld c1 f1 l1 c2 f2 l2 n1wl g1wl gf1wl n2wl g2wl gf2wl n21wl g21wl gf21wl n22wl g22wl gf22wl n23wl g23wl gf23wl hBwl hzwl hbwl hL hD1 hD2
      go_wp2_with fail
      go_loopw [83] (fun v wr => ∃ j : Nat, j ≤ 2 ∧ v = .int .i64 j ∧ InRel w wr B b15 bL a0 a1 a2 (1 + y0) y1 y2 p q (a0) a1 a2 L.1 L.2.1) (fun v _ => 2 - (intOf v).toNat)
      case atStart => exact ⟨0, by omega, rfl, hR⟩
      case round =>
        clear hR
        obtain ⟨j, hj, rfl, R⟩ := hrel
        have hcase : j = 0 ∨ j = 1 ∨ j = 2 := by omega
        rcases hcase with rfl | rfl | rfl
        · have z1 := R.m41.cell
          have z2 := R.m42.cell
          obtain ⟨h6, hB, m1, m2, m21, m22, m23, m41, m42, m43, m44⟩ := R
          have hN1 := fun w => Needed_any a0 a1 p q w ip iq
          have hN2 := fun w => refNeeded_any a0 a1 p q w ip iq
          have hM1 := fun w => Bound_any a0 a2 p q w ip iq
          have hM2 := fun w => refBound_any a0 a2 p q w ip iq
          generalize needv a0 a1 p q = R1 at *
          generalize boundv a0 a2 p q = R2 at *
          replace hN1 := Lib.hid hN1
          replace hN2 := Lib.hid hN2
          replace hM1 := Lib.hid hM1
          replace hM2 := Lib.hid hM2
          have c21 := m21.cell
          have f21 := m21.free
          have l21 := m21.lt
          have c22 := m22.cell
          have f22 := m22.free
          have l22 := m22.lt
          have c23 := m23.cell
          have f23 := m23.free
          have l23 := m23.lt
          go_wp2_with fail
          clear c21 f21 l21
          clear c22 f22 l22
          clear c23 f23 l23
          clear z1 z2
          refine name_calls ?_
          intro v1 hwv1
          replace m1 : Mine v1 w.heap.size 0 (.int .i64 p) := by rw [hwv1]; (repeat first | with_reducible assumption | with_reducible refine Mine.drew ?_ | with_reducible refine Mine.drewN ?_ _ | ((with_reducible refine Mine.new ?_); rfl) | ((with_reducible refine Mine.newAt ?_ ?_) <;> first | rfl | (simp; done) | (simp only [World.size_alloc]; rfl)) | ((with_reducible refine Mine.set ?_ _); repeat first | exact Mine.slot (by with_reducible assumption) | with_reducible refine MineS.drew ?_ | with_reducible refine MineS.drewN ?_ _ | exact MineS.new (by decide) | exact MineS.newAt (by decide) (by simp) | with_reducible refine MineS.set ?_ _ _ _ | with_reducible refine MineS.alloc ?_ _) | with_reducible refine Mine.other ?_ _ (by first | (left; omega) | (right; omega) | (simp; done) | (simp; omega)) | with_reducible refine Mine.alloc ?_ _)
          replace m2 : Mine v1 w.heap.size 1 (.int .i64 q) := by rw [hwv1]; (repeat first | with_reducible assumption | with_reducible refine Mine.drew ?_ | with_reducible refine Mine.drewN ?_ _ | ((with_reducible refine Mine.new ?_); rfl) | ((with_reducible refine Mine.newAt ?_ ?_) <;> first | rfl | (simp; done) | (simp only [World.size_alloc]; rfl)) | ((with_reducible refine Mine.set ?_ _); repeat first | exact Mine.slot (by with_reducible assumption) | with_reducible refine MineS.drew ?_ | with_reducible refine MineS.drewN ?_ _ | exact MineS.new (by decide) | exact MineS.newAt (by decide) (by simp) | with_reducible refine MineS.set ?_ _ _ _ | with_reducible refine MineS.alloc ?_ _) | with_reducible refine Mine.other ?_ _ (by first | (left; omega) | (right; omega) | (simp; done) | (simp; omega)) | with_reducible refine Mine.alloc ?_ _)
          replace m21 : Mine v1 b15 0 (.int .i64 a0) := by rw [hwv1]; (repeat first | with_reducible assumption | with_reducible refine Mine.drew ?_ | with_reducible refine Mine.drewN ?_ _ | ((with_reducible refine Mine.new ?_); rfl) | ((with_reducible refine Mine.newAt ?_ ?_) <;> first | rfl | (simp; done) | (simp only [World.size_alloc]; rfl)) | ((with_reducible refine Mine.set ?_ _); repeat first | exact Mine.slot (by with_reducible assumption) | with_reducible refine MineS.drew ?_ | with_reducible refine MineS.drewN ?_ _ | exact MineS.new (by decide) | exact MineS.newAt (by decide) (by simp) | with_reducible refine MineS.set ?_ _ _ _ | with_reducible refine MineS.alloc ?_ _) | with_reducible refine Mine.other ?_ _ (by first | (left; omega) | (right; omega) | (simp; done) | (simp; omega)) | with_reducible refine Mine.alloc ?_ _)
          replace m22 : Mine v1 b15 1 (.int .i64 a1) := by rw [hwv1]; (repeat first | with_reducible assumption | with_reducible refine Mine.drew ?_ | with_reducible refine Mine.drewN ?_ _ | ((with_reducible refine Mine.new ?_); rfl) | ((with_reducible refine Mine.newAt ?_ ?_) <;> first | rfl | (simp; done) | (simp only [World.size_alloc]; rfl)) | ((with_reducible refine Mine.set ?_ _); repeat first | exact Mine.slot (by with_reducible assumption) | with_reducible refine MineS.drew ?_ | with_reducible refine MineS.drewN ?_ _ | exact MineS.new (by decide) | exact MineS.newAt (by decide) (by simp) | with_reducible refine MineS.set ?_ _ _ _ | with_reducible refine MineS.alloc ?_ _) | with_reducible refine Mine.other ?_ _ (by first | (left; omega) | (right; omega) | (simp; done) | (simp; omega)) | with_reducible refine Mine.alloc ?_ _)
          replace m23 : Mine v1 b15 2 (.int .i64 a2) := by rw [hwv1]; (repeat first | with_reducible assumption | with_reducible refine Mine.drew ?_ | with_reducible refine Mine.drewN ?_ _ | ((with_reducible refine Mine.new ?_); rfl) | ((with_reducible refine Mine.newAt ?_ ?_) <;> first | rfl | (simp; done) | (simp only [World.size_alloc]; rfl)) | ((with_reducible refine Mine.set ?_ _); repeat first | exact Mine.slot (by with_reducible assumption) | with_reducible refine MineS.drew ?_ | with_reducible refine MineS.drewN ?_ _ | exact MineS.new (by decide) | exact MineS.newAt (by decide) (by simp) | with_reducible refine MineS.set ?_ _ _ _ | with_reducible refine MineS.alloc ?_ _) | with_reducible refine Mine.other ?_ _ (by first | (left; omega) | (right; omega) | (simp; done) | (simp; omega)) | with_reducible refine Mine.alloc ?_ _)
          replace m41 : Mine v1 bL 0 (.int .i64 p) := by rw [hwv1]; (repeat first | with_reducible assumption | with_reducible refine Mine.drew ?_ | with_reducible refine Mine.drewN ?_ _ | ((with_reducible refine Mine.new ?_); rfl) | ((with_reducible refine Mine.newAt ?_ ?_) <;> first | rfl | (simp; done) | (simp only [World.size_alloc]; rfl)) | ((with_reducible refine Mine.set ?_ _); repeat first | exact Mine.slot (by with_reducible assumption) | with_reducible refine MineS.drew ?_ | with_reducible refine MineS.drewN ?_ _ | exact MineS.new (by decide) | exact MineS.newAt (by decide) (by simp) | with_reducible refine MineS.set ?_ _ _ _ | with_reducible refine MineS.alloc ?_ _) | with_reducible refine Mine.other ?_ _ (by first | (left; omega) | (right; omega) | (simp; done) | (simp; omega)) | with_reducible refine Mine.alloc ?_ _)
          replace m42 : Mine v1 bL 1 (.int .i64 q) := by rw [hwv1]; (repeat first | with_reducible assumption | with_reducible refine Mine.drew ?_ | with_reducible refine Mine.drewN ?_ _ | ((with_reducible refine Mine.new ?_); rfl) | ((with_reducible refine Mine.newAt ?_ ?_) <;> first | rfl | (simp; done) | (simp only [World.size_alloc]; rfl)) | ((with_reducible refine Mine.set ?_ _); repeat first | exact Mine.slot (by with_reducible assumption) | with_reducible refine MineS.drew ?_ | with_reducible refine MineS.drewN ?_ _ | exact MineS.new (by decide) | exact MineS.newAt (by decide) (by simp) | with_reducible refine MineS.set ?_ _ _ _ | with_reducible refine MineS.alloc ?_ _) | with_reducible refine Mine.other ?_ _ (by first | (left; omega) | (right; omega) | (simp; done) | (simp; omega)) | with_reducible refine Mine.alloc ?_ _)
          replace m43 : Mine v1 bL 2 (.int .i64 L.1) := by rw [hwv1]; (repeat first | with_reducible assumption | with_reducible refine Mine.drew ?_ | with_reducible refine Mine.drewN ?_ _ | ((with_reducible refine Mine.new ?_); rfl) | ((with_reducible refine Mine.newAt ?_ ?_) <;> first | rfl | (simp; done) | (simp only [World.size_alloc]; rfl)) | ((with_reducible refine Mine.set ?_ _); repeat first | exact Mine.slot (by with_reducible assumption) | with_reducible refine MineS.drew ?_ | with_reducible refine MineS.drewN ?_ _ | exact MineS.new (by decide) | exact MineS.newAt (by decide) (by simp) | with_reducible refine MineS.set ?_ _ _ _ | with_reducible refine MineS.alloc ?_ _) | with_reducible refine Mine.other ?_ _ (by first | (left; omega) | (right; omega) | (simp; done) | (simp; omega)) | with_reducible refine Mine.alloc ?_ _)
          replace m44 : Mine v1 bL 3 (.int .i64 L.2.1) := by rw [hwv1]; (repeat first | with_reducible assumption | with_reducible refine Mine.drew ?_ | with_reducible refine Mine.drewN ?_ _ | ((with_reducible refine Mine.new ?_); rfl) | ((with_reducible refine Mine.newAt ?_ ?_) <;> first | rfl | (simp; done) | (simp only [World.size_alloc]; rfl)) | ((with_reducible refine Mine.set ?_ _); repeat first | exact Mine.slot (by with_reducible assumption) | with_reducible refine MineS.drew ?_ | with_reducible refine MineS.drewN ?_ _ | exact MineS.new (by decide) | exact MineS.newAt (by decide) (by simp) | with_reducible refine MineS.set ?_ _ _ _ | with_reducible refine MineS.alloc ?_ _) | with_reducible refine Mine.other ?_ _ (by first | (left; omega) | (right; omega) | (simp; done) | (simp; omega)) | with_reducible refine Mine.alloc ?_ _)
          replace m51 : Mine v1 wr.heap.size 0 (.int .i64 (p)) := by rw [hwv1]; (repeat first | with_reducible assumption | with_reducible refine Mine.drew ?_ | with_reducible refine Mine.drewN ?_ _ | ((with_reducible refine Mine.new ?_); rfl) | ((with_reducible refine Mine.newAt ?_ ?_) <;> first | rfl | (simp; done) | (simp only [World.size_alloc]; rfl)) | ((with_reducible refine Mine.set ?_ _); repeat first | exact Mine.slot (by with_reducible assumption) | with_reducible refine MineS.drew ?_ | with_reducible refine MineS.drewN ?_ _ | exact MineS.new (by decide) | exact MineS.newAt (by decide) (by simp) | with_reducible refine MineS.set ?_ _ _ _ | with_reducible refine MineS.alloc ?_ _) | with_reducible refine Mine.other ?_ _ (by first | (left; omega) | (right; omega) | (simp; done) | (simp; omega)) | with_reducible refine Mine.alloc ?_ _)
          replace m52 : Mine v1 wr.heap.size 1 (.int .i64 (q)) := by rw [hwv1]; (repeat first | with_reducible assumption | with_reducible refine Mine.drew ?_ | with_reducible refine Mine.drewN ?_ _ | ((with_reducible refine Mine.new ?_); rfl) | ((with_reducible refine Mine.newAt ?_ ?_) <;> first | rfl | (simp; done) | (simp only [World.size_alloc]; rfl)) | ((with_reducible refine Mine.set ?_ _); repeat first | exact Mine.slot (by with_reducible assumption) | with_reducible refine MineS.drew ?_ | with_reducible refine MineS.drewN ?_ _ | exact MineS.new (by decide) | exact MineS.newAt (by decide) (by simp) | with_reducible refine MineS.set ?_ _ _ _ | with_reducible refine MineS.alloc ?_ _) | with_reducible refine Mine.other ?_ _ (by first | (left; omega) | (right; omega) | (simp; done) | (simp; omega)) | with_reducible refine Mine.alloc ?_ _)
          have hBzv1 := hB.size
          replace h6 : SixAt v1 B a0 a1 a2 (1 + y0) y1 y2 := by rw [hwv1]; exact h6.below ((Below.refl _ _).alloc (Nat.le_refl _) _)
          replace hB : Below w.heap.size w v1 := by rw [hwv1]; exact (by repeat first | exact Below.refl _ _ | assumption | refine below_drewN ?_ _ | refine Below.drew ?_ | refine Below.setCell ?_ (by first | exact Nat.le_refl _ | (simp; done) | (simp; omega) | omega) _ | refine Below.alloc ?_ (by first | exact Nat.le_refl _ | (simp; done) | (simp; omega) | omega) _)
          clear hwv1 hBzv1
          generalize wr.heap.size = b21 at *
          refine (hN1.out _).mono ?_
          rintro e v2 ⟨rfl, hb1⟩
          replace m1 := m1.below hb1
          replace m2 := m2.below hb1
          replace m21 := m21.below hb1
          replace m22 := m22.below hb1
          replace m23 := m23.below hb1
          replace m41 := m41.below hb1
          replace m42 := m42.below hb1
          replace m43 := m43.below hb1
          replace m44 := m44.below hb1
          replace m51 := m51.below hb1
          replace m52 := m52.below hb1
          replace hB := hB.trans (hb1.mono hB.size)
          have hb_v2 := hb1
          clear hb1
          replace h6 := h6.below hb_v2
          have c21 := m21.cell
          have f21 := m21.free
          have l21 := m21.lt
          have c22 := m22.cell
          have f22 := m22.free
          have l22 := m22.lt
          have c23 := m23.cell
          have f23 := m23.free
          have l23 := m23.lt
          have c51 := m51.cell
          have f51 := m51.free
          have l51 := m51.lt
          have c52 := m52.cell
          have f52 := m52.free
          have l52 := m52.lt
          go_wp2_with fail
          clear c21 f21 l21
          clear c22 f22 l22
          clear c23 f23 l23
          clear c51 f51 l51
          clear c52 f52 l52
          refine (hN2.out _).mono ?_
          rintro e v3 ⟨rfl, hb1⟩
          replace m1 := m1.below hb1
          replace m2 := m2.below hb1
          replace m21 := m21.below hb1
          replace m22 := m22.below hb1
          replace m23 := m23.below hb1
          replace m41 := m41.below hb1
          replace m42 := m42.below hb1
          replace m43 := m43.below hb1
          replace m44 := m44.below hb1
          replace m51 := m51.below hb1
          replace m52 := m52.below hb1
          replace hB := hB.trans (hb1.mono hB.size)
          have hb_v3 := hb1
          clear hb1
          replace h6 := h6.below hb_v3
          have c21 := m21.cell
          have f21 := m21.free
          have l21 := m21.lt
          have c22 := m22.cell
          have f22 := m22.free
          have l22 := m22.lt
          have c23 := m23.cell
          have f23 := m23.free
          have l23 := m23.lt
          have c51 := m51.cell
          have f51 := m51.free
          have l51 := m51.lt
          have c52 := m52.cell
          have f52 := m52.free
          have l52 := m52.lt
          go_wp2_with fail
          clear c21 f21 l21
          clear c22 f22 l22
          clear c23 f23 l23
          clear c51 f51 l51
          clear c52 f52 l52
          refine (hM1.out _).mono ?_
          rintro e v4 ⟨rfl, hb1⟩
          replace m1 := m1.below hb1
          replace m2 := m2.below hb1
          replace m21 := m21.below hb1
          replace m22 := m22.below hb1
          replace m23 := m23.below hb1
          replace m41 := m41.below hb1
          replace m42 := m42.below hb1
          replace m43 := m43.below hb1
          replace m44 := m44.below hb1
          replace m51 := m51.below hb1
          replace m52 := m52.below hb1
          replace hB := hB.trans (hb1.mono hB.size)
          have hb_v4 := hb1
          clear hb1
          replace h6 := h6.below hb_v4
          have c21 := m21.cell
          have f21 := m21.free
          have l21 := m21.lt
          have c22 := m22.cell
          have f22 := m22.free
          have l22 := m22.lt
          have c23 := m23.cell
          have f23 := m23.free
          have l23 := m23.lt
          have c51 := m51.cell
          have f51 := m51.free
          have l51 := m51.lt
          have c52 := m52.cell
          have f52 := m52.free
          have l52 := m52.lt
          go_wp2_with fail
          clear c21 f21 l21
          clear c22 f22 l22
          clear c23 f23 l23
          clear c51 f51 l51
          clear c52 f52 l52
          refine (hM2.out _).mono ?_
          rintro e v5 ⟨rfl, hb1⟩
          replace m1 := m1.below hb1
          replace m2 := m2.below hb1
          replace m21 := m21.below hb1
          replace m22 := m22.below hb1
          replace m23 := m23.below hb1
          replace m41 := m41.below hb1
          replace m42 := m42.below hb1
          replace m43 := m43.below hb1
          replace m44 := m44.below hb1
          replace m51 := m51.below hb1
          replace m52 := m52.below hb1
          replace hB := hB.trans (hb1.mono hB.size)
          have hb_v5 := hb1
          clear hb1
          replace h6 := h6.below hb_v5
          go_wp2
          go_roundw
          case rel => exact ⟨1, by omega, rfl, ⟨h6, hB, m1, m2, m21, m22, m23, m41, m42, m43, m44⟩⟩
          case measure => simp [intOf]
        · have z1 := R.m43.cell
          have z2 := R.m44.cell
          obtain ⟨h6, hB, m1, m2, m21, m22, m23, m41, m42, m43, m44⟩ := R
          have hN1 := fun w => Needed_any a0 a1 L.1 L.2.1 w jx jy
          have hN2 := fun w => refNeeded_any a0 a1 L.1 L.2.1 w jx jy
          have hM1 := fun w => Bound_any a0 a2 L.1 L.2.1 w jx jy
          have hM2 := fun w => refBound_any a0 a2 L.1 L.2.1 w jx jy
          generalize needv a0 a1 L.1 L.2.1 = R1 at *
          generalize boundv a0 a2 L.1 L.2.1 = R2 at *
          replace hN1 := Lib.hid hN1
          replace hN2 := Lib.hid hN2
          replace hM1 := Lib.hid hM1
          replace hM2 := Lib.hid hM2
          have c21 := m21.cell
          have f21 := m21.free
          have l21 := m21.lt
          have c22 := m22.cell
          have f22 := m22.free
          have l22 := m22.lt
          have c23 := m23.cell
          have f23 := m23.free
          have l23 := m23.lt
          go_wp2_with fail
          clear c21 f21 l21
          clear c22 f22 l22
          clear c23 f23 l23
          clear z1 z2
          refine name_calls ?_
          intro v1 hwv1
          replace m1 : Mine v1 w.heap.size 0 (.int .i64 p) := by rw [hwv1]; (repeat first | with_reducible assumption | with_reducible refine Mine.drew ?_ | with_reducible refine Mine.drewN ?_ _ | ((with_reducible refine Mine.new ?_); rfl) | ((with_reducible refine Mine.newAt ?_ ?_) <;> first | rfl | (simp; done) | (simp only [World.size_alloc]; rfl)) | ((with_reducible refine Mine.set ?_ _); repeat first | exact Mine.slot (by with_reducible assumption) | with_reducible refine MineS.drew ?_ | with_reducible refine MineS.drewN ?_ _ | exact MineS.new (by decide) | exact MineS.newAt (by decide) (by simp) | with_reducible refine MineS.set ?_ _ _ _ | with_reducible refine MineS.alloc ?_ _) | with_reducible refine Mine.other ?_ _ (by first | (left; omega) | (right; omega) | (simp; done) | (simp; omega)) | with_reducible refine Mine.alloc ?_ _)
          replace m2 : Mine v1 w.heap.size 1 (.int .i64 q) := by rw [hwv1]; (repeat first | with_reducible assumption | with_reducible refine Mine.drew ?_ | with_reducible refine Mine.drewN ?_ _ | ((with_reducible refine Mine.new ?_); rfl) | ((with_reducible refine Mine.newAt ?_ ?_) <;> first | rfl | (simp; done) | (simp only [World.size_alloc]; rfl)) | ((with_reducible refine Mine.set ?_ _); repeat first | exact Mine.slot (by with_reducible assumption) | with_reducible refine MineS.drew ?_ | with_reducible refine MineS.drewN ?_ _ | exact MineS.new (by decide) | exact MineS.newAt (by decide) (by simp) | with_reducible refine MineS.set ?_ _ _ _ | with_reducible refine MineS.alloc ?_ _) | with_reducible refine Mine.other ?_ _ (by first | (left; omega) | (right; omega) | (simp; done) | (simp; omega)) | with_reducible refine Mine.alloc ?_ _)
          replace m21 : Mine v1 b15 0 (.int .i64 a0) := by rw [hwv1]; (repeat first | with_reducible assumption | with_reducible refine Mine.drew ?_ | with_reducible refine Mine.drewN ?_ _ | ((with_reducible refine Mine.new ?_); rfl) | ((with_reducible refine Mine.newAt ?_ ?_) <;> first | rfl | (simp; done) | (simp only [World.size_alloc]; rfl)) | ((with_reducible refine Mine.set ?_ _); repeat first | exact Mine.slot (by with_reducible assumption) | with_reducible refine MineS.drew ?_ | with_reducible refine MineS.drewN ?_ _ | exact MineS.new (by decide) | exact MineS.newAt (by decide) (by simp) | with_reducible refine MineS.set ?_ _ _ _ | with_reducible refine MineS.alloc ?_ _) | with_reducible refine Mine.other ?_ _ (by first | (left; omega) | (right; omega) | (simp; done) | (simp; omega)) | with_reducible refine Mine.alloc ?_ _)
          replace m22 : Mine v1 b15 1 (.int .i64 a1) := by rw [hwv1]; (repeat first | with_reducible assumption | with_reducible refine Mine.drew ?_ | with_reducible refine Mine.drewN ?_ _ | ((with_reducible refine Mine.new ?_); rfl) | ((with_reducible refine Mine.newAt ?_ ?_) <;> first | rfl | (simp; done) | (simp only [World.size_alloc]; rfl)) | ((with_reducible refine Mine.set ?_ _); repeat first | exact Mine.slot (by with_reducible assumption) | with_reducible refine MineS.drew ?_ | with_reducible refine MineS.drewN ?_ _ | exact MineS.new (by decide) | exact MineS.newAt (by decide) (by simp) | with_reducible refine MineS.set ?_ _ _ _ | with_reducible refine MineS.alloc ?_ _) | with_reducible refine Mine.other ?_ _ (by first | (left; omega) | (right; omega) | (simp; done) | (simp; omega)) | with_reducible refine Mine.alloc ?_ _)
          replace m23 : Mine v1 b15 2 (.int .i64 a2) := by rw [hwv1]; (repeat first | with_reducible assumption | with_reducible refine Mine.drew ?_ | with_reducible refine Mine.drewN ?_ _ | ((with_reducible refine Mine.new ?_); rfl) | ((with_reducible refine Mine.newAt ?_ ?_) <;> first | rfl | (simp; done) | (simp only [World.size_alloc]; rfl)) | ((with_reducible refine Mine.set ?_ _); repeat first | exact Mine.slot (by with_reducible assumption) | with_reducible refine MineS.drew ?_ | with_reducible refine MineS.drewN ?_ _ | exact MineS.new (by decide) | exact MineS.newAt (by decide) (by simp) | with_reducible refine MineS.set ?_ _ _ _ | with_reducible refine MineS.alloc ?_ _) | with_reducible refine Mine.other ?_ _ (by first | (left; omega) | (right; omega) | (simp; done) | (simp; omega)) | with_reducible refine Mine.alloc ?_ _)
          replace m41 : Mine v1 bL 0 (.int .i64 p) := by rw [hwv1]; (repeat first | with_reducible assumption | with_reducible refine Mine.drew ?_ | with_reducible refine Mine.drewN ?_ _ | ((with_reducible refine Mine.new ?_); rfl) | ((with_reducible refine Mine.newAt ?_ ?_) <;> first | rfl | (simp; done) | (simp only [World.size_alloc]; rfl)) | ((with_reducible refine Mine.set ?_ _); repeat first | exact Mine.slot (by with_reducible assumption) | with_reducible refine MineS.drew ?_ | with_reducible refine MineS.drewN ?_ _ | exact MineS.new (by decide) | exact MineS.newAt (by decide) (by simp) | with_reducible refine MineS.set ?_ _ _ _ | with_reducible refine MineS.alloc ?_ _) | with_reducible refine Mine.other ?_ _ (by first | (left; omega) | (right; omega) | (simp; done) | (simp; omega)) | with_reducible refine Mine.alloc ?_ _)
          replace m42 : Mine v1 bL 1 (.int .i64 q) := by rw [hwv1]; (repeat first | with_reducible assumption | with_reducible refine Mine.drew ?_ | with_reducible refine Mine.drewN ?_ _ | ((with_reducible refine Mine.new ?_); rfl) | ((with_reducible refine Mine.newAt ?_ ?_) <;> first | rfl | (simp; done) | (simp only [World.size_alloc]; rfl)) | ((with_reducible refine Mine.set ?_ _); repeat first | exact Mine.slot (by with_reducible assumption) | with_reducible refine MineS.drew ?_ | with_reducible refine MineS.drewN ?_ _ | exact MineS.new (by decide) | exact MineS.newAt (by decide) (by simp) | with_reducible refine MineS.set ?_ _ _ _ | with_reducible refine MineS.alloc ?_ _) | with_reducible refine Mine.other ?_ _ (by first | (left; omega) | (right; omega) | (simp; done) | (simp; omega)) | with_reducible refine Mine.alloc ?_ _)
          replace m43 : Mine v1 bL 2 (.int .i64 L.1) := by rw [hwv1]; (repeat first | with_reducible assumption | with_reducible refine Mine.drew ?_ | with_reducible refine Mine.drewN ?_ _ | ((with_reducible refine Mine.new ?_); rfl) | ((with_reducible refine Mine.newAt ?_ ?_) <;> first | rfl | (simp; done) | (simp only [World.size_alloc]; rfl)) | ((with_reducible refine Mine.set ?_ _); repeat first | exact Mine.slot (by with_reducible assumption) | with_reducible refine MineS.drew ?_ | with_reducible refine MineS.drewN ?_ _ | exact MineS.new (by decide) | exact MineS.newAt (by decide) (by simp) | with_reducible refine MineS.set ?_ _ _ _ | with_reducible refine MineS.alloc ?_ _) | with_reducible refine Mine.other ?_ _ (by first | (left; omega) | (right; omega) | (simp; done) | (simp; omega)) | with_reducible refine Mine.alloc ?_ _)
          replace m44 : Mine v1 bL 3 (.int .i64 L.2.1) := by rw [hwv1]; (repeat first | with_reducible assumption | with_reducible refine Mine.drew ?_ | with_reducible refine Mine.drewN ?_ _ | ((with_reducible refine Mine.new ?_); rfl) | ((with_reducible refine Mine.newAt ?_ ?_) <;> first | rfl | (simp; done) | (simp only [World.size_alloc]; rfl)) | ((with_reducible refine Mine.set ?_ _); repeat first | exact Mine.slot (by with_reducible assumption) | with_reducible refine MineS.drew ?_ | with_reducible refine MineS.drewN ?_ _ | exact MineS.new (by decide) | exact MineS.newAt (by decide) (by simp) | with_reducible refine MineS.set ?_ _ _ _ | with_reducible refine MineS.alloc ?_ _) | with_reducible refine Mine.other ?_ _ (by first | (left; omega) | (right; omega) | (simp; done) | (simp; omega)) | with_reducible refine Mine.alloc ?_ _)
          replace m51 : Mine v1 wr.heap.size 0 (.int .i64 (L.1)) := by rw [hwv1]; (repeat first | with_reducible assumption | with_reducible refine Mine.drew ?_ | with_reducible refine Mine.drewN ?_ _ | ((with_reducible refine Mine.new ?_); rfl) | ((with_reducible refine Mine.newAt ?_ ?_) <;> first | rfl | (simp; done) | (simp only [World.size_alloc]; rfl)) | ((with_reducible refine Mine.set ?_ _); repeat first | exact Mine.slot (by with_reducible assumption) | with_reducible refine MineS.drew ?_ | with_reducible refine MineS.drewN ?_ _ | exact MineS.new (by decide) | exact MineS.newAt (by decide) (by simp) | with_reducible refine MineS.set ?_ _ _ _ | with_reducible refine MineS.alloc ?_ _) | with_reducible refine Mine.other ?_ _ (by first | (left; omega) | (right; omega) | (simp; done) | (simp; omega)) | with_reducible refine Mine.alloc ?_ _)
          replace m52 : Mine v1 wr.heap.size 1 (.int .i64 (L.2.1)) := by rw [hwv1]; (repeat first | with_reducible assumption | with_reducible refine Mine.drew ?_ | with_reducible refine Mine.drewN ?_ _ | ((with_reducible refine Mine.new ?_); rfl) | ((with_reducible refine Mine.newAt ?_ ?_) <;> first | rfl | (simp; done) | (simp only [World.size_alloc]; rfl)) | ((with_reducible refine Mine.set ?_ _); repeat first | exact Mine.slot (by with_reducible assumption) | with_reducible refine MineS.drew ?_ | with_reducible refine MineS.drewN ?_ _ | exact MineS.new (by decide) | exact MineS.newAt (by decide) (by simp) | with_reducible refine MineS.set ?_ _ _ _ | with_reducible refine MineS.alloc ?_ _) | with_reducible refine Mine.other ?_ _ (by first | (left; omega) | (right; omega) | (simp; done) | (simp; omega)) | with_reducible refine Mine.alloc ?_ _)
          have hBzv1 := hB.size
          replace h6 : SixAt v1 B a0 a1 a2 (1 + y0) y1 y2 := by rw [hwv1]; exact h6.below ((Below.refl _ _).alloc (Nat.le_refl _) _)
          replace hB : Below w.heap.size w v1 := by rw [hwv1]; exact (by repeat first | exact Below.refl _ _ | assumption | refine below_drewN ?_ _ | refine Below.drew ?_ | refine Below.setCell ?_ (by first | exact Nat.le_refl _ | (simp; done) | (simp; omega) | omega) _ | refine Below.alloc ?_ (by first | exact Nat.le_refl _ | (simp; done) | (simp; omega) | omega) _)
          clear hwv1 hBzv1
          generalize wr.heap.size = b21 at *
          refine (hN1.out _).mono ?_
          rintro e v2 ⟨rfl, hb1⟩
          replace m1 := m1.below hb1
          replace m2 := m2.below hb1
          replace m21 := m21.below hb1
          replace m22 := m22.below hb1
          replace m23 := m23.below hb1
          replace m41 := m41.below hb1
          replace m42 := m42.below hb1
          replace m43 := m43.below hb1
          replace m44 := m44.below hb1
          replace m51 := m51.below hb1
          replace m52 := m52.below hb1
          replace hB := hB.trans (hb1.mono hB.size)
          have hb_v2 := hb1
          clear hb1
          replace h6 := h6.below hb_v2
          have c21 := m21.cell
          have f21 := m21.free
          have l21 := m21.lt
          have c22 := m22.cell
          have f22 := m22.free
          have l22 := m22.lt
          have c23 := m23.cell
          have f23 := m23.free
          have l23 := m23.lt
          have c51 := m51.cell
          have f51 := m51.free
          have l51 := m51.lt
          have c52 := m52.cell
          have f52 := m52.free
          have l52 := m52.lt
          go_wp2_with fail
          clear c21 f21 l21
          clear c22 f22 l22
          clear c23 f23 l23
          clear c51 f51 l51
          clear c52 f52 l52
          refine (hN2.out _).mono ?_
          rintro e v3 ⟨rfl, hb1⟩
          replace m1 := m1.below hb1
          replace m2 := m2.below hb1
          replace m21 := m21.below hb1
          replace m22 := m22.below hb1
          replace m23 := m23.below hb1
          replace m41 := m41.below hb1
          replace m42 := m42.below hb1
          replace m43 := m43.below hb1
          replace m44 := m44.below hb1
          replace m51 := m51.below hb1
          replace m52 := m52.below hb1
          replace hB := hB.trans (hb1.mono hB.size)
          have hb_v3 := hb1
          clear hb1
          replace h6 := h6.below hb_v3
          have c21 := m21.cell
          have f21 := m21.free
          have l21 := m21.lt
          have c22 := m22.cell
          have f22 := m22.free
          have l22 := m22.lt
          have c23 := m23.cell
          have f23 := m23.free
          have l23 := m23.lt
          have c51 := m51.cell
          have f51 := m51.free
          have l51 := m51.lt
          have c52 := m52.cell
          have f52 := m52.free
          have l52 := m52.lt
          go_wp2_with fail
          clear c21 f21 l21
          clear c22 f22 l22
          clear c23 f23 l23
          clear c51 f51 l51
          clear c52 f52 l52
          refine (hM1.out _).mono ?_
          rintro e v4 ⟨rfl, hb1⟩
          replace m1 := m1.below hb1
          replace m2 := m2.below hb1
          replace m21 := m21.below hb1
          replace m22 := m22.below hb1
          replace m23 := m23.below hb1
          replace m41 := m41.below hb1
          replace m42 := m42.below hb1
          replace m43 := m43.below hb1
          replace m44 := m44.below hb1
          replace m51 := m51.below hb1
          replace m52 := m52.below hb1
          replace hB := hB.trans (hb1.mono hB.size)
          have hb_v4 := hb1
          clear hb1
          replace h6 := h6.below hb_v4
          have c21 := m21.cell
          have f21 := m21.free
          have l21 := m21.lt
          have c22 := m22.cell
          have f22 := m22.free
          have l22 := m22.lt
          have c23 := m23.cell
          have f23 := m23.free
          have l23 := m23.lt
          have c51 := m51.cell
          have f51 := m51.free
          have l51 := m51.lt
          have c52 := m52.cell
          have f52 := m52.free
          have l52 := m52.lt
          go_wp2_with fail
          clear c21 f21 l21
          clear c22 f22 l22
          clear c23 f23 l23
          clear c51 f51 l51
          clear c52 f52 l52
          refine (hM2.out _).mono ?_
          rintro e v5 ⟨rfl, hb1⟩
          replace m1 := m1.below hb1
          replace m2 := m2.below hb1
          replace m21 := m21.below hb1
          replace m22 := m22.below hb1
          replace m23 := m23.below hb1
          replace m41 := m41.below hb1
          replace m42 := m42.below hb1
          replace m43 := m43.below hb1
          replace m44 := m44.below hb1
          replace m51 := m51.below hb1
          replace m52 := m52.below hb1
          replace hB := hB.trans (hb1.mono hB.size)
          have hb_v5 := hb1
          clear hb1
          replace h6 := h6.below hb_v5
          go_wp2
          go_roundw
          case rel => exact ⟨2, by omega, rfl, ⟨h6, hB, m1, m2, m21, m22, m23, m41, m42, m43, m44⟩⟩
          case measure => simp [intOf]
        · go_wp2
          go_roundw
          case rel => exact ⟨1, by omega, rfl, R.h6, R.hB, R.m1, R.m2⟩
          case measure => simp [intOf]
    · have z0 := h6.c3.cell
      have z1 := h6.c4.cell
      have z2 := h6.c5.cell
      have hD1 := fun w => Detect_any (1 + (y0 : Int)) y1 y2 w
      have hD2 := fun w => refDetect_any (1 + (y0 : Int)) y1 y2 w
      generalize detv (1 + (y0 : Int)) y1 y2 = D at *
      replace hD1 := Lib.hid hD1
      replace hD2 := Lib.hid hD2
      have hL := lawLevel_any a4 a5
      have hlv := (lvl_vld (levelv_lvl a4 a5)).1
      generalize levelv a4 a5 = L at *
      have jx : I64 L.1 := I64.of_num hlv
      have jy : I64 L.2.1 := I64.of_den hlv
      clear hlv
      go_wp2_with fail
      refine name_calls ?_
      intro w2 hww2
      replace m1 : Mine w2 w.heap.size 0 (.int .i64 p) := by rw [hww2]; (repeat first | with_reducible assumption | with_reducible refine Mine.drew ?_ | with_reducible refine Mine.drewN ?_ _ | ((with_reducible refine Mine.new ?_); rfl) | ((with_reducible refine Mine.newAt ?_ ?_) <;> first | rfl | (simp; done) | (simp only [World.size_alloc]; rfl)) | ((with_reducible refine Mine.set ?_ _); repeat first | exact Mine.slot (by with_reducible assumption) | with_reducible refine MineS.drew ?_ | with_reducible refine MineS.drewN ?_ _ | exact MineS.new (by decide) | exact MineS.newAt (by decide) (by simp) | with_reducible refine MineS.set ?_ _ _ _ | with_reducible refine MineS.alloc ?_ _) | with_reducible refine Mine.other ?_ _ (by first | (left; omega) | (right; omega) | (simp; done) | (simp; omega)) | with_reducible refine Mine.alloc ?_ _)
      replace m2 : Mine w2 w.heap.size 1 (.int .i64 q) := by rw [hww2]; (repeat first | with_reducible assumption | with_reducible refine Mine.drew ?_ | with_reducible refine Mine.drewN ?_ _ | ((with_reducible refine Mine.new ?_); rfl) | ((with_reducible refine Mine.newAt ?_ ?_) <;> first | rfl | (simp; done) | (simp only [World.size_alloc]; rfl)) | ((with_reducible refine Mine.set ?_ _); repeat first | exact Mine.slot (by with_reducible assumption) | with_reducible refine MineS.drew ?_ | with_reducible refine MineS.drewN ?_ _ | exact MineS.new (by decide) | exact MineS.newAt (by decide) (by simp) | with_reducible refine MineS.set ?_ _ _ _ | with_reducible refine MineS.alloc ?_ _) | with_reducible refine Mine.other ?_ _ (by first | (left; omega) | (right; omega) | (simp; done) | (simp; omega)) | with_reducible refine Mine.alloc ?_ _)
      replace m21 : Mine w2 wr.heap.size 0 (.int .i64 ((1 + (y0 : Int)))) := by rw [hww2]; (repeat first | with_reducible assumption | with_reducible refine Mine.drew ?_ | with_reducible refine Mine.drewN ?_ _ | ((with_reducible refine Mine.new ?_); rfl) | ((with_reducible refine Mine.newAt ?_ ?_) <;> first | rfl | (simp; done) | (simp only [World.size_alloc]; rfl)) | ((with_reducible refine Mine.set ?_ _); repeat first | exact Mine.slot (by with_reducible assumption) | with_reducible refine MineS.drew ?_ | with_reducible refine MineS.drewN ?_ _ | exact MineS.new (by decide) | exact MineS.newAt (by decide) (by simp) | with_reducible refine MineS.set ?_ _ _ _ | with_reducible refine MineS.alloc ?_ _) | with_reducible refine Mine.other ?_ _ (by first | (left; omega) | (right; omega) | (simp; done) | (simp; omega)) | with_reducible refine Mine.alloc ?_ _)
      replace m22 : Mine w2 wr.heap.size 1 (.int .i64 y1) := by rw [hww2]; (repeat first | with_reducible assumption | with_reducible refine Mine.drew ?_ | with_reducible refine Mine.drewN ?_ _ | ((with_reducible refine Mine.new ?_); rfl) | ((with_reducible refine Mine.newAt ?_ ?_) <;> first | rfl | (simp; done) | (simp only [World.size_alloc]; rfl)) | ((with_reducible refine Mine.set ?_ _); repeat first | exact Mine.slot (by with_reducible assumption) | with_reducible refine MineS.drew ?_ | with_reducible refine MineS.drewN ?_ _ | exact MineS.new (by decide) | exact MineS.newAt (by decide) (by simp) | with_reducible refine MineS.set ?_ _ _ _ | with_reducible refine MineS.alloc ?_ _) | with_reducible refine Mine.other ?_ _ (by first | (left; omega) | (right; omega) | (simp; done) | (simp; omega)) | with_reducible refine Mine.alloc ?_ _)
      replace m23 : Mine w2 wr.heap.size 2 (.int .i64 y2) := by rw [hww2]; (repeat first | with_reducible assumption | with_reducible refine Mine.drew ?_ | with_reducible refine Mine.drewN ?_ _ | ((with_reducible refine Mine.new ?_); rfl) | ((with_reducible refine Mine.newAt ?_ ?_) <;> first | rfl | (simp; done) | (simp only [World.size_alloc]; rfl)) | ((with_reducible refine Mine.set ?_ _); repeat first | exact Mine.slot (by with_reducible assumption) | with_reducible refine MineS.drew ?_ | with_reducible refine MineS.drewN ?_ _ | exact MineS.new (by decide) | exact MineS.newAt (by decide) (by simp) | with_reducible refine MineS.set ?_ _ _ _ | with_reducible refine MineS.alloc ?_ _) | with_reducible refine Mine.other ?_ _ (by first | (left; omega) | (right; omega) | (simp; done) | (simp; omega)) | with_reducible refine Mine.alloc ?_ _)
      have hBzw2 := hB.size
      replace h6 : SixAt w2 B a0 a1 a2 (1 + y0) y1 y2 := by rw [hww2]; exact h6.below ((Below.refl _ _).alloc (Nat.le_refl _) _)
      replace hB : Below w.heap.size w w2 := by rw [hww2]; exact (by repeat first | exact Below.refl _ _ | assumption | refine below_drewN ?_ _ | refine Below.drew ?_ | refine Below.setCell ?_ (by first | exact Nat.le_refl _ | (simp; done) | (simp; omega) | omega) _ | refine Below.alloc ?_ (by first | exact Nat.le_refl _ | (simp; done) | (simp; omega) | omega) _)
      clear hww2 hBzw2
      generalize wr.heap.size = b15 at *
      clear z0 z1 z2
      refine (hD1.out _).mono ?_
      rintro e w3 ⟨rfl, hb1⟩
      replace m1 := m1.below hb1
      replace m2 := m2.below hb1
      replace m21 := m21.below hb1
      replace m22 := m22.below hb1
      replace m23 := m23.below hb1
      replace hB := hB.trans (hb1.mono hB.size)
      have hb_w3 := hb1
      clear hb1
      replace h6 := h6.below hb_w3
      have c21 := m21.cell
      have f21 := m21.free
      have l21 := m21.lt
      have c22 := m22.cell
      have f22 := m22.free
      have l22 := m22.lt
      have c23 := m23.cell
      have f23 := m23.free
      have l23 := m23.lt
      go_wp2_with fail
      clear c21 f21 l21
      clear c22 f22 l22
      clear c23 f23 l23
      refine name_calls ?_
      intro w4 hww4
      replace m1 : Mine w4 w.heap.size 0 (.int .i64 p) := by rw [hww4]; (repeat first | with_reducible assumption | with_reducible refine Mine.drew ?_ | with_reducible refine Mine.drewN ?_ _ | ((with_reducible refine Mine.new ?_); rfl) | ((with_reducible refine Mine.newAt ?_ ?_) <;> first | rfl | (simp; done) | (simp only [World.size_alloc]; rfl)) | ((with_reducible refine Mine.set ?_ _); repeat first | exact Mine.slot (by with_reducible assumption) | with_reducible refine MineS.drew ?_ | with_reducible refine MineS.drewN ?_ _ | exact MineS.new (by decide) | exact MineS.newAt (by decide) (by simp) | with_reducible refine MineS.set ?_ _ _ _ | with_reducible refine MineS.alloc ?_ _) | with_reducible refine Mine.other ?_ _ (by first | (left; omega) | (right; omega) | (simp; done) | (simp; omega)) | with_reducible refine Mine.alloc ?_ _)
      replace m2 : Mine w4 w.heap.size 1 (.int .i64 q) := by rw [hww4]; (repeat first | with_reducible assumption | with_reducible refine Mine.drew ?_ | with_reducible refine Mine.drewN ?_ _ | ((with_reducible refine Mine.new ?_); rfl) | ((with_reducible refine Mine.newAt ?_ ?_) <;> first | rfl | (simp; done) | (simp only [World.size_alloc]; rfl)) | ((with_reducible refine Mine.set ?_ _); repeat first | exact Mine.slot (by with_reducible assumption) | with_reducible refine MineS.drew ?_ | with_reducible refine MineS.drewN ?_ _ | exact MineS.new (by decide) | exact MineS.newAt (by decide) (by simp) | with_reducible refine MineS.set ?_ _ _ _ | with_reducible refine MineS.alloc ?_ _) | with_reducible refine Mine.other ?_ _ (by first | (left; omega) | (right; omega) | (simp; done) | (simp; omega)) | with_reducible refine Mine.alloc ?_ _)
      replace m21 : Mine w4 b15 0 (.int .i64 ((1 + (y0 : Int)))) := by rw [hww4]; (repeat first | with_reducible assumption | with_reducible refine Mine.drew ?_ | with_reducible refine Mine.drewN ?_ _ | ((with_reducible refine Mine.new ?_); rfl) | ((with_reducible refine Mine.newAt ?_ ?_) <;> first | rfl | (simp; done) | (simp only [World.size_alloc]; rfl)) | ((with_reducible refine Mine.set ?_ _); repeat first | exact Mine.slot (by with_reducible assumption) | with_reducible refine MineS.drew ?_ | with_reducible refine MineS.drewN ?_ _ | exact MineS.new (by decide) | exact MineS.newAt (by decide) (by simp) | with_reducible refine MineS.set ?_ _ _ _ | with_reducible refine MineS.alloc ?_ _) | with_reducible refine Mine.other ?_ _ (by first | (left; omega) | (right; omega) | (simp; done) | (simp; omega)) | with_reducible refine Mine.alloc ?_ _)
      replace m22 : Mine w4 b15 1 (.int .i64 y1) := by rw [hww4]; (repeat first | with_reducible assumption | with_reducible refine Mine.drew ?_ | with_reducible refine Mine.drewN ?_ _ | ((with_reducible refine Mine.new ?_); rfl) | ((with_reducible refine Mine.newAt ?_ ?_) <;> first | rfl | (simp; done) | (simp only [World.size_alloc]; rfl)) | ((with_reducible refine Mine.set ?_ _); repeat first | exact Mine.slot (by with_reducible assumption) | with_reducible refine MineS.drew ?_ | with_reducible refine MineS.drewN ?_ _ | exact MineS.new (by decide) | exact MineS.newAt (by decide) (by simp) | with_reducible refine MineS.set ?_ _ _ _ | with_reducible refine MineS.alloc ?_ _) | with_reducible refine Mine.other ?_ _ (by first | (left; omega) | (right; omega) | (simp; done) | (simp; omega)) | with_reducible refine Mine.alloc ?_ _)
      replace m23 : Mine w4 b15 2 (.int .i64 y2) := by rw [hww4]; (repeat first | with_reducible assumption | with_reducible refine Mine.drew ?_ | with_reducible refine Mine.drewN ?_ _ | ((with_reducible refine Mine.new ?_); rfl) | ((with_reducible refine Mine.newAt ?_ ?_) <;> first | rfl | (simp; done) | (simp only [World.size_alloc]; rfl)) | ((with_reducible refine Mine.set ?_ _); repeat first | exact Mine.slot (by with_reducible assumption) | with_reducible refine MineS.drew ?_ | with_reducible refine MineS.drewN ?_ _ | exact MineS.new (by decide) | exact MineS.newAt (by decide) (by simp) | with_reducible refine MineS.set ?_ _ _ _ | with_reducible refine MineS.alloc ?_ _) | with_reducible refine Mine.other ?_ _ (by first | (left; omega) | (right; omega) | (simp; done) | (simp; omega)) | with_reducible refine Mine.alloc ?_ _)
      replace m31 : Mine w4 w3.heap.size 0 (.int .i64 D.1) := by rw [hww4]; (repeat first | with_reducible assumption | with_reducible refine Mine.drew ?_ | with_reducible refine Mine.drewN ?_ _ | ((with_reducible refine Mine.new ?_); rfl) | ((with_reducible refine Mine.newAt ?_ ?_) <;> first | rfl | (simp; done) | (simp only [World.size_alloc]; rfl)) | ((with_reducible refine Mine.set ?_ _); repeat first | exact Mine.slot (by with_reducible assumption) | with_reducible refine MineS.drew ?_ | with_reducible refine MineS.drewN ?_ _ | exact MineS.new (by decide) | exact MineS.newAt (by decide) (by simp) | with_reducible refine MineS.set ?_ _ _ _ | with_reducible refine MineS.alloc ?_ _) | with_reducible refine Mine.other ?_ _ (by first | (left; omega) | (right; omega) | (simp; done) | (simp; omega)) | with_reducible refine Mine.alloc ?_ _)
      replace m32 : Mine w4 w3.heap.size 1 (.int .i64 D.2.1) := by rw [hww4]; (repeat first | with_reducible assumption | with_reducible refine Mine.drew ?_ | with_reducible refine Mine.drewN ?_ _ | ((with_reducible refine Mine.new ?_); rfl) | ((with_reducible refine Mine.newAt ?_ ?_) <;> first | rfl | (simp; done) | (simp only [World.size_alloc]; rfl)) | ((with_reducible refine Mine.set ?_ _); repeat first | exact Mine.slot (by with_reducible assumption) | with_reducible refine MineS.drew ?_ | with_reducible refine MineS.drewN ?_ _ | exact MineS.new (by decide) | exact MineS.newAt (by decide) (by simp) | with_reducible refine MineS.set ?_ _ _ _ | with_reducible refine MineS.alloc ?_ _) | with_reducible refine Mine.other ?_ _ (by first | (left; omega) | (right; omega) | (simp; done) | (simp; omega)) | with_reducible refine Mine.alloc ?_ _)
      have hBzw4 := hB.size
      replace h6 : SixAt w4 B a0 a1 a2 (1 + y0) y1 y2 := by rw [hww4]; exact h6.below ((Below.refl _ _).alloc (Nat.le_refl _) _)
      replace hB : Below w.heap.size w w4 := by rw [hww4]; exact (by repeat first | exact Below.refl _ _ | assumption | refine below_drewN ?_ _ | refine Below.drew ?_ | refine Below.setCell ?_ (by first | exact Nat.le_refl _ | (simp; done) | (simp; omega) | omega) _ | refine Below.alloc ?_ (by first | exact Nat.le_refl _ | (simp; done) | (simp; omega) | omega) _)
      clear hww4 hBzw4
      refine (hD2.out _).mono ?_
      rintro e w5 ⟨rfl, hb1⟩
      replace m1 := m1.below hb1
      replace m2 := m2.below hb1
      replace m21 := m21.below hb1
      replace m22 := m22.below hb1
      replace m23 := m23.below hb1
      replace m31 := m31.below hb1
      replace m32 := m32.below hb1
      replace hB := hB.trans (hb1.mono hB.size)
      have hb_w5 := hb1
      clear hb1
      replace h6 := h6.below hb_w5
      have hNe := run_ne_rv
      have c31 := m31.cell
      have f31 := m31.free
      have l31 := m31.lt
      have c32 := m32.cell
      have f32 := m32.free
      have l32 := m32.lt
      go_wp2_with fail
      clear c31 f31 l31
      clear c32 f32 l32
      refine name_wp ?_
      intro w6 hww6
      replace m1 : Mine w6 w.heap.size 0 (.int .i64 p) := by rw [hww6]; (repeat first | with_reducible assumption | with_reducible refine Mine.drew ?_ | with_reducible refine Mine.drewN ?_ _ | ((with_reducible refine Mine.new ?_); rfl) | ((with_reducible refine Mine.newAt ?_ ?_) <;> first | rfl | (simp; done) | (simp only [World.size_alloc]; rfl)) | ((with_reducible refine Mine.set ?_ _); repeat first | exact Mine.slot (by with_reducible assumption) | with_reducible refine MineS.drew ?_ | with_reducible refine MineS.drewN ?_ _ | exact MineS.new (by decide) | exact MineS.newAt (by decide) (by simp) | with_reducible refine MineS.set ?_ _ _ _ | with_reducible refine MineS.alloc ?_ _) | with_reducible refine Mine.other ?_ _ (by first | (left; omega) | (right; omega) | (simp; done) | (simp; omega)) | with_reducible refine Mine.alloc ?_ _)
      replace m2 : Mine w6 w.heap.size 1 (.int .i64 q) := by rw [hww6]; (repeat first | with_reducible assumption | with_reducible refine Mine.drew ?_ | with_reducible refine Mine.drewN ?_ _ | ((with_reducible refine Mine.new ?_); rfl) | ((with_reducible refine Mine.newAt ?_ ?_) <;> first | rfl | (simp; done) | (simp only [World.size_alloc]; rfl)) | ((with_reducible refine Mine.set ?_ _); repeat first | exact Mine.slot (by with_reducible assumption) | with_reducible refine MineS.drew ?_ | with_reducible refine MineS.drewN ?_ _ | exact MineS.new (by decide) | exact MineS.newAt (by decide) (by simp) | with_reducible refine MineS.set ?_ _ _ _ | with_reducible refine MineS.alloc ?_ _) | with_reducible refine Mine.other ?_ _ (by first | (left; omega) | (right; omega) | (simp; done) | (simp; omega)) | with_reducible refine Mine.alloc ?_ _)
      replace m21 : Mine w6 b15 0 (.int .i64 ((1 + (y0 : Int)))) := by rw [hww6]; (repeat first | with_reducible assumption | with_reducible refine Mine.drew ?_ | with_reducible refine Mine.drewN ?_ _ | ((with_reducible refine Mine.new ?_); rfl) | ((with_reducible refine Mine.newAt ?_ ?_) <;> first | rfl | (simp; done) | (simp only [World.size_alloc]; rfl)) | ((with_reducible refine Mine.set ?_ _); repeat first | exact Mine.slot (by with_reducible assumption) | with_reducible refine MineS.drew ?_ | with_reducible refine MineS.drewN ?_ _ | exact MineS.new (by decide) | exact MineS.newAt (by decide) (by simp) | with_reducible refine MineS.set ?_ _ _ _ | with_reducible refine MineS.alloc ?_ _) | with_reducible refine Mine.other ?_ _ (by first | (left; omega) | (right; omega) | (simp; done) | (simp; omega)) | with_reducible refine Mine.alloc ?_ _)
      replace m22 : Mine w6 b15 1 (.int .i64 y1) := by rw [hww6]; (repeat first | with_reducible assumption | with_reducible refine Mine.drew ?_ | with_reducible refine Mine.drewN ?_ _ | ((with_reducible refine Mine.new ?_); rfl) | ((with_reducible refine Mine.newAt ?_ ?_) <;> first | rfl | (simp; done) | (simp only [World.size_alloc]; rfl)) | ((with_reducible refine Mine.set ?_ _); repeat first | exact Mine.slot (by with_reducible assumption) | with_reducible refine MineS.drew ?_ | with_reducible refine MineS.drewN ?_ _ | exact MineS.new (by decide) | exact MineS.newAt (by decide) (by simp) | with_reducible refine MineS.set ?_ _ _ _ | with_reducible refine MineS.alloc ?_ _) | with_reducible refine Mine.other ?_ _ (by first | (left; omega) | (right; omega) | (simp; done) | (simp; omega)) | with_reducible refine Mine.alloc ?_ _)
      replace m23 : Mine w6 b15 2 (.int .i64 y2) := by rw [hww6]; (repeat first | with_reducible assumption | with_reducible refine Mine.drew ?_ | with_reducible refine Mine.drewN ?_ _ | ((with_reducible refine Mine.new ?_); rfl) | ((with_reducible refine Mine.newAt ?_ ?_) <;> first | rfl | (simp; done) | (simp only [World.size_alloc]; rfl)) | ((with_reducible refine Mine.set ?_ _); repeat first | exact Mine.slot (by with_reducible assumption) | with_reducible refine MineS.drew ?_ | with_reducible refine MineS.drewN ?_ _ | exact MineS.new (by decide) | exact MineS.newAt (by decide) (by simp) | with_reducible refine MineS.set ?_ _ _ _ | with_reducible refine MineS.alloc ?_ _) | with_reducible refine Mine.other ?_ _ (by first | (left; omega) | (right; omega) | (simp; done) | (simp; omega)) | with_reducible refine Mine.alloc ?_ _)
      have hBzw6 := hB.size
      replace h6 : SixAt w6 B a0 a1 a2 (1 + y0) y1 y2 := by rw [hww6]; exact h6.below ((Below.refl _ _).alloc (Nat.le_refl _) _)
      replace hB : Below w.heap.size w w6 := by rw [hww6]; exact (by repeat first | exact Below.refl _ _ | assumption | refine below_drewN ?_ _ | refine Below.drew ?_ | refine Below.setCell ?_ (by first | exact Nat.le_refl _ | (simp; done) | (simp; omega) | omega) _ | refine Below.alloc ?_ (by first | exact Nat.le_refl _ | (simp; done) | (simp; omega) | omega) _)
      clear hww6 hBzw6
      have hBq := hB.size
      clear m31 m32 hNe hb_w3 hb_w5
      replace hL := Lib.hid hL
      have c1 := m1.cell
      have f1 := m1.free
      have l1 := m1.lt
      have c2 := m2.cell
      have f2 := m2.free
      have l2 := m2.lt
      refine wp_region_held_drew (S := fun w' => w'.cell? ⟨w.heap.size, 0, none⟩ = some (.int .i64 p) ∧ w'.cell? ⟨w.heap.size, 1, none⟩ = some (.int .i64 q)) (by kernel_rfl) (by first | (dsimp only; go_keep) | go_keep) (fun hHeld => ?_)
      refine take_l (i := 0) (v := ?_) rfl (by kernel_rfl) (by kernel_rfl) (by kernel_rfl) (fun _ _ _ h => h) (Or.inl ⟨by rfl, ?_⟩) (by assumption) ?_
      rotate_left
      · intro w hSw; (try dsimp only at hSw); go_simp; (try with_reducible rfl)
      (try simp only [Act.put, List.setIfInBounds_toArray, List.set_cons_zero, List.set_cons_succ])
      refine take_l (i := 1) (v := ?_) rfl (by kernel_rfl) (by kernel_rfl) (by kernel_rfl) (fun _ _ _ h => h) (Or.inl ⟨by rfl, ?_⟩) (by assumption) ?_
      rotate_left
      · intro w hSw; (try dsimp only at hSw); go_simp; (try with_reducible rfl)
      (try simp only [Act.put, List.setIfInBounds_toArray, List.set_cons_zero, List.set_cons_succ])
      refine take_l (i := 2) (v := ?_) rfl (by kernel_rfl) (by kernel_rfl) (by kernel_rfl) (fun _ _ _ h => h) (Or.inl ⟨by rfl, ?_⟩) (by assumption) ?_
      rotate_left
      · intro w hSw; (try dsimp only at hSw); go_simp; (try with_reducible rfl)
      (try simp only [Act.put, List.setIfInBounds_toArray, List.set_cons_zero, List.set_cons_succ])
      refine take_l (i := 6) (v := ?_) rfl (by kernel_rfl) (by kernel_rfl) (by kernel_rfl) (fun _ _ _ h => h) (Or.inl ⟨by rfl, ?_⟩) (by assumption) ?_
      rotate_left
      · intro w hSw; (try dsimp only at hSw); go_simp; (try with_reducible rfl)
      (try simp only [Act.put, List.setIfInBounds_toArray, List.set_cons_zero, List.set_cons_succ])
      refine wpAnyH_ready (rs := [3]) (by kernel_rfl) (by simp) ?_
      refine ready_l rfl (fun K hK => ?_) AllReadyH.nil
      go_simp
      (go_at_call 15; refine (hL.out _ i4 i5).mono ?_; rintro e wl ⟨rfl, hbwl⟩; have n1wl : Mine wl w.heap.size 0 (.int .i64 p) := Mine.below (by (repeat first | with_reducible assumption | with_reducible refine Mine.drew ?_ | with_reducible refine Mine.drewN ?_ _ | ((with_reducible refine Mine.new ?_); rfl) | ((with_reducible refine Mine.newAt ?_ ?_) <;> first | rfl | (simp; done) | (simp only [World.size_alloc]; rfl)) | ((with_reducible refine Mine.set ?_ _); repeat first | exact Mine.slot (by with_reducible assumption) | with_reducible refine MineS.drew ?_ | with_reducible refine MineS.drewN ?_ _ | exact MineS.new (by decide) | exact MineS.newAt (by decide) (by simp) | with_reducible refine MineS.set ?_ _ _ _ | with_reducible refine MineS.alloc ?_ _) | with_reducible refine Mine.other ?_ _ (by first | (left; omega) | (right; omega) | (simp; done) | (simp; omega)) | with_reducible refine Mine.alloc ?_ _)) hbwl; have g1wl := n1wl.cell; have gf1wl := n1wl.free; have n2wl : Mine wl w.heap.size 1 (.int .i64 q) := Mine.below (by (repeat first | with_reducible assumption | with_reducible refine Mine.drew ?_ | with_reducible refine Mine.drewN ?_ _ | ((with_reducible refine Mine.new ?_); rfl) | ((with_reducible refine Mine.newAt ?_ ?_) <;> first | rfl | (simp; done) | (simp only [World.size_alloc]; rfl)) | ((with_reducible refine Mine.set ?_ _); repeat first | exact Mine.slot (by with_reducible assumption) | with_reducible refine MineS.drew ?_ | with_reducible refine MineS.drewN ?_ _ | exact MineS.new (by decide) | exact MineS.newAt (by decide) (by simp) | with_reducible refine MineS.set ?_ _ _ _ | with_reducible refine MineS.alloc ?_ _) | with_reducible refine Mine.other ?_ _ (by first | (left; omega) | (right; omega) | (simp; done) | (simp; omega)) | with_reducible refine Mine.alloc ?_ _)) hbwl; have g2wl := n2wl.cell; have gf2wl := n2wl.free; have n21wl : Mine wl b15 0 (.int .i64 ((1 + (y0 : Int)))) := Mine.below (by (repeat first | with_reducible assumption | with_reducible refine Mine.drew ?_ | with_reducible refine Mine.drewN ?_ _ | ((with_reducible refine Mine.new ?_); rfl) | ((with_reducible refine Mine.newAt ?_ ?_) <;> first | rfl | (simp; done) | (simp only [World.size_alloc]; rfl)) | ((with_reducible refine Mine.set ?_ _); repeat first | exact Mine.slot (by with_reducible assumption) | with_reducible refine MineS.drew ?_ | with_reducible refine MineS.drewN ?_ _ | exact MineS.new (by decide) | exact MineS.newAt (by decide) (by simp) | with_reducible refine MineS.set ?_ _ _ _ | with_reducible refine MineS.alloc ?_ _) | with_reducible refine Mine.other ?_ _ (by first | (left; omega) | (right; omega) | (simp; done) | (simp; omega)) | with_reducible refine Mine.alloc ?_ _)) hbwl; have g21wl := n21wl.cell; have gf21wl := n21wl.free; have n22wl : Mine wl b15 1 (.int .i64 y1) := Mine.below (by (repeat first | with_reducible assumption | with_reducible refine Mine.drew ?_ | with_reducible refine Mine.drewN ?_ _ | ((with_reducible refine Mine.new ?_); rfl) | ((with_reducible refine Mine.newAt ?_ ?_) <;> first | rfl | (simp; done) | (simp only [World.size_alloc]; rfl)) | ((with_reducible refine Mine.set ?_ _); repeat first | exact Mine.slot (by with_reducible assumption) | with_reducible refine MineS.drew ?_ | with_reducible refine MineS.drewN ?_ _ | exact MineS.new (by decide) | exact MineS.newAt (by decide) (by simp) | with_reducible refine MineS.set ?_ _ _ _ | with_reducible refine MineS.alloc ?_ _) | with_reducible refine Mine.other ?_ _ (by first | (left; omega) | (right; omega) | (simp; done) | (simp; omega)) | with_reducible refine Mine.alloc ?_ _)) hbwl; have g22wl := n22wl.cell; have gf22wl := n22wl.free; have n23wl : Mine wl b15 2 (.int .i64 y2) := Mine.below (by (repeat first | with_reducible assumption | with_reducible refine Mine.drew ?_ | with_reducible refine Mine.drewN ?_ _ | ((with_reducible refine Mine.new ?_); rfl) | ((with_reducible refine Mine.newAt ?_ ?_) <;> first | rfl | (simp; done) | (simp only [World.size_alloc]; rfl)) | ((with_reducible refine Mine.set ?_ _); repeat first | exact Mine.slot (by with_reducible assumption) | with_reducible refine MineS.drew ?_ | with_reducible refine MineS.drewN ?_ _ | exact MineS.new (by decide) | exact MineS.newAt (by decide) (by simp) | with_reducible refine MineS.set ?_ _ _ _ | with_reducible refine MineS.alloc ?_ _) | with_reducible refine Mine.other ?_ _ (by first | (left; omega) | (right; omega) | (simp; done) | (simp; omega)) | with_reducible refine Mine.alloc ?_ _)) hbwl; have g23wl := n23wl.cell; have gf23wl := n23wl.free; have hBwl : Below w.heap.size w wl := Below.trans (by repeat first | exact Below.refl _ _ | assumption | refine below_drewN ?_ _ | refine Below.drew ?_ | refine Below.setCell ?_ (by first | exact Nat.le_refl _ | (simp; done) | (simp; omega) | omega) _ | refine Below.alloc ?_ (by first | exact Nat.le_refl _ | (simp; done) | (simp; omega) | omega) _) (hbwl.mono (by first | exact Nat.le_refl _ | assumption | (simp; done) | (simp; omega) | omega)); have hzwl := hbwl.size; have h6l := (SixAt.drew h6).below hbwl)
      refine hK.out _ _ (by first | (dsimp only; go_keep) | go_keep) (fun hHeld => ?_)
      clear hK K
      (try simp only [Act.put, List.setIfInBounds_toArray, List.set_cons_zero, List.set_cons_succ])
      refine wpAnyH_ready (rs := [4]) (by kernel_rfl) (by simp) ?_
      refine ready_l rfl (fun K hK => ?_) AllReadyH.nil
      go_simp
      refine hK.out _ _ (by first | (dsimp only; go_keep) | go_keep) (fun hHeld => ?_)
      clear hK K
      (try simp only [Act.put, List.setIfInBounds_toArray, List.set_cons_zero, List.set_cons_succ])
      refine take_l (i := 5) (v := ?_) rfl (by kernel_rfl) (by kernel_rfl) (by kernel_rfl) (fun _ _ _ h => h) (Or.inl ⟨by rfl, ?_⟩) (by assumption) ?_
      rotate_left
      · intro w hSw; (try dsimp only at hSw); go_simp; (try with_reducible rfl)
      (try simp only [Act.put, List.setIfInBounds_toArray, List.set_cons_zero, List.set_cons_succ])
      refine wpAnyH_done (by kernel_rfl) ?_ _
      have hBzl := hBwl.size
      refine name_then ?_
      intro w7 hww7
      replace m1 : Mine w7 w.heap.size 0 (.int .i64 p) := by rw [hww7]; (repeat first | with_reducible assumption | with_reducible refine Mine.drew ?_ | with_reducible refine Mine.drewN ?_ _ | ((with_reducible refine Mine.new ?_); rfl) | ((with_reducible refine Mine.newAt ?_ ?_) <;> first | rfl | (simp; done) | (simp only [World.size_alloc]; rfl)) | ((with_reducible refine Mine.set ?_ _); repeat first | exact Mine.slot (by with_reducible assumption) | with_reducible refine MineS.drew ?_ | with_reducible refine MineS.drewN ?_ _ | exact MineS.new (by decide) | exact MineS.newAt (by decide) (by simp) | with_reducible refine MineS.set ?_ _ _ _ | with_reducible refine MineS.alloc ?_ _) | with_reducible refine Mine.other ?_ _ (by first | (left; omega) | (right; omega) | (simp; done) | (simp; omega)) | with_reducible refine Mine.alloc ?_ _)
      replace m2 : Mine w7 w.heap.size 1 (.int .i64 q) := by rw [hww7]; (repeat first | with_reducible assumption | with_reducible refine Mine.drew ?_ | with_reducible refine Mine.drewN ?_ _ | ((with_reducible refine Mine.new ?_); rfl) | ((with_reducible refine Mine.newAt ?_ ?_) <;> first | rfl | (simp; done) | (simp only [World.size_alloc]; rfl)) | ((with_reducible refine Mine.set ?_ _); repeat first | exact Mine.slot (by with_reducible assumption) | with_reducible refine MineS.drew ?_ | with_reducible refine MineS.drewN ?_ _ | exact MineS.new (by decide) | exact MineS.newAt (by decide) (by simp) | with_reducible refine MineS.set ?_ _ _ _ | with_reducible refine MineS.alloc ?_ _) | with_reducible refine Mine.other ?_ _ (by first | (left; omega) | (right; omega) | (simp; done) | (simp; omega)) | with_reducible refine Mine.alloc ?_ _)
      replace m21 : Mine w7 b15 0 (.int .i64 ((1 + (y0 : Int)))) := by rw [hww7]; (repeat first | with_reducible assumption | with_reducible refine Mine.drew ?_ | with_reducible refine Mine.drewN ?_ _ | ((with_reducible refine Mine.new ?_); rfl) | ((with_reducible refine Mine.newAt ?_ ?_) <;> first | rfl | (simp; done) | (simp only [World.size_alloc]; rfl)) | ((with_reducible refine Mine.set ?_ _); repeat first | exact Mine.slot (by with_reducible assumption) | with_reducible refine MineS.drew ?_ | with_reducible refine MineS.drewN ?_ _ | exact MineS.new (by decide) | exact MineS.newAt (by decide) (by simp) | with_reducible refine MineS.set ?_ _ _ _ | with_reducible refine MineS.alloc ?_ _) | with_reducible refine Mine.other ?_ _ (by first | (left; omega) | (right; omega) | (simp; done) | (simp; omega)) | with_reducible refine Mine.alloc ?_ _)
      replace m22 : Mine w7 b15 1 (.int .i64 y1) := by rw [hww7]; (repeat first | with_reducible assumption | with_reducible refine Mine.drew ?_ | with_reducible refine Mine.drewN ?_ _ | ((with_reducible refine Mine.new ?_); rfl) | ((with_reducible refine Mine.newAt ?_ ?_) <;> first | rfl | (simp; done) | (simp only [World.size_alloc]; rfl)) | ((with_reducible refine Mine.set ?_ _); repeat first | exact Mine.slot (by with_reducible assumption) | with_reducible refine MineS.drew ?_ | with_reducible refine MineS.drewN ?_ _ | exact MineS.new (by decide) | exact MineS.newAt (by decide) (by simp) | with_reducible refine MineS.set ?_ _ _ _ | with_reducible refine MineS.alloc ?_ _) | with_reducible refine Mine.other ?_ _ (by first | (left; omega) | (right; omega) | (simp; done) | (simp; omega)) | with_reducible refine Mine.alloc ?_ _)
      replace m23 : Mine w7 b15 2 (.int .i64 y2) := by rw [hww7]; (repeat first | with_reducible assumption | with_reducible refine Mine.drew ?_ | with_reducible refine Mine.drewN ?_ _ | ((with_reducible refine Mine.new ?_); rfl) | ((with_reducible refine Mine.newAt ?_ ?_) <;> first | rfl | (simp; done) | (simp only [World.size_alloc]; rfl)) | ((with_reducible refine Mine.set ?_ _); repeat first | exact Mine.slot (by with_reducible assumption) | with_reducible refine MineS.drew ?_ | with_reducible refine MineS.drewN ?_ _ | exact MineS.new (by decide) | exact MineS.newAt (by decide) (by simp) | with_reducible refine MineS.set ?_ _ _ _ | with_reducible refine MineS.alloc ?_ _) | with_reducible refine Mine.other ?_ _ (by first | (left; omega) | (right; omega) | (simp; done) | (simp; omega)) | with_reducible refine Mine.alloc ?_ _)
      replace m41 : Mine w7 wl.heap.size 0 (.int .i64 p) := by rw [hww7]; (repeat first | with_reducible assumption | with_reducible refine Mine.drew ?_ | with_reducible refine Mine.drewN ?_ _ | ((with_reducible refine Mine.new ?_); rfl) | ((with_reducible refine Mine.newAt ?_ ?_) <;> first | rfl | (simp; done) | (simp only [World.size_alloc]; rfl)) | ((with_reducible refine Mine.set ?_ _); repeat first | exact Mine.slot (by with_reducible assumption) | with_reducible refine MineS.drew ?_ | with_reducible refine MineS.drewN ?_ _ | exact MineS.new (by decide) | exact MineS.newAt (by decide) (by simp) | with_reducible refine MineS.set ?_ _ _ _ | with_reducible refine MineS.alloc ?_ _) | with_reducible refine Mine.other ?_ _ (by first | (left; omega) | (right; omega) | (simp; done) | (simp; omega)) | with_reducible refine Mine.alloc ?_ _)
      replace m42 : Mine w7 wl.heap.size 1 (.int .i64 q) := by rw [hww7]; (repeat first | with_reducible assumption | with_reducible refine Mine.drew ?_ | with_reducible refine Mine.drewN ?_ _ | ((with_reducible refine Mine.new ?_); rfl) | ((with_reducible refine Mine.newAt ?_ ?_) <;> first | rfl | (simp; done) | (simp only [World.size_alloc]; rfl)) | ((with_reducible refine Mine.set ?_ _); repeat first | exact Mine.slot (by with_reducible assumption) | with_reducible refine MineS.drew ?_ | with_reducible refine MineS.drewN ?_ _ | exact MineS.new (by decide) | exact MineS.newAt (by decide) (by simp) | with_reducible refine MineS.set ?_ _ _ _ | with_reducible refine MineS.alloc ?_ _) | with_reducible refine Mine.other ?_ _ (by first | (left; omega) | (right; omega) | (simp; done) | (simp; omega)) | with_reducible refine Mine.alloc ?_ _)
      replace m43 : Mine w7 wl.heap.size 2 (.int .i64 L.1) := by rw [hww7]; (repeat first | with_reducible assumption | with_reducible refine Mine.drew ?_ | with_reducible refine Mine.drewN ?_ _ | ((with_reducible refine Mine.new ?_); rfl) | ((with_reducible refine Mine.newAt ?_ ?_) <;> first | rfl | (simp; done) | (simp only [World.size_alloc]; rfl)) | ((with_reducible refine Mine.set ?_ _); repeat first | exact Mine.slot (by with_reducible assumption) | with_reducible refine MineS.drew ?_ | with_reducible refine MineS.drewN ?_ _ | exact MineS.new (by decide) | exact MineS.newAt (by decide) (by simp) | with_reducible refine MineS.set ?_ _ _ _ | with_reducible refine MineS.alloc ?_ _) | with_reducible refine Mine.other ?_ _ (by first | (left; omega) | (right; omega) | (simp; done) | (simp; omega)) | with_reducible refine Mine.alloc ?_ _)
      replace m44 : Mine w7 wl.heap.size 3 (.int .i64 L.2.1) := by rw [hww7]; (repeat first | with_reducible assumption | with_reducible refine Mine.drew ?_ | with_reducible refine Mine.drewN ?_ _ | ((with_reducible refine Mine.new ?_); rfl) | ((with_reducible refine Mine.newAt ?_ ?_) <;> first | rfl | (simp; done) | (simp only [World.size_alloc]; rfl)) | ((with_reducible refine Mine.set ?_ _); repeat first | exact Mine.slot (by with_reducible assumption) | with_reducible refine MineS.drew ?_ | with_reducible refine MineS.drewN ?_ _ | exact MineS.new (by decide) | exact MineS.newAt (by decide) (by simp) | with_reducible refine MineS.set ?_ _ _ _ | with_reducible refine MineS.alloc ?_ _) | with_reducible refine Mine.other ?_ _ (by first | (left; omega) | (right; omega) | (simp; done) | (simp; omega)) | with_reducible refine Mine.alloc ?_ _)
      have hBzw7 := hB.size
      replace h6l : SixAt w7 B a0 a1 a2 (1 + y0) y1 y2 := by rw [hww7]; exact h6l.below ((Below.refl _ _).alloc (Nat.le_refl _) _)
      replace hB : Below w.heap.size w w7 := by rw [hww7]; exact (by repeat first | exact Below.refl _ _ | assumption | refine below_drewN ?_ _ | refine Below.drew ?_ | refine Below.setCell ?_ (by first | exact Nat.le_refl _ | (simp; done) | (simp; omega) | omega) _ | refine Below.alloc ?_ (by first | exact Nat.le_refl _ | (simp; done) | (simp; omega) | omega) _)
      clear hww7 hBzw7
      generalize wl.heap.size = bL at *
      have hR : InRel w w7 B b15 bL a0 a1 a2 (1 + y0) y1 y2 p q ((1 + (y0 : Int))) y1 y2 L.1 L.2.1 := ⟨h6l, hB, m1, m2, m21, m22, m23, m41, m42, m43, m44⟩
      clear h6 h6l hB m1 m2 m21 m22 m23 m41 m42 m43 m44 hBq hHeld c1 f1 l1 c2 f2 l2 n1wl g1wl gf1wl n2wl g2wl gf2wl n21wl g21wl gf21wl n22wl g22wl gf22wl n23wl g23wl gf23wl hBwl hzwl hbwl hL hD1 hD2
      go_wp2_with fail
      go_loopw [83] (fun v wr => ∃ j : Nat, j ≤ 2 ∧ v = .int .i64 j ∧ InRel w wr B b15 bL a0 a1 a2 (1 + y0) y1 y2 p q ((1 + (y0 : Int))) y1 y2 L.1 L.2.1) (fun v _ => 2 - (intOf v).toNat)
      case atStart => exact ⟨0, by omega, rfl, hR⟩
      case round =>
        clear hR
        obtain ⟨j, hj, rfl, R⟩ := hrel
        have hcase : j = 0 ∨ j = 1 ∨ j = 2 := by omega
        rcases hcase with rfl | rfl | rfl
        · have z1 := R.m41.cell
          have z2 := R.m42.cell
          obtain ⟨h6, hB, m1, m2, m21, m22, m23, m41, m42, m43, m44⟩ := R
          have hN1 := fun w => Needed_any (1 + (y0 : Int)) y1 p q w ip iq
          have hN2 := fun w => refNeeded_any (1 + (y0 : Int)) y1 p q w ip iq
          have hM1 := fun w => Bound_any (1 + (y0 : Int)) y2 p q w ip iq
          have hM2 := fun w => refBound_any (1 + (y0 : Int)) y2 p q w ip iq
          generalize needv (1 + (y0 : Int)) y1 p q = R1 at *
          generalize boundv (1 + (y0 : Int)) y2 p q = R2 at *
          replace hN1 := Lib.hid hN1
          replace hN2 := Lib.hid hN2
          replace hM1 := Lib.hid hM1
          replace hM2 := Lib.hid hM2
          have c21 := m21.cell
          have f21 := m21.free
          have l21 := m21.lt
          have c22 := m22.cell
          have f22 := m22.free
          have l22 := m22.lt
          have c23 := m23.cell
          have f23 := m23.free
          have l23 := m23.lt
          go_wp2_with fail
          clear c21 f21 l21
          clear c22 f22 l22
          clear c23 f23 l23
          clear z1 z2
          refine name_calls ?_
          intro v1 hwv1
          replace m1 : Mine v1 w.heap.size 0 (.int .i64 p) := by rw [hwv1]; (repeat first | with_reducible assumption | with_reducible refine Mine.drew ?_ | with_reducible refine Mine.drewN ?_ _ | ((with_reducible refine Mine.new ?_); rfl) | ((with_reducible refine Mine.newAt ?_ ?_) <;> first | rfl | (simp; done) | (simp only [World.size_alloc]; rfl)) | ((with_reducible refine Mine.set ?_ _); repeat first | exact Mine.slot (by with_reducible assumption) | with_reducible refine MineS.drew ?_ | with_reducible refine MineS.drewN ?_ _ | exact MineS.new (by decide) | exact MineS.newAt (by decide) (by simp) | with_reducible refine MineS.set ?_ _ _ _ | with_reducible refine MineS.alloc ?_ _) | with_reducible refine Mine.other ?_ _ (by first | (left; omega) | (right; omega) | (simp; done) | (simp; omega)) | with_reducible refine Mine.alloc ?_ _)
          replace m2 : Mine v1 w.heap.size 1 (.int .i64 q) := by rw [hwv1]; (repeat first | with_reducible assumption | with_reducible refine Mine.drew ?_ | with_reducible refine Mine.drewN ?_ _ | ((with_reducible refine Mine.new ?_); rfl) | ((with_reducible refine Mine.newAt ?_ ?_) <;> first | rfl | (simp; done) | (simp only [World.size_alloc]; rfl)) | ((with_reducible refine Mine.set ?_ _); repeat first | exact Mine.slot (by with_reducible assumption) | with_reducible refine MineS.drew ?_ | with_reducible refine MineS.drewN ?_ _ | exact MineS.new (by decide) | exact MineS.newAt (by decide) (by simp) | with_reducible refine MineS.set ?_ _ _ _ | with_reducible refine MineS.alloc ?_ _) | with_reducible refine Mine.other ?_ _ (by first | (left; omega) | (right; omega) | (simp; done) | (simp; omega)) | with_reducible refine Mine.alloc ?_ _)
          replace m21 : Mine v1 b15 0 (.int .i64 (1 + (y0 : Int))) := by rw [hwv1]; (repeat first | with_reducible assumption | with_reducible refine Mine.drew ?_ | with_reducible refine Mine.drewN ?_ _ | ((with_reducible refine Mine.new ?_); rfl) | ((with_reducible refine Mine.newAt ?_ ?_) <;> first | rfl | (simp; done) | (simp only [World.size_alloc]; rfl)) | ((with_reducible refine Mine.set ?_ _); repeat first | exact Mine.slot (by with_reducible assumption) | with_reducible refine MineS.drew ?_ | with_reducible refine MineS.drewN ?_ _ | exact MineS.new (by decide) | exact MineS.newAt (by decide) (by simp) | with_reducible refine MineS.set ?_ _ _ _ | with_reducible refine MineS.alloc ?_ _) | with_reducible refine Mine.other ?_ _ (by first | (left; omega) | (right; omega) | (simp; done) | (simp; omega)) | with_reducible refine Mine.alloc ?_ _)
          replace m22 : Mine v1 b15 1 (.int .i64 y1) := by rw [hwv1]; (repeat first | with_reducible assumption | with_reducible refine Mine.drew ?_ | with_reducible refine Mine.drewN ?_ _ | ((with_reducible refine Mine.new ?_); rfl) | ((with_reducible refine Mine.newAt ?_ ?_) <;> first | rfl | (simp; done) | (simp only [World.size_alloc]; rfl)) | ((with_reducible refine Mine.set ?_ _); repeat first | exact Mine.slot (by with_reducible assumption) | with_reducible refine MineS.drew ?_ | with_reducible refine MineS.drewN ?_ _ | exact MineS.new (by decide) | exact MineS.newAt (by decide) (by simp) | with_reducible refine MineS.set ?_ _ _ _ | with_reducible refine MineS.alloc ?_ _) | with_reducible refine Mine.other ?_ _ (by first | (left; omega) | (right; omega) | (simp; done) | (simp; omega)) | with_reducible refine Mine.alloc ?_ _)
          replace m23 : Mine v1 b15 2 (.int .i64 y2) := by rw [hwv1]; (repeat first | with_reducible assumption | with_reducible refine Mine.drew ?_ | with_reducible refine Mine.drewN ?_ _ | ((with_reducible refine Mine.new ?_); rfl) | ((with_reducible refine Mine.newAt ?_ ?_) <;> first | rfl | (simp; done) | (simp only [World.size_alloc]; rfl)) | ((with_reducible refine Mine.set ?_ _); repeat first | exact Mine.slot (by with_reducible assumption) | with_reducible refine MineS.drew ?_ | with_reducible refine MineS.drewN ?_ _ | exact MineS.new (by decide) | exact MineS.newAt (by decide) (by simp) | with_reducible refine MineS.set ?_ _ _ _ | with_reducible refine MineS.alloc ?_ _) | with_reducible refine Mine.other ?_ _ (by first | (left; omega) | (right; omega) | (simp; done) | (simp; omega)) | with_reducible refine Mine.alloc ?_ _)
          replace m41 : Mine v1 bL 0 (.int .i64 p) := by rw [hwv1]; (repeat first | with_reducible assumption | with_reducible refine Mine.drew ?_ | with_reducible refine Mine.drewN ?_ _ | ((with_reducible refine Mine.new ?_); rfl) | ((with_reducible refine Mine.newAt ?_ ?_) <;> first | rfl | (simp; done) | (simp only [World.size_alloc]; rfl)) | ((with_reducible refine Mine.set ?_ _); repeat first | exact Mine.slot (by with_reducible assumption) | with_reducible refine MineS.drew ?_ | with_reducible refine MineS.drewN ?_ _ | exact MineS.new (by decide) | exact MineS.newAt (by decide) (by simp) | with_reducible refine MineS.set ?_ _ _ _ | with_reducible refine MineS.alloc ?_ _) | with_reducible refine Mine.other ?_ _ (by first | (left; omega) | (right; omega) | (simp; done) | (simp; omega)) | with_reducible refine Mine.alloc ?_ _)
          replace m42 : Mine v1 bL 1 (.int .i64 q) := by rw [hwv1]; (repeat first | with_reducible assumption | with_reducible refine Mine.drew ?_ | with_reducible refine Mine.drewN ?_ _ | ((with_reducible refine Mine.new ?_); rfl) | ((with_reducible refine Mine.newAt ?_ ?_) <;> first | rfl | (simp; done) | (simp only [World.size_alloc]; rfl)) | ((with_reducible refine Mine.set ?_ _); repeat first | exact Mine.slot (by with_reducible assumption) | with_reducible refine MineS.drew ?_ | with_reducible refine MineS.drewN ?_ _ | exact MineS.new (by decide) | exact MineS.newAt (by decide) (by simp) | with_reducible refine MineS.set ?_ _ _ _ | with_reducible refine MineS.alloc ?_ _) | with_reducible refine Mine.other ?_ _ (by first | (left; omega) | (right; omega) | (simp; done) | (simp; omega)) | with_reducible refine Mine.alloc ?_ _)
          replace m43 : Mine v1 bL 2 (.int .i64 L.1) := by rw [hwv1]; (repeat first | with_reducible assumption | with_reducible refine Mine.drew ?_ | with_reducible refine Mine.drewN ?_ _ | ((with_reducible refine Mine.new ?_); rfl) | ((with_reducible refine Mine.newAt ?_ ?_) <;> first | rfl | (simp; done) | (simp only [World.size_alloc]; rfl)) | ((with_reducible refine Mine.set ?_ _); repeat first | exact Mine.slot (by with_reducible assumption) | with_reducible refine MineS.drew ?_ | with_reducible refine MineS.drewN ?_ _ | exact MineS.new (by decide) | exact MineS.newAt (by decide) (by simp) | with_reducible refine MineS.set ?_ _ _ _ | with_reducible refine MineS.alloc ?_ _) | with_reducible refine Mine.other ?_ _ (by first | (left; omega) | (right; omega) | (simp; done) | (simp; omega)) | with_reducible refine Mine.alloc ?_ _)
          replace m44 : Mine v1 bL 3 (.int .i64 L.2.1) := by rw [hwv1]; (repeat first | with_reducible assumption | with_reducible refine Mine.drew ?_ | with_reducible refine Mine.drewN ?_ _ | ((with_reducible refine Mine.new ?_); rfl) | ((with_reducible refine Mine.newAt ?_ ?_) <;> first | rfl | (simp; done) | (simp only [World.size_alloc]; rfl)) | ((with_reducible refine Mine.set ?_ _); repeat first | exact Mine.slot (by with_reducible assumption) | with_reducible refine MineS.drew ?_ | with_reducible refine MineS.drewN ?_ _ | exact MineS.new (by decide) | exact MineS.newAt (by decide) (by simp) | with_reducible refine MineS.set ?_ _ _ _ | with_reducible refine MineS.alloc ?_ _) | with_reducible refine Mine.other ?_ _ (by first | (left; omega) | (right; omega) | (simp; done) | (simp; omega)) | with_reducible refine Mine.alloc ?_ _)
          replace m51 : Mine v1 wr.heap.size 0 (.int .i64 (p)) := by rw [hwv1]; (repeat first | with_reducible assumption | with_reducible refine Mine.drew ?_ | with_reducible refine Mine.drewN ?_ _ | ((with_reducible refine Mine.new ?_); rfl) | ((with_reducible refine Mine.newAt ?_ ?_) <;> first | rfl | (simp; done) | (simp only [World.size_alloc]; rfl)) | ((with_reducible refine Mine.set ?_ _); repeat first | exact Mine.slot (by with_reducible assumption) | with_reducible refine MineS.drew ?_ | with_reducible refine MineS.drewN ?_ _ | exact MineS.new (by decide) | exact MineS.newAt (by decide) (by simp) | with_reducible refine MineS.set ?_ _ _ _ | with_reducible refine MineS.alloc ?_ _) | with_reducible refine Mine.other ?_ _ (by first | (left; omega) | (right; omega) | (simp; done) | (simp; omega)) | with_reducible refine Mine.alloc ?_ _)
          replace m52 : Mine v1 wr.heap.size 1 (.int .i64 (q)) := by rw [hwv1]; (repeat first | with_reducible assumption | with_reducible refine Mine.drew ?_ | with_reducible refine Mine.drewN ?_ _ | ((with_reducible refine Mine.new ?_); rfl) | ((with_reducible refine Mine.newAt ?_ ?_) <;> first | rfl | (simp; done) | (simp only [World.size_alloc]; rfl)) | ((with_reducible refine Mine.set ?_ _); repeat first | exact Mine.slot (by with_reducible assumption) | with_reducible refine MineS.drew ?_ | with_reducible refine MineS.drewN ?_ _ | exact MineS.new (by decide) | exact MineS.newAt (by decide) (by simp) | with_reducible refine MineS.set ?_ _ _ _ | with_reducible refine MineS.alloc ?_ _) | with_reducible refine Mine.other ?_ _ (by first | (left; omega) | (right; omega) | (simp; done) | (simp; omega)) | with_reducible refine Mine.alloc ?_ _)
          have hBzv1 := hB.size
          replace h6 : SixAt v1 B a0 a1 a2 (1 + y0) y1 y2 := by rw [hwv1]; exact h6.below ((Below.refl _ _).alloc (Nat.le_refl _) _)
          replace hB : Below w.heap.size w v1 := by rw [hwv1]; exact (by repeat first | exact Below.refl _ _ | assumption | refine below_drewN ?_ _ | refine Below.drew ?_ | refine Below.setCell ?_ (by first | exact Nat.le_refl _ | (simp; done) | (simp; omega) | omega) _ | refine Below.alloc ?_ (by first | exact Nat.le_refl _ | (simp; done) | (simp; omega) | omega) _)
          clear hwv1 hBzv1
          generalize wr.heap.size = b21 at *
          refine (hN1.out _).mono ?_
          rintro e v2 ⟨rfl, hb1⟩
          replace m1 := m1.below hb1
          replace m2 := m2.below hb1
          replace m21 := m21.below hb1
          replace m22 := m22.below hb1
          replace m23 := m23.below hb1
          replace m41 := m41.below hb1
          replace m42 := m42.below hb1
          replace m43 := m43.below hb1
          replace m44 := m44.below hb1
          replace m51 := m51.below hb1
          replace m52 := m52.below hb1
          replace hB := hB.trans (hb1.mono hB.size)
          have hb_v2 := hb1
          clear hb1
          replace h6 := h6.below hb_v2
          have c21 := m21.cell
          have f21 := m21.free
          have l21 := m21.lt
          have c22 := m22.cell
          have f22 := m22.free
          have l22 := m22.lt
          have c23 := m23.cell
          have f23 := m23.free
          have l23 := m23.lt
          have c51 := m51.cell
          have f51 := m51.free
          have l51 := m51.lt
          have c52 := m52.cell
          have f52 := m52.free
          have l52 := m52.lt
          go_wp2_with fail
          clear c21 f21 l21
          clear c22 f22 l22
          clear c23 f23 l23
          clear c51 f51 l51
          clear c52 f52 l52
          refine (hN2.out _).mono ?_
          rintro e v3 ⟨rfl, hb1⟩
          replace m1 := m1.below hb1
          replace m2 := m2.below hb1
          replace m21 := m21.below hb1
          replace m22 := m22.below hb1
          replace m23 := m23.below hb1
          replace m41 := m41.below hb1
          replace m42 := m42.below hb1
          replace m43 := m43.below hb1
          replace m44 := m44.below hb1
          replace m51 := m51.below hb1
          replace m52 := m52.below hb1
          replace hB := hB.trans (hb1.mono hB.size)
          have hb_v3 := hb1
          clear hb1
          replace h6 := h6.below hb_v3
          have c21 := m21.cell
          have f21 := m21.free
          have l21 := m21.lt
          have c22 := m22.cell
          have f22 := m22.free
          have l22 := m22.lt
          have c23 := m23.cell
          have f23 := m23.free
          have l23 := m23.lt
          have c51 := m51.cell
          have f51 := m51.free
          have l51 := m51.lt
          have c52 := m52.cell
          have f52 := m52.free
          have l52 := m52.lt
          go_wp2_with fail
          clear c21 f21 l21
          clear c22 f22 l22
          clear c23 f23 l23
          clear c51 f51 l51
          clear c52 f52 l52
          refine (hM1.out _).mono ?_
          rintro e v4 ⟨rfl, hb1⟩
          replace m1 := m1.below hb1
          replace m2 := m2.below hb1
          replace m21 := m21.below hb1
          replace m22 := m22.below hb1
          replace m23 := m23.below hb1
          replace m41 := m41.below hb1
          replace m42 := m42.below hb1
          replace m43 := m43.below hb1
          replace m44 := m44.below hb1
          replace m51 := m51.below hb1
          replace m52 := m52.below hb1
          replace hB := hB.trans (hb1.mono hB.size)
          have hb_v4 := hb1
          clear hb1
          replace h6 := h6.below hb_v4
          have c21 := m21.cell
          have f21 := m21.free
          have l21 := m21.lt
          have c22 := m22.cell
          have f22 := m22.free
          have l22 := m22.lt
          have c23 := m23.cell
          have f23 := m23.free
          have l23 := m23.lt
          have c51 := m51.cell
          have f51 := m51.free
          have l51 := m51.lt
          have c52 := m52.cell
          have f52 := m52.free
          have l52 := m52.lt
          go_wp2_with fail
          clear c21 f21 l21
          clear c22 f22 l22
          clear c23 f23 l23
          clear c51 f51 l51
          clear c52 f52 l52
          refine (hM2.out _).mono ?_
          rintro e v5 ⟨rfl, hb1⟩
          replace m1 := m1.below hb1
          replace m2 := m2.below hb1
          replace m21 := m21.below hb1
          replace m22 := m22.below hb1
          replace m23 := m23.below hb1
          replace m41 := m41.below hb1
          replace m42 := m42.below hb1
          replace m43 := m43.below hb1
          replace m44 := m44.below hb1
          replace m51 := m51.below hb1
          replace m52 := m52.below hb1
          replace hB := hB.trans (hb1.mono hB.size)
          have hb_v5 := hb1
          clear hb1
          replace h6 := h6.below hb_v5
          go_wp2
          go_roundw
          case rel => exact ⟨1, by omega, rfl, ⟨h6, hB, m1, m2, m21, m22, m23, m41, m42, m43, m44⟩⟩
          case measure => simp [intOf]
        · have z1 := R.m43.cell
          have z2 := R.m44.cell
          obtain ⟨h6, hB, m1, m2, m21, m22, m23, m41, m42, m43, m44⟩ := R
          have hN1 := fun w => Needed_any (1 + (y0 : Int)) y1 L.1 L.2.1 w jx jy
          have hN2 := fun w => refNeeded_any (1 + (y0 : Int)) y1 L.1 L.2.1 w jx jy
          have hM1 := fun w => Bound_any (1 + (y0 : Int)) y2 L.1 L.2.1 w jx jy
          have hM2 := fun w => refBound_any (1 + (y0 : Int)) y2 L.1 L.2.1 w jx jy
          generalize needv (1 + (y0 : Int)) y1 L.1 L.2.1 = R1 at *
          generalize boundv (1 + (y0 : Int)) y2 L.1 L.2.1 = R2 at *
          replace hN1 := Lib.hid hN1
          replace hN2 := Lib.hid hN2
          replace hM1 := Lib.hid hM1
          replace hM2 := Lib.hid hM2
          have c21 := m21.cell
          have f21 := m21.free
          have l21 := m21.lt
          have c22 := m22.cell
          have f22 := m22.free
          have l22 := m22.lt
          have c23 := m23.cell
          have f23 := m23.free
          have l23 := m23.lt
          go_wp2_with fail
          clear c21 f21 l21
          clear c22 f22 l22
          clear c23 f23 l23
          clear z1 z2
          refine name_calls ?_
          intro v1 hwv1
          replace m1 : Mine v1 w.heap.size 0 (.int .i64 p) := by rw [hwv1]; (repeat first | with_reducible assumption | with_reducible refine Mine.drew ?_ | with_reducible refine Mine.drewN ?_ _ | ((with_reducible refine Mine.new ?_); rfl) | ((with_reducible refine Mine.newAt ?_ ?_) <;> first | rfl | (simp; done) | (simp only [World.size_alloc]; rfl)) | ((with_reducible refine Mine.set ?_ _); repeat first | exact Mine.slot (by with_reducible assumption) | with_reducible refine MineS.drew ?_ | with_reducible refine MineS.drewN ?_ _ | exact MineS.new (by decide) | exact MineS.newAt (by decide) (by simp) | with_reducible refine MineS.set ?_ _ _ _ | with_reducible refine MineS.alloc ?_ _) | with_reducible refine Mine.other ?_ _ (by first | (left; omega) | (right; omega) | (simp; done) | (simp; omega)) | with_reducible refine Mine.alloc ?_ _)
          replace m2 : Mine v1 w.heap.size 1 (.int .i64 q) := by rw [hwv1]; (repeat first | with_reducible assumption | with_reducible refine Mine.drew ?_ | with_reducible refine Mine.drewN ?_ _ | ((with_reducible refine Mine.new ?_); rfl) | ((with_reducible refine Mine.newAt ?_ ?_) <;> first | rfl | (simp; done) | (simp only [World.size_alloc]; rfl)) | ((with_reducible refine Mine.set ?_ _); repeat first | exact Mine.slot (by with_reducible assumption) | with_reducible refine MineS.drew ?_ | with_reducible refine MineS.drewN ?_ _ | exact MineS.new (by decide) | exact MineS.newAt (by decide) (by simp) | with_reducible refine MineS.set ?_ _ _ _ | with_reducible refine MineS.alloc ?_ _) | with_reducible refine Mine.other ?_ _ (by first | (left; omega) | (right; omega) | (simp; done) | (simp; omega)) | with_reducible refine Mine.alloc ?_ _)
          replace m21 : Mine v1 b15 0 (.int .i64 (1 + (y0 : Int))) := by rw [hwv1]; (repeat first | with_reducible assumption | with_reducible refine Mine.drew ?_ | with_reducible refine Mine.drewN ?_ _ | ((with_reducible refine Mine.new ?_); rfl) | ((with_reducible refine Mine.newAt ?_ ?_) <;> first | rfl | (simp; done) | (simp only [World.size_alloc]; rfl)) | ((with_reducible refine Mine.set ?_ _); repeat first | exact Mine.slot (by with_reducible assumption) | with_reducible refine MineS.drew ?_ | with_reducible refine MineS.drewN ?_ _ | exact MineS.new (by decide) | exact MineS.newAt (by decide) (by simp) | with_reducible refine MineS.set ?_ _ _ _ | with_reducible refine MineS.alloc ?_ _) | with_reducible refine Mine.other ?_ _ (by first | (left; omega) | (right; omega) | (simp; done) | (simp; omega)) | with_reducible refine Mine.alloc ?_ _)
          replace m22 : Mine v1 b15 1 (.int .i64 y1) := by rw [hwv1]; (repeat first | with_reducible assumption | with_reducible refine Mine.drew ?_ | with_reducible refine Mine.drewN ?_ _ | ((with_reducible refine Mine.new ?_); rfl) | ((with_reducible refine Mine.newAt ?_ ?_) <;> first | rfl | (simp; done) | (simp only [World.size_alloc]; rfl)) | ((with_reducible refine Mine.set ?_ _); repeat first | exact Mine.slot (by with_reducible assumption) | with_reducible refine MineS.drew ?_ | with_reducible refine MineS.drewN ?_ _ | exact MineS.new (by decide) | exact MineS.newAt (by decide) (by simp) | with_reducible refine MineS.set ?_ _ _ _ | with_reducible refine MineS.alloc ?_ _) | with_reducible refine Mine.other ?_ _ (by first | (left; omega) | (right; omega) | (simp; done) | (simp; omega)) | with_reducible refine Mine.alloc ?_ _)
          replace m23 : Mine v1 b15 2 (.int .i64 y2) := by rw [hwv1]; (repeat first | with_reducible assumption | with_reducible refine Mine.drew ?_ | with_reducible refine Mine.drewN ?_ _ | ((with_reducible refine Mine.new ?_); rfl) | ((with_reducible refine Mine.newAt ?_ ?_) <;> first | rfl | (simp; done) | (simp only [World.size_alloc]; rfl)) | ((with_reducible refine Mine.set ?_ _); repeat first | exact Mine.slot (by with_reducible assumption) | with_reducible refine MineS.drew ?_ | with_reducible refine MineS.drewN ?_ _ | exact MineS.new (by decide) | exact MineS.newAt (by decide) (by simp) | with_reducible refine MineS.set ?_ _ _ _ | with_reducible refine MineS.alloc ?_ _) | with_reducible refine Mine.other ?_ _ (by first | (left; omega) | (right; omega) | (simp; done) | (simp; omega)) | with_reducible refine Mine.alloc ?_ _)
          replace m41 : Mine v1 bL 0 (.int .i64 p) := by rw [hwv1]; (repeat first | with_reducible assumption | with_reducible refine Mine.drew ?_ | with_reducible refine Mine.drewN ?_ _ | ((with_reducible refine Mine.new ?_); rfl) | ((with_reducible refine Mine.newAt ?_ ?_) <;> first | rfl | (simp; done) | (simp only [World.size_alloc]; rfl)) | ((with_reducible refine Mine.set ?_ _); repeat first | exact Mine.slot (by with_reducible assumption) | with_reducible refine MineS.drew ?_ | with_reducible refine MineS.drewN ?_ _ | exact MineS.new (by decide) | exact MineS.newAt (by decide) (by simp) | with_reducible refine MineS.set ?_ _ _ _ | with_reducible refine MineS.alloc ?_ _) | with_reducible refine Mine.other ?_ _ (by first | (left; omega) | (right; omega) | (simp; done) | (simp; omega)) | with_reducible refine Mine.alloc ?_ _)
          replace m42 : Mine v1 bL 1 (.int .i64 q) := by rw [hwv1]; (repeat first | with_reducible assumption | with_reducible refine Mine.drew ?_ | with_reducible refine Mine.drewN ?_ _ | ((with_reducible refine Mine.new ?_); rfl) | ((with_reducible refine Mine.newAt ?_ ?_) <;> first | rfl | (simp; done) | (simp only [World.size_alloc]; rfl)) | ((with_reducible refine Mine.set ?_ _); repeat first | exact Mine.slot (by with_reducible assumption) | with_reducible refine MineS.drew ?_ | with_reducible refine MineS.drewN ?_ _ | exact MineS.new (by decide) | exact MineS.newAt (by decide) (by simp) | with_reducible refine MineS.set ?_ _ _ _ | with_reducible refine MineS.alloc ?_ _) | with_reducible refine Mine.other ?_ _ (by first | (left; omega) | (right; omega) | (simp; done) | (simp; omega)) | with_reducible refine Mine.alloc ?_ _)
          replace m43 : Mine v1 bL 2 (.int .i64 L.1) := by rw [hwv1]; (repeat first | with_reducible assumption | with_reducible refine Mine.drew ?_ | with_reducible refine Mine.drewN ?_ _ | ((with_reducible refine Mine.new ?_); rfl) | ((with_reducible refine Mine.newAt ?_ ?_) <;> first | rfl | (simp; done) | (simp only [World.size_alloc]; rfl)) | ((with_reducible refine Mine.set ?_ _); repeat first | exact Mine.slot (by with_reducible assumption) | with_reducible refine MineS.drew ?_ | with_reducible refine MineS.drewN ?_ _ | exact MineS.new (by decide) | exact MineS.newAt (by decide) (by simp) | with_reducible refine MineS.set ?_ _ _ _ | with_reducible refine MineS.alloc ?_ _) | with_reducible refine Mine.other ?_ _ (by first | (left; omega) | (right; omega) | (simp; done) | (simp; omega)) | with_reducible refine Mine.alloc ?_ _)
          replace m44 : Mine v1 bL 3 (.int .i64 L.2.1) := by rw [hwv1]; (repeat first | with_reducible assumption | with_reducible refine Mine.drew ?_ | with_reducible refine Mine.drewN ?_ _ | ((with_reducible refine Mine.new ?_); rfl) | ((with_reducible refine Mine.newAt ?_ ?_) <;> first | rfl | (simp; done) | (simp only [World.size_alloc]; rfl)) | ((with_reducible refine Mine.set ?_ _); repeat first | exact Mine.slot (by with_reducible assumption) | with_reducible refine MineS.drew ?_ | with_reducible refine MineS.drewN ?_ _ | exact MineS.new (by decide) | exact MineS.newAt (by decide) (by simp) | with_reducible refine MineS.set ?_ _ _ _ | with_reducible refine MineS.alloc ?_ _) | with_reducible refine Mine.other ?_ _ (by first | (left; omega) | (right; omega) | (simp; done) | (simp; omega)) | with_reducible refine Mine.alloc ?_ _)
          replace m51 : Mine v1 wr.heap.size 0 (.int .i64 (L.1)) := by rw [hwv1]; (repeat first | with_reducible assumption | with_reducible refine Mine.drew ?_ | with_reducible refine Mine.drewN ?_ _ | ((with_reducible refine Mine.new ?_); rfl) | ((with_reducible refine Mine.newAt ?_ ?_) <;> first | rfl | (simp; done) | (simp only [World.size_alloc]; rfl)) | ((with_reducible refine Mine.set ?_ _); repeat first | exact Mine.slot (by with_reducible assumption) | with_reducible refine MineS.drew ?_ | with_reducible refine MineS.drewN ?_ _ | exact MineS.new (by decide) | exact MineS.newAt (by decide) (by simp) | with_reducible refine MineS.set ?_ _ _ _ | with_reducible refine MineS.alloc ?_ _) | with_reducible refine Mine.other ?_ _ (by first | (left; omega) | (right; omega) | (simp; done) | (simp; omega)) | with_reducible refine Mine.alloc ?_ _)
          replace m52 : Mine v1 wr.heap.size 1 (.int .i64 (L.2.1)) := by rw [hwv1]; (repeat first | with_reducible assumption | with_reducible refine Mine.drew ?_ | with_reducible refine Mine.drewN ?_ _ | ((with_reducible refine Mine.new ?_); rfl) | ((with_reducible refine Mine.newAt ?_ ?_) <;> first | rfl | (simp; done) | (simp only [World.size_alloc]; rfl)) | ((with_reducible refine Mine.set ?_ _); repeat first | exact Mine.slot (by with_reducible assumption) | with_reducible refine MineS.drew ?_ | with_reducible refine MineS.drewN ?_ _ | exact MineS.new (by decide) | exact MineS.newAt (by decide) (by simp) | with_reducible refine MineS.set ?_ _ _ _ | with_reducible refine MineS.alloc ?_ _) | with_reducible refine Mine.other ?_ _ (by first | (left; omega) | (right; omega) | (simp; done) | (simp; omega)) | with_reducible refine Mine.alloc ?_ _)
          have hBzv1 := hB.size
          replace h6 : SixAt v1 B a0 a1 a2 (1 + y0) y1 y2 := by rw [hwv1]; exact h6.below ((Below.refl _ _).alloc (Nat.le_refl _) _)
          replace hB : Below w.heap.size w v1 := by rw [hwv1]; exact (by repeat first | exact Below.refl _ _ | assumption | refine below_drewN ?_ _ | refine Below.drew ?_ | refine Below.setCell ?_ (by first | exact Nat.le_refl _ | (simp; done) | (simp; omega) | omega) _ | refine Below.alloc ?_ (by first | exact Nat.le_refl _ | (simp; done) | (simp; omega) | omega) _)
          clear hwv1 hBzv1
          generalize wr.heap.size = b21 at *
          refine (hN1.out _).mono ?_
          rintro e v2 ⟨rfl, hb1⟩
          replace m1 := m1.below hb1
          replace m2 := m2.below hb1
          replace m21 := m21.below hb1
          replace m22 := m22.below hb1
          replace m23 := m23.below hb1
          replace m41 := m41.below hb1
          replace m42 := m42.below hb1
          replace m43 := m43.below hb1
          replace m44 := m44.below hb1
          replace m51 := m51.below hb1
          replace m52 := m52.below hb1
          replace hB := hB.trans (hb1.mono hB.size)
          have hb_v2 := hb1
          clear hb1
          replace h6 := h6.below hb_v2
          have c21 := m21.cell
          have f21 := m21.free
          have l21 := m21.lt
          have c22 := m22.cell
          have f22 := m22.free
          have l22 := m22.lt
          have c23 := m23.cell
          have f23 := m23.free
          have l23 := m23.lt
          have c51 := m51.cell
          have f51 := m51.free
          have l51 := m51.lt
          have c52 := m52.cell
          have f52 := m52.free
          have l52 := m52.lt
          go_wp2_with fail
          clear c21 f21 l21
          clear c22 f22 l22
          clear c23 f23 l23
          clear c51 f51 l51
          clear c52 f52 l52
          refine (hN2.out _).mono ?_
          rintro e v3 ⟨rfl, hb1⟩
          replace m1 := m1.below hb1
          replace m2 := m2.below hb1
          replace m21 := m21.below hb1
          replace m22 := m22.below hb1
          replace m23 := m23.below hb1
          replace m41 := m41.below hb1
          replace m42 := m42.below hb1
          replace m43 := m43.below hb1
          replace m44 := m44.below hb1
          replace m51 := m51.below hb1
          replace m52 := m52.below hb1
          replace hB := hB.trans (hb1.mono hB.size)
          have hb_v3 := hb1
          clear hb1
          replace h6 := h6.below hb_v3
          have c21 := m21.cell
          have f21 := m21.free
          have l21 := m21.lt
          have c22 := m22.cell
          have f22 := m22.free
          have l22 := m22.lt
          have c23 := m23.cell
          have f23 := m23.free
          have l23 := m23.lt
          have c51 := m51.cell
          have f51 := m51.free
          have l51 := m51.lt
          have c52 := m52.cell
          have f52 := m52.free
          have l52 := m52.lt
          go_wp2_with fail
          clear c21 f21 l21
          clear c22 f22 l22
          clear c23 f23 l23
          clear c51 f51 l51
          clear c52 f52 l52
          refine (hM1.out _).mono ?_
          rintro e v4 ⟨rfl, hb1⟩
          replace m1 := m1.below hb1
          replace m2 := m2.below hb1
          replace m21 := m21.below hb1
          replace m22 := m22.below hb1
          replace m23 := m23.below hb1
          replace m41 := m41.below hb1
          replace m42 := m42.below hb1
          replace m43 := m43.below hb1
          replace m44 := m44.below hb1
          replace m51 := m51.below hb1
          replace m52 := m52.below hb1
          replace hB := hB.trans (hb1.mono hB.size)
          have hb_v4 := hb1
          clear hb1
          replace h6 := h6.below hb_v4
          have c21 := m21.cell
          have f21 := m21.free
          have l21 := m21.lt
          have c22 := m22.cell
          have f22 := m22.free
          have l22 := m22.lt
          have c23 := m23.cell
          have f23 := m23.free
          have l23 := m23.lt
          have c51 := m51.cell
          have f51 := m51.free
          have l51 := m51.lt
          have c52 := m52.cell
          have f52 := m52.free
          have l52 := m52.lt
          go_wp2_with fail
          clear c21 f21 l21
          clear c22 f22 l22
          clear c23 f23 l23
          clear c51 f51 l51
          clear c52 f52 l52
          refine (hM2.out _).mono ?_
          rintro e v5 ⟨rfl, hb1⟩
          replace m1 := m1.below hb1
          replace m2 := m2.below hb1
          replace m21 := m21.below hb1
          replace m22 := m22.below hb1
          replace m23 := m23.below hb1
          replace m41 := m41.below hb1
          replace m42 := m42.below hb1
          replace m43 := m43.below hb1
          replace m44 := m44.below hb1
          replace m51 := m51.below hb1
          replace m52 := m52.below hb1
          replace hB := hB.trans (hb1.mono hB.size)
          have hb_v5 := hb1
          clear hb1
          replace h6 := h6.below hb_v5
          go_wp2
          go_roundw
          case rel => exact ⟨2, by omega, rfl, ⟨h6, hB, m1, m2, m21, m22, m23, m41, m42, m43, m44⟩⟩
          case measure => simp [intOf]
        · go_wp2
          go_roundw
          case rel => exact ⟨2, by omega, rfl, R.h6, R.hB, R.m1, R.m2⟩
          case measure => simp [intOf]
    · go_wp2
      go_ret
      exact ⟨rfl, hB⟩
end Go.Proofs.YtjlldolmlfgejaaDoor
