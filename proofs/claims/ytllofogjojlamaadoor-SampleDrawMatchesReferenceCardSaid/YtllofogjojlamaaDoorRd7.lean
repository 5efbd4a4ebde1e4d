/-
  Draw and its reference at every input; the walk of SampleDrawMatchesReference.
-/
import Derived.Test.YtllofogjojlamaaDoorRd6
import Derived.Test.YtllofogjojlamaaDoorSane
namespace Go.Proofs.YtllofogjojlamaaDoor
open Go.RowKit Go.Shelf

set_option maxHeartbeats 1000000 in
theorem refDraw_long (s : ByteArray) (n k : Int) (w : World) (hs : 1000 < s.size) :
    Calls Tryd.prog 7 #[.string s, .int .i64 n, .int .i64 k] w fun e w' => e = .returned (.tuple #[.slice none 0 0, .int .i64 160]) ∧ Below w.heap.size w w' := by
  have hB : Below w.heap.size w w := Below.refl _ _
  have hd1 : decide ((1000 : Int) < (s.size : Int)) = true := by simp; omega
  have hd2 : decide (1000 < s.size) = true := by simp; omega
  go_enter Tryd.func7, Tryd.ntmps7
  go_wp2_with fail
  go_ret2
  exact ⟨rfl, hB⟩
set_option maxHeartbeats 1000000 in
theorem refDraw_no (s : ByteArray) (n k : Int) (w : World) (hs : s.size ≤ 1000) (hp : (wthn n 1 24 && wthn k 0 n) = false) :
    Calls Tryd.prog 7 #[.string s, .int .i64 n, .int .i64 k] w fun e w' => e = .returned (.tuple #[.slice none 0 0, .int .i64 160]) ∧ Below w.heap.size w w' := by
  have hB : Below w.heap.size w w := Below.refl _ _
  have hd1 : decide ((1000 : Int) < (s.size : Int)) = false := by simp; omega
  have hd2 : decide (1000 < s.size) = false := by simp; omega
  have a1 := wthn_any n 1 24
  have a2 := wthn_any k 0 n
  cases h1 : wthn n 1 24
  · rw [h1] at a1
    clear hp h1 a2
    replace a1 := Lib.hid a1
    go_enter Tryd.func7, Tryd.ntmps7
    go_wp2_with fail
    refine (a1.out _).mono ?_; rintro e w1 ⟨rfl, rfl⟩
    go_wp2_with fail
    go_ret2
    exact ⟨rfl, hB⟩
  · rw [h1, Bool.true_and] at hp
    rw [h1] at a1
    rw [hp] at a2
    clear hp h1
    replace a1 := Lib.hid a1
    replace a2 := Lib.hid a2
    go_enter Tryd.func7, Tryd.ntmps7
    go_wp2_with fail
    refine (a1.out _).mono ?_; rintro e w1 ⟨rfl, rfl⟩
    go_wp2_with fail
    refine (a2.out _).mono ?_; rintro e w1 ⟨rfl, rfl⟩
    go_wp2_with fail
    go_ret2
    exact ⟨rfl, hB⟩

/-- P16.1: whether a sample can be drawn; what is drawn; the error. -/
def okD (s : ByteArray) (n k : Int) : Bool := decide (s.size ≤ 1000) && (wthn n 1 24 && wthn k 0 n)
def lstD (s : ByteArray) (n k : Int) : List Int := if okD s n k = true then drawn s n.toNat k.toNat else []
def errD (s : ByteArray) (n k : Int) : Int := if okD s n k = true then 0 else 160
theorem pop_wthn (n k : Int) : pop n [k] = (wthn n 1 24 && wthn k 0 n) := by
  rw [Bool.eq_iff_iff]
  simp [pop, outB, wthn]
theorem intsAt_nil (w : World) : IntsAt w (.slice none 0 0) [] := ⟨none, 0, rfl, fun h => absurd rfl h⟩
theorem okD_parts {s : ByteArray} {n k : Int} (h : okD s n k = true) : s.size ≤ 1000 ∧ ∃ a b : Nat, n = a ∧ k = b ∧ 1 ≤ a ∧ a ≤ 24 ∧ b ≤ a := by
  simp [okD, wthn] at h
  obtain ⟨h1, ⟨h2, h3⟩, h4, h5⟩ := h
  exact ⟨h1, n.toNat, k.toNat, by omega, by omega, by omega, by omega, by omega⟩
theorem lstD_len (s : ByteArray) (n k : Int) : (lstD s n k).length ≤ 1000 := by
  unfold lstD
  split
  · rename_i h
    obtain ⟨_, a, b, rfl, rfl, _, h2, h3⟩ := okD_parts h
    rw [drawn_len _ _ _ (by simpa using h3)]
    simp; omega
  · simp
theorem Draw_all (s : ByteArray) (n k : Int) (w : World) (hs : s.size ≤ 2000) (hG : w.rangeAt 0 0 (u32s KS)) :
    Calls Tryd.prog 6 #[.string s, .int .i64 n, .int .i64 k] w fun e w' => ∃ v, e = .returned (.tuple #[v, .int .i64 (errD s n k)]) ∧ IntsAt w' v (lstD s n k) ∧ Below w.heap.size w w' := by
  by_cases h : okD s n k = true
  · rw [errD, lstD, if_pos h, if_pos h]
    obtain ⟨h1, a, b, rfl, rfl, h2, h3, h4⟩ := okD_parts h
    refine (Draw_yes s a b w h1 h2 h3 h4 hG).mono ?_
    rintro e w' ⟨g, cap, rfl, _, _, hc, hb⟩
    refine ⟨_, rfl, ?_, hb⟩
    have hl := drawn_len s a b h4
    simp only [Int.toNat_natCast]
    exact ⟨_, cap, by rw [hl], fun _ => ⟨g, 0, rfl, fun j hj => by rw [Nat.zero_add]; exact hc j (by omega)⟩⟩
  · rw [errD, lstD, if_neg h, if_neg h]
    by_cases h1 : s.size ≤ 1000
    · have hp : pop n [k] = false := by
        rw [pop_wthn]
        simpa [okD, h1] using h
      exact (Draw_no s n k w h1 hp).mono fun e w' ⟨he, hb⟩ => ⟨_, he, intsAt_nil _, hb⟩
    · exact (Draw_long s n k w (by omega) (by omega)).mono fun e w' ⟨he, hb⟩ => ⟨_, he, intsAt_nil _, hb⟩
theorem refDraw_all (s : ByteArray) (n k : Int) (w : World) :
    Calls Tryd.prog 7 #[.string s, .int .i64 n, .int .i64 k] w fun e w' => ∃ v, e = .returned (.tuple #[v, .int .i64 (errD s n k)]) ∧ IntsAt w' v (lstD s n k) ∧ Below w.heap.size w w' := by
  by_cases h : okD s n k = true
  · rw [errD, lstD, if_pos h, if_pos h]
    obtain ⟨h1, a, b, rfl, rfl, h2, h3, h4⟩ := okD_parts h
    refine (refDraw_yes s a b w h1 h2 h3 h4).mono ?_
    rintro e w' ⟨v, rfl, hI, hb⟩
    simp only [Int.toNat_natCast]
    exact ⟨v, rfl, hI, hb⟩
  · rw [errD, lstD, if_neg h, if_neg h]
    by_cases h1 : s.size ≤ 1000
    · have hp : (wthn n 1 24 && wthn k 0 n) = false := by simpa [okD, h1] using h
      exact (refDraw_no s n k w h1 hp).mono fun e w' ⟨he, hb⟩ => ⟨_, he, intsAt_nil _, hb⟩
    · exact (refDraw_long s n k w (by omega)).mono fun e w' ⟨he, hb⟩ => ⟨_, he, intsAt_nil _, hb⟩

set_option maxRecDepth 100000 in
set_option maxHeartbeats 4000000 in
theorem RdLaw_any (s : ByteArray) (a1 a2 : Int) (w : World) (hs : s.size ≤ 9223372036854775807) (i1 : I64 a1) (i2 : I64 a2) (hG : w.rangeAt 0 0 (u32s KS)) :
    Calls Tryd.prog 3 #[.string s, .int .i64 a1, .int .i64 a2] w fun e w' => e = .returned (.bool true) ∧ Below w.heap.size w w' := by
  have hB : Below w.heap.size w w := Below.refl _ _
  have h0w : 0 < w.heap.size := World.block_lt_of_cell? w _ (hG 0 _ rfl)
  have hGW : ∀ W, Below w.heap.size w W → W.rangeAt 0 0 (u32s KS) := fun W hb j v hv => (hb.cell (p := ⟨0, 0 + j, none⟩) h0w).trans (hG j v hv)
  replace hGW := Lib.hid hGW
  have p1 := pick_any a1 25
  have p2 := pick_any a2 26
  have hn := pickv_lt a1 25 (by omega)
  have hk := pickv_lt a2 26 (by omega)
  generalize pickv a1 25 = m at *
  generalize pickv a2 26 = k at *
  replace p1 := Lib.hid p1
  replace p2 := Lib.hid p2
  go_enter Tryd.func3, Tryd.ntmps3
  go_wp2_with fail
  refine (sane_any _ hG).mono ?_
  rintro e ws ⟨rfl, hb1⟩
  replace hB := hB.trans (hb1.mono hB.size)
  have hb_ws := hb1
  clear hb1
  clear hG
  go_wp2_with fail
  have hts : (s.extract 0 (min (s.size : Int) 1100).toNat).size ≤ 2000 := by rw [ByteArray.size_extract]; omega
  generalize s.extract 0 (min (s.size : Int) 1100).toNat = t at *
  refine (p1.out _ i1 (by omega) (by omega)).mono ?_; rintro e wp ⟨rfl, rfl⟩
  go_wp2_with fail
  refine (p2.out _ i2 (by omega) (by omega)).mono ?_; rintro e wp ⟨rfl, rfl⟩
  go_wp2_with fail
  refine name_wp ?_
  intro wl hwwl
  have mAll : Mine wl wp.heap.size 0 (.int .i64 a1) ∧ Mine wl wp.heap.size 1 (.int .i64 a2) ∧ Mine wl wp.heap.size 2 (.int .i64 (1 + m)) ∧ Mine wl wp.heap.size 3 (.int .i64 k) := by
    rw [hwwl]
    refine ⟨?_, ?_, ?_, ?_⟩ <;> (repeat first | with_reducible assumption | with_reducible refine Mine.drew ?_ | with_reducible refine Mine.drewN ?_ _ | ((with_reducible refine Mine.new ?_); rfl) | ((with_reducible refine Mine.newAt ?_ ?_) <;> first | rfl | (simp; done) | (simp only [World.size_alloc]; rfl)) | ((with_reducible refine Mine.set ?_ _); repeat first | exact Mine.slot (by with_reducible assumption) | with_reducible refine MineS.drew ?_ | with_reducible refine MineS.drewN ?_ _ | ((with_reducible refine MineS.new ?_); decide) | ((with_reducible refine MineS.newAt ?_ ?_) <;> first | decide | (simp; done)) | with_reducible refine MineS.set ?_ _ _ _ | with_reducible refine MineS.alloc ?_ _) | with_reducible refine Mine.other ?_ _ (by first | (left; omega) | (right; omega) | (simp; done) | (simp; omega)) | with_reducible refine Mine.alloc ?_ _)
  obtain ⟨m1, m2, m3, m4⟩ := mAll
  have hBzwl := hB.size
  replace hB : Below w.heap.size w wl := by rw [hwwl]; exact (by repeat first | with_reducible exact Below.refl _ _ | with_reducible assumption | with_reducible refine below_drewN ?_ _ | with_reducible refine Below.drew ?_ | with_reducible refine Below.setCell ?_ (by first | exact Nat.le_refl _ | (simp; done) | (simp; omega) | omega) _ | with_reducible refine Below.alloc ?_ (by first | exact Nat.le_refl _ | (simp; done) | (simp; omega) | omega) _ | exact Below.refl _ _ | assumption)
  clear hwwl hBzwl
  generalize wp.heap.size = B at *
  clear p1 p2 hb_ws
  go_loopw [31] (fun v wr => ∃ i : Nat, i ≤ 2 ∧ v = .int .i64 i ∧ Below w.heap.size w wr ∧ Mine wr B 0 (.int .i64 a1) ∧ Mine wr B 1 (.int .i64 a2) ∧ Mine wr B 2 (.int .i64 (1 + m)) ∧ Mine wr B 3 (.int .i64 k)) (fun v _ => 2 - (intOf v).toNat)
  case atStart => exact ⟨0, by omega, rfl, hB, m1, m2, m3, m4⟩
  case round =>
    clear hB m1 m2 m3 m4
    obtain ⟨i, hi, rfl, hB, m1, m2, m3, m4⟩ := hrel
    have hcase : i = 0 ∨ i = 1 ∨ i = 2 := by omega
    rcases hcase with rfl | rfl | rfl
    · have zz := hB.size
      have z1 := m1.cell
      have z2 := m2.cell
      go_wp2_with fail
      refine name_calls ?_
      intro w2 hww2
      have mAll : Mine w2 B 0 (.int .i64 a1) ∧ Mine w2 B 1 (.int .i64 a2) ∧ Mine w2 B 2 (.int .i64 (1 + m)) ∧ Mine w2 B 3 (.int .i64 k) ∧ Mine w2 wr.heap.size 0 (.int .i64 a1) ∧ Mine w2 wr.heap.size 1 (.int .i64 a2) := by
        rw [hww2]
        refine ⟨?_, ?_, ?_, ?_, ?_, ?_⟩ <;> (repeat first | with_reducible assumption | with_reducible refine Mine.drew ?_ | with_reducible refine Mine.drewN ?_ _ | ((with_reducible refine Mine.new ?_); rfl) | ((with_reducible refine Mine.newAt ?_ ?_) <;> first | rfl | (simp; done) | (simp only [World.size_alloc]; rfl)) | ((with_reducible refine Mine.set ?_ _); repeat first | exact Mine.slot (by with_reducible assumption) | with_reducible refine MineS.drew ?_ | with_reducible refine MineS.drewN ?_ _ | ((with_reducible refine MineS.new ?_); decide) | ((with_reducible refine MineS.newAt ?_ ?_) <;> first | decide | (simp; done)) | with_reducible refine MineS.set ?_ _ _ _ | with_reducible refine MineS.alloc ?_ _) | with_reducible refine Mine.other ?_ _ (by first | (left; omega) | (right; omega) | (simp; done) | (simp; omega)) | with_reducible refine Mine.alloc ?_ _)
      clear m1 m2 m3 m4
      obtain ⟨m1, m2, m3, m4, m5, m6⟩ := mAll
      have hBzw2 := hB.size
      replace hB : Below w.heap.size w w2 := by rw [hww2]; exact (by repeat first | with_reducible exact Below.refl _ _ | with_reducible assumption | with_reducible refine below_drewN ?_ _ | with_reducible refine Below.drew ?_ | with_reducible refine Below.setCell ?_ (by first | exact Nat.le_refl _ | (simp; done) | (simp; omega) | omega) _ | with_reducible refine Below.alloc ?_ (by first | exact Nat.le_refl _ | (simp; done) | (simp; omega) | omega) _ | exact Below.refl _ _ | assumption)
      clear hww2 hBzw2
      generalize wr.heap.size = b at *
      clear z1 z2
      refine (Draw_all t a1 a2 _ hts (hGW.out _ hB)).mono ?_
      rintro e w3 ⟨v1, rfl, hI1, hb1⟩
      replace m1 := m1.below hb1
      replace m2 := m2.below hb1
      replace m3 := m3.below hb1
      replace m4 := m4.below hb1
      replace m5 := m5.below hb1
      replace m6 := m6.below hb1
      replace hB := hB.trans (hb1.mono hB.size)
      have hb_w3 := hb1
      clear hb1
      have c5 := m5.cell
      have f5 := m5.free
      have l5 := m5.lt
      have c6 := m6.cell
      have f6 := m6.free
      have l6 := m6.lt
      go_wp2_with fail
      clear c5 f5 l5
      clear c6 f6 l6
      refine (refDraw_all t a1 a2 _).mono ?_
      rintro e w4 ⟨v2, rfl, hI2, hb1⟩
      replace m1 := m1.below hb1
      replace m2 := m2.below hb1
      replace m3 := m3.below hb1
      replace m4 := m4.below hb1
      replace m5 := m5.below hb1
      replace m6 := m6.below hb1
      replace hB := hB.trans (hb1.mono hB.size)
      have hb_w4 := hb1
      clear hb1
      replace hI1 := hI1.below hb_w4
      have hll := lstD_len t a1 a2
      generalize errD t a1 a2 = E at *
      generalize lstD t a1 a2 = L at *
      clear hb_w3 hb_w4
      go_wp2_with fail
      refine (sameInts_any v1 v2 L _ hll hI1 hI2).mono ?_
      rintro e w5 ⟨rfl, q, rfl⟩
      go_wp2
      go_roundw
      case rel => exact ⟨0 + 1, by omega, by rfl, below_drewN hB _, m1.drewN _, m2.drewN _, m3.drewN _, m4.drewN _⟩
      case measure => simp [intOf]
    · have zz := hB.size
      have z1 := m3.cell
      have z2 := m4.cell
      go_wp2_with fail
      refine name_calls ?_
      intro w2 hww2
      have mAll : Mine w2 B 0 (.int .i64 a1) ∧ Mine w2 B 1 (.int .i64 a2) ∧ Mine w2 B 2 (.int .i64 (1 + m)) ∧ Mine w2 B 3 (.int .i64 k) ∧ Mine w2 wr.heap.size 0 (.int .i64 (1 + m)) ∧ Mine w2 wr.heap.size 1 (.int .i64 k) := by
        rw [hww2]
        refine ⟨?_, ?_, ?_, ?_, ?_, ?_⟩ <;> (repeat first | with_reducible assumption | with_reducible refine Mine.drew ?_ | with_reducible refine Mine.drewN ?_ _ | ((with_reducible refine Mine.new ?_); rfl) | ((with_reducible refine Mine.newAt ?_ ?_) <;> first | rfl | (simp; done) | (simp only [World.size_alloc]; rfl)) | ((with_reducible refine Mine.set ?_ _); repeat first | exact Mine.slot (by with_reducible assumption) | with_reducible refine MineS.drew ?_ | with_reducible refine MineS.drewN ?_ _ | ((with_reducible refine MineS.new ?_); decide) | ((with_reducible refine MineS.newAt ?_ ?_) <;> first | decide | (simp; done)) | with_reducible refine MineS.set ?_ _ _ _ | with_reducible refine MineS.alloc ?_ _) | with_reducible refine Mine.other ?_ _ (by first | (left; omega) | (right; omega) | (simp; done) | (simp; omega)) | with_reducible refine Mine.alloc ?_ _)
      clear m1 m2 m3 m4
      obtain ⟨m1, m2, m3, m4, m5, m6⟩ := mAll
      have hBzw2 := hB.size
      replace hB : Below w.heap.size w w2 := by rw [hww2]; exact (by repeat first | with_reducible exact Below.refl _ _ | with_reducible assumption | with_reducible refine below_drewN ?_ _ | with_reducible refine Below.drew ?_ | with_reducible refine Below.setCell ?_ (by first | exact Nat.le_refl _ | (simp; done) | (simp; omega) | omega) _ | with_reducible refine Below.alloc ?_ (by first | exact Nat.le_refl _ | (simp; done) | (simp; omega) | omega) _ | exact Below.refl _ _ | assumption)
      clear hww2 hBzw2
      generalize wr.heap.size = b at *
      clear z1 z2
      refine (Draw_all t (1 + m) k _ hts (hGW.out _ hB)).mono ?_
      rintro e w3 ⟨v1, rfl, hI1, hb1⟩
      replace m1 := m1.below hb1
      replace m2 := m2.below hb1
      replace m3 := m3.below hb1
      replace m4 := m4.below hb1
      replace m5 := m5.below hb1
      replace m6 := m6.below hb1
      replace hB := hB.trans (hb1.mono hB.size)
      have hb_w3 := hb1
      clear hb1
      have c5 := m5.cell
      have f5 := m5.free
      have l5 := m5.lt
      have c6 := m6.cell
      have f6 := m6.free
      have l6 := m6.lt
      go_wp2_with fail
      clear c5 f5 l5
      clear c6 f6 l6
      refine (refDraw_all t (1 + m) k _).mono ?_
      rintro e w4 ⟨v2, rfl, hI2, hb1⟩
      replace m1 := m1.below hb1
      replace m2 := m2.below hb1
      replace m3 := m3.below hb1
      replace m4 := m4.below hb1
      replace m5 := m5.below hb1
      replace m6 := m6.below hb1
      replace hB := hB.trans (hb1.mono hB.size)
      have hb_w4 := hb1
      clear hb1
      replace hI1 := hI1.below hb_w4
      have hll := lstD_len t (1 + m) k
      generalize errD t (1 + m) k = E at *
      generalize lstD t (1 + m) k = L at *
      clear hb_w3 hb_w4
      go_wp2_with fail
      refine (sameInts_any v1 v2 L _ hll hI1 hI2).mono ?_
      rintro e w5 ⟨rfl, q, rfl⟩
      go_wp2
      go_roundw
      case rel => exact ⟨1 + 1, by omega, by rfl, below_drewN hB _, m1.drewN _, m2.drewN _, m3.drewN _, m4.drewN _⟩
      case measure => simp [intOf]
    · go_wp2
      go_ret
      exact ⟨rfl, hB⟩
end Go.Proofs.YtllofogjojlamaaDoor
