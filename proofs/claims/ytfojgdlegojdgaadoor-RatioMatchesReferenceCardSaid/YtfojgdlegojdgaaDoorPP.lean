/-
  The contracts of ratio.Print and ratio.Parse.
-/
import Derived.Test.YtfojgdlegojdgaaDoorJoin
import Derived.Laws.Concat
import Derived.Lib.ItoaLen
namespace Go.Proofs.YtfojgdlegojdgaaDoor
open Go.RowKit

/-- P3.5: what Print gives. -/
def prtv (n d : Int) : List UInt8 × Int := if vld n d then (prt n d, 0) else ([], 30)
theorem I64.num {n d : Int} (h : vld n d = true) : I64 n := by have := I64.of_vld_num h; exact ⟨by omega, by omega⟩
theorem I64.den {n d : Int} (h : vld n d = true) : I64 d := by have := I64.of_vld_den h; exact ⟨by omega, by omega⟩

theorem add_str (a b : List UInt8) (h : a.length + b.length ≤ 9223372036854775807) (w : World) : (Op.stringOp .add (str a) (str b)).run Tryd.prog w = .ok (.string (str (a ++ b))) w := by
  rw [run_string_add_sum (P := Tryd.prog) w _ _ (by simpa [str, ByteArray.size] using h), str_append]

set_option maxHeartbeats 1000000 in
theorem Print_any (n d : Int) (w : World) (hn : I64 n) (hd : I64 d) (hE : Env w) :
    Calls Tryd.prog 13 #[rv n d] w fun e w' => e = .returned (.tuple #[.string (str (prtv n d).1), .int .i64 (prtv n d).2]) ∧ Below w.heap.size w w' := by
  have hB : Below w.heap.size w w := Below.refl _ _
  have hV := Lib.hid (fun w => Valid_any n d w hn hd)
  by_cases h : vld n d = true
  · have b2 := I64.of_vld_den h
    have hi1 := Lib.hid (fun w hE => itoa_any n w hn hE)
    have hi2 := Lib.hid (fun w hE => itoa_any d w hd hE)
    have hadd1 := add_str [47] (Lib.itoa d) (by have := Lib.itoa_length_le d hd.lo hd.hi; simp; omega)
    have hadd2 := add_str (Lib.itoa n) (47 :: Lib.itoa d) (by have := Lib.itoa_length_le d hd.lo hd.hi; have := Lib.itoa_length_le n hn.lo hn.hi; simp; omega)
    rw [show str [47] = ⟨#[47]⟩ from rfl, show [47] ++ Lib.itoa d = 47 :: Lib.itoa d from rfl] at hadd1
    by_cases h1 : 1 < d
    · have e1 : decide (1 < d) = true := by simpa using h1
      have hv : Hid (prtv n d = (Lib.itoa n ++ 47 :: Lib.itoa d, 0)) := by show _ = _; simp [prtv, h, prt, h1]
      replace h := Lib.hid h
      go_enter Tryd.func13, Tryd.ntmps13
      go_wp2_with fail
      refine (hV.out _).mono ?_; rintro e w1 ⟨rfl, k1, rfl⟩
      rw [h.out]
      go_wp2_with fail
      refine name_calls ?_
      intro w1 hww1
      have mAll : Mine w1 w.heap.size 0 (.int .i64 n) ∧ Mine w1 w.heap.size 1 (.int .i64 d) := by
        rw [hww1]
        refine ⟨?_, ?_⟩ <;> (repeat first | with_reducible assumption | with_reducible refine Mine.drew ?_ | with_reducible refine Mine.drewN ?_ _ | ((with_reducible refine Mine.new ?_); rfl) | ((with_reducible refine Mine.newAt ?_ ?_) <;> first | rfl | (simp; done) | (simp only [World.size_alloc]; rfl)) | ((with_reducible refine Mine.set ?_ _); repeat first | exact Mine.slot (by with_reducible assumption) | with_reducible refine MineS.drew ?_ | with_reducible refine MineS.drewN ?_ _ | ((with_reducible refine MineS.new ?_); decide) | ((with_reducible refine MineS.newAt ?_ ?_) <;> first | decide | (simp; done)) | with_reducible refine MineS.set ?_ _ _ _ | with_reducible refine MineS.alloc ?_ _) | with_reducible refine Mine.other ?_ _ (by first | (left; omega) | (right; omega) | (simp; done) | (simp; omega)) | with_reducible refine Mine.alloc ?_ _)
      obtain ⟨m1, m2⟩ := mAll
      have hBzw1 := hB.size
      replace hB : Below w.heap.size w w1 := by rw [hww1]; exact (by repeat first | with_reducible exact Below.refl _ _ | with_reducible assumption | with_reducible refine below_drewN ?_ _ | with_reducible refine Below.drew ?_ | with_reducible refine Below.setCell ?_ (by first | exact Nat.le_refl _ | (simp; done) | (simp; omega) | omega) _ | with_reducible refine Below.alloc ?_ (by first | exact Nat.le_refl _ | (simp; done) | (simp; omega) | omega) _ | exact Below.refl _ _ | assumption)
      clear hww1 hBzw1
      refine (hi1.out _ (hE.below hB)).mono ?_
      rintro e w2 ⟨rfl, hb1⟩
      replace m1 := m1.below hb1
      replace m2 := m2.below hb1
      replace hB := hB.trans (hb1.mono hB.size)
      have hb_w2 := hb1
      clear hb1
      have c1 := m1.cell
      have f1 := m1.free
      have l1 := m1.lt
      have c2 := m2.cell
      have f2 := m2.free
      have l2 := m2.lt
      go_wp2_with fail
      clear c1 f1 l1
      clear c2 f2 l2
      refine (hi2.out _ (hE.below hB)).mono ?_
      rintro e w3 ⟨rfl, hb1⟩
      replace m1 := m1.below hb1
      replace m2 := m2.below hb1
      replace hB := hB.trans (hb1.mono hB.size)
      have hb_w3 := hb1
      clear hb1
      go_wp2
      go_ret2
      exact ⟨by rw [hv.out]; rfl, hB⟩
    · have hd1 : d = 1 := by omega
      have e1 : decide (1 < d) = false := by simpa using h1
      have hv : Hid (prtv n d = (Lib.itoa n, 0)) := by show _ = _; simp [prtv, h, prt, h1]
      replace h := Lib.hid h
      replace hd1 := Lib.hid hd1
      go_enter Tryd.func13, Tryd.ntmps13
      go_wp2_with fail
      refine (hV.out _).mono ?_; rintro e w1 ⟨rfl, k1, rfl⟩
      rw [h.out]
      go_wp2_with fail
      refine name_calls ?_
      intro w1 hww1
      have mAll : Mine w1 w.heap.size 0 (.int .i64 n) ∧ Mine w1 w.heap.size 1 (.int .i64 d) := by
        rw [hww1]
        refine ⟨?_, ?_⟩ <;> (repeat first | with_reducible assumption | with_reducible refine Mine.drew ?_ | with_reducible refine Mine.drewN ?_ _ | ((with_reducible refine Mine.new ?_); rfl) | ((with_reducible refine Mine.newAt ?_ ?_) <;> first | rfl | (simp; done) | (simp only [World.size_alloc]; rfl)) | ((with_reducible refine Mine.set ?_ _); repeat first | exact Mine.slot (by with_reducible assumption) | with_reducible refine MineS.drew ?_ | with_reducible refine MineS.drewN ?_ _ | ((with_reducible refine MineS.new ?_); decide) | ((with_reducible refine MineS.newAt ?_ ?_) <;> first | decide | (simp; done)) | with_reducible refine MineS.set ?_ _ _ _ | with_reducible refine MineS.alloc ?_ _) | with_reducible refine Mine.other ?_ _ (by first | (left; omega) | (right; omega) | (simp; done) | (simp; omega)) | with_reducible refine Mine.alloc ?_ _)
      obtain ⟨m1, m2⟩ := mAll
      have hBzw1 := hB.size
      replace hB : Below w.heap.size w w1 := by rw [hww1]; exact (by repeat first | with_reducible exact Below.refl _ _ | with_reducible assumption | with_reducible refine below_drewN ?_ _ | with_reducible refine Below.drew ?_ | with_reducible refine Below.setCell ?_ (by first | exact Nat.le_refl _ | (simp; done) | (simp; omega) | omega) _ | with_reducible refine Below.alloc ?_ (by first | exact Nat.le_refl _ | (simp; done) | (simp; omega) | omega) _ | exact Below.refl _ _ | assumption)
      clear hww1 hBzw1
      refine (hi1.out _ (hE.below hB)).mono ?_
      rintro e w2 ⟨rfl, hb1⟩
      replace m1 := m1.below hb1
      replace m2 := m2.below hb1
      replace hB := hB.trans (hb1.mono hB.size)
      have hb_w2 := hb1
      clear hb1
      have c1 := m1.cell
      have f1 := m1.free
      have l1 := m1.lt
      have c2 := m2.cell
      have f2 := m2.free
      have l2 := m2.lt
      go_wp2
      go_ret2
      exact ⟨by rw [hv.out]; rfl, hB⟩
  · have h' : vld n d = false := by simpa using h
    have hv : Hid (prtv n d = ([], 30)) := by show _ = _; simp [prtv, h']
    replace h' := Lib.hid h'
    clear h
    go_enter Tryd.func13, Tryd.ntmps13
    go_wp2_with fail
    refine (hV.out _).mono ?_; rintro e w1 ⟨rfl, k1, rfl⟩
    rw [h'.out]
    go_wp2
    go_ret2
    exact ⟨by rw [hv.out]; rfl, (by repeat first | with_reducible exact Below.refl _ _ | with_reducible assumption | with_reducible refine below_drewN ?_ _ | with_reducible refine Below.drew ?_ | with_reducible refine Below.setCell ?_ (by first | exact Nat.le_refl _ | (simp; done) | (simp; omega) | omega) _ | with_reducible refine Below.alloc ?_ (by first | exact Nat.le_refl _ | (simp; done) | (simp; omega) | omega) _ | exact Below.refl _ _ | assumption)⟩

theorem cut_below (s : ByteArray) (w : World) (hs : s.size ≤ 1000000000) (hE : Env w) :
    Calls Tryd.prog 41 #[.string s, .string (str [47])] w fun e w' => e = .returned (.tuple #[.string (str (Lib.cut s.data.toList [47]).1), .string (str (Lib.cut s.data.toList [47]).2.1), .bool (Lib.cut s.data.toList [47]).2.2]) ∧ Below w.heap.size w w' :=
  (cut_any s w hs hE).mono fun _ _ ⟨he, n, hw⟩ => ⟨he, by rw [hw]; exact below_drewN (Below.refl _ _) _⟩
theorem cut_len (l sep : List UInt8) : (Lib.cut l sep).1.length ≤ l.length ∧ (Lib.cut l sep).2.1.length ≤ l.length := by
  unfold Lib.cut
  split
  · simp; omega
  · simp
theorem str_size (l : List UInt8) : (str l).size = l.length := by simp [str, ByteArray.size]

theorem join_ok (b : Nat) (w : World) (h0 : w.cell? ⟨b, 0, none⟩ = some .nilIface) (h1 : w.cell? ⟨b, 1, none⟩ = some .nilIface) :
    Calls Tryd.prog 43 #[.slice (some ⟨b, 0, none⟩) 2 2] w fun e w' => e = .returned .nilIface ∧ Below w.heap.size w w' := by
  refine (join_any [.nilIface, .nilIface] b w rfl (fun v hv => by simp at hv; exact .inl hv) (fun i hi => ?_)).mono ?_
  · match i, hi with
    | 0, _ => exact h0
    | 1, _ => exact h1
  · rintro e w' ⟨⟨v, rfl, ⟨_, rfl⟩ | ⟨h, _⟩⟩, hb⟩
    · exact ⟨rfl, hb⟩
    · exact absurd rfl h
theorem join_bad (x y : Value) (hx : ErrN x) (hy : ErrN y) (hne : there [x, y] ≠ []) (b : Nat) (w : World) (h0 : w.cell? ⟨b, 0, none⟩ = some x) (h1 : w.cell? ⟨b, 1, none⟩ = some y) :
    Calls Tryd.prog 43 #[.slice (some ⟨b, 0, none⟩) 2 2] w fun e w' => (∃ a, e = .returned (.iface 75 (.pointer (some a)))) ∧ Below w.heap.size w w' := by
  refine (join_any [x, y] b w rfl (fun v hv => by simp at hv; rcases hv with rfl | rfl <;> assumption) (fun i hi => ?_)).mono ?_
  · match i, hi with
    | 0, _ => exact h0
    | 1, _ => exact h1
  · rintro e w' ⟨⟨v, rfl, ⟨h, _⟩ | ⟨_, a, rfl⟩⟩, hb⟩
    · exact absurd h hne
    · exact ⟨⟨a, rfl⟩, hb⟩

set_option maxRecDepth 100000 in
set_option maxHeartbeats 4000000 in
theorem Parse_any (s : ByteArray) (w : World) (hs : s.size ≤ 1000) (hE : Env w) :
    Calls Tryd.prog 16 #[.string s] w fun e w' => e = .returned (.tuple #[rv (parsev s.data.toList).1 (parsev s.data.toList).2.1, .int .i64 (parsev s.data.toList).2.2]) ∧ Below w.heap.size w w' := by
  have hB : Below w.heap.size w w := Below.refl _ _
  have hcut := Lib.hid (fun w hE => cut_below s w (by omega) hE)
  have hlen := cut_len s.data.toList [47]
  have hsl : s.data.toList.length = s.size := by simp
  rw [hsl] at hlen
  have hpv : parsev s.data.toList = match numv (Lib.cut s.data.toList [47]).1, numv (denText s.data.toList) with
    | some n, some d => if vld n d && (prt n d == s.data.toList) then (n, d, 0) else (0, 0, 30)
    | _, _ => (0, 0, 30) := rfl
  have hdt : denText s.data.toList = if (Lib.cut s.data.toList [47]).2.2 then (Lib.cut s.data.toList [47]).2.1 else [49] := rfl
  generalize Lib.cut s.data.toList [47] = c at *
  generalize parsev s.data.toList = R at *
  obtain ⟨D, hD⟩ : ∃ D, D = denText s.data.toList := ⟨_, rfl⟩
  rw [← hD] at hpv hdt
  have hDl : D.length ≤ 1000 := by
    rw [hdt]; split
    · omega
    · simp
  have hcl : c.1.length ≤ 1000 := by omega
  replace hpv := Lib.hid hpv
  replace hdt := Lib.hid hdt
  replace hsl := Lib.hid hsl
  clear hD hlen
  obtain ⟨c1, c2, c3⟩ := c
  dsimp only at *
  have hat1 : Hid (∀ w, Env w → Calls Tryd.prog 42 #[.string (str c1)] w fun e w' => AtoiPost c1 e ∧ Below w.heap.size w w') := Lib.hid (fun w hE => atoi_any (str c1) w (by rw [str_size]; omega) hE)
  have hat2 : Hid (∀ w, Env w → Calls Tryd.prog 42 #[.string (str D)] w fun e w' => AtoiPost D e ∧ Below w.heap.size w w') := Lib.hid (fun w hE => atoi_any (str D) w (by rw [str_size]; omega) hE)
  go_enter Tryd.func16, Tryd.ntmps16
  go_wp2_with fail
  refine name_calls ?_
  intro w1 hww1
  have mAll : Mine w1 w.heap.size 0 (.int .i64 0) ∧ Mine w1 w.heap.size 1 (.int .i64 0) := by
    rw [hww1]
    refine ⟨?_, ?_⟩ <;> (repeat first | with_reducible assumption | with_reducible refine Mine.drew ?_ | with_reducible refine Mine.drewN ?_ _ | ((with_reducible refine Mine.new ?_); rfl) | ((with_reducible refine Mine.newAt ?_ ?_) <;> first | rfl | (simp; done) | (simp only [World.size_alloc]; rfl)) | ((with_reducible refine Mine.set ?_ _); repeat first | exact Mine.slot (by with_reducible assumption) | with_reducible refine MineS.drew ?_ | with_reducible refine MineS.drewN ?_ _ | ((with_reducible refine MineS.new ?_); decide) | ((with_reducible refine MineS.newAt ?_ ?_) <;> first | decide | (simp; done)) | with_reducible refine MineS.set ?_ _ _ _ | with_reducible refine MineS.alloc ?_ _) | with_reducible refine Mine.other ?_ _ (by first | (left; omega) | (right; omega) | (simp; done) | (simp; omega)) | with_reducible refine Mine.alloc ?_ _)
  obtain ⟨m1, m2⟩ := mAll
  have hBzw1 := hB.size
  replace hB : Below w.heap.size w w1 := by rw [hww1]; exact (by repeat first | with_reducible exact Below.refl _ _ | with_reducible assumption | with_reducible refine below_drewN ?_ _ | with_reducible refine Below.drew ?_ | with_reducible refine Below.setCell ?_ (by first | exact Nat.le_refl _ | (simp; done) | (simp; omega) | omega) _ | with_reducible refine Below.alloc ?_ (by first | exact Nat.le_refl _ | (simp; done) | (simp; omega) | omega) _ | exact Below.refl _ _ | assumption)
  clear hww1 hBzw1
  rw [show (⟨#[47]⟩ : ByteArray) = str [47] from rfl]
  refine (hcut.out _ (hE.below hB)).mono ?_
  rintro e w2 ⟨rfl, hb1⟩
  replace m1 := m1.below hb1
  replace m2 := m2.below hb1
  replace hB := hB.trans (hb1.mono hB.size)
  have hb_w2 := hb1
  clear hb1
  cases c3
  all_goals
    first
      | (have hdt1 : D = [49] := (by rw [hdt.out]; rfl); subst hdt1)
      | (have hdt1 : D = c2 := (by rw [hdt.out]; rfl); subst hdt1)
    clear hdt
    go_wp2_with fail
    refine (hat1.out _ (hE.below hB)).mono ?_
    rintro e w3 ⟨hA1, hb1⟩
    replace m1 := m1.below hb1
    replace m2 := m2.below hb1
    replace hB := hB.trans (hb1.mono hB.size)
    have hb_w3 := hb1
    clear hb1
    rcases hA1 with ⟨n, hn, hn2, rfl⟩ | ⟨hn, n, x, ⟨a, rfl⟩, hn2, rfl⟩
    · go_wp2_with fail
      refine (hat2.out _ (hE.below hB)).mono ?_
      rintro e w4 ⟨hA2, hb1⟩
      replace m1 := m1.below hb1
      replace m2 := m2.below hb1
      replace hB := hB.trans (hb1.mono hB.size)
      have hb_w4 := hb1
      clear hb1
      rcases hA2 with ⟨d, hd, hd2, rfl⟩ | ⟨hd, d, x, ⟨a, rfl⟩, hd2, rfl⟩
      · have hR : R = if vld n d && (prt n d == s.data.toList) then (n, d, 0) else (0, 0, 30) := by rw [hpv.out, hn, hd]
        have hP := fun w hE => Print_any n d w hn2 hd2 hE
        clear hn hd hpv
        replace hP := Lib.hid hP
        replace hR := Lib.hid hR
        go_wp2_with fail
        refine name_calls ?_
        intro w5 hww5
        have mAll : Mine w5 w.heap.size 0 (.int .i64 0) ∧ Mine w5 w.heap.size 1 (.int .i64 0) ∧ Mine w5 w4.heap.size 0 .nilIface ∧ Mine w5 w4.heap.size 1 .nilIface := by
          rw [hww5]
          refine ⟨?_, ?_, ?_, ?_⟩ <;> (repeat first | with_reducible assumption | with_reducible refine Mine.drew ?_ | with_reducible refine Mine.drewN ?_ _ | ((with_reducible refine Mine.new ?_); rfl) | ((with_reducible refine Mine.newAt ?_ ?_) <;> first | rfl | (simp; done) | (simp only [World.size_alloc]; rfl)) | ((with_reducible refine Mine.set ?_ _); repeat first | exact Mine.slot (by with_reducible assumption) | with_reducible refine MineS.drew ?_ | with_reducible refine MineS.drewN ?_ _ | ((with_reducible refine MineS.new ?_); decide) | ((with_reducible refine MineS.newAt ?_ ?_) <;> first | decide | (simp; done)) | with_reducible refine MineS.set ?_ _ _ _ | with_reducible refine MineS.alloc ?_ _) | with_reducible refine Mine.other ?_ _ (by first | (left; omega) | (right; omega) | (simp; done) | (simp; omega)) | with_reducible refine Mine.alloc ?_ _)
        clear m1 m2
        obtain ⟨m1, m2, m3, m4⟩ := mAll
        have hBzw5 := hB.size
        replace hB : Below w.heap.size w w5 := by rw [hww5]; exact (by repeat first | with_reducible exact Below.refl _ _ | with_reducible assumption | with_reducible refine below_drewN ?_ _ | with_reducible refine Below.drew ?_ | with_reducible refine Below.setCell ?_ (by first | exact Nat.le_refl _ | (simp; done) | (simp; omega) | omega) _ | with_reducible refine Below.alloc ?_ (by first | exact Nat.le_refl _ | (simp; done) | (simp; omega) | omega) _ | exact Below.refl _ _ | assumption)
        clear hww5 hBzw5
        refine (join_ok _ _ m3.cell m4.cell).mono ?_
        rintro e w6 ⟨rfl, hb1⟩
        replace m1 := m1.below hb1
        replace m2 := m2.below hb1
        replace m3 := m3.below hb1
        replace m4 := m4.below hb1
        replace hB := hB.trans (hb1.mono hB.size)
        have hb_w6 := hb1
        clear hb1
        have c1 := m1.cell
        have f1 := m1.free
        have l1 := m1.lt
        have c2 := m2.cell
        have f2 := m2.free
        have l2 := m2.lt
        go_wp2_with fail
        clear c1 f1 l1
        clear c2 f2 l2
        refine name_calls ?_
        intro w7 hww7
        have mAll : Mine w7 w.heap.size 0 (.int .i64 0) ∧ Mine w7 w.heap.size 1 (.int .i64 0) ∧ Mine w7 w6.heap.size 0 (.int .i64 n) ∧ Mine w7 w6.heap.size 1 (.int .i64 d) := by
          rw [hww7]
          refine ⟨?_, ?_, ?_, ?_⟩ <;> (repeat first | with_reducible assumption | with_reducible refine Mine.drew ?_ | with_reducible refine Mine.drewN ?_ _ | ((with_reducible refine Mine.new ?_); rfl) | ((with_reducible refine Mine.newAt ?_ ?_) <;> first | rfl | (simp; done) | (simp only [World.size_alloc]; rfl)) | ((with_reducible refine Mine.set ?_ _); repeat first | exact Mine.slot (by with_reducible assumption) | with_reducible refine MineS.drew ?_ | with_reducible refine MineS.drewN ?_ _ | ((with_reducible refine MineS.new ?_); decide) | ((with_reducible refine MineS.newAt ?_ ?_) <;> first | decide | (simp; done)) | with_reducible refine MineS.set ?_ _ _ _ | with_reducible refine MineS.alloc ?_ _) | with_reducible refine Mine.other ?_ _ (by first | (left; omega) | (right; omega) | (simp; done) | (simp; omega)) | with_reducible refine Mine.alloc ?_ _)
        clear m1 m2
        obtain ⟨m1, m2, m5, m6⟩ := mAll
        have hBzw7 := hB.size
        replace hB : Below w.heap.size w w7 := by rw [hww7]; exact (by repeat first | with_reducible exact Below.refl _ _ | with_reducible assumption | with_reducible refine below_drewN ?_ _ | with_reducible refine Below.drew ?_ | with_reducible refine Below.setCell ?_ (by first | exact Nat.le_refl _ | (simp; done) | (simp; omega) | omega) _ | with_reducible refine Below.alloc ?_ (by first | exact Nat.le_refl _ | (simp; done) | (simp; omega) | omega) _ | exact Below.refl _ _ | assumption)
        clear hww7 hBzw7
        generalize w6.heap.size = b6 at *
        refine (hP.out _ (hE.below hB)).mono ?_
        rintro e w8 ⟨rfl, hb1⟩
        replace m1 := m1.below hb1
        replace m2 := m2.below hb1
        replace m5 := m5.below hb1
        replace m6 := m6.below hb1
        replace hB := hB.trans (hb1.mono hB.size)
        have hb_w8 := hb1
        clear hb1
        clear hP hat1 hat2 hcut
        by_cases hv : vld n d = true
        · have hpr : prtv n d = (prt n d, 0) := by simp [prtv, hv]
          rw [hpr]
          by_cases ht : prt n d = s.data.toList
          · have hR2 : R = (n, d, 0) := by rw [hR.out]; simp [hv, ht]
            rw [ht, str_of]
            clear hR ht hpr hv
            replace hR2 := Lib.hid hR2
            have c1 := m1.cell
            have f1 := m1.free
            have l1 := m1.lt
            have c2 := m2.cell
            have f2 := m2.free
            have l2 := m2.lt
            have c5 := m5.cell
            have f5 := m5.free
            have l5 := m5.lt
            have c6 := m6.cell
            have f6 := m6.free
            have l6 := m6.lt
            go_wp2
            clear c1 f1 l1
            clear c2 f2 l2
            clear c5 f5 l5
            clear c6 f6 l6
            refine name_post ?_
            intro w9 hww9
            have mAll : Mine w9 w.heap.size 0 (.int .i64 n) ∧ Mine w9 w.heap.size 1 (.int .i64 d) := by
              rw [hww9]
              refine ⟨?_, ?_⟩ <;> (repeat first | with_reducible assumption | with_reducible refine Mine.drew ?_ | with_reducible refine Mine.drewN ?_ _ | ((with_reducible refine Mine.new ?_); rfl) | ((with_reducible refine Mine.newAt ?_ ?_) <;> first | rfl | (simp; done) | (simp only [World.size_alloc]; rfl)) | ((with_reducible refine Mine.set ?_ _); repeat first | exact Mine.slot (by with_reducible assumption) | with_reducible refine MineS.drew ?_ | with_reducible refine MineS.drewN ?_ _ | ((with_reducible refine MineS.new ?_); decide) | ((with_reducible refine MineS.newAt ?_ ?_) <;> first | decide | (simp; done)) | with_reducible refine MineS.set ?_ _ _ _ | with_reducible refine MineS.alloc ?_ _) | with_reducible refine Mine.other ?_ _ (by first | (left; omega) | (right; omega) | (simp; done) | (simp; omega)) | with_reducible refine Mine.alloc ?_ _)
            clear m1 m2
            obtain ⟨m1, m2⟩ := mAll
            have hBzw9 := hB.size
            replace hB : Below w.heap.size w w9 := by rw [hww9]; exact (by repeat first | with_reducible exact Below.refl _ _ | with_reducible assumption | with_reducible refine below_drewN ?_ _ | with_reducible refine Below.drew ?_ | with_reducible refine Below.setCell ?_ (by first | exact Nat.le_refl _ | (simp; done) | (simp; omega) | omega) _ | with_reducible refine Below.alloc ?_ (by first | exact Nat.le_refl _ | (simp; done) | (simp; omega) | omega) _ | exact Below.refl _ _ | assumption)
            clear hww9 hBzw9
            have e1 := m1.cell
            have e2 := m2.cell
            exact bodyPost_ret (v := .tuple #[rv n d, .int .i64 0]) (by simp [results, Tryd.results16, go_sem, e1, e2]) rfl ⟨by rw [hR2.out], hB⟩
          · have hR2 : R = (0, 0, 30) := by rw [hR.out]; simp [ht]
            have hq : ((str (prt n d)).toList == s.toList) = false := by rw [Lib.toList_data s, Lib.toList_data, str_list]; simpa using ht
            generalize prt n d = t at *
            clear hR ht hpr hv
            replace hR2 := Lib.hid hR2
            have c1 := m1.cell
            have f1 := m1.free
            have l1 := m1.lt
            have c2 := m2.cell
            have f2 := m2.free
            have l2 := m2.lt
            have c5 := m5.cell
            have f5 := m5.free
            have l5 := m5.lt
            have c6 := m6.cell
            have f6 := m6.free
            have l6 := m6.lt
            go_wp2
            clear c1 f1 l1
            clear c2 f2 l2
            clear c5 f5 l5
            clear c6 f6 l6
            refine name_post ?_
            intro w9 hww9
            have mAll : Mine w9 w.heap.size 0 (.int .i64 0) ∧ Mine w9 w.heap.size 1 (.int .i64 0) := by
              rw [hww9]
              refine ⟨?_, ?_⟩ <;> (repeat first | with_reducible assumption | with_reducible refine Mine.drew ?_ | with_reducible refine Mine.drewN ?_ _ | ((with_reducible refine Mine.new ?_); rfl) | ((with_reducible refine Mine.newAt ?_ ?_) <;> first | rfl | (simp; done) | (simp only [World.size_alloc]; rfl)) | ((with_reducible refine Mine.set ?_ _); repeat first | exact Mine.slot (by with_reducible assumption) | with_reducible refine MineS.drew ?_ | with_reducible refine MineS.drewN ?_ _ | ((with_reducible refine MineS.new ?_); decide) | ((with_reducible refine MineS.newAt ?_ ?_) <;> first | decide | (simp; done)) | with_reducible refine MineS.set ?_ _ _ _ | with_reducible refine MineS.alloc ?_ _) | with_reducible refine Mine.other ?_ _ (by first | (left; omega) | (right; omega) | (simp; done) | (simp; omega)) | with_reducible refine Mine.alloc ?_ _)
            clear m1 m2
            obtain ⟨m1, m2⟩ := mAll
            have hBzw9 := hB.size
            replace hB : Below w.heap.size w w9 := by rw [hww9]; exact (by repeat first | with_reducible exact Below.refl _ _ | with_reducible assumption | with_reducible refine below_drewN ?_ _ | with_reducible refine Below.drew ?_ | with_reducible refine Below.setCell ?_ (by first | exact Nat.le_refl _ | (simp; done) | (simp; omega) | omega) _ | with_reducible refine Below.alloc ?_ (by first | exact Nat.le_refl _ | (simp; done) | (simp; omega) | omega) _ | exact Below.refl _ _ | assumption)
            clear hww9 hBzw9
            have e1 := m1.cell
            have e2 := m2.cell
            exact bodyPost_ret (v := .tuple #[rv 0 0, .int .i64 30]) (by simp [results, Tryd.results16, go_sem, e1, e2]) rfl ⟨by rw [hR2.out], hB⟩
        · have hpr : prtv n d = ([], 30) := by simp [prtv, hv]
          have hR2 : R = (0, 0, 30) := by rw [hR.out]; simp [hv]
          rw [hpr]
          clear hR hpr hv
          replace hR2 := Lib.hid hR2
          have c1 := m1.cell
          have f1 := m1.free
          have l1 := m1.lt
          have c2 := m2.cell
          have f2 := m2.free
          have l2 := m2.lt
          have c5 := m5.cell
          have f5 := m5.free
          have l5 := m5.lt
          have c6 := m6.cell
          have f6 := m6.free
          have l6 := m6.lt
          go_wp2
          clear c1 f1 l1
          clear c2 f2 l2
          clear c5 f5 l5
          clear c6 f6 l6
          refine name_post ?_
          intro w9 hww9
          have mAll : Mine w9 w.heap.size 0 (.int .i64 0) ∧ Mine w9 w.heap.size 1 (.int .i64 0) := by
            rw [hww9]
            refine ⟨?_, ?_⟩ <;> (repeat first | with_reducible assumption | with_reducible refine Mine.drew ?_ | with_reducible refine Mine.drewN ?_ _ | ((with_reducible refine Mine.new ?_); rfl) | ((with_reducible refine Mine.newAt ?_ ?_) <;> first | rfl | (simp; done) | (simp only [World.size_alloc]; rfl)) | ((with_reducible refine Mine.set ?_ _); repeat first | exact Mine.slot (by with_reducible assumption) | with_reducible refine MineS.drew ?_ | with_reducible refine MineS.drewN ?_ _ | ((with_reducible refine MineS.new ?_); decide) | ((with_reducible refine MineS.newAt ?_ ?_) <;> first | decide | (simp; done)) | with_reducible refine MineS.set ?_ _ _ _ | with_reducible refine MineS.alloc ?_ _) | with_reducible refine Mine.other ?_ _ (by first | (left; omega) | (right; omega) | (simp; done) | (simp; omega)) | with_reducible refine Mine.alloc ?_ _)
          clear m1 m2
          obtain ⟨m1, m2⟩ := mAll
          have hBzw9 := hB.size
          replace hB : Below w.heap.size w w9 := by rw [hww9]; exact (by repeat first | with_reducible exact Below.refl _ _ | with_reducible assumption | with_reducible refine below_drewN ?_ _ | with_reducible refine Below.drew ?_ | with_reducible refine Below.setCell ?_ (by first | exact Nat.le_refl _ | (simp; done) | (simp; omega) | omega) _ | with_reducible refine Below.alloc ?_ (by first | exact Nat.le_refl _ | (simp; done) | (simp; omega) | omega) _ | exact Below.refl _ _ | assumption)
          clear hww9 hBzw9
          have e1 := m1.cell
          have e2 := m2.cell
          exact bodyPost_ret (v := .tuple #[rv 0 0, .int .i64 30]) (by simp [results, Tryd.results16, go_sem, e1, e2]) rfl ⟨by rw [hR2.out], hB⟩
      · have hR : R = (0, 0, 30) := by rw [hpv.out, hn, hd]
        clear hn hd hpv
        replace hR := Lib.hid hR
        go_wp2_with fail
        refine name_calls ?_
        intro w5 hww5
        have mAll : Mine w5 w.heap.size 0 (.int .i64 0) ∧ Mine w5 w.heap.size 1 (.int .i64 0) ∧ Mine w5 w4.heap.size 0 .nilIface ∧ Mine w5 w4.heap.size 1 (.iface 88 (.pointer (some a))) := by
          rw [hww5]
          refine ⟨?_, ?_, ?_, ?_⟩ <;> (repeat first | with_reducible assumption | with_reducible refine Mine.drew ?_ | with_reducible refine Mine.drewN ?_ _ | ((with_reducible refine Mine.new ?_); rfl) | ((with_reducible refine Mine.newAt ?_ ?_) <;> first | rfl | (simp; done) | (simp only [World.size_alloc]; rfl)) | ((with_reducible refine Mine.set ?_ _); repeat first | exact Mine.slot (by with_reducible assumption) | with_reducible refine MineS.drew ?_ | with_reducible refine MineS.drewN ?_ _ | ((with_reducible refine MineS.new ?_); decide) | ((with_reducible refine MineS.newAt ?_ ?_) <;> first | decide | (simp; done)) | with_reducible refine MineS.set ?_ _ _ _ | with_reducible refine MineS.alloc ?_ _) | with_reducible refine Mine.other ?_ _ (by first | (left; omega) | (right; omega) | (simp; done) | (simp; omega)) | with_reducible refine Mine.alloc ?_ _)
        clear m1 m2
        obtain ⟨m1, m2, m3, m4⟩ := mAll
        have hBzw5 := hB.size
        replace hB : Below w.heap.size w w5 := by rw [hww5]; exact (by repeat first | with_reducible exact Below.refl _ _ | with_reducible assumption | with_reducible refine below_drewN ?_ _ | with_reducible refine Below.drew ?_ | with_reducible refine Below.setCell ?_ (by first | exact Nat.le_refl _ | (simp; done) | (simp; omega) | omega) _ | with_reducible refine Below.alloc ?_ (by first | exact Nat.le_refl _ | (simp; done) | (simp; omega) | omega) _ | exact Below.refl _ _ | assumption)
        clear hww5 hBzw5
        refine (join_bad .nilIface (.iface 88 (.pointer (some a))) (.inl rfl) (.inr ⟨_, rfl⟩) (by simp [there]) _ _ m3.cell m4.cell).mono ?_
        rintro e w6 ⟨⟨aj, rfl⟩, hb1⟩
        replace m1 := m1.below hb1
        replace m2 := m2.below hb1
        replace m3 := m3.below hb1
        replace m4 := m4.below hb1
        replace hB := hB.trans (hb1.mono hB.size)
        have hb_w6 := hb1
        clear hb1
        have c1 := m1.cell
        have f1 := m1.free
        have l1 := m1.lt
        have c2 := m2.cell
        have f2 := m2.free
        have l2 := m2.lt
        go_wp2
        clear c1 f1 l1
        clear c2 f2 l2
        refine name_post ?_
        intro w7 hww7
        have mAll : Mine w7 w.heap.size 0 (.int .i64 0) ∧ Mine w7 w.heap.size 1 (.int .i64 0) := by
          rw [hww7]
          refine ⟨?_, ?_⟩ <;> (repeat first | with_reducible assumption | with_reducible refine Mine.drew ?_ | with_reducible refine Mine.drewN ?_ _ | ((with_reducible refine Mine.new ?_); rfl) | ((with_reducible refine Mine.newAt ?_ ?_) <;> first | rfl | (simp; done) | (simp only [World.size_alloc]; rfl)) | ((with_reducible refine Mine.set ?_ _); repeat first | exact Mine.slot (by with_reducible assumption) | with_reducible refine MineS.drew ?_ | with_reducible refine MineS.drewN ?_ _ | ((with_reducible refine MineS.new ?_); decide) | ((with_reducible refine MineS.newAt ?_ ?_) <;> first | decide | (simp; done)) | with_reducible refine MineS.set ?_ _ _ _ | with_reducible refine MineS.alloc ?_ _) | with_reducible refine Mine.other ?_ _ (by first | (left; omega) | (right; omega) | (simp; done) | (simp; omega)) | with_reducible refine Mine.alloc ?_ _)
        clear m1 m2
        obtain ⟨m1, m2⟩ := mAll
        have hBzw7 := hB.size
        replace hB : Below w.heap.size w w7 := by rw [hww7]; exact (by repeat first | with_reducible exact Below.refl _ _ | with_reducible assumption | with_reducible refine below_drewN ?_ _ | with_reducible refine Below.drew ?_ | with_reducible refine Below.setCell ?_ (by first | exact Nat.le_refl _ | (simp; done) | (simp; omega) | omega) _ | with_reducible refine Below.alloc ?_ (by first | exact Nat.le_refl _ | (simp; done) | (simp; omega) | omega) _ | exact Below.refl _ _ | assumption)
        clear hww7 hBzw7
        have e1 := m1.cell
        have e2 := m2.cell
        exact bodyPost_ret (v := .tuple #[rv 0 0, .int .i64 30]) (by simp [results, Tryd.results16, go_sem, e1, e2]) rfl ⟨by rw [hR.out], hB⟩
    · have hR : R = (0, 0, 30) := by rw [hpv.out, hn]
      go_wp2_with fail
      refine (hat2.out _ (hE.below hB)).mono ?_
      rintro e w4 ⟨hA2, hb1⟩
      replace m1 := m1.below hb1
      replace m2 := m2.below hb1
      replace hB := hB.trans (hb1.mono hB.size)
      have hb_w4 := hb1
      clear hb1
      rcases hA2 with ⟨d, hd, hd2, rfl⟩ | ⟨hd, d, y, ⟨a2, rfl⟩, hd2, rfl⟩
      · clear hn hd hpv
        replace hR := Lib.hid hR
        go_wp2_with fail
        refine name_calls ?_
        intro w5 hww5
        have mAll : Mine w5 w.heap.size 0 (.int .i64 0) ∧ Mine w5 w.heap.size 1 (.int .i64 0) ∧ Mine w5 w4.heap.size 0 (.iface 88 (.pointer (some a))) ∧ Mine w5 w4.heap.size 1 .nilIface := by
          rw [hww5]
          refine ⟨?_, ?_, ?_, ?_⟩ <;> (repeat first | with_reducible assumption | with_reducible refine Mine.drew ?_ | with_reducible refine Mine.drewN ?_ _ | ((with_reducible refine Mine.new ?_); rfl) | ((with_reducible refine Mine.newAt ?_ ?_) <;> first | rfl | (simp; done) | (simp only [World.size_alloc]; rfl)) | ((with_reducible refine Mine.set ?_ _); repeat first | exact Mine.slot (by with_reducible assumption) | with_reducible refine MineS.drew ?_ | with_reducible refine MineS.drewN ?_ _ | ((with_reducible refine MineS.new ?_); decide) | ((with_reducible refine MineS.newAt ?_ ?_) <;> first | decide | (simp; done)) | with_reducible refine MineS.set ?_ _ _ _ | with_reducible refine MineS.alloc ?_ _) | with_reducible refine Mine.other ?_ _ (by first | (left; omega) | (right; omega) | (simp; done) | (simp; omega)) | with_reducible refine Mine.alloc ?_ _)
        clear m1 m2
        obtain ⟨m1, m2, m3, m4⟩ := mAll
        have hBzw5 := hB.size
        replace hB : Below w.heap.size w w5 := by rw [hww5]; exact (by repeat first | with_reducible exact Below.refl _ _ | with_reducible assumption | with_reducible refine below_drewN ?_ _ | with_reducible refine Below.drew ?_ | with_reducible refine Below.setCell ?_ (by first | exact Nat.le_refl _ | (simp; done) | (simp; omega) | omega) _ | with_reducible refine Below.alloc ?_ (by first | exact Nat.le_refl _ | (simp; done) | (simp; omega) | omega) _ | exact Below.refl _ _ | assumption)
        clear hww5 hBzw5
        refine (join_bad (.iface 88 (.pointer (some a))) .nilIface (.inr ⟨_, rfl⟩) (.inl rfl) (by simp [there]) _ _ m3.cell m4.cell).mono ?_
        rintro e w6 ⟨⟨aj, rfl⟩, hb1⟩
        replace m1 := m1.below hb1
        replace m2 := m2.below hb1
        replace m3 := m3.below hb1
        replace m4 := m4.below hb1
        replace hB := hB.trans (hb1.mono hB.size)
        have hb_w6 := hb1
        clear hb1
        have c1 := m1.cell
        have f1 := m1.free
        have l1 := m1.lt
        have c2 := m2.cell
        have f2 := m2.free
        have l2 := m2.lt
        go_wp2
        clear c1 f1 l1
        clear c2 f2 l2
        refine name_post ?_
        intro w7 hww7
        have mAll : Mine w7 w.heap.size 0 (.int .i64 0) ∧ Mine w7 w.heap.size 1 (.int .i64 0) := by
          rw [hww7]
          refine ⟨?_, ?_⟩ <;> (repeat first | with_reducible assumption | with_reducible refine Mine.drew ?_ | with_reducible refine Mine.drewN ?_ _ | ((with_reducible refine Mine.new ?_); rfl) | ((with_reducible refine Mine.newAt ?_ ?_) <;> first | rfl | (simp; done) | (simp only [World.size_alloc]; rfl)) | ((with_reducible refine Mine.set ?_ _); repeat first | exact Mine.slot (by with_reducible assumption) | with_reducible refine MineS.drew ?_ | with_reducible refine MineS.drewN ?_ _ | ((with_reducible refine MineS.new ?_); decide) | ((with_reducible refine MineS.newAt ?_ ?_) <;> first | decide | (simp; done)) | with_reducible refine MineS.set ?_ _ _ _ | with_reducible refine MineS.alloc ?_ _) | with_reducible refine Mine.other ?_ _ (by first | (left; omega) | (right; omega) | (simp; done) | (simp; omega)) | with_reducible refine Mine.alloc ?_ _)
        clear m1 m2
        obtain ⟨m1, m2⟩ := mAll
        have hBzw7 := hB.size
        replace hB : Below w.heap.size w w7 := by rw [hww7]; exact (by repeat first | with_reducible exact Below.refl _ _ | with_reducible assumption | with_reducible refine below_drewN ?_ _ | with_reducible refine Below.drew ?_ | with_reducible refine Below.setCell ?_ (by first | exact Nat.le_refl _ | (simp; done) | (simp; omega) | omega) _ | with_reducible refine Below.alloc ?_ (by first | exact Nat.le_refl _ | (simp; done) | (simp; omega) | omega) _ | exact Below.refl _ _ | assumption)
        clear hww7 hBzw7
        have e1 := m1.cell
        have e2 := m2.cell
        exact bodyPost_ret (v := .tuple #[rv 0 0, .int .i64 30]) (by simp [results, Tryd.results16, go_sem, e1, e2]) rfl ⟨by rw [hR.out], hB⟩
      · clear hn hd hpv
        replace hR := Lib.hid hR
        go_wp2_with fail
        refine name_calls ?_
        intro w5 hww5
        have mAll : Mine w5 w.heap.size 0 (.int .i64 0) ∧ Mine w5 w.heap.size 1 (.int .i64 0) ∧ Mine w5 w4.heap.size 0 (.iface 88 (.pointer (some a))) ∧ Mine w5 w4.heap.size 1 (.iface 88 (.pointer (some a2))) := by
          rw [hww5]
          refine ⟨?_, ?_, ?_, ?_⟩ <;> (repeat first | with_reducible assumption | with_reducible refine Mine.drew ?_ | with_reducible refine Mine.drewN ?_ _ | ((with_reducible refine Mine.new ?_); rfl) | ((with_reducible refine Mine.newAt ?_ ?_) <;> first | rfl | (simp; done) | (simp only [World.size_alloc]; rfl)) | ((with_reducible refine Mine.set ?_ _); repeat first | exact Mine.slot (by with_reducible assumption) | with_reducible refine MineS.drew ?_ | with_reducible refine MineS.drewN ?_ _ | ((with_reducible refine MineS.new ?_); decide) | ((with_reducible refine MineS.newAt ?_ ?_) <;> first | decide | (simp; done)) | with_reducible refine MineS.set ?_ _ _ _ | with_reducible refine MineS.alloc ?_ _) | with_reducible refine Mine.other ?_ _ (by first | (left; omega) | (right; omega) | (simp; done) | (simp; omega)) | with_reducible refine Mine.alloc ?_ _)
        clear m1 m2
        obtain ⟨m1, m2, m3, m4⟩ := mAll
        have hBzw5 := hB.size
        replace hB : Below w.heap.size w w5 := by rw [hww5]; exact (by repeat first | with_reducible exact Below.refl _ _ | with_reducible assumption | with_reducible refine below_drewN ?_ _ | with_reducible refine Below.drew ?_ | with_reducible refine Below.setCell ?_ (by first | exact Nat.le_refl _ | (simp; done) | (simp; omega) | omega) _ | with_reducible refine Below.alloc ?_ (by first | exact Nat.le_refl _ | (simp; done) | (simp; omega) | omega) _ | exact Below.refl _ _ | assumption)
        clear hww5 hBzw5
        refine (join_bad (.iface 88 (.pointer (some a))) (.iface 88 (.pointer (some a2))) (.inr ⟨_, rfl⟩) (.inr ⟨_, rfl⟩) (by simp [there]) _ _ m3.cell m4.cell).mono ?_
        rintro e w6 ⟨⟨aj, rfl⟩, hb1⟩
        replace m1 := m1.below hb1
        replace m2 := m2.below hb1
        replace m3 := m3.below hb1
        replace m4 := m4.below hb1
        replace hB := hB.trans (hb1.mono hB.size)
        have hb_w6 := hb1
        clear hb1
        have c1 := m1.cell
        have f1 := m1.free
        have l1 := m1.lt
        have c2 := m2.cell
        have f2 := m2.free
        have l2 := m2.lt
        go_wp2
        clear c1 f1 l1
        clear c2 f2 l2
        refine name_post ?_
        intro w7 hww7
        have mAll : Mine w7 w.heap.size 0 (.int .i64 0) ∧ Mine w7 w.heap.size 1 (.int .i64 0) := by
          rw [hww7]
          refine ⟨?_, ?_⟩ <;> (repeat first | with_reducible assumption | with_reducible refine Mine.drew ?_ | with_reducible refine Mine.drewN ?_ _ | ((with_reducible refine Mine.new ?_); rfl) | ((with_reducible refine Mine.newAt ?_ ?_) <;> first | rfl | (simp; done) | (simp only [World.size_alloc]; rfl)) | ((with_reducible refine Mine.set ?_ _); repeat first | exact Mine.slot (by with_reducible assumption) | with_reducible refine MineS.drew ?_ | with_reducible refine MineS.drewN ?_ _ | ((with_reducible refine MineS.new ?_); decide) | ((with_reducible refine MineS.newAt ?_ ?_) <;> first | decide | (simp; done)) | with_reducible refine MineS.set ?_ _ _ _ | with_reducible refine MineS.alloc ?_ _) | with_reducible refine Mine.other ?_ _ (by first | (left; omega) | (right; omega) | (simp; done) | (simp; omega)) | with_reducible refine Mine.alloc ?_ _)
        clear m1 m2
        obtain ⟨m1, m2⟩ := mAll
        have hBzw7 := hB.size
        replace hB : Below w.heap.size w w7 := by rw [hww7]; exact (by repeat first | with_reducible exact Below.refl _ _ | with_reducible assumption | with_reducible refine below_drewN ?_ _ | with_reducible refine Below.drew ?_ | with_reducible refine Below.setCell ?_ (by first | exact Nat.le_refl _ | (simp; done) | (simp; omega) | omega) _ | with_reducible refine Below.alloc ?_ (by first | exact Nat.le_refl _ | (simp; done) | (simp; omega) | omega) _ | exact Below.refl _ _ | assumption)
        clear hww7 hBzw7
        have e1 := m1.cell
        have e2 := m2.cell
        exact bodyPost_ret (v := .tuple #[rv 0 0, .int .i64 30]) (by simp [results, Tryd.results16, go_sem, e1, e2]) rfl ⟨by rw [hR.out], hB⟩
end Go.Proofs.YtfojgdlegojdgaaDoor
