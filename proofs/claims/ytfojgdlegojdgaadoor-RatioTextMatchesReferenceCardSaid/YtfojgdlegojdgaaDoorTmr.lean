/-
  RatioTextMatchesReference: the walk.
-/
import Derived.Test.YtfojgdlegojdgaaDoorEqR
import Derived.Test.YtfojgdlegojdgaaDoorRPar
namespace Go.Proofs.YtfojgdlegojdgaaDoor
open Go.RowKit

set_option maxRecDepth 100000 in
set_option maxHeartbeats 4000000 in
theorem TmrLaw (n d : Int) (s : ByteArray) (w : World) (hn : I64 n) (hd : I64 d) (hs : s.size ≤ 9223372036854775807) (hE : Env w) :
    Calls Tryd.prog 3 #[.int .i64 n, .int .i64 d, .string s] w fun e w' => e = .returned (.bool true) ∧ Below w.heap.size w w' := by
  have hB : Below w.heap.size w w := Below.refl _ _
  have P := fun w hE => Print_any n d w hn hd hE
  have Q := fun w => refPrint_any n d w hn hd
  generalize prtv n d = T at *
  replace P := Lib.hid P
  replace Q := Lib.hid Q
  clear hn hd
  go_enter Tryd.func3, Tryd.ntmps3
  go_wp2_with fail
  refine (sane_any _ hE).mono ?_
  rintro e v1 ⟨rfl, hb1⟩
  replace hB := hB.trans (hb1.mono hB.size)
  have hb_v1 := hb1
  clear hb1
  go_wp2_with fail
  have hts : (s.extract 0 (min (s.size : Int) 60).toNat).size ≤ 60 := by rw [ByteArray.size_extract]; omega
  generalize s.extract 0 (min (s.size : Int) 60).toNat = t at *
  have A := fun w hE => Parse_any t w (by omega) hE
  have B := fun w => refParse_any t w (by omega)
  generalize parsev t.data.toList = R at *
  replace A := Lib.hid A
  replace B := Lib.hid B
  have hEq := fun w => run_eq_rv R.1 R.2.1 R.1 R.2.1 w
  rw [show (R.1 == R.1 && R.2.1 == R.2.1) = true by simp] at hEq
  clear hts hs
  refine (is_any _ _ _).mono ?_
  rintro e v2 ⟨rfl, hb1⟩
  replace hB := hB.trans (hb1.mono hB.size)
  have hb_v2 := hb1
  clear hb1
  go_wp2_with fail
  refine (P.out _ (hE.below hB)).mono ?_
  rintro e v3 ⟨rfl, hb1⟩
  replace hB := hB.trans (hb1.mono hB.size)
  have hb_v3 := hb1
  clear hb1
  go_wp2_with fail
  refine (is_any _ _ _).mono ?_
  rintro e v4 ⟨rfl, hb1⟩
  replace hB := hB.trans (hb1.mono hB.size)
  have hb_v4 := hb1
  clear hb1
  go_wp2_with fail
  refine (Q.out _).mono ?_
  rintro e v5 ⟨rfl, hb1⟩
  replace hB := hB.trans (hb1.mono hB.size)
  have hb_v5 := hb1
  clear hb1
  go_wp2_with fail
  refine (A.out _ (hE.below hB)).mono ?_
  rintro e v6 ⟨rfl, hb1⟩
  replace hB := hB.trans (hb1.mono hB.size)
  have hb_v6 := hb1
  clear hb1
  go_wp2_with fail
  refine name_calls ?_
  intro w6 hww6
  replace ma1 : Mine w6 v6.heap.size 0 (.int .i64 R.1) := by rw [hww6]; (repeat first | with_reducible assumption | with_reducible refine Mine.drew ?_ | with_reducible refine Mine.drewN ?_ _ | ((with_reducible refine Mine.new ?_); rfl) | ((with_reducible refine Mine.newAt ?_ ?_) <;> first | rfl | (simp; done) | (simp only [World.size_alloc]; rfl)) | ((with_reducible refine Mine.set ?_ _); repeat first | exact Mine.slot (by with_reducible assumption) | with_reducible refine MineS.drew ?_ | with_reducible refine MineS.drewN ?_ _ | ((with_reducible refine MineS.new ?_); decide) | ((with_reducible refine MineS.newAt ?_ ?_) <;> first | decide | (simp; done)) | with_reducible refine MineS.set ?_ _ _ _ | with_reducible refine MineS.alloc ?_ _) | with_reducible refine Mine.other ?_ _ (by first | (left; omega) | (right; omega) | (simp; done) | (simp; omega)) | with_reducible refine Mine.alloc ?_ _)
  replace ma2 : Mine w6 v6.heap.size 1 (.int .i64 R.2.1) := by rw [hww6]; (repeat first | with_reducible assumption | with_reducible refine Mine.drew ?_ | with_reducible refine Mine.drewN ?_ _ | ((with_reducible refine Mine.new ?_); rfl) | ((with_reducible refine Mine.newAt ?_ ?_) <;> first | rfl | (simp; done) | (simp only [World.size_alloc]; rfl)) | ((with_reducible refine Mine.set ?_ _); repeat first | exact Mine.slot (by with_reducible assumption) | with_reducible refine MineS.drew ?_ | with_reducible refine MineS.drewN ?_ _ | ((with_reducible refine MineS.new ?_); decide) | ((with_reducible refine MineS.newAt ?_ ?_) <;> first | decide | (simp; done)) | with_reducible refine MineS.set ?_ _ _ _ | with_reducible refine MineS.alloc ?_ _) | with_reducible refine Mine.other ?_ _ (by first | (left; omega) | (right; omega) | (simp; done) | (simp; omega)) | with_reducible refine Mine.alloc ?_ _)
  have hBzw6 := hB.size
  replace hB : Below w.heap.size w w6 := by rw [hww6]; exact (by repeat first | with_reducible exact Below.refl _ _ | with_reducible assumption | with_reducible refine below_drewN ?_ _ | with_reducible refine Below.drew ?_ | with_reducible refine Below.setCell ?_ (by first | exact Nat.le_refl _ | (simp; done) | (simp; omega) | omega) _ | with_reducible refine Below.alloc ?_ (by first | exact Nat.le_refl _ | (simp; done) | (simp; omega) | omega) _ | exact Below.refl _ _ | assumption)
  clear hww6 hBzw6
  generalize v6.heap.size = ba at *
  refine (B.out _).mono ?_
  rintro e v7 ⟨rfl, hb1⟩
  replace ma1 := ma1.below hb1
  replace ma2 := ma2.below hb1
  replace hB := hB.trans (hb1.mono hB.size)
  have hb_v7 := hb1
  clear hb1
  have ca1 := ma1.cell
  have fa1 := ma1.free
  have la1 := ma1.lt
  have ca2 := ma2.cell
  have fa2 := ma2.free
  have la2 := ma2.lt
  have hBz := hB.size
  go_wp2
  go_ret
  exact ⟨rfl, (by repeat first | with_reducible exact Below.refl _ _ | with_reducible assumption | with_reducible refine below_drewN ?_ _ | with_reducible refine Below.drew ?_ | with_reducible refine Below.setCell ?_ (by first | exact Nat.le_refl _ | (simp; done) | (simp; omega) | omega) _ | with_reducible refine Below.alloc ?_ (by first | exact Nat.le_refl _ | (simp; done) | (simp; omega) | omega) _ | exact Below.refl _ _ | assumption)⟩
end Go.Proofs.YtfojgdlegojdgaaDoor
