/-
  The law ComputerTextMatchesReference returns true.
-/
import Derived.Test.YtkgbknjpnhoadaaGreatDoorCrK
namespace Go.Proofs.YtkgbknjpnhoadaaGreatDoor
open Go.RowKit Go.Shelf

set_option maxRecDepth 100000 in
set_option maxHeartbeats 8000000 in
theorem Text_walk (a0 a1 : ByteArray) (w : World) (h0 : a0.size ≤ 9223372036854775807) (h1 : a1.size ≤ 9223372036854775807) (hE : Env w) :
    Calls Tryz.prog 3 #[.string a0, .string a1] w fun e w' => e = .returned (.bool true) ∧ Below w.heap.size w w' := by
  have hS := Lib.hid (sane_any w hE)
  have hC0 := fun (W : World) => cut_any a0 258 W (by omega) h0
  have hC1 := fun (W : World) => cut_any a1 3000 W (by omega) h1
  generalize a0.data.toList.take 258 = r at *
  have hl1 : (a1.data.toList.take 3000).length ≤ 3000 := by rw [List.length_take]; omega
  generalize a1.data.toList.take 3000 = t at *
  have hP := fun (W : World) hE => Print_any (str r) W hE
  have hQ := fun (W : World) => refPrint_any r W
  have hA := fun (W : World) hE => Parse_any (str t) W (by rw [str_size]; omega) hE
  have hB := fun (W : World) => refParse_any t W (by omega)
  rw [str_list] at hA
  generalize str (printL (str r)) = ps at *
  generalize printE (str r) = pe at *
  generalize str (parseB t).1 = qs at *
  generalize (parseB t).2.1 = qn at *
  generalize (parseB t).2.2 = qe at *
  generalize str r = R at *
  generalize str t = T at *
  have e1 : (ps.toList == ps.toList) = true := beq_self_eq_true _
  have e2 : (pe == pe) = true := beq_self_eq_true _
  have e3 : (qs.toList == qs.toList) = true := beq_self_eq_true _
  have e4 : ((qn : Int) == (qn : Int)) = true := beq_self_eq_true _
  have e5 : (qe == qe) = true := beq_self_eq_true _
  replace hC0 := Lib.hid hC0
  replace hC1 := Lib.hid hC1
  replace hP := Lib.hid hP
  replace hQ := Lib.hid hQ
  replace hA := Lib.hid hA
  replace hB := Lib.hid hB
  go_enter Tryz.func3, Tryz.ntmps3
  go_wp2_with fail
  refine hS.out.mono ?_
  rintro e w1 ⟨rfl, hb1⟩
  have hE1 := hE.below hb1
  go_wp2_with fail
  refine (hC0.out _).mono ?_
  rintro e w2 ⟨rfl, hw2⟩
  rw [hw2]
  clear hw2 w2
  go_wp2_with fail
  refine (hP.out _ hE1).mono ?_
  rintro e w2 ⟨rfl, hb2⟩
  have hB2 := hb1.trans (hb2.mono hb1.size)
  go_wp2_with fail
  refine (hQ.out _).mono ?_
  rintro e w3 ⟨rfl, hb3⟩
  have hB3 := hB2.trans (hb3.mono hB2.size)
  have hE3 := hE.below hB3
  clear hb1 hE1 hb2 hB2 hb3
  go_wp2_with fail
  refine (hC1.out _).mono ?_
  rintro e w4 ⟨rfl, hw4⟩
  rw [hw4]
  clear hw4 w4
  go_wp2_with fail
  refine (hA.out _ hE3).mono ?_
  rintro e w4 ⟨rfl, hb4⟩
  have hB4 := hB3.trans (hb4.mono hB3.size)
  go_wp2_with fail
  refine (hC1.out _).mono ?_
  rintro e w5 ⟨rfl, hw5⟩
  rw [hw5]
  clear hw5 w5
  go_wp2_with fail
  refine (hB.out _).mono ?_
  rintro e w5 ⟨rfl, hb5⟩
  have hB5 := hB4.trans (hb5.mono hB4.size)
  go_wp2_with fail
  go_ret
  exact ⟨rfl, hB5⟩
end Go.Proofs.YtkgbknjpnhoadaaGreatDoor
