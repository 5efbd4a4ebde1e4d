/-
  The law ComputerRoundTrip returns true.
-/
import Derived.Test.YtkgbknjpnhoadaaGreatDoorCqN
namespace Go.Proofs.YtkgbknjpnhoadaaGreatDoor
open Go.RowKit Go.Shelf

set_option maxRecDepth 100000 in
set_option maxHeartbeats 4000000 in
theorem RoundTrip_walk (raw text : ByteArray) (w : World) (h1 : raw.size ≤ 9223372036854775807) (h2 : text.size ≤ 9223372036854775807) (hE : Env w) :
    Calls Tryz.prog 7 #[.string raw, .string text] w fun e w' => e = .returned (.bool true) ∧ Below w.heap.size w w' := by
  have hS := fun (w : World) hE => sane_any w hE
  have hC1 := fun (w : World) => cut_any raw 256 w (by omega) h1
  have hC2 := fun (w : World) => cut_any text 3000 w (by omega) h2
  obtain ⟨L, hL⟩ : ∃ L, L = raw.data.toList.take 256 := ⟨_, rfl⟩
  obtain ⟨T, hT⟩ : ∃ T, T = text.data.toList.take 3000 := ⟨_, rfl⟩
  have hLl : L.length ≤ 256 := by rw [hL, List.length_take]; omega
  have hTl : T.length ≤ 3000 := by rw [hT, List.length_take]; omega
  rw [← hL] at hC1
  rw [← hT] at hC2
  have hP2 := fun (w : World) hE => Parse_any (str T) w (by rw [str_size]; omega) hE
  rw [str_list] at hP2
  have hR := print_parseB T
  have hPL := fun (w : World) hE => Print_any (str L) w hE
  have hLz : (str L).size = L.length := str_size L
  have hTn : (str T).toList = T := Lib.toList_data _
  replace hS := Lib.hid hS
  replace hC1 := Lib.hid hC1
  replace hC2 := Lib.hid hC2
  replace hP2 := Lib.hid hP2
  replace hTn := Lib.hid hTn
  clear hL hT
  by_cases hev : L.length % 2 = 0
  · have hok : progOk (str L).data.toList [] = true := by rw [str_list]; simp [progOk]; omega
    rw [show printL (str L) = printB L by rw [printL, if_pos hok, str_list], show printE (str L) = 0 from if_pos hok] at hPL
    have hP1 := fun (w : World) hE => Parse_any (str (printB L)) w (by have := printB_len L; rw [str_size]; omega) hE
    rw [str_list, parse_printB hev hLl] at hP1
    have hd : ((L.length : Int) % 2 == 1) = false := by rw [beq_eq_false_iff_ne]; omega
    replace hPL := Lib.hid hPL
    replace hP1 := Lib.hid hP1
    replace hok := Lib.hid hok
    replace hev := Lib.hid hev
    go_enter Tryz.func7, Tryz.ntmps7
    go_wp2_with fail
    refine (hS.out _ hE).mono ?_
    rintro e v1 ⟨rfl, hb1⟩
    have hE1 := hE.below hb1
    go_wp2_with fail
    refine (hC1.out _).mono ?_
    rintro e v2 ⟨rfl, hv2⟩
    rw [hv2]
    clear hv2 v2
    go_wp2_with fail
    refine (hPL.out _ hE1).mono ?_
    rintro e v3 ⟨rfl, hb3⟩
    have hE3 := hE1.below hb3
    have hB3 := hb1.trans (hb3.mono hb1.size)
    clear hb1 hb3 hE1
    go_wp2_with fail
    refine (hP1.out _ hE3).mono ?_
    rintro e v4 ⟨rfl, hb4⟩
    have hE4 := hE3.below hb4
    have hB4 := hB3.trans (hb4.mono hB3.size)
    clear hb4 hB3 hE3
    go_wp2_with fail
    refine (hC2.out _).mono ?_
    rintro e v5 ⟨rfl, hv5⟩
    rw [hv5]
    clear hv5 v5
    go_wp2_with fail
    refine (hP2.out _ hE4).mono ?_
    rintro e v6 ⟨rfl, hb6⟩
    have hE6 := hE4.below hb6
    have hB6 := hB4.trans (hb6.mono hB4.size)
    clear hb6
    rcases hR with ⟨g1, g2, g3⟩ | ⟨l, g1, g2, g3, g4⟩
    · rw [g1, g2]
      have hdg : decide (((parseB T).2.1 : Int) ≥ 1) = true := by simp; omega
      rw [show str [] = ⟨#[]⟩ from rfl]
      replace g1 := Lib.hid g1
      replace g2 := Lib.hid g2
      generalize (parseB T).2.1 = at_ at *
      go_wp2_with fail
      go_ret
      exact ⟨rfl, hB6⟩
    · have hPr := fun (W : World) hE => Print_any (str l) W hE
      have hok : progOk (str l).data.toList [] = true := by rw [str_list]; simp [progOk]; omega
      rw [show printL (str l) = T by rw [printL, if_pos hok, str_list]; exact g2.symm, show printE (str l) = 0 from if_pos hok] at hPr
      rw [g1]
      replace g1 := Lib.hid g1
      replace g2 := Lib.hid g2
      replace hok := Lib.hid hok
      replace hPr := Lib.hid hPr
      go_wp2_with fail
      refine (hPr.out _ hE6).mono ?_
      rintro e v7 ⟨rfl, hb7⟩
      go_wp2_with fail
      go_ret
      exact ⟨rfl, hB6.trans (hb7.mono hB6.size)⟩
  · have hok : progOk (str L).data.toList [] = false := by rw [str_list]; simp [progOk]; omega
    rw [show printL (str L) = [] by rw [printL, hok]; rfl, show printE (str L) = 120 by rw [printE, hok]; rfl] at hPL
    have hd : ((L.length : Int) % 2 == 1) = true := by rw [beq_iff_eq]; omega
    rw [show str [] = ⟨#[]⟩ from rfl] at hPL
    replace hPL := Lib.hid hPL
    replace hok := Lib.hid hok
    go_enter Tryz.func7, Tryz.ntmps7
    go_wp2_with fail
    refine (hS.out _ hE).mono ?_
    rintro e v1 ⟨rfl, hb1⟩
    have hE1 := hE.below hb1
    go_wp2_with fail
    refine (hC1.out _).mono ?_
    rintro e v2 ⟨rfl, hv2⟩
    rw [hv2]
    clear hv2 v2
    go_wp2_with fail
    refine (hPL.out _ hE1).mono ?_
    rintro e v3 ⟨rfl, hb3⟩
    have hE3 := hE1.below hb3
    have hB3 := hb1.trans (hb3.mono hb1.size)
    clear hb1 hb3 hE1
    go_wp2_with fail
    refine (hC2.out _).mono ?_
    rintro e v5 ⟨rfl, hv5⟩
    rw [hv5]
    clear hv5 v5
    go_wp2_with fail
    refine (hP2.out _ hE3).mono ?_
    rintro e v6 ⟨rfl, hb6⟩
    have hE6 := hE3.below hb6
    have hB6 := hB3.trans (hb6.mono hB3.size)
    clear hb6
    rcases hR with ⟨g1, g2, g3⟩ | ⟨l, g1, g2, g3, g4⟩
    · rw [g1, g2]
      have hdg : decide (((parseB T).2.1 : Int) ≥ 1) = true := by simp; omega
      rw [show str [] = ⟨#[]⟩ from rfl]
      replace g1 := Lib.hid g1
      replace g2 := Lib.hid g2
      generalize (parseB T).2.1 = at_ at *
      go_wp2_with fail
      go_ret
      exact ⟨rfl, hB6⟩
    · have hPr := fun (W : World) hE => Print_any (str l) W hE
      have hok : progOk (str l).data.toList [] = true := by rw [str_list]; simp [progOk]; omega
      rw [show printL (str l) = T by rw [printL, if_pos hok, str_list]; exact g2.symm, show printE (str l) = 0 from if_pos hok] at hPr
      rw [g1]
      replace g1 := Lib.hid g1
      replace g2 := Lib.hid g2
      replace hok := Lib.hid hok
      replace hPr := Lib.hid hPr
      go_wp2_with fail
      refine (hPr.out _ hE6).mono ?_
      rintro e v7 ⟨rfl, hb7⟩
      go_wp2_with fail
      go_ret
      exact ⟨rfl, hB6.trans (hb7.mono hB6.size)⟩
end Go.Proofs.YtkgbknjpnhoadaaGreatDoor
