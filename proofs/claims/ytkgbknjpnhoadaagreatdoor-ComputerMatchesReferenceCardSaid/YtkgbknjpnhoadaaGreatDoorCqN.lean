/-
  The contract of the law's sane: it returns true.
-/
import Derived.Test.YtkgbknjpnhoadaaGreatDoorCqM
namespace Go.Proofs.YtkgbknjpnhoadaaGreatDoor
open Go.RowKit Go.Shelf

def exB : List UInt8 := [11, 0, 9, 0, 12, 250, 0, 7]
def exT : List UInt8 := [75, 69, 89, 32, 48, 10, 74, 90, 32, 48, 10, 84, 88, 84, 32, 50, 53, 48, 10, 72, 65, 76, 84, 32, 55, 10]
theorem ex_print : printB exB = exT := by
  have d0 : Lib.decDigits 0 = [48] := by simp [Lib.decDigits]
  have d7 : Lib.decDigits 7 = [55] := by simp [Lib.decDigits]
  have d250 : Lib.decDigits 250 = [50, 53, 48] := by simp [Lib.decDigits]
  show lineB 11 0 ++ 10 :: (lineB 9 0 ++ 10 :: (lineB 12 250 ++ 10 :: (lineB 0 7 ++ 10 :: []))) = exT
  unfold lineB
  rw [d0, d7, d250]
  rfl
theorem ex_parse : parseB exT = (exB, 0, 0) := by
  rw [← ex_print]; exact parse_printB (by decide) (by decide)
theorem raw_none : findB [82, 65, 87, 32, 49, 54, 32, 48] = none := by
  refine findB_none fun o n _ _ e => ?_
  have hw := congrArg (cutAll 32) e
  have hr : cutAll 32 [82, 65, 87, 32, 49, 54, 32, 48] = [[82, 65, 87], [49, 54], [48]] := by decide +kernel
  rw [hr] at hw
  by_cases ho : o < 17
  · rw [words_low ho] at hw
    simp at hw
  · rw [words_high (by omega)] at hw
    injection hw with _ hw
    injection hw with hw _
    have d16 : Lib.decDigits 16 = [49, 54] := by simp [Lib.decDigits]
    rw [← d16] at hw
    have := decDigits_inj hw
    omega
theorem raw_parse : parseB [82, 65, 87, 32, 49, 54, 32, 48, 10] = ([], 1, 120) := by
  have hr : cutAll 10 [82, 65, 87, 32, 49, 54, 32, 48, 10] = [[82, 65, 87, 32, 49, 54, 32, 48], []] := by decide +kernel
  unfold parseB
  rw [hr, parseL, raw_none]
  rfl
def exE1 : Ev := ⟨6, 1, 0, 65⟩
def exE2 : Ev := ⟨7, 4, 0, 7⟩
def exK : Ev := ⟨3, 5, 65, 0⟩
theorem ex_perf1 : perfL ⟨#[11, 0, 9, 0, 12, 250, 0, 7]⟩ ⟨#[]⟩ [exK] 100 = [exE1, exE2] := by rw [← sameB_iff]; decide +kernel
theorem ex_perf2 : perfL ⟨#[11, 0, 9, 0, 12, 250, 0, 7]⟩ ⟨#[]⟩ [exK] 6 = [] := by rw [← sameB_iff]; decide +kernel
theorem ex_perf3 : perfL ⟨#[11, 0, 9, 0, 12, 250, 0, 7]⟩ ⟨#[]⟩ [] 100 = [] := by rw [← sameB_iff]; decide +kernel
theorem ex_err1 : perfE ⟨#[11, 0, 9, 0, 12, 250, 0, 7]⟩ ⟨#[]⟩ [exK] 100 = 0 := by decide +kernel
theorem ex_err2 : perfE ⟨#[11, 0, 9, 0, 12, 250, 0, 7]⟩ ⟨#[]⟩ [exK] 6 = 0 := by decide +kernel
theorem ex_err3 : perfE ⟨#[11, 0, 9, 0, 12, 250, 0, 7]⟩ ⟨#[]⟩ [] 100 = 0 := by decide +kernel
theorem ex_screen : bytesOf (screenL [exE1, exE2]) = 65 :: List.replicate 79 32 := by decide +kernel
theorem ex_valid1 : progOk exB [] = true := by decide +kernel
theorem ex_valid2 : progOk [120] [] = false := by decide +kernel
theorem sliceAt_arr {w : World} {b : Nat} {T : TypeId} {l : List Ev} (h : Arr w b T (evCells l)) (hn : l.length ≤ maxLen) : SliceAt w w.heap.size (.slice (some ⟨b, 0, none⟩) l.length l.length) l.length (evCells l) :=
  ⟨_, _, rfl, Nat.le_refl _, hn, fun _ => ⟨b, 0, rfl, h.lt, fun j u hu => by rw [Nat.zero_add]; exact h.cell hu⟩⟩
theorem sliceAt_nil (w : World) (B : Nat) : SliceAt w B (.slice none 0 0) 0 (evCells []) := ⟨_, _, rfl, Nat.le_refl _, Nat.zero_le _, fun h => absurd h (Nat.lt_irrefl 0)⟩
theorem SliceAt.later {w w' : World} {v : Value} {n : Nat} {xs : List Value} (h : SliceAt w w.heap.size v n xs) (hb : Below w.heap.size w w') : SliceAt w' w'.heap.size v n xs := by
  obtain ⟨a, cap, hv, h1, h2, hc⟩ := h.below hb (Nat.le_refl _)
  exact ⟨a, cap, hv, h1, h2, fun hn => by
    obtain ⟨b, o, ha, hlt, hx⟩ := hc hn
    exact ⟨b, o, ha, Nat.lt_of_lt_of_le hlt hb.size, hx⟩⟩

set_option maxRecDepth 100000 in
set_option maxHeartbeats 4000000 in
theorem sane_any (w : World) (hE : Env w) :
    Calls Tryz.prog 10 #[] w fun e w' => e = .returned (.bool true) ∧ Below w.heap.size w w' := by
  have hB : Below w.heap.size w w := Below.refl _ _
  have P1 := fun kv (w : World) h => Perform_any ⟨#[11, 0, 9, 0, 12, 250, 0, 7]⟩ ⟨#[]⟩ kv [exK] 100 w h
  have P2 := fun kv (w : World) h => Perform_any ⟨#[11, 0, 9, 0, 12, 250, 0, 7]⟩ ⟨#[]⟩ kv [exK] 6 w h
  have P3 := fun kv (w : World) h => Perform_any ⟨#[11, 0, 9, 0, 12, 250, 0, 7]⟩ ⟨#[]⟩ kv [] 100 w h
  have P4 := fun (w : World) hE => Print_any ⟨#[11, 0, 9, 0, 12, 250, 0, 7]⟩ w hE
  have P5 := fun (w : World) hE => Parse_any (str exT) w (by decide) hE
  have P6 := fun (w : World) hE => Parse_any ⟨#[82, 65, 87, 32, 49, 54, 32, 48, 10]⟩ w (by decide) hE
  have P7 := fun v (w : World) h => Screen_any v [exE1, exE2] w h
  have P8 := fun (w : World) => Valid_any ⟨#[11, 0, 9, 0, 12, 250, 0, 7]⟩ ⟨#[]⟩ w
  have P9 := fun (w : World) => Valid_any ⟨#[120]⟩ ⟨#[]⟩ w
  rw [ex_perf1, ex_err1] at P1
  rw [ex_perf2, ex_err2] at P2
  rw [ex_perf3, ex_err3] at P3
  rw [show printL ⟨#[11, 0, 9, 0, 12, 250, 0, 7]⟩ = exT by rw [printL]; exact (if_pos ex_valid1).trans ex_print, show printE ⟨#[11, 0, 9, 0, 12, 250, 0, 7]⟩ = 0 from if_pos ex_valid1] at P4
  rw [str_list, ex_parse] at P5
  rw [show (⟨#[82, 65, 87, 32, 49, 54, 32, 48, 10]⟩ : ByteArray).data.toList = [82, 65, 87, 32, 49, 54, 32, 48, 10] from rfl, raw_parse] at P6
  rw [ex_screen] at P7
  obtain ⟨sc, hsc⟩ : ∃ sc, sc = str (65 :: List.replicate 79 32) := ⟨_, rfl⟩
  rw [← hsc] at P7
  have hsl : sc.extract 0 2 = ⟨#[65, 32]⟩ := by rw [hsc, extract_take]; rfl
  have hsz : sc.size = 80 := by rw [hsc, str_size]; rfl
  have hm2 : (min (2 : Int) 80).toNat = 2 := by decide
  clear hsc
  rw [show progOk (⟨#[11, 0, 9, 0, 12, 250, 0, 7]⟩ : ByteArray).data.toList (⟨#[]⟩ : ByteArray).data.toList = true from ex_valid1] at P8
  rw [show progOk (⟨#[120]⟩ : ByteArray).data.toList (⟨#[]⟩ : ByteArray).data.toList = false from ex_valid2] at P9
  have hsame : sameB [exE1, exE2] [exE1, exE2] = true := (sameB_iff _ _).2 rfl
  have PS := fun u v (w : World) h1 h2 => SameEvents_any u v [exE1, exE2] [exE1, exE2] w h1 h2
  rw [hsame] at PS
  rw [show str exT = ⟨#[75, 69, 89, 32, 48, 10, 74, 90, 32, 48, 10, 84, 88, 84, 32, 50, 53, 48, 10, 72, 65, 76, 84, 32, 55, 10]⟩ from rfl] at P4 P5
  rw [show str (exB, (0 : Nat), (0 : Int)).1 = ⟨#[11, 0, 9, 0, 12, 250, 0, 7]⟩ from rfl] at P5
  replace P1 := Lib.hid P1
  replace P2 := Lib.hid P2
  replace P3 := Lib.hid P3
  replace P4 := Lib.hid P4
  replace P5 := Lib.hid P5
  replace P6 := Lib.hid P6
  replace P7 := Lib.hid P7
  replace P8 := Lib.hid P8
  replace P9 := Lib.hid P9
  replace PS := Lib.hid PS
  clear hsame
  go_enter Tryz.func10, Tryz.ntmps10
  go_wp2_with fail
  obtain ⟨v1, hv1⟩ : ∃ v1, v1 = (w.alloc (.cells #[.int .i64 3, .int .i64 5, .int .i64 65, .int .i64 0] 39)).alloc (.cells #[.int .i64 6, .int .i64 1, .int .i64 0, .int .i64 65, .int .i64 7, .int .i64 4, .int .i64 0, .int .i64 7] 39) := ⟨_, rfl⟩
  have hK : SliceAt v1 v1.heap.size (.slice (some ⟨w.heap.size, 0, none⟩) 1 1) 1 (evCells [exK]) := by rw [hv1]; exact sliceAt_arr (l := [exK]) (Arr.alloc (Arr.new rfl rfl) _) (by unfold maxLen; decide)
  have hW : SliceAt v1 v1.heap.size (.slice (some ⟨w.heap.size + 1, 0, none⟩) 2 2) 2 (evCells [exE1, exE2]) := by rw [hv1]; exact sliceAt_arr (l := [exE1, exE2]) (Arr.new rfl (by simp)) (by unfold maxLen; decide)
  have hB1 : Below w.heap.size w v1 := by rw [hv1]; exact (hB.alloc (Nat.le_refl _) _).alloc (by simp) _
  have hE1 := hE.below hB1
  rw [← hv1]
  clear hv1 hB
  refine (P1.out _ v1 hK).mono ?_
  rintro e v2 ⟨u2, rfl, ho2, hb2⟩
  have hL := sliceAt_of_own ho2
  obtain ⟨a2, c2, rfl⟩ := own_val ho2
  clear ho2
  replace hK := hK.later hb2
  replace hW := hW.later hb2
  have hE2 := hE1.below hb2
  have hB2 := hB1.trans (hb2.mono hB1.size)
  clear hb2 hE1 hB1
  go_wp2_with fail
  refine (P2.out _ v2 hK).mono ?_
  rintro e v3 ⟨u3, rfl, ho3, hb3⟩
  obtain ⟨a3, c3, rfl⟩ := own_val ho3
  clear ho3
  replace hK := hK.later hb3
  replace hW := hW.later hb3
  replace hL := hL.later hb3
  have hE3 := hE2.below hb3
  have hB3 := hB2.trans (hb3.mono hB2.size)
  clear hb3 hE2 hB2
  go_wp2_with fail
  refine (P3.out _ v3 (sliceAt_nil v3 _)).mono ?_
  rintro e v4 ⟨u4, rfl, ho4, hb4⟩
  obtain ⟨a4, c4, rfl⟩ := own_val ho4
  clear ho4
  replace hK := hK.later hb4
  replace hW := hW.later hb4
  replace hL := hL.later hb4
  have hE4 := hE3.below hb4
  have hB4 := hB3.trans (hb4.mono hB3.size)
  clear hb4 hE3 hB3
  go_wp2_with fail
  refine (P4.out v4 hE4).mono ?_
  rintro e v5 ⟨rfl, hb5⟩
  replace hK := hK.later hb5
  replace hW := hW.later hb5
  replace hL := hL.later hb5
  have hE5 := hE4.below hb5
  have hB5 := hB4.trans (hb5.mono hB4.size)
  clear hb5 hE4 hB4
  go_wp2_with fail
  refine (P5.out v5 hE5).mono ?_
  rintro e v6 ⟨rfl, hb6⟩
  replace hK := hK.later hb6
  replace hW := hW.later hb6
  replace hL := hL.later hb6
  have hE6 := hE5.below hb6
  have hB6 := hB5.trans (hb6.mono hB5.size)
  clear hb6 hE5 hB5
  go_wp2_with fail
  refine (P6.out v6 hE6).mono ?_
  rintro e v7 ⟨rfl, hb7⟩
  replace hK := hK.later hb7
  replace hW := hW.later hb7
  replace hL := hL.later hb7
  have hE7 := hE6.below hb7
  have hB7 := hB6.trans (hb7.mono hB6.size)
  clear hb7 hE6 hB6
  go_wp2_with fail
  refine (PS.out _ _ v7 hL hW).mono ?_
  rintro e v8 ⟨rfl, hb8⟩
  replace hK := hK.later hb8
  replace hW := hW.later hb8
  replace hL := hL.later hb8
  have hE8 := hE7.below hb8
  have hB8 := hB7.trans (hb8.mono hB7.size)
  clear hb8 hE7 hB7
  go_wp2_with fail
  refine (P7.out _ v8 hL).mono ?_
  rintro e v9 ⟨rfl, hb9⟩
  replace hK := hK.later hb9
  replace hW := hW.later hb9
  replace hL := hL.later hb9
  have hB9 := hB8.trans (hb9.mono hB8.size)
  clear hb9 hB8 hE8
  go_wp2_with fail
  refine (P7.out _ v9 hL).mono ?_
  rintro e v10 ⟨rfl, hb10⟩
  have hB10 := hB9.trans (hb10.mono hB9.size)
  clear hb10 hB9 hL hW hK
  go_wp2_with fail
  refine (P8.out v10).mono ?_
  rintro e v11 ⟨rfl, q1, rfl⟩
  go_wp2_with fail
  refine (P9.out _).mono ?_
  rintro e v12 ⟨rfl, q2, rfl⟩
  go_wp2_with fail
  go_ret
  exact ⟨rfl, below_drewN hB10 (q1 + q2)⟩
end Go.Proofs.YtkgbknjpnhoadaaGreatDoor
