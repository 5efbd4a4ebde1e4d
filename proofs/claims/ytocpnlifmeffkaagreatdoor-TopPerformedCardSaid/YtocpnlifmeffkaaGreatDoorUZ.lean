/-
  awake: the fixed example of the top laws.
  The law TopPerformed returns true.
-/
import Derived.Test.YtocpnlifmeffkaaGreatDoorUX
import Derived.Test.YtocpnlifmeffkaaGreatDoorUY
import Derived.Test.YtocpnlifmeffkaaGreatDoorUU
namespace Go.Proofs.YtocpnlifmeffkaaGreatDoor
open Go.RowKit Go.Shelf Go.Maps

attribute [local go_sem] Oper.semAt_some

theorem sliceOf {w : World} {b n : Nat} {T : TypeId} {L : List Value} (h : Arr w b T L) (hn : n ≤ maxLen) : SliceAt w w.heap.size (.slice (some ⟨b, 0, none⟩) n n) n L :=
  ⟨_, _, rfl, Nat.le_refl _, hn, fun _ => ⟨b, 0, rfl, h.lt, fun j u hu => by rw [Nat.zero_add]; exact h.cell hu⟩⟩
def awL : List Lin := [⟨[65, 98], 2⟩]
def awC : List Cel := [⟨0, 0, false, 5, 0, 0⟩, ⟨0, 1, false, 7, 0, 0⟩, ⟨1, 1, true, 0, 0, 0⟩]
theorem aw_up : celsUp awC = true := by decide
theorem aw_lin : awL.all linOk = true := by decide
theorem aw_cel : awC.all celOk = true := by decide
theorem aw_idx : Lib.idxBy (fun _ (y : Cel) => y.row == 1 && y.col == 1) awC default = ((2 : Nat) : Int) := by decide
theorem aw_val : (valsD awC)[2]! = 12 := by decide
theorem aw_txt : (putZ (awL.length : Int) ++ awL.flatMap fun l => putSb l.text) = [2, 4, 65, 98] := by decide +kernel
theorem aw_txt2 : (putZ (([[65, 98]] : List (List UInt8)).length : Int) ++ ([[65, 98]] : List (List UInt8)).flatMap putSb) = [2, 4, 65, 98] := by decide +kernel
theorem aw_low : (putZ (([[65, 98]] : List (List UInt8)).length : Int) ++ (([[65, 98]] : List (List UInt8)).map lowB).flatMap putSb) = [2, 4, 97, 98] := by decide +kernel
set_option maxRecDepth 100000 in
set_option maxHeartbeats 4000000 in
theorem awake_any (w : World) :
    Calls Tryz.prog 4 #[] w fun e w' => e = .returned (.bool true) ∧ Below w.heap.size w w' := by
  obtain ⟨W0, hW0⟩ : ∃ W0, W0 = ((w.alloc (.cells #[.string ⟨#[65, 98]⟩, .int .i64 2] 44)).alloc (.cells #[.int .i64 0, .int .i64 0, .bool false, .int .i64 5, .int .i64 0, .int .i64 0, .int .i64 0, .int .i64 1, .bool false, .int .i64 7, .int .i64 0, .int .i64 0, .int .i64 1, .int .i64 1, .bool true, .int .i64 0, .int .i64 0, .int .i64 0] 47)).alloc (.cells #[.slice (some ⟨w.heap.size, 0, none⟩) 1 1, .slice (some ⟨w.heap.size + 1, 0, none⟩) 3 3, .int .i64 0, .string ⟨#[]⟩] 50) := ⟨_, rfl⟩
  have hB0 : Below w.heap.size w W0 := by rw [hW0]; exact (((Below.refl _ _).alloc (Nat.le_refl _) _).alloc (by simp) _).alloc (by simp; omega) _
  have hL0 : Arr W0 w.heap.size 44 (linCells awL) := by rw [hW0]; exact ((Arr.new rfl rfl).alloc _).alloc _
  have hC0 : Arr W0 (w.heap.size + 1) 47 (cellCells awC) := by rw [hW0]; exact (Arr.new rfl (by simp)).alloc _
  have hD0 : Arr W0 (w.heap.size + 1 + 1) 50 [.slice (some ⟨w.heap.size, 0, none⟩) 1 1, .slice (some ⟨w.heap.size + 1, 0, none⟩) 3 3, .int .i64 0, .string ⟨#[]⟩] := by rw [hW0]; exact Arr.new rfl (by simp)
  have hVal : ∀ W, Below W0.heap.size W0 W → Calls Tryz.prog 16 #[.agg #[.slice (some ⟨w.heap.size, 0, none⟩) 1 1, .slice (some ⟨w.heap.size + 1, 0, none⟩) 3 3, .int .i64 0, .string ⟨#[]⟩], .int .i64 1, .int .i64 1] W fun e w' => e = .returned (.tuple #[.int .i64 12, .bool true]) ∧ Below W.heap.size W w' := fun W hW => by
    have h := Value_any (.slice (some ⟨w.heap.size, 0, none⟩) 1 1) (.slice (some ⟨w.heap.size + 1, 0, none⟩) 3 3) awL awC 1 1 2 W (by decide) (by decide) aw_up aw_lin aw_cel (sliceOf (hL0.below hW) (by unfold maxLen; omega)) (sliceOf (hC0.below hW) (by unfold maxLen; omega)) aw_idx (by decide)
    rw [aw_val] at h
    exact h
  have hPr : ∀ W, Below W0.heap.size W0 W → Calls Tryz.prog 17 #[.agg #[.slice (some ⟨w.heap.size, 0, none⟩) 1 1, .slice (some ⟨w.heap.size + 1, 0, none⟩) 3 3, .int .i64 0, .string ⟨#[]⟩], .int .i64 1] W fun e w' => e = .returned (.tuple #[.string ⟨#[2, 4, 65, 98]⟩, .int .i64 0]) ∧ Below W.heap.size W w' := fun W hW => by
    have h := Property1_any (.slice (some ⟨w.heap.size, 0, none⟩) 1 1) (.slice (some ⟨w.heap.size + 1, 0, none⟩) 3 3) awL awC W (by decide) (by decide) aw_up aw_lin aw_cel (sliceOf (hL0.below hW) (by unfold maxLen; omega)) (sliceOf (hC0.below hW) (by unfold maxLen; omega))
    rw [aw_txt] at h
    exact h
  have hAp : ∀ W, Calls Tryz.prog 18 #[.int .i64 1, .slice (some ⟨W.heap.size, 0, none⟩) 1 1, .string ⟨#[2, 4, 65, 98]⟩] (W.alloc (.cells #[.int .i64 1, .int .i64 0] 55)) fun e w' => e = .returned (.tuple #[.string ⟨#[2, 4, 97, 98]⟩, .int .i64 0]) ∧ Below W.heap.size W w' := fun W => by
    have hb : Below W.heap.size W (W.alloc (.cells #[.int .i64 1, .int .i64 0] 55)) := (Below.refl _ _).alloc (Nat.le_refl _) _
    have h := Apply1_any (.slice (some ⟨W.heap.size, 0, none⟩) 1 1) [[65, 98]] (W.alloc (.cells #[.int .i64 1, .int .i64 0] 55)) (by decide) (by decide) (by decide) (sliceOf (L := Rb.stL [⟨1, 0⟩]) (T := 55) (Arr.new rfl rfl) (by unfold maxLen; decide))
    rw [aw_txt2, aw_low] at h
    exact h.mono fun _ _ h => ⟨h.1, hb.trans (h.2.mono hb.size)⟩
  have hAc : ∀ W, Below W0.heap.size W0 W → W.cell? ⟨w.heap.size + 1 + 1, 0, none⟩ = some (.slice (some ⟨w.heap.size, 0, none⟩) 1 1) ∧ W.cell? ⟨w.heap.size + 1 + 1, 1, none⟩ = some (.slice (some ⟨w.heap.size + 1, 0, none⟩) 3 3) ∧ W.cell? ⟨w.heap.size + 1 + 1, 2, none⟩ = some (.int .i64 0) ∧ W.cell? ⟨w.heap.size + 1 + 1, 3, none⟩ = some (.string ⟨#[]⟩) := fun W hW => ⟨(hD0.below hW).cell rfl, (hD0.below hW).cell rfl, (hD0.below hW).cell rfl, (hD0.below hW).cell rfl⟩
  have hV0 := hVal W0 (Below.refl _ _)
  rw [hW0] at hV0
  replace hV0 := Lib.hid hV0
  replace hVal := Lib.hid hVal
  replace hPr := Lib.hid hPr
  replace hAp := Lib.hid hAp
  replace hAc := Lib.hid hAc
  replace hW0 := Lib.hid hW0
  replace hB0 := Lib.hid hB0
  clear hL0 hC0 hD0
  go_enter Tryz.func4, Tryz.ntmps4
  go_wp2_with (first
    | (go_at_call 16; refine hV0.out.mono ?_; rintro e w1 ⟨rfl, hb1⟩; rw [← hW0.out] at hb1; obtain ⟨a0, a1, a2, a3⟩ := hAc.out w1 hb1)
    | (go_at_call 17; refine (hPr.out w1 hb1).mono ?_; rintro e w2 ⟨rfl, hb2⟩; have hB2 := hB0.out.trans ((hb1.trans (hb2.mono hb1.size)).mono hB0.out.size))
    | (go_at_call 18; refine (hAp.out w2).mono ?_; rintro e w3 ⟨rfl, hb3⟩))
  go_ret
  exact ⟨rfl, hB2.trans (hb3.mono hB2.size)⟩
end Go.Proofs.YtocpnlifmeffkaaGreatDoor
namespace Go.Proofs.YtocpnlifmeffkaaGreatDoor
open Go.RowKit Go.Shelf

attribute [local go_sem] Oper.semAt_some

set_option maxRecDepth 100000 in
set_option maxHeartbeats 8000000 in
theorem Performed_walk (v0 : Value) (n0 : Nat) (z0 : List Int) (v1 : Value) (n1 : Nat) (z1 : List Int) (a2 : ByteArray) (a3 a4 a5 : Int) (a6 : Bool) (w : World)
    (s0 : SliceAt w w.heap.size v0 n0 (z0.map (Value.int .i64))) (e0 : z0.length = n0 * 2) (g0 : ∀ z ∈ z0, I64 z)
    (s1 : SliceAt w w.heap.size v1 n1 (z1.map (Value.int .i64))) (e1 : z1.length = n1 * 2) (g1 : ∀ z ∈ z1, I64 z)
    (h2 : a2.size ≤ 9223372036854775807) (h3 : I64 a3) (h4 : I64 a4) (h5 : I64 a5) (hE : Env w) :
    Calls Tryz.prog 3 #[v0, v1, .string a2, .int .i64 a3, .int .i64 a4, .int .i64 a5, .bool a6] w fun e w' => e = .returned (.bool true) ∧ Below w.heap.size w w' := by
  have hA := Lib.hid awake_any
  have hP3 := fun W : World => pick_any a3 900 W h3 (by omega) (by omega)
  have hP4 := fun W : World => pick_any a4 32 W h4 (by omega) (by omega)
  have hP5 := fun W : World => pick_any a5 50 W h5 (by omega) (by omega)
  have b3 := pickv_lt a3 900 (by omega)
  have b4 := pickv_lt a4 32 (by omega)
  have b5 := pickv_lt a5 50 (by omega)
  generalize pickv a3 900 = mo at *
  generalize pickv a4 32 = ka at *
  generalize pickv a5 50 = sa at *
  have hm : min (a2.size : Int) 100 = ((min a2.size 100 : Nat) : Int) := by omega
  have i1 : (0 : Int) ≤ ((min a2.size 100 : Nat) : Int) := by omega
  have i2 : ((min a2.size 100 : Nat) : Int) ≤ (a2.size : Int) := by omega
  have hx : a2.extract 0 (min a2.size 100) = str (a2.data.toList.take 100) := by
    rw [extract_take]
    congr 1
    rw [List.take_eq_take_iff]
    simp
    omega
  have hdl : (a2.data.toList.take 100).length ≤ 256 := by rw [List.length_take]; omega
  generalize a2.data.toList.take 100 = dk at *
  obtain ⟨k, hk⟩ : ∃ k, k = min a2.size 100 := ⟨_, rfl⟩
  rw [← hk] at hm i1 i2 hx
  have hw2 : IntKind.i64.wrap (2 * (ka : Int)) = 2 * (ka : Int) := IntWalk.i64_in _ (by omega)
  have hRel : RelOk (2 * (ka : Int)) (sa : Int) := ⟨⟨ka, b4, rfl⟩, by omega, by omega⟩
  obtain ⟨x0, c0, rfl, _⟩ := id s0
  obtain ⟨x1, c1, rfl, _⟩ := id s1
  have hco := fun (W : World) (hb : Below w.heap.size w W) => Code_any _ n0 z0 W (s0.later hb) e0 g0
  have hty := fun (W : World) (hb : Below w.heap.size w W) => Typed_any _ n1 z1 W (s1.later hb) e1 g1
  replace hk := Lib.hid hk
  replace hP3 := Lib.hid hP3
  replace hP4 := Lib.hid hP4
  replace hP5 := Lib.hid hP5
  replace hco := Lib.hid hco
  replace hty := Lib.hid hty
  clear s0 s1 e0 e1 g0 g1 h2 h3 h4 h5
  go_enter Tryz.func3, Tryz.ntmps3
  go_wp2_with fail
  refine (hA.out w).mono ?_
  rintro e w1 ⟨rfl, hb1⟩
  go_wp2_with fail
  refine (hco.out w1 hb1).mono ?_
  rintro e w2 ⟨s, rfl, hs1, hs2, hb2⟩
  have hB2 := hb1.trans (hb2.mono hb1.size)
  clear hb2 hb1 hco
  go_wp2_with fail
  refine (hty.out w2 hB2).mono ?_
  rintro e w3 ⟨kv, ks, rfl, hko, hkt, hb3⟩
  have hB3 := hB2.trans (hb3.mono hB2.size)
  have hK3 := sliceAt_of_own hko
  obtain ⟨ka3, kc3, rfl⟩ := own_val hko
  clear hB2 hb3 hko hty
  have hkk := hkt.keys
  have hok : perfL (str s) (str dk) ks mo = perf s dk ks mo ∧ perfE (str s) (str dk) ks mo = 0 := by
    have h : perfOk s dk ks (mo : Int) = true := by
      simp only [perfOk, progOk, hkk, Bool.and_eq_true, decide_eq_true_eq, Bool.and_true]
      omega
    unfold perfL perfE
    rw [str_list, str_list, h]
    exact ⟨rfl, rfl⟩
  have hpg : progOk s [] = true := by simp [progOk]; omega
  have hpd : progOk s dk = true := by simp [progOk]; omega
  have hev : EvsOk (perf s dk ks mo) := perf_ok hpd (fun k hk => (hkt.all k hk).1) (by omega)
  have hek := keys_ok hkk
  have hPf := fun (W : World) v h => Perform_any (str s) (str dk) v ks mo W h
  rw [hok.1, hok.2] at hPf
  generalize perf s dk ks mo = E at *
  have hPr := fun (W : World) hE => Print_any (str s) W hE
  have hpl : progOk (str s).data.toList [] = true := by rw [str_list]; exact hpg
  rw [show printL (str s) = printB s by rw [printL, if_pos hpl, str_list], show printE (str s) = 0 from if_pos hpl] at hPr
  have hPa := fun (W : World) hE => Parse_any (str (printB s)) W (by have := printB_len s; rw [str_size]; omega) hE
  rw [str_list, parse_printB hs1 (by omega)] at hPa
  have hEn := fun (W : World) v h => Encode_any v E W hev h
  have hEk := fun (W : World) v h => Encode_any v ks W hek h
  have hDe := fun (W : World) => Decode_any E W hev
  have hDk := fun (W : World) => Decode_any ks W hek
  have hCm := fun (W : World) u v h1 h2 => Compare_any (2 * (ka : Int)) (sa : Int) a6 u v E W hRel hev h1 h2
  have hSc := fun (W : World) v h => Screen_any v E W h
  have hBm := fun (W : World) v h => Bitmap_any v E W h
  generalize encP E = cE at *
  generalize encP ks = cK at *
  generalize str (printB s) = T at *
  generalize str s = P at *
  generalize str dk = D at *
  generalize str (bytesOf (screenL E)) = S1 at *
  generalize str (bytesOf (bitmapL E)) = S2 at *
  generalize str cE = CE at *
  generalize str cK = CK at *
  replace hPf := Lib.hid hPf
  replace hPr := Lib.hid hPr
  replace hPa := Lib.hid hPa
  replace hEn := Lib.hid hEn
  replace hEk := Lib.hid hEk
  replace hDe := Lib.hid hDe
  replace hDk := Lib.hid hDk
  replace hCm := Lib.hid hCm
  replace hSc := Lib.hid hSc
  replace hBm := Lib.hid hBm
  clear hok hpg hpd hev hek hkk hkt hpl hdl hs1 hs2
  go_wp2_with fail
  refine (hP3.out _).mono ?_
  rintro e w4 ⟨rfl, hw4⟩
  rw [hw4]
  clear hw4 w4
  go_wp2_with fail
  refine (hP4.out _).mono ?_
  rintro e w4 ⟨rfl, hw4⟩
  rw [hw4]
  clear hw4 w4
  go_wp2_with fail
  refine (hP5.out _).mono ?_
  rintro e w4 ⟨rfl, hw4⟩
  rw [hw4]
  clear hw4 w4
  go_wp2_with fail
  obtain ⟨W4, hW4⟩ : ∃ W4, W4 = w3.alloc (.cells #[.int .i64 (2 * (ka : Int)), .int .i64 (sa : Int), .bool a6] 29) := ⟨_, rfl⟩
  have hb4 : Below w3.heap.size w3 W4 := by rw [hW4]; exact (Below.refl _ _).alloc (Nat.le_refl _) _
  have hR4 : Arr W4 w3.heap.size 29 [.int .i64 (2 * (ka : Int)), .int .i64 (sa : Int), .bool a6] := by rw [hW4]; exact Arr.new rfl rfl
  have hK4 := hK3.later hb4
  have hB4 := hB3.trans (hb4.mono hB3.size)
  rw [← hW4]
  clear hW4 hb4 hK3 hB3 hP3 hP4 hP5
  refine (hPf.out W4 _ hK4).mono ?_
  rintro e w5 ⟨u5, rfl, ho5, hb5⟩
  have h5 := sliceAt_of_own ho5
  obtain ⟨a5_, c5, rfl⟩ := own_val ho5
  have hR5 := hR4.below hb5
  have hK5 := hK4.later hb5
  have hB5 := hB4.trans (hb5.mono hB4.size)
  clear hR4 hK4 hB4 hb5 ho5
  go_wp2_with fail
  refine (hPr.out w5 (hE.below hB5)).mono ?_
  rintro e w6 ⟨rfl, hb6⟩
  have h6 := h5.later hb6
  have hR6 := hR5.below hb6
  have hK6 := hK5.later hb6
  have hB6 := hB5.trans (hb6.mono hB5.size)
  clear hR5 hK5 hB5 hb6 h5
  go_wp2_with fail
  refine (hPa.out w6 (hE.below hB6)).mono ?_
  rintro e w7 ⟨rfl, hb7⟩
  have h7 := h6.later hb7
  have hR7 := hR6.below hb7
  have hK7 := hK6.later hb7
  have hB7 := hB6.trans (hb7.mono hB6.size)
  clear hR6 hK6 hB6 hb7 h6
  go_wp2_with fail
  refine (hEn.out w7 _ h7).mono ?_
  rintro e w8 ⟨rfl, hb8⟩
  have hR8 := hR7.below hb8
  have hK8 := hK7.later hb8
  have hB8 := hB7.trans (hb8.mono hB7.size)
  clear hR7 hK7 hB7 hb8 h7
  go_wp2_with fail
  refine (hEk.out w8 _ hK8).mono ?_
  rintro e w9 ⟨rfl, hb9⟩
  have hR9 := hR8.below hb9
  have hB9 := hB8.trans (hb9.mono hB8.size)
  clear hR8 hB8 hb9
  go_wp2_with fail
  refine (hDe.out w9).mono ?_
  rintro e wA ⟨uA, rfl, hoA, hbA⟩
  have hA1 := sliceAt_of_own hoA
  obtain ⟨aA, cA, rfl⟩ := own_val hoA
  have hRA := hR9.below hbA
  have hBA := hB9.trans (hbA.mono hB9.size)
  clear hR9 hB9 hbA hoA
  go_wp2_with fail
  refine (hDk.out wA).mono ?_
  rintro e wB ⟨uB, rfl, hoB, hbB⟩
  have hB1 := sliceAt_of_own hoB
  obtain ⟨aB, cB, rfl⟩ := own_val hoB
  have hA2 := hA1.later hbB
  have hRB := hRA.below hbB
  have hBB := hBA.trans (hbB.mono hBA.size)
  clear hRA hBA hbB hoB hA1
  go_wp2_with fail
  refine (hPf.out wB _ hB1).mono ?_
  rintro e wC ⟨uC, rfl, hoC, hbC⟩
  have hC1 := sliceAt_of_own hoC
  obtain ⟨aC, cC, rfl⟩ := own_val hoC
  have hA3 := hA2.later hbC
  have hRC := hRB.below hbC
  have hBC := hBB.trans (hbC.mono hBB.size)
  have r0 := hRC.cell (j := 0) rfl
  have r1 := hRC.cell (j := 1) rfl
  have r2 := hRC.cell (j := 2) rfl
  clear hRB hBB hbC hoC hA2 hB1 hRC
  unfold relV at hCm
  go_wp2_with fail
  refine (hCm.out wC _ _ hA3 hC1).mono ?_
  rintro e wD ⟨rfl, hbD⟩
  have hA4 := hA3.later hbD
  have hC2 := hC1.later hbD
  have hBD := hBC.trans (hbD.mono hBC.size)
  clear hBC hbD hA3 hC1 r0 r1 r2
  go_wp2_with fail
  refine (hSc.out wD _ hA4).mono ?_
  rintro e wE ⟨rfl, hbE⟩
  have hA5 := hA4.later hbE
  have hC3 := hC2.later hbE
  have hBE := hBD.trans (hbE.mono hBD.size)
  clear hBD hbE hA4 hC2
  go_wp2_with fail
  refine (hSc.out wE _ hC3).mono ?_
  rintro e wF ⟨rfl, hbF⟩
  have hA6 := hA5.later hbF
  have hC4 := hC3.later hbF
  have hBF := hBE.trans (hbF.mono hBE.size)
  clear hBE hbF hA5 hC3
  go_wp2_with fail
  refine (hBm.out wF _ hA6).mono ?_
  rintro e wG ⟨rfl, hbG⟩
  have hC5 := hC4.later hbG
  have hBG := hBF.trans (hbG.mono hBF.size)
  clear hBF hbG hA6 hC4
  go_wp2_with fail
  refine (hBm.out wG _ hC5).mono ?_
  rintro e wH ⟨rfl, hbH⟩
  have hBH := hBG.trans (hbH.mono hBG.size)
  clear hBG hbH hC5
  go_wp2_with fail
  go_ret
  exact ⟨by simp, hBH⟩
end Go.Proofs.YtocpnlifmeffkaaGreatDoor
