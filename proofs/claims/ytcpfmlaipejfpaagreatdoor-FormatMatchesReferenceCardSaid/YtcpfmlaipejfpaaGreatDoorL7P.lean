/-
  Formats of chapter 4: FormatMatchesReference, walked.
  FormatMatchesReference is true of every input: the row, and its tied card. Conditions: the library variables that are read hold what their packages lay in them (the card ties that to the text).
-/
import Derived.Test.YtcpfmlaipejfpaaGreatDoorKU
import Derived.Test.YtcpfmlaipejfpaaGreatDoorKR
import Derived.Test.YtcpfmlaipejfpaaGreatDoorCards
import Derived.Test.YtcpfmlaipejfpaaGreatDoorTie
import Derived.Test.YtcpfmlaipejfpaaGreatDoorKN
import Derived.SevenTiedAt
namespace Go.Proofs.YtcpfmlaipejfpaaGreatDoor
open Go.RowKit Go.Shelf

theorem same_dec (l m : List Fmt) : Lib.allEq fmtB l m = decide (l = m) := by
  rw [Bool.eq_iff_iff, allEq_fmt, decide_eq_true_iff]
theorem one_fmts {w : World} {b : Nat} {id : Int} {v : Value} {fs : List Fld} (hA : Arr w b 34 [.int .i64 id, v]) (hr : w.ownsRow 0 55 4 v fs.length (fldL fs)) (hin : FmtIn [⟨id, fs⟩]) : Fmts w (.slice (some ⟨b, 0, none⟩) 1 1) [⟨id, fs⟩] := by
  have hM : MkL 0 w (.slice (some ⟨b, 0, none⟩) 1 1) [v] [⟨id, fs⟩] := ⟨rfl, ⟨rfl, .inr ⟨b, 1, _, rfl, Nat.zero_le _, hA, Nat.le_refl _, by unfold maxLen; omega, rfl, rfl⟩⟩, fun i hi => by
    have hi1 : i < 1 := hi
    obtain rfl : i = 0 := by omega
    exact hr⟩
  exact hM.fmts hin
theorem find_in {l : List Fmt} {id : Int} {f : Fmt} (h : FmtIn l) (hf : findT l id = some f) (hid : I64 id) : FmtIn [⟨id, f.flds⟩] := by
  have hm : f ∈ l := List.mem_of_find?_eq_some hf
  refine ⟨by simp, fun g hg => ?_, fun g hg => ?_, fun g hg => ?_⟩
  · rw [List.mem_singleton.1 hg]; exact hid
  · rw [List.mem_singleton.1 hg]; exact h.flen f hm
  · rw [List.mem_singleton.1 hg]; exact h.ok f hm
theorem zero_in : FmtIn [⟨0, []⟩] := by
  refine ⟨by simp, fun g hg => ?_, fun g hg => ?_, fun g hg => ?_⟩
  · rw [List.mem_singleton.1 hg]; exact ⟨by dsimp only; omega, by dsimp only; omega⟩
  · rw [List.mem_singleton.1 hg]; exact Nat.zero_le _
  · rw [List.mem_singleton.1 hg]; exact fun x hx => (List.not_mem_nil hx).elim

attribute [local go_sem] Oper.semAt_some

set_option maxRecDepth 100000 in
set_option maxHeartbeats 16000000 in
theorem Matches_any (va : Value) (la : List Fmt) (v0 : Value) (l0 : List Fmt) (v : Value) (n : Nat) (zs : List Int) (z0 z1 z2 z3 z4 : Int) (id : Int) (w : World) (ha : FmtsAt w w.heap.size va la) (hAa : FmtAny la) (h0 : FmtsAt w w.heap.size v0 l0) (hA : FmtAny l0) (hs : SliceAt w w.heap.size v n (zs.map (Value.int .i64))) (hz : zs.length = n * 4) (hI : ∀ z ∈ zs, I64 z) (hh : I64 z0 ∧ I64 z1 ∧ I64 z2 ∧ I64 z3 ∧ I64 z4) (hid : I64 id) (hE : Env w) :
    Calls Tryz.prog 3 #[va, v0, v, .agg #[.int .i64 z0, .int .i64 z1, .int .i64 z2, .int .i64 z3, .int .i64 z4], .int .i64 id] w fun e w' => e = .returned (.bool true) ∧ Below w.heap.size w w' := by
  obtain ⟨W1, hW1⟩ : ∃ W1, W1 = w.alloc (.cells #[.int .i64 z0, .int .i64 z1, .int .i64 z2, .int .i64 z3, .int .i64 z4] 24) := ⟨_, rfl⟩
  have hb1 : Below w.heap.size w W1 := by rw [hW1]; exact (Below.refl _ _).alloc (Nat.le_refl _) _
  have hAz : Hid (Arr W1 w.heap.size 24 [.int .i64 z0, .int .i64 z1, .int .i64 z2, .int .i64 z3, .int .i64 z4]) := by rw [hW1]; exact Arr.new rfl rfl
  go_enter Tryz.func3, Tryz.ntmps3
  go_wp2_with fail
  rw [← hW1]
  clear hW1
  refine (sane_any W1 (hE.below hb1)).mono ?_
  rintro e w2 ⟨rfl, hb2⟩
  have hB2 : Below w.heap.size w w2 := hb1.trans (hb2.mono hb1.size)
  have hE2 := (hE.below hb1).below hb2
  have hAz2 := hAz.out.below hb2
  go_wp2_with fail
  refine (Make_any v n zs w2 (SliceAt.later (SliceAt.later hs hb1) hb2) hz hI).mono ?_
  rintro e w3 ⟨⟨lvB, fvB, lB, rfl, hok, hM⟩, hb3⟩
  have hB3 := hB2.trans (hb3.mono hB2.size)
  have hE3 := hE2.below hb3
  have hAz3 := hAz2.below hb3
  have hFmB := hM.fmts hok.in_
  have hinB := hok.in_
  have h03 := ((h0.later hb1 (Nat.le_refl _)).later hb2 (Nat.le_refl _)).later hb3 (Nat.le_refl _)
  have ha3 := ((ha.later hb1 (Nat.le_refl _)).later hb2 (Nat.le_refl _)).later hb3 (Nat.le_refl _)
  clear hAz hAz2 hs hz hI h0 ha hE hE2 hB2 hM hok hb1 hb2 hb3
  have hHold : ∀ W, Below w3.heap.size w3 W → W.cell? ⟨w.heap.size, 0, none⟩ = some (.int .i64 z0) ∧ W.cell? ⟨w.heap.size, 1, none⟩ = some (.int .i64 z1) ∧ W.cell? ⟨w.heap.size, 2, none⟩ = some (.int .i64 z2) ∧ W.cell? ⟨w.heap.size, 3, none⟩ = some (.int .i64 z3) ∧ W.cell? ⟨w.heap.size, 4, none⟩ = some (.int .i64 z4) := fun W hb =>
    ⟨(hAz3.below hb).cell (j := 0) rfl, (hAz3.below hb).cell (j := 1) rfl, (hAz3.below hb).cell (j := 2) rfl, (hAz3.below hb).cell (j := 3) rfl, (hAz3.below hb).cell (j := 4) rfl⟩
  have hfew := Lib.hid fun (W : World) (hW : Below w3.heap.size w3 W) => few_any v0 l0 W (h03.later hW (Nat.le_refl _)) hA
  have hfea := Lib.hid fun (W : World) (hW : Below w3.heap.size w3 W) => few_any va la W (ha3.later hW (Nat.le_refl _)) hAa
  have hbent := Lib.hid fun (W : World) (hW : Below w3.heap.size w3 W) => bent_any lvB lB z0 z1 z2 z3 z4 W (hFmB.at_.later hW (Nat.le_refl _)) (in_any hinB) hh
  obtain ⟨aB, cB, hvB, _⟩ := hFmB.val
  subst hvB
  replace h03 := Lib.hid h03
  replace ha3 := Lib.hid ha3
  have hinX := Lib.hid (few_in hAa)
  replace hFmB := Lib.hid hFmB
  replace hE3 := Lib.hid hE3
  replace hB3 := Lib.hid hB3
  replace hAz3 := Lib.hid hAz3
  have hinA := Lib.hid (few_in hA)
  go_wp2_with fail
  refine wp_region_held_drew (S := fun w' => w'.cell? ⟨w.heap.size, 0, none⟩ = some (.int .i64 z0) ∧ w'.cell? ⟨w.heap.size, 1, none⟩ = some (.int .i64 z1) ∧ w'.cell? ⟨w.heap.size, 2, none⟩ = some (.int .i64 z2) ∧ w'.cell? ⟨w.heap.size, 3, none⟩ = some (.int .i64 z3) ∧ w'.cell? ⟨w.heap.size, 4, none⟩ = some (.int .i64 z4)) (by kernel_rfl) (by first | exact hHold _ (Below.refl _ _) | exact hHold _ (Below.refl _ _).drew) (fun hHeld => ?_)
  refine take_l (i := 0) (v := ?_) rfl (by kernel_rfl) (by kernel_rfl) (by kernel_rfl) (fun _ _ _ h => h) (Or.inl ⟨by kernel_rfl, ?_⟩) (by assumption) ?_
  rotate_left
  · intro w hSw; (try dsimp only at hSw); go_simp; (try with_reducible rfl)
  (try simp only [Act.put, List.setIfInBounds_toArray, List.set_cons_zero, List.set_cons_succ])
  refine take_l (i := 2) (v := ?_) rfl (by kernel_rfl) (by kernel_rfl) (by kernel_rfl) (fun _ _ _ h => h) (Or.inl ⟨by kernel_rfl, ?_⟩) (by assumption) ?_
  rotate_left
  · intro w hSw; (try dsimp only at hSw); go_simp; (try with_reducible rfl)
  (try simp only [Act.put, List.setIfInBounds_toArray, List.set_cons_zero, List.set_cons_succ])
  refine take_l (i := 4) (v := ?_) rfl (by kernel_rfl) (by kernel_rfl) (by kernel_rfl) (fun _ _ _ h => h) (Or.inl ⟨by kernel_rfl, ?_⟩) (by assumption) ?_
  rotate_left
  · intro w hSw; (try dsimp only at hSw); go_simp; (try with_reducible rfl)
  (try simp only [Act.put, List.setIfInBounds_toArray, List.set_cons_zero, List.set_cons_succ])
  refine take_l (i := 5) (v := ?_) rfl (by kernel_rfl) (by kernel_rfl) (by kernel_rfl) (fun _ _ _ h => h) (Or.inl ⟨by kernel_rfl, ?_⟩) (by assumption) ?_
  rotate_left
  · intro w hSw; (try dsimp only at hSw); go_simp; (try with_reducible rfl)
  (try simp only [Act.put, List.setIfInBounds_toArray, List.set_cons_zero, List.set_cons_succ])
  refine take_l (i := 6) (v := ?_) rfl (by kernel_rfl) (by kernel_rfl) (by kernel_rfl) (fun _ _ _ h => h) (Or.inl ⟨by kernel_rfl, ?_⟩) (by assumption) ?_
  rotate_left
  · intro w hSw; (try dsimp only at hSw); go_simp; (try with_reducible rfl)
  (try simp only [Act.put, List.setIfInBounds_toArray, List.set_cons_zero, List.set_cons_succ])
  refine wpAnyH_ready (rs := [1]) (by kernel_rfl) (by simp) ?_
  refine ready_l rfl (fun K hK => ?_) AllReadyH.nil
  go_simp
  refine (hfea.out _ (by first | exact Below.refl _ _ | exact (Below.refl _ _).drew)).mono ?_
  rintro e w4 ⟨⟨lvX, fvX, rfl, hFX⟩, hb4⟩
  have hb4' : Below w3.heap.size w3 w4 := by first | exact hb4 | exact (Below.refl _ _).drew.trans hb4
  refine hK.out _ _ (by exact hHold _ hb4') (fun hHeld => ?_)
  clear hK K
  (try simp only [Act.put, List.setIfInBounds_toArray, List.set_cons_zero, List.set_cons_succ])
  refine wpAnyH_ready (rs := [3]) (by kernel_rfl) (by simp) ?_
  refine ready_l rfl (fun K hK => ?_) AllReadyH.nil
  go_simp
  refine (hfew.out _ (by first | exact hb4' | exact hb4'.drew)).mono ?_
  rintro e w5 ⟨⟨lvA, fvA, rfl, hFA⟩, hb5⟩
  have hb5' : Below w4.heap.size w4 w5 := by first | exact hb5 | exact (Below.refl _ _).drew.trans hb5
  have hb5w := hb4'.trans (hb5'.mono hb4'.size)
  refine hK.out _ _ (by exact hHold _ hb5w) (fun hHeld => ?_)
  clear hK K
  (try simp only [Act.put, List.setIfInBounds_toArray, List.set_cons_zero, List.set_cons_succ])
  refine wpAnyH_ready (rs := [7]) (by kernel_rfl) (by simp) ?_
  refine ready_l rfl (fun K hK => ?_) AllReadyH.nil
  go_simp
  refine (hbent.out _ (by first | exact hb5w | exact hb5w.drew)).mono ?_
  rintro e w6 ⟨⟨lvC, LC, rfl, hFC⟩, hb6⟩
  have hb6' : Below w5.heap.size w5 w6 := by first | exact hb6 | exact (Below.refl _ _).drew.trans hb6
  have hb6w := hb5w.trans (hb6'.mono hb5w.size)
  refine hK.out _ _ (by exact hHold _ hb6w) (fun hHeld => ?_)
  clear hK K
  (try simp only [Act.put, List.setIfInBounds_toArray, List.set_cons_zero, List.set_cons_succ])
  obtain ⟨aX, cX, hvX⟩ : ∃ aX cX, lvX = .slice aX (fewL la).length cX := own_val hFX.of_.row
  subst hvX
  have hFmX := ((hFX.of_.fmts hinX.out).later hb5').later hb6'
  obtain ⟨aA, cA, hvA⟩ : ∃ aA cA, lvA = .slice aA (fewL l0).length cA := own_val hFA.of_.row
  subst hvA
  have hFmA := (hFA.of_.fmts hinA.out).later hb6'
  obtain ⟨aC, cC, hvC, _⟩ := hFC.val
  subst hvC
  refine wpAnyH_ready (rs := [8]) (by kernel_rfl) (by simp) ?_
  refine ready_l rfl (fun K hK => ?_) AllReadyH.nil
  go_simp
  refine hK.out _ _ (by first | exact hHold _ (hb6w.alloc hb6w.size _) | exact hHold _ (hb6w.alloc hb6w.size _).drew) (fun hHeld => ?_)
  clear hK K
  (try simp only [Act.put, List.setIfInBounds_toArray, List.set_cons_zero, List.set_cons_succ])
  refine take_l (i := 9) (v := ?_) rfl (by kernel_rfl) (by kernel_rfl) (by kernel_rfl) (fun _ _ _ h => h) (Or.inl ⟨by kernel_rfl, ?_⟩) (by assumption) ?_
  rotate_left
  · intro w hSw; (try dsimp only at hSw); go_simp; (try with_reducible rfl)
  (try simp only [Act.put, List.setIfInBounds_toArray, List.set_cons_zero, List.set_cons_succ])
  refine wpAnyH_done (by kernel_rfl) ?_ _
  refine name_then ?_
  intro W6 hW6
  have hb7 : Below w6.heap.size w6 W6 := by rw [hW6]; first | exact (Below.refl _ _).alloc (Nat.le_refl _) _ | exact ((Below.refl _ _).alloc (Nat.le_refl _) _).drew
  have hA6 : Arr W6 w6.heap.size 22 [.slice aX (fewL la).length cX, .slice aA (fewL l0).length cA, .slice aB lB.length cB, .slice aC LC.length cC] := by rw [hW6]; first | exact Arr.new rfl rfl | exact (Arr.new rfl rfl).drew
  have hFmX6 := hFmX.later hb7
  have hFmA6 := hFmA.later hb7
  have hFmB6 := (hFmB.out.later hb6w).later hb7
  have hFmC6 := hFC.later hb7
  have hb7w := hb6w.trans (hb7.mono hb6w.size)
  have hB6 := Lib.hid (hB3.out.trans (hb7w.mono hB3.out.size))
  have hE6 := Lib.hid (hE3.out.below hb7w)
  clear hW6 hb7 hb7w hb6w hb6' hb6 hb5w hb5' hb4' hb5 hb4 hFmA hFmX hFC hFA hFX hFmB hB3 hE3 hbent hfew hfea hHold hAz3 hinA hinX h03 ha3
  obtain ⟨lX, hlX⟩ : ∃ lX, lX = fewL la := ⟨_, rfl⟩
  rw [← hlX] at hA6 hFmX6 ⊢
  clear hlX
  obtain ⟨lA, hlA⟩ : ∃ lA, lA = fewL l0 := ⟨_, rfl⟩
  rw [← hlA] at hA6 hFmA6 ⊢
  clear hlA
  obtain ⟨LS, hLS⟩ : ∃ LS, LS = [lX, lA, lB, LC] := ⟨_, rfl⟩
  have hLl : Hid (LS.length = 4) := by show _ = _; rw [hLS]; rfl
  have hT : Hid (Tabs W6 w6.heap.size LS) := fun k hk => by
    rw [hLS] at hk ⊢
    have hk3 : k < 4 := hk
    obtain rfl | rfl | rfl | rfl : k = 0 ∨ k = 1 ∨ k = 2 ∨ k = 3 := by omega
    · exact ⟨aX, cX, hA6.cell (j := 0) rfl, hFmX6⟩
    · exact ⟨aA, cA, hA6.cell (j := 1) rfl, hFmA6⟩
    · exact ⟨aB, cB, hA6.cell (j := 2) rfl, hFmB6⟩
    · exact ⟨aC, cC, hA6.cell (j := 3) rfl, hFmC6⟩
  have hc0 := hA6.cell (j := 0) rfl
  have hFX6 := Lib.hid hFmX6
  have hFB6 := Lib.hid hFmB6
  clear hA6 hFmX6 hFmA6 hFmB6 hFmC6 hLS
  generalize w6.heap.size = BT at *
  generalize hnX : lX.length = nX at *
  generalize hnB : lB.length = nB at *
  generalize LC.length = nC at *
  generalize lA.length = nA at *
  replace hnX := Lib.hid hnX
  replace hnB := Lib.hid hnB
  have hc0' := Lib.hid fun (W : World) (hW : Below W6.heap.size W6 W) => (hW.cell (p := ⟨BT, 0, none⟩) (World.block_lt_of_cell? _ _ hc0)).trans hc0
  clear hc0
  have hpk := Lib.hid fun W => pick_any id 22 W hid (by omega) (by omega)
  have hpv := pickv_lt id 22 (by omega)
  generalize pickv id 22 = pp at *
  go_wp2_with fail
  go_loopw [14] (fun iv wr => ∃ i : Nat, iv = .int .i64 (i : Int) ∧ i ≤ 4 ∧ Hid (Below W6.heap.size W6 wr)) (fun iv _ => 4 - (intOf iv).toNat)
  case atStart => exact ⟨0, rfl, Nat.zero_le _, (show Hid _ from Below.refl _ _)⟩
  case round =>
    obtain ⟨i, rfl, hi, hS⟩ := hrel
    by_cases hlt : i < 4
    · have hd : decide ((i : Int) < 4) = true := decide_eq_true (by omega)
      have i0 : (0 : Int) ≤ (i : Int) := by omega
      have i1 : (i : Int) < 4 := by omega
      have hwi : IntKind.i64.wrap ((i : Int) + 1) = ((i + 1 : Nat) : Int) := by rw [Int.natCast_succ]; exact IntWalk.i64_in _ (by omega)
      obtain ⟨ai, ci, y0, hFi⟩ := hT.out i (by rw [hLl.out]; exact hlt)
      obtain ⟨Li, hLi⟩ : ∃ Li, Li = LS[i]! := ⟨_, rfl⟩
      rw [← hLi] at y0 hFi
      clear hLi
      have hFY := Lib.hid fun (W : World) (hW : Below W6.heap.size W6 W) => hFi.later hW
      have hin := Lib.hid hFi.in_
      have yr := (hS.out.cell (p := ⟨BT, i, none⟩) (World.block_lt_of_cell? _ _ y0)).trans y0
      clear hFi y0
      generalize hln : Li.length = ln at *
      replace hln := Lib.hid hln
      obtain ⟨W8, hW8⟩ : ∃ W8, W8 = wr.alloc (.cells #[.int .i64 id, .int .i64 (pp : Int)] 3) := ⟨_, rfl⟩
      have hb8 : Below wr.heap.size wr W8 := by rw [hW8]; exact (Below.refl _ _).alloc (Nat.le_refl _) _
      have hA8 : Arr W8 wr.heap.size 3 [.int .i64 id, .int .i64 (pp : Int)] := by rw [hW8]; exact Arr.new rfl rfl
      have d8 := Lib.hid (hS.out.trans (hb8.mono hS.out.size))
      have hids : Hid (∀ W, Below W8.heap.size W8 W → ∀ j, j < 2 → ∃ x, I64 x ∧ W.cell? ⟨wr.heap.size, j, none⟩ = some (.int .i64 x)) := fun W hW j hj => by
        have := hA8.below hW
        obtain rfl | rfl : j = 0 ∨ j = 1 := by omega
        · exact ⟨id, hid, this.cell (j := 0) rfl⟩
        · exact ⟨pp, ⟨by omega, by omega⟩, this.cell (j := 1) rfl⟩
      clear hb8 hA8
      go_wp2_with fail
      refine (hpk.out _).mono ?_
      rintro e u1 ⟨rfl, hw⟩
      subst u1
      go_wp2_with fail
      rw [← hW8]
      clear hW8 yr
      generalize wr.heap.size = BI at *
      go_loopw [49] (fun jv wr => ∃ j : Nat, jv = .int .i64 (j : Int) ∧ j ≤ 2 ∧ Hid (Below W8.heap.size W8 wr)) (fun jv _ => 2 - (intOf jv).toNat)
      case atStart => exact ⟨0, rfl, Nat.zero_le _, (show Hid _ from Below.refl _ _)⟩
      case round =>
        obtain ⟨j, rfl, hj, hJ⟩ := hrel
        by_cases hjl : j < 2
        · have hdj : decide ((j : Int) < 2) = true := decide_eq_true (by omega)
          have j0 : (0 : Int) ≤ (j : Int) := by omega
          have j1 : (j : Int) < 2 := by omega
          have hwj : IntKind.i64.wrap ((j : Int) + 1) = ((j + 1 : Nat) : Int) := by rw [Int.natCast_succ]; exact IntWalk.i64_in _ (by omega)
          obtain ⟨x, hx, x0⟩ := hids.out _ hJ.out j hjl
          have e0 := d8.out.trans (hJ.out.mono d8.out.size)
          have hf1 := find_any _ Li x wr (hFY.out _ e0).at_ hin.out
          go_wp2_with fail
          refine hf1.mono ?_
          rintro e u1 ⟨c1, hc1⟩
          have e1 := e0.trans (c1.mono e0.size)
          rcases hc1 with ⟨hn, rfl⟩ | ⟨f, v', hf, rfl, hr⟩
          · skip
            obtain ⟨W9, hW9⟩ : ∃ W9, W9 = u1.alloc (.cells #[.int .i64 0, .slice none 0 0] 34) := ⟨_, rfl⟩
            have b9 : Below u1.heap.size u1 W9 := by rw [hW9]; exact (Below.refl _ _).alloc (Nat.le_refl _) _
            have hA9 : Arr W9 u1.heap.size 34 [.int .i64 0, .slice none 0 0] := by rw [hW9]; exact Arr.new rfl rfl
            have e9 := e1.trans (b9.mono e1.size)
            have f9 := c1.trans (b9.mono c1.size)
            go_upto_region 12 with fail
            rw [← hW9]
            clear hW9
            generalize u1.heap.size = F1 at *
            go_wp2_with fail
            refine (findR_any _ Li x W9 (hFY.out _ e9)).mono ?_
            rintro e u2 ⟨c2, hc2⟩
            have e2 := e9.trans (c2.mono e9.size)
            rcases hc2 with ⟨_, rfl⟩ | ⟨f2, v2', hf2, rfl, hr2⟩
            rotate_left
            · rw [hn] at hf2; cases hf2
            obtain ⟨W10, hW10⟩ : ∃ W10, W10 = u2.alloc (.cells #[.int .i64 0, .slice none 0 0] 34) := ⟨_, rfl⟩
            have b10 : Below u2.heap.size u2 W10 := by rw [hW10]; exact (Below.refl _ _).alloc (Nat.le_refl _) _
            have hA10 : Arr W10 u2.heap.size 34 [.int .i64 0, .slice none 0 0] := by rw [hW10]; exact Arr.new rfl rfl
            have e10 := e2.trans (b10.mono e2.size)
            have q2 := f9.trans (c2.mono f9.size)
            have f10 := q2.trans (b10.mono q2.size)
            have hA9' := (hA9.below c2).below b10
            obtain ⟨W11, hW11⟩ : ∃ W11, W11 = W10.alloc (.cells #[.int .i64 0, .slice none 0 0] 34) := ⟨_, rfl⟩
            have b11 : Below W10.heap.size W10 W11 := by rw [hW11]; exact (Below.refl _ _).alloc (Nat.le_refl _) _
            have hA11 : Arr W11 W10.heap.size 34 [.int .i64 0, .slice none 0 0] := by rw [hW11]; exact Arr.new rfl rfl
            have e11 := e10.trans (b11.mono e10.size)
            have hs11 : W11.heap.size = W10.heap.size + 1 := by rw [hW11]; simp
            obtain ⟨W12, hW12⟩ : ∃ W12, W12 = W11.alloc (.cells #[.int .i64 0, .slice none 0 0] 34) := ⟨_, rfl⟩
            have b12 : Below W11.heap.size W11 W12 := by rw [hW12]; exact (Below.refl _ _).alloc (Nat.le_refl _) _
            have hA12 : Arr W12 W11.heap.size 34 [.int .i64 0, .slice none 0 0] := by rw [hW12]; exact Arr.new rfl rfl
            have e12 := e11.trans (b12.mono e11.size)
            have hA11' := hA11.below b12
            have hsm := sameR_any _ _ [⟨0, []⟩] [⟨0, []⟩] W12 (one_fmts hA11' ⟨rfl, .inl ⟨rfl, rfl⟩⟩ zero_in) (one_fmts hA12 ⟨rfl, .inl ⟨rfl, rfl⟩⟩ zero_in)
            rw [decide_eq_true rfl, hs11] at hsm
            replace hsm := Lib.hid hsm
            replace hs11 := Lib.hid hs11
            have g0 := hA9'.cell (j := 0) rfl
            have g1 := hA9'.cell (j := 1) rfl
            have k0 := (hA10.below b11).cell (j := 0) rfl
            have k1 := (hA10.below b11).cell (j := 1) rfl
            replace hA9 := Lib.hid hA9
            replace hA10 := Lib.hid hA10
            replace hA11 := Lib.hid hA11
            replace hA12 := Lib.hid hA12
            clear hA9' hA11'
            go_upto_region 13 with fail
            rw [← hW10]
            clear hW10
            generalize u2.heap.size = F2 at *
            rw [hW11] at k0 k1
            go_wp2_with fail
            rw [← hW11, ← hW12]
            refine hsm.out.mono ?_
            rintro e u3 ⟨rfl, c3⟩
            have e3 := e12.trans (c3.mono e12.size)
            have hl1 := least_any _ Li x hx u3 (hFY.out _ e3).at_ hin.out
            have hl2 := Lib.hid fun (W : World) (hW : Below W6.heap.size W6 W) => leastRf_any _ Li x W (hFY.out W hW)
            generalize leastT Li x = ms at *
            have mm : (ms == ms) = true := beq_self_eq_true _
            go_wp2_with fail
            refine hl1.mono ?_
            rintro e u4 ⟨rfl, c4⟩
            have e4 := e3.trans (c4.mono e3.size)
            go_wp2_with fail
            refine (hl2.out _ e4).mono ?_
            rintro e u5 ⟨rfl, c5⟩
            have f11 := f10.trans (b11.mono f10.size)
            have f12 := f11.trans (b12.mono f11.size)
            have f3 := f12.trans (c3.mono f12.size)
            have f4 := f3.trans (c4.mono f3.size)
            have f5 := f4.trans (c5.mono f4.size)
            have hJn := Lib.hid (hJ.out.trans (f5.mono hJ.out.size))
            clear f9 q2 f10 f11 f12 f3 f4 f5
            go_wp2_with fail
            exact ⟨⟨j + 1, by first | rfl | go_num, by omega, hJn⟩, by simp [intOf]; omega⟩
          · skip
            obtain ⟨va', vc', rfl⟩ := own_val hr
            obtain ⟨W9, hW9⟩ : ∃ W9, W9 = u1.alloc (.cells #[.int .i64 x, .slice va' f.flds.length vc'] 34) := ⟨_, rfl⟩
            have b9 : Below u1.heap.size u1 W9 := by rw [hW9]; exact (Below.refl _ _).alloc (Nat.le_refl _) _
            have hA9 : Arr W9 u1.heap.size 34 [.int .i64 x, .slice va' f.flds.length vc'] := by rw [hW9]; exact Arr.new rfl rfl
            have e9 := e1.trans (b9.mono e1.size)
            have f9 := c1.trans (b9.mono c1.size)
            have hr9 := own_below (own_lower hr (Nat.zero_le _)) b9
            go_upto_region 12 with fail
            rw [← hW9]
            clear hW9
            generalize u1.heap.size = F1 at *
            go_wp2_with fail
            refine (findR_any _ Li x W9 (hFY.out _ e9)).mono ?_
            rintro e u2 ⟨c2, hc2⟩
            have e2 := e9.trans (c2.mono e9.size)
            rcases hc2 with ⟨hn, rfl⟩ | ⟨f2, v2', hf2, rfl, hr2⟩
            · rw [hf] at hn; cases hn
            obtain rfl : f2 = f := by rw [hf] at hf2; exact (Option.some.inj hf2).symm
            obtain ⟨vb', vd', rfl⟩ := own_val hr2
            obtain ⟨W10, hW10⟩ : ∃ W10, W10 = u2.alloc (.cells #[.int .i64 x, .slice vb' f2.flds.length vd'] 34) := ⟨_, rfl⟩
            have b10 : Below u2.heap.size u2 W10 := by rw [hW10]; exact (Below.refl _ _).alloc (Nat.le_refl _) _
            have hA10 : Arr W10 u2.heap.size 34 [.int .i64 x, .slice vb' f2.flds.length vd'] := by rw [hW10]; exact Arr.new rfl rfl
            have e10 := e2.trans (b10.mono e2.size)
            have q2 := f9.trans (c2.mono f9.size)
            have f10 := q2.trans (b10.mono q2.size)
            have hA9' := (hA9.below c2).below b10
            obtain ⟨W11, hW11⟩ : ∃ W11, W11 = W10.alloc (.cells #[.int .i64 x, .slice va' f2.flds.length vc'] 34) := ⟨_, rfl⟩
            have b11 : Below W10.heap.size W10 W11 := by rw [hW11]; exact (Below.refl _ _).alloc (Nat.le_refl _) _
            have hA11 : Arr W11 W10.heap.size 34 [.int .i64 x, .slice va' f2.flds.length vc'] := by rw [hW11]; exact Arr.new rfl rfl
            have e11 := e10.trans (b11.mono e10.size)
            have hs11 : W11.heap.size = W10.heap.size + 1 := by rw [hW11]; simp
            obtain ⟨W12, hW12⟩ : ∃ W12, W12 = W11.alloc (.cells #[.int .i64 x, .slice vb' f2.flds.length vd'] 34) := ⟨_, rfl⟩
            have b12 : Below W11.heap.size W11 W12 := by rw [hW12]; exact (Below.refl _ _).alloc (Nat.le_refl _) _
            have hA12 : Arr W12 W11.heap.size 34 [.int .i64 x, .slice vb' f2.flds.length vd'] := by rw [hW12]; exact Arr.new rfl rfl
            have e12 := e11.trans (b12.mono e11.size)
            have hA11' := hA11.below b12
            have hr12 := own_below (own_below (own_below (own_below hr9 c2) b10) b11) b12
            have hs12 := own_below (own_below (own_below (own_lower hr2 (Nat.zero_le _)) b10) b11) b12
            have hin1 := find_in hin.out hf hx
            have hsm := sameR_any _ _ [⟨x, f2.flds⟩] [⟨x, f2.flds⟩] W12 (one_fmts hA11' hr12 hin1) (one_fmts hA12 hs12 hin1)
            rw [decide_eq_true rfl, hs11] at hsm
            replace hsm := Lib.hid hsm
            replace hs11 := Lib.hid hs11
            have g0 := hA9'.cell (j := 0) rfl
            have g1 := hA9'.cell (j := 1) rfl
            have k0 := (hA10.below b11).cell (j := 0) rfl
            have k1 := (hA10.below b11).cell (j := 1) rfl
            replace hA9 := Lib.hid hA9
            replace hA10 := Lib.hid hA10
            replace hA11 := Lib.hid hA11
            replace hA12 := Lib.hid hA12
            replace hr9 := Lib.hid hr9
            replace hr12 := Lib.hid hr12
            replace hs12 := Lib.hid hs12
            replace hr := Lib.hid hr
            replace hr2 := Lib.hid hr2
            clear hA9' hA11'
            go_upto_region 13 with fail
            rw [← hW10]
            clear hW10
            generalize u2.heap.size = F2 at *
            rw [hW11] at k0 k1
            go_wp2_with fail
            rw [← hW11, ← hW12]
            refine hsm.out.mono ?_
            rintro e u3 ⟨rfl, c3⟩
            have e3 := e12.trans (c3.mono e12.size)
            have hl1 := least_any _ Li x hx u3 (hFY.out _ e3).at_ hin.out
            have hl2 := Lib.hid fun (W : World) (hW : Below W6.heap.size W6 W) => leastRf_any _ Li x W (hFY.out W hW)
            generalize leastT Li x = ms at *
            have mm : (ms == ms) = true := beq_self_eq_true _
            go_wp2_with fail
            refine hl1.mono ?_
            rintro e u4 ⟨rfl, c4⟩
            have e4 := e3.trans (c4.mono e3.size)
            go_wp2_with fail
            refine (hl2.out _ e4).mono ?_
            rintro e u5 ⟨rfl, c5⟩
            have f11 := f10.trans (b11.mono f10.size)
            have f12 := f11.trans (b12.mono f11.size)
            have f3 := f12.trans (c3.mono f12.size)
            have f4 := f3.trans (c4.mono f3.size)
            have f5 := f4.trans (c5.mono f4.size)
            have hJn := Lib.hid (hJ.out.trans (f5.mono hJ.out.size))
            clear f9 q2 f10 f11 f12 f3 f4 f5
            go_wp2_with fail
            exact ⟨⟨j + 1, by first | rfl | go_num, by omega, hJn⟩, by simp [intOf]; omega⟩
        · obtain rfl : j = 2 := by omega
          have dJ := d8.out.trans (hJ.out.mono d8.out.size)
          have hHold : Hid (∀ W, Below wr.heap.size wr W → W.cell? ⟨BT, 0, none⟩ = some (.slice aX nX cX)) := fun W hW => hc0'.out W (dJ.trans (hW.mono dJ.size))
          have hv1 := Lib.hid fun (W : World) (hW : Below wr.heap.size wr W) => valid_any _ Li W (hFY.out W (dJ.trans (hW.mono dJ.size))).at_ hin.out
          have hv2 := fun (W : World) (hW : Below wr.heap.size wr W) => validR_any _ Li W (hFY.out W (dJ.trans (hW.mono dJ.size)))
          rw [← validT_eq] at hv2
          have hs1 := fun (W : World) (hW : Below wr.heap.size wr W) => same_any _ _ Li lX W (hFY.out W (dJ.trans (hW.mono dJ.size))).at_ (hFX6.out.later (dJ.trans (hW.mono dJ.size))).at_ hin.out hFX6.out.in_
          have hs2 := Lib.hid fun (W : World) (hW : Below wr.heap.size wr W) => sameR_any _ _ Li lX W (hFY.out W (dJ.trans (hW.mono dJ.size))) (hFX6.out.later (dJ.trans (hW.mono dJ.size)))
          have hs3 := fun (W : World) (hW : Below wr.heap.size wr W) => same_any _ _ Li lB W (hFY.out W (dJ.trans (hW.mono dJ.size))).at_ (hFB6.out.later (dJ.trans (hW.mono dJ.size))).at_ hin.out hFB6.out.in_
          have hs4 := Lib.hid fun (W : World) (hW : Below wr.heap.size wr W) => sameR_any _ _ Li lB W (hFY.out W (dJ.trans (hW.mono dJ.size))) (hFB6.out.later (dJ.trans (hW.mono dJ.size)))
          rw [same_dec] at hs1 hs3
          replace hv2 := Lib.hid hv2
          replace hs1 := Lib.hid hs1
          replace hs3 := Lib.hid hs3
          generalize validT Li = bv at *
          generalize decide (Li = lX) = bx at *
          generalize decide (Li = lB) = bb at *
          have rv : (bv != bv) = false := bne_self_eq_false _
          have rx : (bx != bx) = false := bne_self_eq_false _
          have rb : (bb != bb) = false := bne_self_eq_false _
          clear hj hjl
          go_wp2_with fail
          refine wp_region_held_drew (S := fun w' => w'.cell? ⟨BT, 0, none⟩ = some (.slice aX nX cX)) (by kernel_rfl) (by first | exact hHold.out _ (Below.refl _ _) | exact hHold.out _ (Below.refl _ _).drew) (fun hHeld => ?_)
          refine take_l (i := 0) (v := ?_) rfl (by kernel_rfl) (by kernel_rfl) (by kernel_rfl) (fun _ _ _ h => h) (Or.inl ⟨by kernel_rfl, ?_⟩) (by assumption) ?_
          rotate_left
          · intro w hSw; (try dsimp only at hSw); go_simp; (try with_reducible rfl)
          (try simp only [Act.put, List.setIfInBounds_toArray, List.set_cons_zero, List.set_cons_succ])
          refine take_l (i := 2) (v := ?_) rfl (by kernel_rfl) (by kernel_rfl) (by kernel_rfl) (fun _ _ _ h => h) (Or.inl ⟨by kernel_rfl, ?_⟩) (by assumption) ?_
          rotate_left
          · intro w hSw; (try dsimp only at hSw); go_simp; (try with_reducible rfl)
          (try simp only [Act.put, List.setIfInBounds_toArray, List.set_cons_zero, List.set_cons_succ])
          refine wpAnyH_ready (rs := [1]) (by kernel_rfl) (by simp) ?_
          refine ready_l rfl (fun K hK => ?_) AllReadyH.nil
          go_simp
          refine (hv1.out _ (by first | exact Below.refl _ _ | exact (Below.refl _ _).drew)).mono ?_
          rintro e t1 ⟨rfl, g1⟩
          have p1 : Below wr.heap.size wr t1 := by first | exact g1 | exact (Below.refl _ _).drew.trans g1
          refine hK.out _ _ (by exact hHold.out _ p1) (fun hHeld => ?_)
          clear hK K
          (try simp only [Act.put, List.setIfInBounds_toArray, List.set_cons_zero, List.set_cons_succ])
          refine wpAnyH_ready (rs := [3]) (by kernel_rfl) (by simp) ?_
          refine ready_l rfl (fun K hK => ?_) AllReadyH.nil
          go_simp
          refine (hv2.out _ (by first | exact p1 | exact p1.drew)).mono ?_
          rintro e t2 ⟨rfl, g2⟩
          have p2 : Below wr.heap.size wr t2 := p1.trans (Below.mono (by first | exact g2 | exact (Below.refl _ _).drew.trans g2) p1.size)
          refine hK.out _ _ (by exact hHold.out _ p2) (fun hHeld => ?_)
          clear hK K
          (try simp only [Act.put, List.setIfInBounds_toArray, List.set_cons_zero, List.set_cons_succ])
          refine take_l (i := 4) (v := ?_) rfl (by kernel_rfl) (by kernel_rfl) (by kernel_rfl) (fun _ _ _ h => h) (Or.inl ⟨by kernel_rfl, ?_⟩) (by assumption) ?_
          rotate_left
          · intro w hSw; (try dsimp only at hSw); go_simp; (try with_reducible rfl)
          (try simp only [Act.put, List.setIfInBounds_toArray, List.set_cons_zero, List.set_cons_succ])
          refine take_l (i := 5) (v := ?_) rfl (by kernel_rfl) (by kernel_rfl) (by kernel_rfl) (fun _ _ _ h => h) (Or.inl ⟨by kernel_rfl, ?_⟩) (by assumption) ?_
          rotate_left
          · intro w hSw; (try dsimp only at hSw); go_simp; (try with_reducible rfl)
          (try simp only [Act.put, List.setIfInBounds_toArray, List.set_cons_zero, List.set_cons_succ])
          refine take_l (i := 6) (v := ?_) rfl (by kernel_rfl) (by kernel_rfl) (by kernel_rfl) (fun _ _ _ h => h) (Or.inl ⟨by kernel_rfl, ?_⟩) (by assumption) ?_
          rotate_left
          · intro w hSw; (try dsimp only at hSw); go_simp; (try with_reducible rfl)
          (try simp only [Act.put, List.setIfInBounds_toArray, List.set_cons_zero, List.set_cons_succ])
          refine take_l (i := 7) (v := ?_) rfl (by kernel_rfl) (by kernel_rfl) (by kernel_rfl) (fun _ _ _ h => h) (Or.inl ⟨by kernel_rfl, ?_⟩) (by assumption) ?_
          rotate_left
          · intro w hSw; (try dsimp only at hSw); go_simp; (try with_reducible rfl)
          (try simp only [Act.put, List.setIfInBounds_toArray, List.set_cons_zero, List.set_cons_succ])
          refine take_l (i := 8) (v := ?_) rfl (by kernel_rfl) (by kernel_rfl) (by kernel_rfl) (fun _ _ _ h => h) (Or.inl ⟨by kernel_rfl, ?_⟩) (by assumption) ?_
          rotate_left
          · intro w hSw; (try dsimp only at hSw); go_simp; (try with_reducible rfl)
          (try simp only [Act.put, List.setIfInBounds_toArray, List.set_cons_zero, List.set_cons_succ])
          refine take_l (i := 9) (v := ?_) rfl (by kernel_rfl) (by kernel_rfl) (by kernel_rfl) (fun _ _ _ h => h) (Or.inl ⟨by kernel_rfl, ?_⟩) (by assumption) ?_
          rotate_left
          · intro w hSw; (try dsimp only at hSw); go_simp; (try with_reducible rfl)
          (try simp only [Act.put, List.setIfInBounds_toArray, List.set_cons_zero, List.set_cons_succ])
          refine take_l (i := 11) (v := ?_) rfl (by kernel_rfl) (by kernel_rfl) (by kernel_rfl) (fun _ _ _ h => h) (Or.inl ⟨by kernel_rfl, ?_⟩) (by assumption) ?_
          rotate_left
          · intro w hSw; (try dsimp only at hSw); go_simp; (try with_reducible rfl)
          (try simp only [Act.put, List.setIfInBounds_toArray, List.set_cons_zero, List.set_cons_succ])
          refine take_l (i := 12) (v := ?_) rfl (by kernel_rfl) (by kernel_rfl) (by kernel_rfl) (fun _ _ _ h => h) (Or.inl ⟨by kernel_rfl, ?_⟩) (by assumption) ?_
          rotate_left
          · intro w hSw; (try dsimp only at hSw); go_simp; (try with_reducible rfl)
          (try simp only [Act.put, List.setIfInBounds_toArray, List.set_cons_zero, List.set_cons_succ])
          refine take_l (i := 13) (v := ?_) rfl (by kernel_rfl) (by kernel_rfl) (by kernel_rfl) (fun _ _ _ h => h) (Or.inl ⟨by kernel_rfl, ?_⟩) (by assumption) ?_
          rotate_left
          · intro w hSw; (try dsimp only at hSw); go_simp; (try with_reducible rfl)
          (try simp only [Act.put, List.setIfInBounds_toArray, List.set_cons_zero, List.set_cons_succ])
          refine take_l (i := 14) (v := ?_) rfl (by kernel_rfl) (by kernel_rfl) (by kernel_rfl) (fun _ _ _ h => h) (Or.inl ⟨by kernel_rfl, ?_⟩) (by assumption) ?_
          rotate_left
          · intro w hSw; (try dsimp only at hSw); go_simp; (try with_reducible rfl)
          (try simp only [Act.put, List.setIfInBounds_toArray, List.set_cons_zero, List.set_cons_succ])
          refine wpAnyH_ready (rs := [10]) (by kernel_rfl) (by simp) ?_
          refine ready_l rfl (fun K hK => ?_) AllReadyH.nil
          go_simp
          refine (hs1.out _ (by first | exact p2 | exact p2.drew)).mono ?_
          rintro e t3 ⟨rfl, g3⟩
          have p3 : Below wr.heap.size wr t3 := p2.trans (Below.mono (by first | exact g3 | exact (Below.refl _ _).drew.trans g3) p2.size)
          refine hK.out _ _ (by exact hHold.out _ p3) (fun hHeld => ?_)
          clear hK K
          (try simp only [Act.put, List.setIfInBounds_toArray, List.set_cons_zero, List.set_cons_succ])
          refine wpAnyH_ready (rs := [15]) (by kernel_rfl) (by simp) ?_
          refine ready_l rfl (fun K hK => ?_) AllReadyH.nil
          go_simp
          refine (hs2.out _ (by first | exact p3 | exact p3.drew)).mono ?_
          rintro e t4 ⟨rfl, g4⟩
          have p4 : Below wr.heap.size wr t4 := p3.trans (Below.mono (by first | exact g4 | exact (Below.refl _ _).drew.trans g4) p3.size)
          refine hK.out _ _ (by exact hHold.out _ p4) (fun hHeld => ?_)
          clear hK K
          (try simp only [Act.put, List.setIfInBounds_toArray, List.set_cons_zero, List.set_cons_succ])
          refine take_l (i := 16) (v := ?_) rfl (by kernel_rfl) (by kernel_rfl) (by kernel_rfl) (fun _ _ _ h => h) (Or.inl ⟨by kernel_rfl, ?_⟩) (by assumption) ?_
          rotate_left
          · intro w hSw; (try dsimp only at hSw); go_simp; (try with_reducible rfl)
          (try simp only [Act.put, List.setIfInBounds_toArray, List.set_cons_zero, List.set_cons_succ])
          refine take_l (i := 17) (v := ?_) rfl (by kernel_rfl) (by kernel_rfl) (by kernel_rfl) (fun _ _ _ h => h) (Or.inl ⟨by kernel_rfl, ?_⟩) (by assumption) ?_
          rotate_left
          · intro w hSw; (try dsimp only at hSw); go_simp; (try with_reducible rfl)
          (try simp only [Act.put, List.setIfInBounds_toArray, List.set_cons_zero, List.set_cons_succ])
          refine take_l (i := 18) (v := ?_) rfl (by kernel_rfl) (by kernel_rfl) (by kernel_rfl) (fun _ _ _ h => h) (Or.inl ⟨by kernel_rfl, ?_⟩) (by assumption) ?_
          rotate_left
          · intro w hSw; (try dsimp only at hSw); go_simp; (try with_reducible rfl)
          (try simp only [Act.put, List.setIfInBounds_toArray, List.set_cons_zero, List.set_cons_succ])
          refine take_l (i := 19) (v := ?_) rfl (by kernel_rfl) (by kernel_rfl) (by kernel_rfl) (fun _ _ _ h => h) (Or.inl ⟨by kernel_rfl, ?_⟩) (by assumption) ?_
          rotate_left
          · intro w hSw; (try dsimp only at hSw); go_simp; (try with_reducible rfl)
          (try simp only [Act.put, List.setIfInBounds_toArray, List.set_cons_zero, List.set_cons_succ])
          refine take_l (i := 20) (v := ?_) rfl (by kernel_rfl) (by kernel_rfl) (by kernel_rfl) (fun _ _ _ h => h) (Or.inl ⟨by kernel_rfl, ?_⟩) (by assumption) ?_
          rotate_left
          · intro w hSw; (try dsimp only at hSw); go_simp; (try with_reducible rfl)
          (try simp only [Act.put, List.setIfInBounds_toArray, List.set_cons_zero, List.set_cons_succ])
          refine take_l (i := 22) (v := ?_) rfl (by kernel_rfl) (by kernel_rfl) (by kernel_rfl) (fun _ _ _ h => h) (Or.inl ⟨by kernel_rfl, ?_⟩) (by assumption) ?_
          rotate_left
          · intro w hSw; (try dsimp only at hSw); go_simp; (try with_reducible rfl)
          (try simp only [Act.put, List.setIfInBounds_toArray, List.set_cons_zero, List.set_cons_succ])
          refine take_l (i := 23) (v := ?_) rfl (by kernel_rfl) (by kernel_rfl) (by kernel_rfl) (fun _ _ _ h => h) (Or.inl ⟨by kernel_rfl, ?_⟩) (by assumption) ?_
          rotate_left
          · intro w hSw; (try dsimp only at hSw); go_simp; (try with_reducible rfl)
          (try simp only [Act.put, List.setIfInBounds_toArray, List.set_cons_zero, List.set_cons_succ])
          refine wpAnyH_ready (rs := [21]) (by kernel_rfl) (by simp) ?_
          refine ready_l rfl (fun K hK => ?_) AllReadyH.nil
          go_simp
          refine (hs3.out _ (by first | exact p4 | exact p4.drew)).mono ?_
          rintro e t5 ⟨rfl, g5⟩
          have p5 : Below wr.heap.size wr t5 := p4.trans (Below.mono (by first | exact g5 | exact (Below.refl _ _).drew.trans g5) p4.size)
          refine hK.out _ _ (by exact hHold.out _ p5) (fun hHeld => ?_)
          clear hK K
          (try simp only [Act.put, List.setIfInBounds_toArray, List.set_cons_zero, List.set_cons_succ])
          refine wpAnyH_ready (rs := [24]) (by kernel_rfl) (by simp) ?_
          refine ready_l rfl (fun K hK => ?_) AllReadyH.nil
          go_simp
          refine (hs4.out _ (by first | exact p5 | exact p5.drew)).mono ?_
          rintro e t6 ⟨rfl, g6⟩
          have p6 : Below wr.heap.size wr t6 := p5.trans (Below.mono (by first | exact g6 | exact (Below.refl _ _).drew.trans g6) p5.size)
          refine hK.out _ _ (by exact hHold.out _ p6) (fun hHeld => ?_)
          clear hK K
          (try simp only [Act.put, List.setIfInBounds_toArray, List.set_cons_zero, List.set_cons_succ])
          refine take_l (i := 25) (v := ?_) rfl (by kernel_rfl) (by kernel_rfl) (by kernel_rfl) (fun _ _ _ h => h) (Or.inl ⟨by kernel_rfl, ?_⟩) (by assumption) ?_
          rotate_left
          · intro w hSw; (try dsimp only at hSw); go_simp; (try with_reducible rfl)
          (try simp only [Act.put, List.setIfInBounds_toArray, List.set_cons_zero, List.set_cons_succ])
          refine take_l (i := 26) (v := ?_) rfl (by kernel_rfl) (by kernel_rfl) (by kernel_rfl) (fun _ _ _ h => h) (Or.inl ⟨by kernel_rfl, ?_⟩) (by assumption) ?_
          rotate_left
          · intro w hSw; (try dsimp only at hSw); go_simp; (try with_reducible rfl)
          (try simp only [Act.put, List.setIfInBounds_toArray, List.set_cons_zero, List.set_cons_succ])
          refine wpAnyH_done (by kernel_rfl) ?_ _
          have hSn := Lib.hid (dJ.trans (p6.mono dJ.size))
          go_wp2_with fail
          exact ⟨⟨i + 1, by first | rfl | go_num, by omega, hSn⟩, by simp [intOf]; omega⟩
    · obtain rfl : i = 4 := by omega
      clear hi hlt
      go_wp2_with fail
      go_ret
      exact ⟨rfl, hB6.out.trans (hS.out.mono hB6.out.size)⟩
end Go.Proofs.YtcpfmlaipejfpaaGreatDoor
namespace Go.Proofs.YtcpfmlaipejfpaaGreatDoor.formatMatchesReference
open Go.ChangeShapes Go.WideShapes Go.ChangeAt Go.RowKit
open Go.ChangeMaps (open_string)

set_option maxRecDepth 100000 in
set_option maxHeartbeats 1000000 in
theorem lifted (os : Os) (started : os.Started) (H : Type) (enc : TypeId × Value → H) :
    ReturnsInHanded {} Tryz.checked os 3 .any (fun w args => (Rows.formatMatchesReferenceSpec.pre enc Tryz.prog Tryz.f3 [] false w args ∧ laidMetH Tryz.prog laid4 w) ∧ sizedMet enc Tryz.prog Tryz.f3 (OpenSpec.ofChange Rows.formatMatchesReferenceSpec) false w args)
      (Rows.formatMatchesReferenceSpec.post enc Tryz.prog Tryz.f3 false true false false) := by
  refine lift_shaped (C := Tryz.checked) (X := fun w => laidMetH Tryz.prog laid4 w) (fun _ _ hh h => h.of_heap hh) own started (by kernel_rfl) Tryz.func3
    (ChangeSpec.witness_shaped (enc := enc) (C := Tryz.checked) (os := os) (X := fun w _ => laidMetH Tryz.prog laid4 w) false (World.laidAll Tryz.prog os laid4) #[.slice none 0 0, .slice none 0 0, .slice none 0 0, .agg #[.int .i64 0, .int .i64 0, .int .i64 0, .int .i64 0, .int .i64 0], .int .i64 0] 8 (World.laidAll_os _ _ _) (shape4 os) (by kernel_rfl) (by kernel_rfl) (by kernel_rfl) (door_met4 os _)) ?_
  intro W base args ds gs before hval0 hW hL hsh
  have hval : ∀ (j : Nat) t v, Tryz.f3.params[j]? = some t → args[j]? = some v → Value.okWide Tryz.prog W .any base t v := hval0
  have hW' := hW
  obtain ⟨p, q, hA0, hV, rfl, hfz, hnd⟩ := hW
  have hA : DataW.TrodAll enc Tryz.prog W 0 (fun _ => true) true Tryz.f3.params.toList args.toList ds p := hA0
  have hAk := hA
  rw [Tryz.params3] at hA hval
  obtain ⟨v0, vs0, d0, ds0, p0, q0, hargs, rfl, rfl, h0, r0⟩ := trodAll_cons hA
  obtain ⟨v1, vs1, d1, ds1, p1, q1, rfl, rfl, rfl, h1, r1⟩ := trodAll_cons r0
  obtain ⟨v2, vs2, d2, ds2, p2, q2, rfl, rfl, rfl, h2, r2⟩ := trodAll_cons r1
  obtain ⟨v3, vs3, d3, ds3, p3, q3, rfl, rfl, rfl, h3, r3⟩ := trodAll_cons r2
  obtain ⟨v4, vs4, d4, ds4, p4, q4, rfl, rfl, rfl, h4, r4⟩ := trodAll_cons r3
  obtain ⟨rfl, rfl, rfl⟩ := trodAll_nil r4
  obtain rfl : args = #[v0, v1, v2, v3, v4] := by cases args; simp_all
  obtain ⟨rfl, rfl⟩ := trodVars_none hV
  obtain ⟨l0, s0, y0⟩ := open_formats (hval 0 22 v0 rfl rfl) h0
  obtain ⟨l1, s1, y1⟩ := open_formats (hval 1 22 v1 rfl rfl) h1
  obtain ⟨n2, z2, e2, g2, s2⟩ := open_quads (hval 2 23 v2 rfl rfl) h2
  obtain ⟨x3, y3, z3, u3, t3, rfl, s3⟩ := open_five (hval 3 24 v3 rfl rfl) h3
  obtain ⟨a4, rfl, rfl, _, w4⟩ := open_int Tryz.underlying3 (hval 4 3 v4 rfl rfl) h4
  clear hA0 hval0
  refine (Matches_any v0 l0 v1 l1 v2 n2 z2 x3 y3 z3 u3 t3 a4 W s0 y0 s1 y1 s2 e2 g2 s3 (I64.of_wf w4) (env_of_laid hL hsh)).mono fun e W' ⟨he, hg⟩ => ?_
  subst he
  have hlt := DataW.TrodAll.lt hAk
  exact ⟨_, rfl, post_of_below (pa := _) (pv := []) hW' (fun _ _ _ => (trodAll_cons_mk (shut_bool Tryz.underlying4 _) trodAll_mk0)) (fun sp hsp => trodAll_stay Tryz.kids Tryz.full (by rw [Tryz.params3]; decide) hAk (fun x hx => sameAt_below hg (hlt x hx)) (fun x hx => hsp x (List.mem_append_left _ hx))) (fun _ _ => rfl) rfl hg (ok_one (by kernel_rfl) rfl (okWide_bool_mk Tryz.underlying4 _))⟩

theorem row_holds : Rows.FormatMatchesReferenceSaid :=
  OpenClaim.holds_of_wide 3 Tryz.f3 rfl rfl rfl rfl rfl rfl rfl ⟨rfl, rfl, rfl, rfl, rfl⟩ rfl rfl rfl rfl rfl (by kernel_rfl) Tryz.func3 (by kernel_rfl)
    (of_decide_eq_true (by kernel_rfl)) (by unfold Func.isWrapper; first | (rw [if_pos (by decide +kernel)]; kernel_rfl) | (rw [if_neg (by decide +kernel)]; exact ⟨rfl, rfl⟩))
    (fun os started H enc _ => lifted os started H enc)

/-- THE TIED CARD. -/
theorem card_holds : Rows.FormatMatchesReferenceCardSaid :=
  Claim7.holds_tied_plain_at .later [] [.data, .data, .data, .data, .sentinel, .sentinel, .pinned] true Rows.formatMatchesReferenceCard.stood.harness true
    row_holds (fun _ h => by cases h) (by kernel_rfl) (fun _ h => by cases h) formatMatchesReference_row_tie rfl ⟨rfl, rfl⟩ (by kernel_rfl) rfl
    (fun f fn hf hfn => by
      obtain rfl : f = 3 := Option.some.inj ((show Tryz.prog.funcNamed "evergreen/evergreenlaw04.FormatMatchesReference" = some 3 by kernel_rfl).symm.trans hf) |>.symm
      obtain rfl : fn = Tryz.f3 := (Option.some.inj (Tryz.func3.symm.trans hfn)).symm
      exact ⟨by kernel_rfl, fun j t ht => by
        rw [Tryz.params3] at ht
        have hm : t ∈ [22, 22, 23, 24, 3] := by simpa using Array.mem_of_getElem? ht
        have hall : ([22, 22, 23, 24, 3].all fun u => !Tryz.prog.wantsStandIn u) = true := by kernel_rfl
        exact (show Tryz.prog.wantsStandIn t = false by simpa using List.all_eq_true.1 hall t hm)⟩)
    (by kernel_rfl)
#print axioms card_holds
end Go.Proofs.YtcpfmlaipejfpaaGreatDoor.formatMatchesReference
