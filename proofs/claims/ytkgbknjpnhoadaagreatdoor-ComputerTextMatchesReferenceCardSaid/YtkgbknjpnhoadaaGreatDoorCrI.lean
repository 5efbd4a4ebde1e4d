/-
  The reference's find: the two bytes of a line.
-/
import Derived.Test.YtkgbknjpnhoadaaGreatDoorCrH
namespace Go.Proofs.YtkgbknjpnhoadaaGreatDoor
open Go.RowKit Go.Shelf

theorem word_le (s : List UInt8) (j : Nat) : ((cutAll 32 s).getD j []).length ≤ s.length := by
  rw [List.getD_eq_getElem?_getD]
  cases h : (cutAll 32 s)[j]? with
  | none => simp
  | some p => exact cutAll_le 32 s p (List.mem_of_getElem? h)
/-- What find computes: the first number, when the loop over the names has stopped at o. -/
def findO (ws : List (List UInt8)) (o : Nat) : Nat := if o = 17 ∧ 1 < ws.length then numQ (ws.getD 1 []) else o
def findN (ws : List (List UInt8)) : Nat := numQ (ws.getD (ws.length - 1) [])
theorem find_law (s : List UInt8) (o : Nat) (ho : o ≤ 17) (hno : ∀ j, j < o → opNames.getD j [] ≠ (cutAll 32 s).getD 0 []) (hex : o < 17 → opNames.getD o [] = (cutAll 32 s).getD 0 []) :
    (findO (cutAll 32 s) o ≤ 255 ∧ findN (cutAll 32 s) ≤ 255 ∧ lineB (findO (cutAll 32 s) o) (findN (cutAll 32 s)) = s → findB s = some (findO (cutAll 32 s) o, findN (cutAll 32 s))) ∧
    (¬ (findO (cutAll 32 s) o ≤ 255 ∧ findN (cutAll 32 s) ≤ 255 ∧ lineB (findO (cutAll 32 s) o) (findN (cutAll 32 s)) = s) → findB s = none) := by
  refine ⟨fun ⟨h1, h2, h3⟩ => findB_some.2 ⟨by omega, by omega, h3⟩, fun hn => findB_none fun p m hp hm hl => hn ?_⟩
  subst hl
  by_cases h : p < 17
  · rw [words_low h] at hno hex ⊢
    have hop : o = p := by
      rcases Nat.lt_trichotomy o p with h1 | h1 | h1
      · exact opNames_inj o (by omega) p h (hex (by omega))
      · exact h1
      · exact absurd rfl (hno p h1)
    subst hop
    have e1 : findO [opNames.getD o [], Lib.decDigits m] o = o := if_neg (by omega)
    have e2 : findN [opNames.getD o [], Lib.decDigits m] = m := numQ_digits m hm
    rw [e1, e2]
    exact ⟨by omega, by omega, rfl⟩
  · rw [words_high (by omega)] at hno hex ⊢
    have hop : o = 17 := by
      rcases Nat.lt_or_ge o 17 with h1 | h1
      · exact absurd (hex h1) (opNames_raw o h1)
      · omega
    subst hop
    have e1 : findO [rawB, Lib.decDigits p, Lib.decDigits m] 17 = p := (if_pos ⟨rfl, by simp⟩).trans (numQ_digits p hp)
    have e2 : findN [rawB, Lib.decDigits p, Lib.decDigits m] = m := numQ_digits m hm
    rw [e1, e2]
    exact ⟨by omega, by omega, rfl⟩
theorem numQ_lt (s : List UInt8) : numQ s < 100000000 := by
  have h := numTake_lt s (min s.length 8) (by omega)
  have hp : 10 ^ (min s.length 8) ≤ 10 ^ 8 := Nat.pow_le_pow_right (by omega) (by omega)
  unfold numQ
  omega
theorem findO_lt (ws : List (List UInt8)) (o : Nat) (ho : o ≤ 17) : findO ws o < 100000000 := by
  unfold findO
  split
  · exact numQ_lt _
  · omega

set_option maxRecDepth 100000 in
set_option maxHeartbeats 4000000 in
theorem find_any (s : List UInt8) (w : World) (hs : s.length ≤ 1000000) :
    Calls Tryz.prog 35 #[.string (str s)] w fun e w' => ∃ (o n : Nat) (ok : Bool), e = .returned (.tuple #[.int .i64 o, .int .i64 n, .bool ok]) ∧ (ok = true → findB s = some (o, n)) ∧ (ok = false → findB s = none) ∧ Below w.heap.size w w' := by
  have hSp := Lib.hid (split_any s w hs)
  have hlaw := Lib.hid (find_law s)
  have hwl := Lib.hid (word_le s)
  obtain ⟨ln, hln⟩ : ∃ ln, ln = (cutAll 32 s).length := ⟨_, rfl⟩
  have hl0 : 1 ≤ ln := by
    rw [hln]
    cases h : cutAll 32 s with
    | nil => exact absurd h (cutAll_ne 32 s)
    | cons a b => simp
  have hNm := Lib.hid (fun (o : Nat) (W : World) (ho : o ≤ 1000000000) => refName_any o W ho)
  go_enter Tryz.func35, Tryz.ntmps35
  go_wp2_with fail
  refine hSp.out.mono ?_
  rintro e w1 ⟨v1, rfl, ho1, hb1⟩
  rw [← hln] at ho1
  obtain ⟨m, rfl⟩ : ∃ m, ln = m + 1 := ⟨ln - 1, by omega⟩
  obtain ⟨g, cp, rfl, hgB, hcp1, hcp2, hglt, hcells⟩ := own_cells ho1
  have hcell : ∀ W : World, W.heap[g]? = w1.heap[g]? → ∀ j, j < m + 1 → W.cell? ⟨g, j, none⟩ = some (.string (str ((cutAll 32 s).getD j []))) := fun W hW j hj => by
    rw [World.cell?_of_block (w' := W) (w := w1) (a := ⟨g, j, none⟩) hW]
    exact (hcells j _ (wordCell (by omega))).1
  have hm1 : m + 1 ≤ 1000001 := by
    have := cutAll_len 32 s
    omega
  replace hcell := Lib.hid hcell
  replace hln := Lib.hid hln
  clear hcells ho1 hSp
  go_wp2_with fail
  go_loopw [6] (fun i wr => ∃ o : Nat, o ≤ 17 ∧ i = .int .i64 o ∧ Aside (Below w1.heap.size w1 wr) ∧ Aside (∀ j, j < o → opNames.getD j [] ≠ (cutAll 32 s).getD 0 [])) (fun i _ => 17 - (intOf i).toNat)
  case atStart => exact ⟨0, Nat.zero_le _, rfl, Below.refl _ _, fun j hj => by omega⟩
  case round =>
    obtain ⟨o, ho, rfl, BW, hno⟩ := hrel
    have hB0 := BW.out
    have hc0 := hcell.out wr (BW.out.block g hglt) 0 (by omega)
    have hk0 : wr.heap[g]? = w1.heap[g]? := BW.out.block g hglt
    have hsz : w1.heap.size ≤ wr.drew.heap.size := hB0.size
    have hq1 := fun W => refNumber_any ((cutAll 32 s).getD m []) W (by have := hwl.out m; omega)
    have hcm := fun W h => hcell.out W h m (by omega)
    have hfN : findN (cutAll 32 s) = numQ ((cutAll 32 s).getD m []) := by unfold findN; rw [← hln.out]; rfl
    have hi1 : IntKind.i64.wrap ((m : Int) + 1 - 1) = (m : Int) := by rw [show (m : Int) + 1 - 1 = (m : Int) from by omega]; exact IntWalk.i64_in _ (by omega)
    by_cases hlt : o < 17
    · have hd : decide ((o : Int) < 17) = true := by simp; omega
      have hN := Lib.hid (fun W => hNm.out o W (by omega))
      have hcw := Lib.hid (fun W h => hcell.out W h 0 (by omega))
      have hnb : Hid (nameB o = opNames.getD o []) := if_pos hlt
      have h017 : ¬ o = 17 := by omega
      have h017b : ((o : Int) == 17) = false := by rw [beq_eq_false_iff_ne]; omega
      by_cases hnm : nameB o = (cutAll 32 s).getD 0 []
      · have hfl := hlaw.out o ho hno.out (fun _ => by rw [← hnb.out]; exact hnm)
        rw [show findO (cutAll 32 s) o = o from if_neg (fun h => h017 h.1), hfN] at hfl
        have hq : ((str (nameB o)).toList == (str ((cutAll 32 s).getD 0 [])).toList) = true := by rw [hnm]; exact beq_self_eq_true _
        replace hnm := Lib.hid hnm
        generalize (cutAll 32 s).getD 0 [] = w0 at *
        generalize (cutAll 32 s).getD m [] = wl at *
        replace hq1 := Lib.hid hq1
        replace hcm := Lib.hid hcm
        clear hfN hno hlaw
        go_wp2_with fail
        refine wp_region_held_drew (S := fun w' => w'.cell? ⟨g, 0, none⟩ = some (.string (str w0))) (by kernel_rfl) (by exact hcw.out _ hk0) (fun hHeld => ?_)
        refine take_l (i := 0) (v := ?_) rfl (by kernel_rfl) (by kernel_rfl) (by kernel_rfl) (fun _ _ _ h => h) (Or.inl ⟨by kernel_rfl, ?_⟩) (by assumption) ?_
        rotate_left
        · intro w hSw; (try dsimp only at hSw); go_simp; (try with_reducible rfl)
        (try dsimp only [Act.put, List.setIfInBounds_toArray, List.set_cons_zero, List.set_cons_succ])
        refine take_l (i := 1) (v := ?_) rfl (by kernel_rfl) (by kernel_rfl) (by kernel_rfl) (fun _ _ _ h => h) (Or.inl ⟨by kernel_rfl, ?_⟩) (by assumption) ?_
        rotate_left
        · intro w hSw; (try dsimp only at hSw); go_simp; (try with_reducible rfl)
        (try dsimp only [Act.put, List.setIfInBounds_toArray, List.set_cons_zero, List.set_cons_succ])
        refine take_l (i := 2) (v := ?_) rfl (by kernel_rfl) (by kernel_rfl) (by kernel_rfl) (fun _ _ _ h => h) (Or.inl ⟨by kernel_rfl, ?_⟩) (by assumption) ?_
        rotate_left
        · intro w hSw; (try dsimp only at hSw); go_simp; (try with_reducible rfl)
        (try dsimp only [Act.put, List.setIfInBounds_toArray, List.set_cons_zero, List.set_cons_succ])
        refine take_l (i := 3) (v := ?_) rfl (by kernel_rfl) (by kernel_rfl) (by kernel_rfl) (fun _ _ _ h => h) (Or.inl ⟨by kernel_rfl, ?_⟩) (by assumption) ?_
        rotate_left
        · intro w hSw; (try dsimp only at hSw); go_simp; (try with_reducible rfl)
        (try dsimp only [Act.put, List.setIfInBounds_toArray, List.set_cons_zero, List.set_cons_succ])
        refine take_l (i := 5) (v := ?_) rfl (by kernel_rfl) (by kernel_rfl) (by kernel_rfl) (fun _ _ _ h => h) (Or.inl ⟨by kernel_rfl, ?_⟩) (by assumption) ?_
        rotate_left
        · intro w hSw; (try dsimp only at hSw); go_simp; (try with_reducible rfl)
        (try dsimp only [Act.put, List.setIfInBounds_toArray, List.set_cons_zero, List.set_cons_succ])
        refine take_l (i := 6) (v := ?_) rfl (by kernel_rfl) (by kernel_rfl) (by kernel_rfl) (fun _ _ _ h => h) (Or.inl ⟨by kernel_rfl, ?_⟩) (by assumption) ?_
        rotate_left
        · intro w hSw; (try dsimp only at hSw); go_simp; (try with_reducible rfl)
        (try dsimp only [Act.put, List.setIfInBounds_toArray, List.set_cons_zero, List.set_cons_succ])
        refine take_l (i := 7) (v := ?_) rfl (by kernel_rfl) (by kernel_rfl) (by kernel_rfl) (fun _ _ _ h => h) (Or.inl ⟨by kernel_rfl, ?_⟩) (by assumption) ?_
        rotate_left
        · intro w hSw; (try dsimp only at hSw); go_simp; (try with_reducible rfl)
        (try dsimp only [Act.put, List.setIfInBounds_toArray, List.set_cons_zero, List.set_cons_succ])
        refine wpAnyH_ready (rs := [4]) (by kernel_rfl) (by simp) ?_
        refine ready_l rfl (fun K hK => ?_) AllReadyH.nil
        go_simp
        (go_at_call 51; (with_reducible refine (hN.out _).mono ?_); rintro e vA ⟨rfl, hbvA⟩; have hBvA : Below w1.heap.size w1 vA := Below.trans (by repeat first | with_reducible exact Below.refl _ _ | with_reducible assumption | with_reducible refine below_drewN ?_ _ | with_reducible refine Below.drew ?_ | with_reducible refine Below.setCell ?_ (by first | exact Nat.le_refl _ | (simp; done) | (simp; omega) | omega) _ | with_reducible refine Below.alloc ?_ (by first | exact Nat.le_refl _ | (simp; done) | (simp; omega) | omega) _ | exact Below.refl _ _ | assumption) (hbvA.mono (by first | exact Nat.le_refl _ | assumption | (simp; done) | (simp; omega) | omega)); have hzvA := hbvA.size; )
        refine hK.out _ _ (by exact hcw.out _ (hBvA.block g hglt)) (fun hHeld => ?_)
        clear hK K
        (try dsimp only [Act.put, List.setIfInBounds_toArray, List.set_cons_zero, List.set_cons_succ])
        refine take_l (i := 8) (v := ?_) rfl (by kernel_rfl) (by kernel_rfl) (by kernel_rfl) (fun _ _ _ h => h) (Or.inl ⟨by kernel_rfl, ?_⟩) (by assumption) ?_
        rotate_left
        · intro w hSw; (try dsimp only at hSw); go_simp; (try with_reducible rfl)
        (try dsimp only [Act.put, List.setIfInBounds_toArray, List.set_cons_zero, List.set_cons_succ])
        refine take_l (i := 9) (v := ?_) rfl (by kernel_rfl) (by kernel_rfl) (by kernel_rfl) (fun _ _ _ h => h) (Or.inl ⟨by kernel_rfl, ?_⟩) (by assumption) ?_
        rotate_left
        · intro w hSw; (try dsimp only at hSw); go_simp; (try with_reducible rfl)
        (try dsimp only [Act.put, List.setIfInBounds_toArray, List.set_cons_zero, List.set_cons_succ])
        refine wpAnyH_done (by kernel_rfl) ?_ _
        have hcA := hcm.out vA (hBvA.block g hglt)
        have hBA := hb1.trans (hBvA.mono hb1.size)
        go_wp2_with fail
        refine (hq1.out _).mono ?_
        rintro e w2 ⟨rfl, hw2⟩
        rw [hw2]
        clear hw2 w2
        have hnl := numQ_lt wl
        generalize numQ wl = nn at *
        by_cases c1 : o ≤ 255
        · have d1 : decide (((o : Nat) : Int) ≤ 255) = true := by simp; omega
          by_cases c2 : nn ≤ 255
          · have d2 : decide ((nn : Int) ≤ 255) = true := by simp; omega
            have hL := Lib.hid (fun W => refLine_any (o) nn W (by omega) (by omega))
            by_cases c3 : lineB (o) nn = s
            · have hq2 : ((str (lineB (o) nn)).toList == (str s).toList) = true := by rw [c3]; exact beq_self_eq_true _
              have hres := Lib.hid (hfl.1 ⟨c1, c2, c3⟩)
              replace c3 := Lib.hid c3
              clear hfl
              go_wp2_with fail
              refine (hL.out _).mono ?_
              rintro e w9 ⟨rfl, hb9⟩
              have hB9 := (hBA).trans (hb9.mono (hBA).size)
              go_wp2_with fail
              exact bodyPost_ret (v := .tuple #[.int .i64 (o : Nat), .int .i64 nn, .bool true]) (by simp [results, Tryz.f35, go_sem]) rfl ⟨o, nn, true, rfl, fun _ => hres.out, (fun h => by cases h), hB9⟩
            · have hq2 : ((str (lineB (o) nn)).toList == (str s).toList) = false := by rw [Lib.toList_data, Lib.toList_data, str_list, str_list]; simpa using c3
              have hres := Lib.hid (hfl.2 (fun h => c3 h.2.2))
              replace c3 := Lib.hid c3
              clear hfl
              go_wp2_with fail
              refine (hL.out _).mono ?_
              rintro e w9 ⟨rfl, hb9⟩
              have hB9 := (hBA).trans (hb9.mono (hBA).size)
              go_wp2_with fail
              exact bodyPost_ret (v := .tuple #[.int .i64 (o : Nat), .int .i64 nn, .bool false]) (by simp [results, Tryz.f35, go_sem]) rfl ⟨o, nn, false, rfl, (fun h => by cases h), fun _ => hres.out, hB9⟩
          · have d2 : decide ((nn : Int) ≤ 255) = false := by simp; omega
            have hres := Lib.hid (hfl.2 (fun h => c2 h.2.1))
            clear hfl
            go_wp2_with fail
            exact bodyPost_ret (v := .tuple #[.int .i64 (o : Nat), .int .i64 nn, .bool false]) (by simp [results, Tryz.f35, go_sem]) rfl ⟨o, nn, false, rfl, (fun h => by cases h), fun _ => hres.out, hBA⟩
        · have d1 : decide (((o : Nat) : Int) ≤ 255) = false := by simp; omega
          have hres := Lib.hid (hfl.2 (fun h => c1 h.1))
          clear hfl
          go_wp2_with fail
          exact bodyPost_ret (v := .tuple #[.int .i64 (o : Nat), .int .i64 nn, .bool false]) (by simp [results, Tryz.f35, go_sem]) rfl ⟨o, nn, false, rfl, (fun h => by cases h), fun _ => hres.out, hBA⟩
      · have hq : ((str (nameB o)).toList == (str ((cutAll 32 s).getD 0 [])).toList) = false := by
          rw [Lib.toList_data, Lib.toList_data, str_list, str_list]
          simpa using hnm
        have hno2 : ∀ j, j < o + 1 → opNames.getD j [] ≠ (cutAll 32 s).getD 0 [] := fun j hj => by
          by_cases e : j = o
          · subst e
            rw [← hnb.out]; exact hnm
          · exact hno.out j (by omega)
        replace hnm := Lib.hid hnm
        replace hno2 := Lib.hid hno2
        generalize (cutAll 32 s).getD 0 [] = w0 at *
        clear hq1 hcm hfN hno hlaw
        go_wp2_with fail
        refine wp_region_held_drew (S := fun w' => w'.cell? ⟨g, 0, none⟩ = some (.string (str w0))) (by kernel_rfl) (by exact hcw.out _ hk0) (fun hHeld => ?_)
        refine take_l (i := 0) (v := ?_) rfl (by kernel_rfl) (by kernel_rfl) (by kernel_rfl) (fun _ _ _ h => h) (Or.inl ⟨by kernel_rfl, ?_⟩) (by assumption) ?_
        rotate_left
        · intro w hSw; (try dsimp only at hSw); go_simp; (try with_reducible rfl)
        (try dsimp only [Act.put, List.setIfInBounds_toArray, List.set_cons_zero, List.set_cons_succ])
        refine take_l (i := 1) (v := ?_) rfl (by kernel_rfl) (by kernel_rfl) (by kernel_rfl) (fun _ _ _ h => h) (Or.inl ⟨by kernel_rfl, ?_⟩) (by assumption) ?_
        rotate_left
        · intro w hSw; (try dsimp only at hSw); go_simp; (try with_reducible rfl)
        (try dsimp only [Act.put, List.setIfInBounds_toArray, List.set_cons_zero, List.set_cons_succ])
        refine take_l (i := 2) (v := ?_) rfl (by kernel_rfl) (by kernel_rfl) (by kernel_rfl) (fun _ _ _ h => h) (Or.inl ⟨by kernel_rfl, ?_⟩) (by assumption) ?_
        rotate_left
        · intro w hSw; (try dsimp only at hSw); go_simp; (try with_reducible rfl)
        (try dsimp only [Act.put, List.setIfInBounds_toArray, List.set_cons_zero, List.set_cons_succ])
        refine take_l (i := 3) (v := ?_) rfl (by kernel_rfl) (by kernel_rfl) (by kernel_rfl) (fun _ _ _ h => h) (Or.inl ⟨by kernel_rfl, ?_⟩) (by assumption) ?_
        rotate_left
        · intro w hSw; (try dsimp only at hSw); go_simp; (try with_reducible rfl)
        (try dsimp only [Act.put, List.setIfInBounds_toArray, List.set_cons_zero, List.set_cons_succ])
        refine take_l (i := 5) (v := ?_) rfl (by kernel_rfl) (by kernel_rfl) (by kernel_rfl) (fun _ _ _ h => h) (Or.inl ⟨by kernel_rfl, ?_⟩) (by assumption) ?_
        rotate_left
        · intro w hSw; (try dsimp only at hSw); go_simp; (try with_reducible rfl)
        (try dsimp only [Act.put, List.setIfInBounds_toArray, List.set_cons_zero, List.set_cons_succ])
        refine take_l (i := 6) (v := ?_) rfl (by kernel_rfl) (by kernel_rfl) (by kernel_rfl) (fun _ _ _ h => h) (Or.inl ⟨by kernel_rfl, ?_⟩) (by assumption) ?_
        rotate_left
        · intro w hSw; (try dsimp only at hSw); go_simp; (try with_reducible rfl)
        (try dsimp only [Act.put, List.setIfInBounds_toArray, List.set_cons_zero, List.set_cons_succ])
        refine take_l (i := 7) (v := ?_) rfl (by kernel_rfl) (by kernel_rfl) (by kernel_rfl) (fun _ _ _ h => h) (Or.inl ⟨by kernel_rfl, ?_⟩) (by assumption) ?_
        rotate_left
        · intro w hSw; (try dsimp only at hSw); go_simp; (try with_reducible rfl)
        (try dsimp only [Act.put, List.setIfInBounds_toArray, List.set_cons_zero, List.set_cons_succ])
        refine wpAnyH_ready (rs := [4]) (by kernel_rfl) (by simp) ?_
        refine ready_l rfl (fun K hK => ?_) AllReadyH.nil
        go_simp
        (go_at_call 51; (with_reducible refine (hN.out _).mono ?_); rintro e vA ⟨rfl, hbvA⟩; have hBvA : Below w1.heap.size w1 vA := Below.trans (by repeat first | with_reducible exact Below.refl _ _ | with_reducible assumption | with_reducible refine below_drewN ?_ _ | with_reducible refine Below.drew ?_ | with_reducible refine Below.setCell ?_ (by first | exact Nat.le_refl _ | (simp; done) | (simp; omega) | omega) _ | with_reducible refine Below.alloc ?_ (by first | exact Nat.le_refl _ | (simp; done) | (simp; omega) | omega) _ | exact Below.refl _ _ | assumption) (hbvA.mono (by first | exact Nat.le_refl _ | assumption | (simp; done) | (simp; omega) | omega)); have hzvA := hbvA.size; )
        refine hK.out _ _ (by exact hcw.out _ (hBvA.block g hglt)) (fun hHeld => ?_)
        clear hK K
        (try dsimp only [Act.put, List.setIfInBounds_toArray, List.set_cons_zero, List.set_cons_succ])
        refine take_l (i := 8) (v := ?_) rfl (by kernel_rfl) (by kernel_rfl) (by kernel_rfl) (fun _ _ _ h => h) (Or.inl ⟨by kernel_rfl, ?_⟩) (by assumption) ?_
        rotate_left
        · intro w hSw; (try dsimp only at hSw); go_simp; (try with_reducible rfl)
        (try dsimp only [Act.put, List.setIfInBounds_toArray, List.set_cons_zero, List.set_cons_succ])
        refine take_l (i := 9) (v := ?_) rfl (by kernel_rfl) (by kernel_rfl) (by kernel_rfl) (fun _ _ _ h => h) (Or.inl ⟨by kernel_rfl, ?_⟩) (by assumption) ?_
        rotate_left
        · intro w hSw; (try dsimp only at hSw); go_simp; (try with_reducible rfl)
        (try dsimp only [Act.put, List.setIfInBounds_toArray, List.set_cons_zero, List.set_cons_succ])
        refine wpAnyH_done (by kernel_rfl) ?_ _
        go_wp2_with fail
        exact ⟨⟨o + 1, by omega, by go_num, hBvA, hno2.out⟩, by simp [intOf]; omega⟩
    · have h17 : o = 17 := by omega
      have hd : decide ((o : Int) < 17) = false := by simp; omega
      have he : ((o : Int) == 17) = true := by rw [beq_iff_eq]; omega
      have hfl := hlaw.out o ho hno.out (fun h => absurd h hlt)
      rw [hfN] at hfl
      have hBA := fun n => hb1.trans ((below_drewN hB0 n).mono hb1.size)
      by_cases hm0 : 0 < m
      · have hd1 : decide ((m : Int) + 1 > 1) = true := by simp; omega
        have hm2 : (1 : Int) < (m : Int) + 1 := by omega
        rw [show findO (cutAll 32 s) o = numQ ((cutAll 32 s).getD 1 []) from if_pos ⟨h17, by rw [← hln.out]; omega⟩] at hfl
        have hq2 := fun W => refNumber_any ((cutAll 32 s).getD 1 []) W (by have := hwl.out 1; omega)
        have hc1 := hcell.out wr (hB0.block g hglt) 1 (by omega)
        have hcA := hcm wr (hB0.block g hglt)
        have hol := numQ_lt ((cutAll 32 s).getD 1 [])
        generalize numQ ((cutAll 32 s).getD 1 []) = oo at *
        generalize (cutAll 32 s).getD 0 [] = w0 at *
        generalize (cutAll 32 s).getD 1 [] = w2 at *
        generalize (cutAll 32 s).getD m [] = wl at *
        replace hq1 := Lib.hid hq1
        replace hq2 := Lib.hid hq2
        clear hfN hno hlaw hcm
        replace h17 := Lib.hid h17
        go_wp2_with fail
        go_quiet (fail)
        go_wp2_with fail
        refine (hq2.out _).mono ?_
        rintro e w3 ⟨rfl, hw3⟩
        rw [hw3]
        clear hw3 w3
        go_wp2_with fail
        refine (hq1.out _).mono ?_
        rintro e w3 ⟨rfl, hw3⟩
        rw [hw3]
        clear hw3 w3
        have hnl := numQ_lt wl
        generalize numQ wl = nn at *
        by_cases c1 : oo ≤ 255
        · have d1 : decide (((oo : Nat) : Int) ≤ 255) = true := by simp; omega
          by_cases c2 : nn ≤ 255
          · have d2 : decide ((nn : Int) ≤ 255) = true := by simp; omega
            have hL := Lib.hid (fun W => refLine_any (oo) nn W (by omega) (by omega))
            by_cases c3 : lineB (oo) nn = s
            · have hq2 : ((str (lineB (oo) nn)).toList == (str s).toList) = true := by rw [c3]; exact beq_self_eq_true _
              have hres := Lib.hid (hfl.1 ⟨c1, c2, c3⟩)
              replace c3 := Lib.hid c3
              clear hfl
              go_wp2_with fail
              refine (hL.out _).mono ?_
              rintro e w9 ⟨rfl, hb9⟩
              have hB9 := ((hBA _)).trans (hb9.mono ((hBA _)).size)
              go_wp2_with fail
              exact bodyPost_ret (v := .tuple #[.int .i64 (oo : Nat), .int .i64 nn, .bool true]) (by simp [results, Tryz.f35, go_sem]) rfl ⟨oo, nn, true, rfl, fun _ => hres.out, (fun h => by cases h), hB9⟩
            · have hq2 : ((str (lineB (oo) nn)).toList == (str s).toList) = false := by rw [Lib.toList_data, Lib.toList_data, str_list, str_list]; simpa using c3
              have hres := Lib.hid (hfl.2 (fun h => c3 h.2.2))
              replace c3 := Lib.hid c3
              clear hfl
              go_wp2_with fail
              refine (hL.out _).mono ?_
              rintro e w9 ⟨rfl, hb9⟩
              have hB9 := ((hBA _)).trans (hb9.mono ((hBA _)).size)
              go_wp2_with fail
              exact bodyPost_ret (v := .tuple #[.int .i64 (oo : Nat), .int .i64 nn, .bool false]) (by simp [results, Tryz.f35, go_sem]) rfl ⟨oo, nn, false, rfl, (fun h => by cases h), fun _ => hres.out, hB9⟩
          · have d2 : decide ((nn : Int) ≤ 255) = false := by simp; omega
            have hres := Lib.hid (hfl.2 (fun h => c2 h.2.1))
            clear hfl
            go_wp2_with fail
            exact bodyPost_ret (v := .tuple #[.int .i64 (oo : Nat), .int .i64 nn, .bool false]) (by simp [results, Tryz.f35, go_sem]) rfl ⟨oo, nn, false, rfl, (fun h => by cases h), fun _ => hres.out, (hBA _)⟩
        · have d1 : decide (((oo : Nat) : Int) ≤ 255) = false := by simp; omega
          have hres := Lib.hid (hfl.2 (fun h => c1 h.1))
          clear hfl
          go_wp2_with fail
          exact bodyPost_ret (v := .tuple #[.int .i64 (oo : Nat), .int .i64 nn, .bool false]) (by simp [results, Tryz.f35, go_sem]) rfl ⟨oo, nn, false, rfl, (fun h => by cases h), fun _ => hres.out, (hBA _)⟩
      · have hd1 : decide ((m : Int) + 1 > 1) = false := by simp; omega
        have hm2 : ¬ (1 : Int) < (m : Int) + 1 := by omega
        rw [show findO (cutAll 32 s) o = o from if_neg (fun h => by have := h.2; rw [← hln.out] at this; omega)] at hfl
        have hcA := hcm wr (hB0.block g hglt)
        generalize (cutAll 32 s).getD 0 [] = w0 at *
        generalize (cutAll 32 s).getD m [] = wl at *
        replace hq1 := Lib.hid hq1
        clear hfN hno hlaw hcm
        replace h17 := Lib.hid h17
        go_wp2_with fail
        go_quiet (fail)
        go_wp2_with fail
        refine (hq1.out _).mono ?_
        rintro e w3 ⟨rfl, hw3⟩
        rw [hw3]
        clear hw3 w3
        have hnl := numQ_lt wl
        generalize numQ wl = nn at *
        by_cases c1 : o ≤ 255
        · have d1 : decide (((o : Nat) : Int) ≤ 255) = true := by simp; omega
          by_cases c2 : nn ≤ 255
          · have d2 : decide ((nn : Int) ≤ 255) = true := by simp; omega
            have hL := Lib.hid (fun W => refLine_any (o) nn W (by omega) (by omega))
            by_cases c3 : lineB (o) nn = s
            · have hq2 : ((str (lineB (o) nn)).toList == (str s).toList) = true := by rw [c3]; exact beq_self_eq_true _
              have hres := Lib.hid (hfl.1 ⟨c1, c2, c3⟩)
              replace c3 := Lib.hid c3
              clear hfl
              go_wp2_with fail
              refine (hL.out _).mono ?_
              rintro e w9 ⟨rfl, hb9⟩
              have hB9 := ((hBA _)).trans (hb9.mono ((hBA _)).size)
              go_wp2_with fail
              exact bodyPost_ret (v := .tuple #[.int .i64 (o : Nat), .int .i64 nn, .bool true]) (by simp [results, Tryz.f35, go_sem]) rfl ⟨o, nn, true, rfl, fun _ => hres.out, (fun h => by cases h), hB9⟩
            · have hq2 : ((str (lineB (o) nn)).toList == (str s).toList) = false := by rw [Lib.toList_data, Lib.toList_data, str_list, str_list]; simpa using c3
              have hres := Lib.hid (hfl.2 (fun h => c3 h.2.2))
              replace c3 := Lib.hid c3
              clear hfl
              go_wp2_with fail
              refine (hL.out _).mono ?_
              rintro e w9 ⟨rfl, hb9⟩
              have hB9 := ((hBA _)).trans (hb9.mono ((hBA _)).size)
              go_wp2_with fail
              exact bodyPost_ret (v := .tuple #[.int .i64 (o : Nat), .int .i64 nn, .bool false]) (by simp [results, Tryz.f35, go_sem]) rfl ⟨o, nn, false, rfl, (fun h => by cases h), fun _ => hres.out, hB9⟩
          · have d2 : decide ((nn : Int) ≤ 255) = false := by simp; omega
            have hres := Lib.hid (hfl.2 (fun h => c2 h.2.1))
            clear hfl
            go_wp2_with fail
            exact bodyPost_ret (v := .tuple #[.int .i64 (o : Nat), .int .i64 nn, .bool false]) (by simp [results, Tryz.f35, go_sem]) rfl ⟨o, nn, false, rfl, (fun h => by cases h), fun _ => hres.out, (hBA _)⟩
        · have d1 : decide (((o : Nat) : Int) ≤ 255) = false := by simp; omega
          have hres := Lib.hid (hfl.2 (fun h => c1 h.1))
          clear hfl
          go_wp2_with fail
          exact bodyPost_ret (v := .tuple #[.int .i64 (o : Nat), .int .i64 nn, .bool false]) (by simp [results, Tryz.f35, go_sem]) rfl ⟨o, nn, false, rfl, (fun h => by cases h), fun _ => hres.out, (hBA _)⟩
end Go.Proofs.YtkgbknjpnhoadaaGreatDoor
