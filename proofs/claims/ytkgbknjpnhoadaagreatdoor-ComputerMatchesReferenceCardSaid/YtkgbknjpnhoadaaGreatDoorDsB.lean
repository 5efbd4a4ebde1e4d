/-
  The reference's find: the two bytes of a line.
  The reference's Valid, Print and Parse.
  The reference's Parse.
-/
import Derived.Test.YtkgbknjpnhoadaaGreatDoorDsA
namespace Go.Proofs.YtkgbknjpnhoadaaGreatDoor
open Go.RowKit Go.Shelf

theorem word_le (s : List UInt8) (j : Nat) : ((cutAll 32 s).getD j []).length ≤ s.length := by
  rw [List.getD_eq_getElem?_getD]
  cases h : (cutAll 32 s)[j]? with
  | none => simp
  | some p => exact cutAll_le 32 s p (List.mem_of_getElem? h)
/-- What find computes: the first number, when the loop over the names has stopped at o. -/
def findO (ws : List (List UInt8)) (o : Nat) : Nat := if o = 17 ∧ 1 < ws.length then numQ (ws.getD 1 []) else o
def findN (ws : List (List UInt8)) : Nat := numQ (ws.getD (ws.length - 1) [])
theorem find_law (s : List UInt8) (o : Nat) (ho : o ≤ 17) (hno : ∀ j, j < o → opNames.getD j [] ≠ (cutAll 32 s).getD 0 []) (hex : o < 17 → opNames.getD o [] = (cutAll 32 s).getD 0 []) :
    (findO (cutAll 32 s) o ≤ 255 ∧ findN (cutAll 32 s) ≤ 255 ∧ lineB (findO (cutAll 32 s) o) (findN (cutAll 32 s)) = s → findB s = some (findO (cutAll 32 s) o, findN (cutAll 32 s))) ∧
    (¬ (findO (cutAll 32 s) o ≤ 255 ∧ findN (cutAll 32 s) ≤ 255 ∧ lineB (findO (cutAll 32 s) o) (findN (cutAll 32 s)) = s) → findB s = none) := by
  refine ⟨fun ⟨h1, h2, h3⟩ => findB_some.2 ⟨by omega, by omega, h3⟩, fun hn => findB_none fun p m hp hm hl => hn ?_⟩
  subst hl
  by_cases h : p < 17
  · rw [words_low h] at hno hex ⊢
    have hop : o = p := by
      rcases Nat.lt_trichotomy o p with h1 | h1 | h1
      · exact opNames_inj o (by omega) p h (hex (by omega))
      · exact h1
      · exact absurd rfl (hno p h1)
    subst hop
    have e1 : findO [opNames.getD o [], Lib.decDigits m] o = o := if_neg (by omega)
    have e2 : findN [opNames.getD o [], Lib.decDigits m] = m := numQ_digits m hm
    rw [e1, e2]
    exact ⟨by omega, by omega, rfl⟩
  · rw [words_high (by omega)] at hno hex ⊢
    have hop : o = 17 := by
      rcases Nat.lt_or_ge o 17 with h1 | h1
      · exact absurd (hex h1) (opNames_raw o h1)
      · omega
    subst hop
    have e1 : findO [rawB, Lib.decDigits p, Lib.decDigits m] 17 = p := (if_pos ⟨rfl, by simp⟩).trans (numQ_digits p hp)
    have e2 : findN [rawB, Lib.decDigits p, Lib.decDigits m] = m := numQ_digits m hm
    rw [e1, e2]
    exact ⟨by omega, by omega, rfl⟩
theorem numQ_lt (s : List UInt8) : numQ s < 100000000 := by
  have h := numTake_lt s (min s.length 8) (by omega)
  have hp : 10 ^ (min s.length 8) ≤ 10 ^ 8 := Nat.pow_le_pow_right (by omega) (by omega)
  unfold numQ
  omega
theorem findO_lt (ws : List (List UInt8)) (o : Nat) (ho : o ≤ 17) : findO ws o < 100000000 := by
  unfold findO
  split
  · exact numQ_lt _
  · omega

set_option maxRecDepth 100000 in
set_option maxHeartbeats 4000000 in
theorem find_any (s : List UInt8) (w : World) (hs : s.length ≤ 1000000) :
    Calls Tryz.prog 35 #[.string (str s)] w fun e w' => ∃ (o n : Nat) (ok : Bool), e = .returned (.tuple #[.int .i64 o, .int .i64 n, .bool ok]) ∧ (ok = true → findB s = some (o, n)) ∧ (ok = false → findB s = none) ∧ Below w.heap.size w w' := by
  have hSp := Lib.hid (split_any s w hs)
  have hlaw := Lib.hid (find_law s)
  have hwl := Lib.hid (word_le s)
  obtain ⟨ln, hln⟩ : ∃ ln, ln = (cutAll 32 s).length := ⟨_, rfl⟩
  have hl0 : 1 ≤ ln := by
    rw [hln]
    cases h : cutAll 32 s with
    | nil => exact absurd h (cutAll_ne 32 s)
    | cons a b => simp
  have hNm := Lib.hid (fun (o : Nat) (W : World) (ho : o ≤ 1000000000) => refName_any o W ho)
  go_enter Tryz.func35, Tryz.ntmps35
  go_wp2_with fail
  refine hSp.out.mono ?_
  rintro e w1 ⟨v1, rfl, ho1, hb1⟩
  rw [← hln] at ho1
  obtain ⟨m, rfl⟩ : ∃ m, ln = m + 1 := ⟨ln - 1, by omega⟩
  obtain ⟨g, cp, rfl, hgB, hcp1, hcp2, hglt, hcells⟩ := own_cells ho1
  have hcell : ∀ W : World, W.heap[g]? = w1.heap[g]? → ∀ j, j < m + 1 → W.cell? ⟨g, j, none⟩ = some (.string (str ((cutAll 32 s).getD j []))) := fun W hW j hj => by
    rw [World.cell?_of_block (w' := W) (w := w1) (a := ⟨g, j, none⟩) hW]
    exact (hcells j _ (wordCell (by omega))).1
  have hm1 : m + 1 ≤ 1000001 := by
    have := cutAll_len 32 s
    omega
  replace hcell := Lib.hid hcell
  replace hln := Lib.hid hln
  clear hcells ho1 hSp
  go_wp2_with fail
  go_loopw [6] (fun i wr => ∃ o : Nat, o ≤ 17 ∧ i = .int .i64 o ∧ Aside (Below w1.heap.size w1 wr) ∧ Aside (∀ j, j < o → opNames.getD j [] ≠ (cutAll 32 s).getD 0 [])) (fun i _ => 17 - (intOf i).toNat)
  case atStart => exact ⟨0, Nat.zero_le _, rfl, Below.refl _ _, fun j hj => by omega⟩
  case round =>
    obtain ⟨o, ho, rfl, BW, hno⟩ := hrel
    have hB0 := BW.out
    have hc0 := hcell.out wr (BW.out.block g hglt) 0 (by omega)
    have hk0 : wr.heap[g]? = w1.heap[g]? := BW.out.block g hglt
    have hsz : w1.heap.size ≤ wr.drew.heap.size := hB0.size
    have hq1 := fun W => refNumber_any ((cutAll 32 s).getD m []) W (by have := hwl.out m; omega)
    have hcm := fun W h => hcell.out W h m (by omega)
    have hfN : findN (cutAll 32 s) = numQ ((cutAll 32 s).getD m []) := by unfold findN; rw [← hln.out]; rfl
    have hi1 : IntKind.i64.wrap ((m : Int) + 1 - 1) = (m : Int) := by rw [show (m : Int) + 1 - 1 = (m : Int) from by omega]; exact IntWalk.i64_in _ (by omega)
    by_cases hlt : o < 17
    · have hd : decide ((o : Int) < 17) = true := by simp; omega
      have hN := Lib.hid (fun W => hNm.out o W (by omega))
      have hcw := Lib.hid (fun W h => hcell.out W h 0 (by omega))
      have hnb : Hid (nameB o = opNames.getD o []) := if_pos hlt
      have h017 : ¬ o = 17 := by omega
      have h017b : ((o : Int) == 17) = false := by rw [beq_eq_false_iff_ne]; omega
      by_cases hnm : nameB o = (cutAll 32 s).getD 0 []
      · have hfl := hlaw.out o ho hno.out (fun _ => by rw [← hnb.out]; exact hnm)
        rw [show findO (cutAll 32 s) o = o from if_neg (fun h => h017 h.1), hfN] at hfl
        have hq : ((str (nameB o)).toList == (str ((cutAll 32 s).getD 0 [])).toList) = true := by rw [hnm]; exact beq_self_eq_true _
        replace hnm := Lib.hid hnm
        generalize (cutAll 32 s).getD 0 [] = w0 at *
        generalize (cutAll 32 s).getD m [] = wl at *
        replace hq1 := Lib.hid hq1
        replace hcm := Lib.hid hcm
        clear hfN hno hlaw
        go_wp2_with fail
        refine wp_region_held_drew (S := fun w' => w'.cell? ⟨g, 0, none⟩ = some (.string (str w0))) (by kernel_rfl) (by exact hcw.out _ hk0) (fun hHeld => ?_)
        refine take_l (i := 0) (v := ?_) rfl (by kernel_rfl) (by kernel_rfl) (by kernel_rfl) (fun _ _ _ h => h) (Or.inl ⟨by kernel_rfl, ?_⟩) (by assumption) ?_
        rotate_left
        · intro w hSw; (try dsimp only at hSw); go_simp; (try with_reducible rfl)
        (try simp only [Act.put, List.setIfInBounds_toArray, List.set_cons_zero, List.set_cons_succ])
        refine take_l (i := 1) (v := ?_) rfl (by kernel_rfl) (by kernel_rfl) (by kernel_rfl) (fun _ _ _ h => h) (Or.inl ⟨by kernel_rfl, ?_⟩) (by assumption) ?_
        rotate_left
        · intro w hSw; (try dsimp only at hSw); go_simp; (try with_reducible rfl)
        (try simp only [Act.put, List.setIfInBounds_toArray, List.set_cons_zero, List.set_cons_succ])
        refine take_l (i := 2) (v := ?_) rfl (by kernel_rfl) (by kernel_rfl) (by kernel_rfl) (fun _ _ _ h => h) (Or.inl ⟨by kernel_rfl, ?_⟩) (by assumption) ?_
        rotate_left
        · intro w hSw; (try dsimp only at hSw); go_simp; (try with_reducible rfl)
        (try simp only [Act.put, List.setIfInBounds_toArray, List.set_cons_zero, List.set_cons_succ])
        refine take_l (i := 3) (v := ?_) rfl (by kernel_rfl) (by kernel_rfl) (by kernel_rfl) (fun _ _ _ h => h) (Or.inl ⟨by kernel_rfl, ?_⟩) (by assumption) ?_
        rotate_left
        · intro w hSw; (try dsimp only at hSw); go_simp; (try with_reducible rfl)
        (try simp only [Act.put, List.setIfInBounds_toArray, List.set_cons_zero, List.set_cons_succ])
        refine take_l (i := 5) (v := ?_) rfl (by kernel_rfl) (by kernel_rfl) (by kernel_rfl) (fun _ _ _ h => h) (Or.inl ⟨by kernel_rfl, ?_⟩) (by assumption) ?_
        rotate_left
        · intro w hSw; (try dsimp only at hSw); go_simp; (try with_reducible rfl)
        (try simp only [Act.put, List.setIfInBounds_toArray, List.set_cons_zero, List.set_cons_succ])
        refine take_l (i := 6) (v := ?_) rfl (by kernel_rfl) (by kernel_rfl) (by kernel_rfl) (fun _ _ _ h => h) (Or.inl ⟨by kernel_rfl, ?_⟩) (by assumption) ?_
        rotate_left
        · intro w hSw; (try dsimp only at hSw); go_simp; (try with_reducible rfl)
        (try simp only [Act.put, List.setIfInBounds_toArray, List.set_cons_zero, List.set_cons_succ])
        refine take_l (i := 7) (v := ?_) rfl (by kernel_rfl) (by kernel_rfl) (by kernel_rfl) (fun _ _ _ h => h) (Or.inl ⟨by kernel_rfl, ?_⟩) (by assumption) ?_
        rotate_left
        · intro w hSw; (try dsimp only at hSw); go_simp; (try with_reducible rfl)
        (try simp only [Act.put, List.setIfInBounds_toArray, List.set_cons_zero, List.set_cons_succ])
        refine wpAnyH_ready (rs := [4]) (by kernel_rfl) (by simp) ?_
        refine ready_l rfl (fun K hK => ?_) AllReadyH.nil
        go_simp
        (go_at_call 51; (with_reducible refine (hN.out _).mono ?_); rintro e vA ⟨rfl, hbvA⟩; have hBvA : Below w1.heap.size w1 vA := Below.trans (by repeat first | with_reducible exact Below.refl _ _ | with_reducible assumption | with_reducible refine below_drewN ?_ _ | with_reducible refine Below.drew ?_ | with_reducible refine Below.setCell ?_ (by first | exact Nat.le_refl _ | (simp; done) | (simp; omega) | omega) _ | with_reducible refine Below.alloc ?_ (by first | exact Nat.le_refl _ | (simp; done) | (simp; omega) | omega) _ | exact Below.refl _ _ | assumption) (hbvA.mono (by first | exact Nat.le_refl _ | assumption | (simp; done) | (simp; omega) | omega)); have hzvA := hbvA.size; )
        refine hK.out _ _ (by exact hcw.out _ (hBvA.block g hglt)) (fun hHeld => ?_)
        clear hK K
        (try simp only [Act.put, List.setIfInBounds_toArray, List.set_cons_zero, List.set_cons_succ])
        refine take_l (i := 8) (v := ?_) rfl (by kernel_rfl) (by kernel_rfl) (by kernel_rfl) (fun _ _ _ h => h) (Or.inl ⟨by kernel_rfl, ?_⟩) (by assumption) ?_
        rotate_left
        · intro w hSw; (try dsimp only at hSw); go_simp; (try with_reducible rfl)
        (try simp only [Act.put, List.setIfInBounds_toArray, List.set_cons_zero, List.set_cons_succ])
        refine take_l (i := 9) (v := ?_) rfl (by kernel_rfl) (by kernel_rfl) (by kernel_rfl) (fun _ _ _ h => h) (Or.inl ⟨by kernel_rfl, ?_⟩) (by assumption) ?_
        rotate_left
        · intro w hSw; (try dsimp only at hSw); go_simp; (try with_reducible rfl)
        (try simp only [Act.put, List.setIfInBounds_toArray, List.set_cons_zero, List.set_cons_succ])
        refine wpAnyH_done (by kernel_rfl) ?_ _
        have hcA := hcm.out vA (hBvA.block g hglt)
        have hBA := hb1.trans (hBvA.mono hb1.size)
        go_wp2_with fail
        refine (hq1.out _).mono ?_
        rintro e w2 ⟨rfl, hw2⟩
        rw [hw2]
        clear hw2 w2
        have hnl := numQ_lt wl
        generalize numQ wl = nn at *
        by_cases c1 : o ≤ 255
        · have d1 : decide (((o : Nat) : Int) ≤ 255) = true := by simp; omega
          by_cases c2 : nn ≤ 255
          · have d2 : decide ((nn : Int) ≤ 255) = true := by simp; omega
            have hL := Lib.hid (fun W => refLine_any (o) nn W (by omega) (by omega))
            by_cases c3 : lineB (o) nn = s
            · have hq2 : ((str (lineB (o) nn)).toList == (str s).toList) = true := by rw [c3]; exact beq_self_eq_true _
              have hres := Lib.hid (hfl.1 ⟨c1, c2, c3⟩)
              replace c3 := Lib.hid c3
              clear hfl
              go_wp2_with fail
              refine (hL.out _).mono ?_
              rintro e w9 ⟨rfl, hb9⟩
              have hB9 := (hBA).trans (hb9.mono (hBA).size)
              go_wp2_with fail
              exact bodyPost_ret (v := .tuple #[.int .i64 (o : Nat), .int .i64 nn, .bool true]) (by simp [results, Tryz.f35, go_sem]) rfl ⟨o, nn, true, rfl, fun _ => hres.out, (fun h => by cases h), hB9⟩
            · have hq2 : ((str (lineB (o) nn)).toList == (str s).toList) = false := by rw [Lib.toList_data, Lib.toList_data, str_list, str_list]; simpa using c3
              have hres := Lib.hid (hfl.2 (fun h => c3 h.2.2))
              replace c3 := Lib.hid c3
              clear hfl
              go_wp2_with fail
              refine (hL.out _).mono ?_
              rintro e w9 ⟨rfl, hb9⟩
              have hB9 := (hBA).trans (hb9.mono (hBA).size)
              go_wp2_with fail
              exact bodyPost_ret (v := .tuple #[.int .i64 (o : Nat), .int .i64 nn, .bool false]) (by simp [results, Tryz.f35, go_sem]) rfl ⟨o, nn, false, rfl, (fun h => by cases h), fun _ => hres.out, hB9⟩
          · have d2 : decide ((nn : Int) ≤ 255) = false := by simp; omega
            have hres := Lib.hid (hfl.2 (fun h => c2 h.2.1))
            clear hfl
            go_wp2_with fail
            exact bodyPost_ret (v := .tuple #[.int .i64 (o : Nat), .int .i64 nn, .bool false]) (by simp [results, Tryz.f35, go_sem]) rfl ⟨o, nn, false, rfl, (fun h => by cases h), fun _ => hres.out, hBA⟩
        · have d1 : decide (((o : Nat) : Int) ≤ 255) = false := by simp; omega
          have hres := Lib.hid (hfl.2 (fun h => c1 h.1))
          clear hfl
          go_wp2_with fail
          exact bodyPost_ret (v := .tuple #[.int .i64 (o : Nat), .int .i64 nn, .bool false]) (by simp [results, Tryz.f35, go_sem]) rfl ⟨o, nn, false, rfl, (fun h => by cases h), fun _ => hres.out, hBA⟩
      · have hq : ((str (nameB o)).toList == (str ((cutAll 32 s).getD 0 [])).toList) = false := by
          rw [Lib.toList_data, Lib.toList_data, str_list, str_list]
          simpa using hnm
        have hno2 : ∀ j, j < o + 1 → opNames.getD j [] ≠ (cutAll 32 s).getD 0 [] := fun j hj => by
          by_cases e : j = o
          · subst e
            rw [← hnb.out]; exact hnm
          · exact hno.out j (by omega)
        replace hnm := Lib.hid hnm
        replace hno2 := Lib.hid hno2
        generalize (cutAll 32 s).getD 0 [] = w0 at *
        clear hq1 hcm hfN hno hlaw
        go_wp2_with fail
        refine wp_region_held_drew (S := fun w' => w'.cell? ⟨g, 0, none⟩ = some (.string (str w0))) (by kernel_rfl) (by exact hcw.out _ hk0) (fun hHeld => ?_)
        refine take_l (i := 0) (v := ?_) rfl (by kernel_rfl) (by kernel_rfl) (by kernel_rfl) (fun _ _ _ h => h) (Or.inl ⟨by kernel_rfl, ?_⟩) (by assumption) ?_
        rotate_left
        · intro w hSw; (try dsimp only at hSw); go_simp; (try with_reducible rfl)
        (try simp only [Act.put, List.setIfInBounds_toArray, List.set_cons_zero, List.set_cons_succ])
        refine take_l (i := 1) (v := ?_) rfl (by kernel_rfl) (by kernel_rfl) (by kernel_rfl) (fun _ _ _ h => h) (Or.inl ⟨by kernel_rfl, ?_⟩) (by assumption) ?_
        rotate_left
        · intro w hSw; (try dsimp only at hSw); go_simp; (try with_reducible rfl)
        (try simp only [Act.put, List.setIfInBounds_toArray, List.set_cons_zero, List.set_cons_succ])
        refine take_l (i := 2) (v := ?_) rfl (by kernel_rfl) (by kernel_rfl) (by kernel_rfl) (fun _ _ _ h => h) (Or.inl ⟨by kernel_rfl, ?_⟩) (by assumption) ?_
        rotate_left
        · intro w hSw; (try dsimp only at hSw); go_simp; (try with_reducible rfl)
        (try simp only [Act.put, List.setIfInBounds_toArray, List.set_cons_zero, List.set_cons_succ])
        refine take_l (i := 3) (v := ?_) rfl (by kernel_rfl) (by kernel_rfl) (by kernel_rfl) (fun _ _ _ h => h) (Or.inl ⟨by kernel_rfl, ?_⟩) (by assumption) ?_
        rotate_left
        · intro w hSw; (try dsimp only at hSw); go_simp; (try with_reducible rfl)
        (try simp only [Act.put, List.setIfInBounds_toArray, List.set_cons_zero, List.set_cons_succ])
        refine take_l (i := 5) (v := ?_) rfl (by kernel_rfl) (by kernel_rfl) (by kernel_rfl) (fun _ _ _ h => h) (Or.inl ⟨by kernel_rfl, ?_⟩) (by assumption) ?_
        rotate_left
        · intro w hSw; (try dsimp only at hSw); go_simp; (try with_reducible rfl)
        (try simp only [Act.put, List.setIfInBounds_toArray, List.set_cons_zero, List.set_cons_succ])
        refine take_l (i := 6) (v := ?_) rfl (by kernel_rfl) (by kernel_rfl) (by kernel_rfl) (fun _ _ _ h => h) (Or.inl ⟨by kernel_rfl, ?_⟩) (by assumption) ?_
        rotate_left
        · intro w hSw; (try dsimp only at hSw); go_simp; (try with_reducible rfl)
        (try simp only [Act.put, List.setIfInBounds_toArray, List.set_cons_zero, List.set_cons_succ])
        refine take_l (i := 7) (v := ?_) rfl (by kernel_rfl) (by kernel_rfl) (by kernel_rfl) (fun _ _ _ h => h) (Or.inl ⟨by kernel_rfl, ?_⟩) (by assumption) ?_
        rotate_left
        · intro w hSw; (try dsimp only at hSw); go_simp; (try with_reducible rfl)
        (try simp only [Act.put, List.setIfInBounds_toArray, List.set_cons_zero, List.set_cons_succ])
        refine wpAnyH_ready (rs := [4]) (by kernel_rfl) (by simp) ?_
        refine ready_l rfl (fun K hK => ?_) AllReadyH.nil
        go_simp
        (go_at_call 51; (with_reducible refine (hN.out _).mono ?_); rintro e vA ⟨rfl, hbvA⟩; have hBvA : Below w1.heap.size w1 vA := Below.trans (by repeat first | with_reducible exact Below.refl _ _ | with_reducible assumption | with_reducible refine below_drewN ?_ _ | with_reducible refine Below.drew ?_ | with_reducible refine Below.setCell ?_ (by first | exact Nat.le_refl _ | (simp; done) | (simp; omega) | omega) _ | with_reducible refine Below.alloc ?_ (by first | exact Nat.le_refl _ | (simp; done) | (simp; omega) | omega) _ | exact Below.refl _ _ | assumption) (hbvA.mono (by first | exact Nat.le_refl _ | assumption | (simp; done) | (simp; omega) | omega)); have hzvA := hbvA.size; )
        refine hK.out _ _ (by exact hcw.out _ (hBvA.block g hglt)) (fun hHeld => ?_)
        clear hK K
        (try simp only [Act.put, List.setIfInBounds_toArray, List.set_cons_zero, List.set_cons_succ])
        refine take_l (i := 8) (v := ?_) rfl (by kernel_rfl) (by kernel_rfl) (by kernel_rfl) (fun _ _ _ h => h) (Or.inl ⟨by kernel_rfl, ?_⟩) (by assumption) ?_
        rotate_left
        · intro w hSw; (try dsimp only at hSw); go_simp; (try with_reducible rfl)
        (try simp only [Act.put, List.setIfInBounds_toArray, List.set_cons_zero, List.set_cons_succ])
        refine take_l (i := 9) (v := ?_) rfl (by kernel_rfl) (by kernel_rfl) (by kernel_rfl) (fun _ _ _ h => h) (Or.inl ⟨by kernel_rfl, ?_⟩) (by assumption) ?_
        rotate_left
        · intro w hSw; (try dsimp only at hSw); go_simp; (try with_reducible rfl)
        (try simp only [Act.put, List.setIfInBounds_toArray, List.set_cons_zero, List.set_cons_succ])
        refine wpAnyH_done (by kernel_rfl) ?_ _
        go_wp2_with fail
        exact ⟨⟨o + 1, by omega, by go_num, hBvA, hno2.out⟩, by simp [intOf]; omega⟩
    · have h17 : o = 17 := by omega
      have hd : decide ((o : Int) < 17) = false := by simp; omega
      have he : ((o : Int) == 17) = true := by rw [beq_iff_eq]; omega
      have hfl := hlaw.out o ho hno.out (fun h => absurd h hlt)
      rw [hfN] at hfl
      have hBA := fun n => hb1.trans ((below_drewN hB0 n).mono hb1.size)
      by_cases hm0 : 0 < m
      · have hd1 : decide ((m : Int) + 1 > 1) = true := by simp; omega
        have hm2 : (1 : Int) < (m : Int) + 1 := by omega
        rw [show findO (cutAll 32 s) o = numQ ((cutAll 32 s).getD 1 []) from if_pos ⟨h17, by rw [← hln.out]; omega⟩] at hfl
        have hq2 := fun W => refNumber_any ((cutAll 32 s).getD 1 []) W (by have := hwl.out 1; omega)
        have hc1 := hcell.out wr (hB0.block g hglt) 1 (by omega)
        have hcA := hcm wr (hB0.block g hglt)
        have hol := numQ_lt ((cutAll 32 s).getD 1 [])
        generalize numQ ((cutAll 32 s).getD 1 []) = oo at *
        generalize (cutAll 32 s).getD 0 [] = w0 at *
        generalize (cutAll 32 s).getD 1 [] = w2 at *
        generalize (cutAll 32 s).getD m [] = wl at *
        replace hq1 := Lib.hid hq1
        replace hq2 := Lib.hid hq2
        clear hfN hno hlaw hcm
        replace h17 := Lib.hid h17
        go_wp2_with fail
        go_quiet (fail)
        go_wp2_with fail
        refine (hq2.out _).mono ?_
        rintro e w3 ⟨rfl, hw3⟩
        rw [hw3]
        clear hw3 w3
        go_wp2_with fail
        refine (hq1.out _).mono ?_
        rintro e w3 ⟨rfl, hw3⟩
        rw [hw3]
        clear hw3 w3
        have hnl := numQ_lt wl
        generalize numQ wl = nn at *
        by_cases c1 : oo ≤ 255
        · have d1 : decide (((oo : Nat) : Int) ≤ 255) = true := by simp; omega
          by_cases c2 : nn ≤ 255
          · have d2 : decide ((nn : Int) ≤ 255) = true := by simp; omega
            have hL := Lib.hid (fun W => refLine_any (oo) nn W (by omega) (by omega))
            by_cases c3 : lineB (oo) nn = s
            · have hq2 : ((str (lineB (oo) nn)).toList == (str s).toList) = true := by rw [c3]; exact beq_self_eq_true _
              have hres := Lib.hid (hfl.1 ⟨c1, c2, c3⟩)
              replace c3 := Lib.hid c3
              clear hfl
              go_wp2_with fail
              refine (hL.out _).mono ?_
              rintro e w9 ⟨rfl, hb9⟩
              have hB9 := ((hBA _)).trans (hb9.mono ((hBA _)).size)
              go_wp2_with fail
              exact bodyPost_ret (v := .tuple #[.int .i64 (oo : Nat), .int .i64 nn, .bool true]) (by simp [results, Tryz.f35, go_sem]) rfl ⟨oo, nn, true, rfl, fun _ => hres.out, (fun h => by cases h), hB9⟩
            · have hq2 : ((str (lineB (oo) nn)).toList == (str s).toList) = false := by rw [Lib.toList_data, Lib.toList_data, str_list, str_list]; simpa using c3
              have hres := Lib.hid (hfl.2 (fun h => c3 h.2.2))
              replace c3 := Lib.hid c3
              clear hfl
              go_wp2_with fail
              refine (hL.out _).mono ?_
              rintro e w9 ⟨rfl, hb9⟩
              have hB9 := ((hBA _)).trans (hb9.mono ((hBA _)).size)
              go_wp2_with fail
              exact bodyPost_ret (v := .tuple #[.int .i64 (oo : Nat), .int .i64 nn, .bool false]) (by simp [results, Tryz.f35, go_sem]) rfl ⟨oo, nn, false, rfl, (fun h => by cases h), fun _ => hres.out, hB9⟩
          · have d2 : decide ((nn : Int) ≤ 255) = false := by simp; omega
            have hres := Lib.hid (hfl.2 (fun h => c2 h.2.1))
            clear hfl
            go_wp2_with fail
            exact bodyPost_ret (v := .tuple #[.int .i64 (oo : Nat), .int .i64 nn, .bool false]) (by simp [results, Tryz.f35, go_sem]) rfl ⟨oo, nn, false, rfl, (fun h => by cases h), fun _ => hres.out, (hBA _)⟩
        · have d1 : decide (((oo : Nat) : Int) ≤ 255) = false := by simp; omega
          have hres := Lib.hid (hfl.2 (fun h => c1 h.1))
          clear hfl
          go_wp2_with fail
          exact bodyPost_ret (v := .tuple #[.int .i64 (oo : Nat), .int .i64 nn, .bool false]) (by simp [results, Tryz.f35, go_sem]) rfl ⟨oo, nn, false, rfl, (fun h => by cases h), fun _ => hres.out, (hBA _)⟩
      · have hd1 : decide ((m : Int) + 1 > 1) = false := by simp; omega
        have hm2 : ¬ (1 : Int) < (m : Int) + 1 := by omega
        rw [show findO (cutAll 32 s) o = o from if_neg (fun h => by have := h.2; rw [← hln.out] at this; omega)] at hfl
        have hcA := hcm wr (hB0.block g hglt)
        generalize (cutAll 32 s).getD 0 [] = w0 at *
        generalize (cutAll 32 s).getD m [] = wl at *
        replace hq1 := Lib.hid hq1
        clear hfN hno hlaw hcm
        replace h17 := Lib.hid h17
        go_wp2_with fail
        go_quiet (fail)
        go_wp2_with fail
        refine (hq1.out _).mono ?_
        rintro e w3 ⟨rfl, hw3⟩
        rw [hw3]
        clear hw3 w3
        have hnl := numQ_lt wl
        generalize numQ wl = nn at *
        by_cases c1 : o ≤ 255
        · have d1 : decide (((o : Nat) : Int) ≤ 255) = true := by simp; omega
          by_cases c2 : nn ≤ 255
          · have d2 : decide ((nn : Int) ≤ 255) = true := by simp; omega
            have hL := Lib.hid (fun W => refLine_any (o) nn W (by omega) (by omega))
            by_cases c3 : lineB (o) nn = s
            · have hq2 : ((str (lineB (o) nn)).toList == (str s).toList) = true := by rw [c3]; exact beq_self_eq_true _
              have hres := Lib.hid (hfl.1 ⟨c1, c2, c3⟩)
              replace c3 := Lib.hid c3
              clear hfl
              go_wp2_with fail
              refine (hL.out _).mono ?_
              rintro e w9 ⟨rfl, hb9⟩
              have hB9 := ((hBA _)).trans (hb9.mono ((hBA _)).size)
              go_wp2_with fail
              exact bodyPost_ret (v := .tuple #[.int .i64 (o : Nat), .int .i64 nn, .bool true]) (by simp [results, Tryz.f35, go_sem]) rfl ⟨o, nn, true, rfl, fun _ => hres.out, (fun h => by cases h), hB9⟩
            · have hq2 : ((str (lineB (o) nn)).toList == (str s).toList) = false := by rw [Lib.toList_data, Lib.toList_data, str_list, str_list]; simpa using c3
              have hres := Lib.hid (hfl.2 (fun h => c3 h.2.2))
              replace c3 := Lib.hid c3
              clear hfl
              go_wp2_with fail
              refine (hL.out _).mono ?_
              rintro e w9 ⟨rfl, hb9⟩
              have hB9 := ((hBA _)).trans (hb9.mono ((hBA _)).size)
              go_wp2_with fail
              exact bodyPost_ret (v := .tuple #[.int .i64 (o : Nat), .int .i64 nn, .bool false]) (by simp [results, Tryz.f35, go_sem]) rfl ⟨o, nn, false, rfl, (fun h => by cases h), fun _ => hres.out, hB9⟩
          · have d2 : decide ((nn : Int) ≤ 255) = false := by simp; omega
            have hres := Lib.hid (hfl.2 (fun h => c2 h.2.1))
            clear hfl
            go_wp2_with fail
            exact bodyPost_ret (v := .tuple #[.int .i64 (o : Nat), .int .i64 nn, .bool false]) (by simp [results, Tryz.f35, go_sem]) rfl ⟨o, nn, false, rfl, (fun h => by cases h), fun _ => hres.out, (hBA _)⟩
        · have d1 : decide (((o : Nat) : Int) ≤ 255) = false := by simp; omega
          have hres := Lib.hid (hfl.2 (fun h => c1 h.1))
          clear hfl
          go_wp2_with fail
          exact bodyPost_ret (v := .tuple #[.int .i64 (o : Nat), .int .i64 nn, .bool false]) (by simp [results, Tryz.f35, go_sem]) rfl ⟨o, nn, false, rfl, (fun h => by cases h), fun _ => hres.out, (hBA _)⟩
end Go.Proofs.YtkgbknjpnhoadaaGreatDoor
namespace Go.Proofs.YtkgbknjpnhoadaaGreatDoor
open Go.RowKit Go.Shelf

set_option maxHeartbeats 1000000 in
theorem refValid_any (p d : ByteArray) (w : World) :
    Calls Tryz.prog 27 #[.string p, .string d] w fun r w' => r = .returned (.bool (progOk p.data.toList d.data.toList)) ∧ ∃ q, w' = w.drewN q := by
  go_enter Tryz.func27, Tryz.ntmps27
  go_wp2
  all_goals (go_ret; refine ⟨congrArg (fun z => Ending.returned (.bool z)) ?_, by first | exact ⟨0, rfl⟩ | exact ⟨_, rfl⟩⟩; rw [Bool.eq_iff_iff]; simp [progOk]; try omega)

theorem printB_app : ∀ (a : List UInt8) (x y : UInt8), a.length % 2 = 0 → printB (a ++ [x, y]) = printB a ++ (lineB x.toNat y.toNat ++ [10])
  | [], x, y, _ => by simp [printB]
  | [_], _, _, h => by simp at h
  | u :: v :: r, x, y, h => by
    have ih := printB_app r x y (by simp at h ⊢; omega)
    rw [List.cons_append, List.cons_append, printB, ih, printB]
    simp
theorem printB_snoc (l : List UInt8) (j : Nat) (he : j % 2 = 0) (h : j + 1 < l.length) : printB (l.take (j + 2)) = printB (l.take j) ++ (lineB l[j]!.toNat l[j + 1]!.toNat ++ [10]) := by
  rw [take_snoc l (j + 1) h, take_snoc l j (by omega), List.append_assoc]
  exact printB_app _ _ _ (by rw [List.length_take]; omega)

set_option maxRecDepth 100000 in
set_option maxHeartbeats 4000000 in
theorem refPrint_any (l : List UInt8) (w : World) :
    Calls Tryz.prog 13 #[.string (str l)] w fun e w' => e = .returned (.tuple #[.string (str (printL (str l))), .int .i64 (printE (str l))]) ∧ Below w.heap.size w w' := by
  have hV := Lib.hid (refValid_any (str l) ByteArray.empty w)
  have hpl : progOk l [] = true → printL (str l) = printB l ∧ printE (str l) = 0 := fun h => ⟨if_pos h, if_pos h⟩
  have hpn : progOk l [] = false → printL (str l) = [] ∧ printE (str l) = 120 := fun h => ⟨if_neg (by rw [str_list, h]; decide), if_neg (by rw [str_list, h]; decide)⟩
  cases hq : progOk l [] with
  | false =>
    rw [(hpn hq).1, (hpn hq).2]
    rw [show progOk (str l).data.toList ByteArray.empty.data.toList = false from hq] at hV
    clear hpl hpn hq
    go_enter Tryz.func13, Tryz.ntmps13
    go_wp2_with fail
    refine hV.out.mono ?_
    rintro e w1 ⟨rfl, q1, rfl⟩
    have hb1 := below_drewN (Below.refl w.heap.size w) q1
    go_wp2_with fail
    go_ret2
    exact ⟨rfl, hb1⟩
  | true =>
    rw [(hpl hq).1, (hpl hq).2]
    rw [show progOk (str l).data.toList ByteArray.empty.data.toList = true from hq] at hV
    have h2 : l.length ≤ 256 ∧ l.length % 2 = 0 := by simpa [progOk] using hq
    clear hpl hpn hq
    have hps : (str l).size = l.length := str_size l
    have hPG : ∀ j (h : j < (str l).size), (str l)[j].toNat = l[j]!.toNat := fun j h => by
      rw [str_at, getElem!_pos l j (by rw [str_size] at h; exact h)]
    generalize str l = P at *
    replace hps := Lib.hid hps
    replace hPG := Lib.hid hPG
    obtain ⟨h256, hev⟩ := h2
    go_enter Tryz.func13, Tryz.ntmps13
    go_wp2_with fail
    refine hV.out.mono ?_
    rintro e w1 ⟨rfl, q1, rfl⟩
    have hb1 := below_drewN (Below.refl w.heap.size w) q1
    clear hV
    generalize w.drewN q1 = w1 at *
    go_wp2_with fail
    go_loopw [5, 4] (fun i v wr => ∃ j : Nat, j ≤ l.length ∧ Hid (j % 2 = 0) ∧ i = .int .i64 j ∧ v = .string (str (printB (l.take j))) ∧ Aside (Below w1.heap.size w1 wr)) (fun i _ _ => l.length - (intOf i).toNat)
    case atStart => exact ⟨0, Nat.zero_le _, (show Hid _ from rfl), rfl, rfl, Below.refl _ _⟩
    case round =>
      obtain ⟨j, hj, he, rfl, rfl, BW⟩ := hrel
      have hps' := hps.out
      by_cases hlt : j < l.length
      · have hj1 : j + 1 < l.length := by have := he.out; omega
        have hjs : j + 1 < P.size := by omega
        have hj0 : j < P.size := by omega
        have hd : decide ((j : Int) + 1 < (P.size : Int)) = true := by simp; omega
        have g1 := hPG.out j hj0
        have g2 := hPG.out (j + 1) hjs
        have hsn := printB_snoc l j he.out hj1
        rw [← g1, ← g2] at hsn
        have hLn := Lib.hid (fun W => refLine_any (P[j]'hj0).toNat (P[j + 1]'hjs).toNat W (by rw [g1]; exact (l[j]!).toNat_lt) (by rw [g2]; exact (l[j + 1]!).toNat_lt))
        have hll : (lineB (P[j]'hj0).toNat (P[j + 1]'hjs).toNat).length ≤ 11 := lineB_len (by rw [g1]; exact (l[j]!).toNat_lt) (by rw [g2]; exact (l[j + 1]!).toNat_lt)
        have hpl := printB_len (l.take j)
        rw [List.length_take] at hpl
        have hadd1 := add_str (printB (l.take j)) (lineB (P[j]'hj0).toNat (P[j + 1]'hjs).toNat) (by omega)
        have hadd2 := add_str (printB (l.take j) ++ lineB (P[j]'hj0).toNat (P[j + 1]'hjs).toNat) [10] (by simp; omega)
        rw [List.append_assoc, ← hsn, show str [10] = ⟨#[10]⟩ from rfl] at hadd2
        replace hsn := Lib.hid hsn
        have i1 : (0 : Int) ≤ (j : Int) + 1 := by omega
        have i2 : (j : Int) + 1 < (P.size : Int) := by omega
        have hw1 : IntKind.i64.wrap ((j : Int) + 1) = (j : Int) + 1 := IntWalk.i64_in _ (by omega)
        have hw2 : IntKind.i64.wrap ((j : Int) + 2) = (j : Int) + 2 := IntWalk.i64_in _ (by omega)
        have hw3 : IntKind.i64.wrap (((P[j]'hj0).toNat : Nat) : Int) = (((P[j]'hj0).toNat : Nat) : Int) := IntWalk.i64_in _ (by have := (P[j]'hj0).toNat_lt; omega)
        have hw4 : IntKind.i64.wrap (((P[j + 1]'hjs).toNat : Nat) : Int) = (((P[j + 1]'hjs).toNat : Nat) : Int) := IntWalk.i64_in _ (by have := (P[j + 1]'hjs).toNat_lt; omega)
        have hBr := BW.out
        have hsz : w1.heap.size ≤ wr.drew.heap.size := hBr.size
        generalize printB (l.take j) ++ lineB (P[j]'hj0).toNat (P[j + 1]'hjs).toNat = s1 at *
        clear g1 g2 hpl
        replace hps' := Lib.hid hps'
        go_wp2_with fail
        refine wp_region_held_drew (S := fun w' => True) (by kernel_rfl) (by exact trivial) (fun hHeld => ?_)
        refine take_l (i := 0) (v := ?_) rfl (by kernel_rfl) (by kernel_rfl) (by kernel_rfl) (fun _ _ _ h => h) (Or.inl ⟨by kernel_rfl, ?_⟩) (by assumption) ?_
        rotate_left
        · intro w hSw; (try dsimp only at hSw); go_simp; (try with_reducible rfl)
        (try simp only [Act.put, List.setIfInBounds_toArray, List.set_cons_zero, List.set_cons_succ])
        refine take_l (i := 1) (v := ?_) rfl (by kernel_rfl) (by kernel_rfl) (by kernel_rfl) (fun _ _ _ h => h) (Or.inl ⟨by kernel_rfl, ?_⟩) (by assumption) ?_
        rotate_left
        · intro w hSw; (try dsimp only at hSw); go_simp; (try with_reducible rfl)
        (try simp only [Act.put, List.setIfInBounds_toArray, List.set_cons_zero, List.set_cons_succ])
        refine take_l (i := 2) (v := ?_) rfl (by kernel_rfl) (by kernel_rfl) (by kernel_rfl) (fun _ _ _ h => h) (Or.inl ⟨by kernel_rfl, ?_⟩) (by assumption) ?_
        rotate_left
        · intro w hSw; (try dsimp only at hSw); go_simp; (try with_reducible rfl)
        (try simp only [Act.put, List.setIfInBounds_toArray, List.set_cons_zero, List.set_cons_succ])
        refine take_l (i := 3) (v := ?_) rfl (by kernel_rfl) (by kernel_rfl) (by kernel_rfl) (fun _ _ _ h => h) (Or.inl ⟨by kernel_rfl, ?_⟩) (by assumption) ?_
        rotate_left
        · intro w hSw; (try dsimp only at hSw); go_simp; (try with_reducible rfl)
        (try simp only [Act.put, List.setIfInBounds_toArray, List.set_cons_zero, List.set_cons_succ])
        refine take_l (i := 4) (v := ?_) rfl (by kernel_rfl) (by kernel_rfl) (by kernel_rfl) (fun _ _ _ h => h) (Or.inl ⟨by kernel_rfl, ?_⟩) (by assumption) ?_
        rotate_left
        · intro w hSw; (try dsimp only at hSw); go_simp; (try with_reducible rfl)
        (try simp only [Act.put, List.setIfInBounds_toArray, List.set_cons_zero, List.set_cons_succ])
        refine take_l (i := 5) (v := ?_) rfl (by kernel_rfl) (by kernel_rfl) (by kernel_rfl) (fun _ _ _ h => h) (Or.inl ⟨by kernel_rfl, ?_⟩) (by assumption) ?_
        rotate_left
        · intro w hSw; (try dsimp only at hSw); go_simp; (try with_reducible rfl)
        (try simp only [Act.put, List.setIfInBounds_toArray, List.set_cons_zero, List.set_cons_succ])
        refine take_l (i := 6) (v := ?_) rfl (by kernel_rfl) (by kernel_rfl) (by kernel_rfl) (fun _ _ _ h => h) (Or.inl ⟨by kernel_rfl, ?_⟩) (by assumption) ?_
        rotate_left
        · intro w hSw; (try dsimp only at hSw); go_simp; (try with_reducible rfl)
        (try simp only [Act.put, List.setIfInBounds_toArray, List.set_cons_zero, List.set_cons_succ])
        refine take_l (i := 7) (v := ?_) rfl (by kernel_rfl) (by kernel_rfl) (by kernel_rfl) (fun _ _ _ h => h) (Or.inl ⟨by kernel_rfl, ?_⟩) (by assumption) ?_
        rotate_left
        · intro w hSw; (try dsimp only at hSw); go_simp; (try with_reducible rfl)
        (try simp only [Act.put, List.setIfInBounds_toArray, List.set_cons_zero, List.set_cons_succ])
        refine take_l (i := 8) (v := ?_) rfl (by kernel_rfl) (by kernel_rfl) (by kernel_rfl) (fun _ _ _ h => h) (Or.inl ⟨by kernel_rfl, ?_⟩) (by assumption) ?_
        rotate_left
        · intro w hSw; (try dsimp only at hSw); go_simp; (try with_reducible rfl)
        (try simp only [Act.put, List.setIfInBounds_toArray, List.set_cons_zero, List.set_cons_succ])
        refine take_l (i := 9) (v := ?_) rfl (by kernel_rfl) (by kernel_rfl) (by kernel_rfl) (fun _ _ _ h => h) (Or.inl ⟨by kernel_rfl, ?_⟩) (by assumption) ?_
        rotate_left
        · intro w hSw; (try dsimp only at hSw); go_simp; (try with_reducible rfl)
        (try simp only [Act.put, List.setIfInBounds_toArray, List.set_cons_zero, List.set_cons_succ])
        refine wpAnyH_ready (rs := [10]) (by kernel_rfl) (by simp) ?_
        refine ready_l rfl (fun K hK => ?_) AllReadyH.nil
        go_simp
        (go_at_call 32; (with_reducible refine (hLn.out _).mono ?_); rintro e vA ⟨rfl, hbvA⟩; have hBvA : Below w1.heap.size w1 vA := Below.trans (by repeat first | with_reducible exact Below.refl _ _ | with_reducible assumption | with_reducible refine below_drewN ?_ _ | with_reducible refine Below.drew ?_ | with_reducible refine Below.setCell ?_ (by first | exact Nat.le_refl _ | (simp; done) | (simp; omega) | omega) _ | with_reducible refine Below.alloc ?_ (by first | exact Nat.le_refl _ | (simp; done) | (simp; omega) | omega) _ | exact Below.refl _ _ | assumption) (hbvA.mono (by first | exact Nat.le_refl _ | assumption | (simp; done) | (simp; omega) | omega)); have hzvA := hbvA.size; )
        refine hK.out _ _ (by exact trivial) (fun hHeld => ?_)
        clear hK K
        (try simp only [Act.put, List.setIfInBounds_toArray, List.set_cons_zero, List.set_cons_succ])
        refine take_l (i := 11) (v := ?_) rfl (by kernel_rfl) (by kernel_rfl) (by kernel_rfl) (fun _ _ _ h => h) (Or.inl ⟨by kernel_rfl, ?_⟩) (by assumption) ?_
        rotate_left
        · intro w hSw; (try dsimp only at hSw); go_simp; (try with_reducible rfl)
        (try simp only [Act.put, List.setIfInBounds_toArray, List.set_cons_zero, List.set_cons_succ])
        refine take_l (i := 12) (v := ?_) rfl (by kernel_rfl) (by kernel_rfl) (by kernel_rfl) (fun _ _ _ h => h) (Or.inl ⟨by kernel_rfl, ?_⟩) (by assumption) ?_
        rotate_left
        · intro w hSw; (try dsimp only at hSw); go_simp; (try with_reducible rfl)
        (try simp only [Act.put, List.setIfInBounds_toArray, List.set_cons_zero, List.set_cons_succ])
        refine take_l (i := 13) (v := ?_) rfl (by kernel_rfl) (by kernel_rfl) (by kernel_rfl) (fun _ _ _ h => h) (Or.inl ⟨by kernel_rfl, ?_⟩) (by assumption) ?_
        rotate_left
        · intro w hSw; (try dsimp only at hSw); go_simp; (try with_reducible rfl)
        (try simp only [Act.put, List.setIfInBounds_toArray, List.set_cons_zero, List.set_cons_succ])
        refine wpAnyH_done (by kernel_rfl) ?_ _
        go_wp2_with fail
        exact ⟨⟨j + 2, by omega, (show Hid _ from by have := he.out; show (j + 2) % 2 = 0; omega), by go_num, rfl, hBvA⟩, by simp [intOf]; omega⟩
      · have hje : j = l.length := by omega
        have hjs : ¬ j + 1 < P.size := by omega
        have hd : decide ((j : Int) + 1 < (P.size : Int)) = false := by simp; omega
        have hw1 : IntKind.i64.wrap ((j : Int) + 1) = (j : Int) + 1 := IntWalk.i64_in _ (by omega)
        have htk : printB (l.take j) = printB l := by rw [hje, List.take_length]
        rw [htk]
        replace htk := Lib.hid htk
        replace hje := Lib.hid hje
        replace hps' := Lib.hid hps'
        have hBr := hb1.trans (BW.out.mono hb1.size)
        go_wp2_with fail
        go_ret2
        exact ⟨rfl, hBr⟩
end Go.Proofs.YtkgbknjpnhoadaaGreatDoor
namespace Go.Proofs.YtkgbknjpnhoadaaGreatDoor
open Go.RowKit Go.Shelf

structure RefI (w wr : World) (s : List UInt8) (k f ln : Nat) (out : List UInt8) (v : Value) : Prop where
  below : Below w.heap.size w wr
  own : wr.ownsRow w.heap.size 5 1 v out.length (Lib.byteCells out)
  eq : parseB s = parseL (cutAll 10 (s.drop f)) ln out
  no : ∀ x ∈ (s.drop f).take (k - f), x ≠ 10
  le : f ≤ k
  len : ln ≤ k
  cap : out.length ≤ 258
theorem RefI.miss {w wr : World} {s : List UInt8} {k f ln : Nat} {out : List UInt8} {v : Value} (h : RefI w wr s k f ln out v) (hk : k < s.length) (hc : s[k]! ≠ 10) : RefI w wr s (k + 1) f ln out v := by
  refine ⟨h.below, h.own, h.eq, fun x hx => ?_, by have := h.le; omega, by have := h.len; omega, h.cap⟩
  rw [take_drop_snoc s f k h.le hk] at hx
  rcases List.mem_append.1 hx with hx | hx
  · exact h.no x hx
  · obtain rfl := List.mem_singleton.1 hx
    exact hc
theorem RefI.hit {w wr : World} {s : List UInt8} {k f ln : Nat} {out : List UInt8} {v : Value} (h : RefI w wr s k f ln out v) (hk : k < s.length) (hc : s[k]! = 10) :
    parseB s = stepP (findB ((s.drop f).take (k - f))) ln out fun out' => parseL (cutAll 10 (s.drop (k + 1))) (ln + 1) out' := by
  rw [h.eq]
  conv => lhs; rw [drop_parts s f k h.le hk, hc]
  rw [cutAll_hit _ _ _ h.no]
  cases hq : cutAll 10 (s.drop (k + 1)) with
  | nil => exact absurd hq (cutAll_ne _ _)
  | cons q r => rw [parseL]
theorem RefI.done {w wr : World} {s : List UInt8} {f ln : Nat} {out : List UInt8} {v : Value} (h : RefI w wr s s.length f ln out v) : parseB s = if f < s.length then ([], ln + 1, 120) else (out, 0, 0) := by
  rw [h.eq, cutAll_miss, parseL]
  · by_cases hf : f < s.length
    · rw [if_pos hf, if_neg (by
        intro h0
        have := congrArg List.length h0
        simp at this
        omega)]
    · rw [if_neg hf, if_pos (List.drop_eq_nil_of_le (by omega))]
  · intro x hx
    refine h.no x ?_
    rw [List.take_of_length_le (by simp)]
    exact hx
/-- Two bytes are appended to a row of the call's own: the run, ahead of the walk. -/
theorem append_two (ws : World) (base : Nat) (v : Value) (out : List UInt8) (o n : Nat) (ho : o < 256) (hn : n < 256) (hown : ws.ownsRow base 5 1 v out.length (Lib.byteCells out)) (hl : out.length ≤ 1000000) (hb : base ≤ ws.heap.size) :
    ∃ v' w', (Builtin.append_ #[41, 41] 41 #[v, .slice (some ⟨ws.heap.size, 0, none⟩) 2 2]).run Tryz.prog (ws.alloc (.cells #[.int .u8 (o : Int), .int .u8 (n : Int)] 5)) = .ok v' w' ∧
      w'.ownsRow base 5 1 v' (out ++ [UInt8.ofNat o, UInt8.ofNat n]).length (Lib.byteCells (out ++ [UInt8.ofNat o, UInt8.ofNat n])) ∧ (∀ B u, B ≤ base → Below B u ws → Below B u w') := by
  obtain ⟨i0, hi, hz0, hz1, hz2⟩ := info_parts info_byte4
  have hown2 := own_below hown ((Below.refl ws.heap.size ws).alloc (Nat.le_refl _) (.cells #[.int .u8 (o : Int), .int .u8 (n : Int)] 5))
  have hnew : Arr (ws.alloc (.cells #[.int .u8 (o : Int), .int .u8 (n : Int)] 5)) ws.heap.size 5 [.int .u8 (o : Int), .int .u8 (n : Int)] := Arr.new rfl rfl
  obtain ⟨v', w', hrun, r1, r2, r3, r4⟩ := run_append_own_at (P := Tryz.prog) (ws.alloc (.cells #[.int .u8 (o : Int), .int .u8 (n : Int)] 5)) base 41 41 5 i0 (.int .u8 0) 1 1 Tryz.underlying41 hi hz0 hz1 hz2 rfl (by decide) v out.length (Lib.byteCells out) hown2 ⟨ws.heap.size, 0, none⟩ 2 2 [.int .u8 (o : Int), .int .u8 (n : Int)] rfl (fun j u hu => by rw [Addr.add_mid, Nat.zero_add]; exact hnew.cell hu)
    (by intro u hu; simp at hu; rcases hu with rfl | rfl <;> rfl) (by unfold maxLen; omega) (by omega) (by simp; omega)
  have e : Lib.byteCells out ++ [Value.int .u8 (o : Int), .int .u8 (n : Int)] = Lib.byteCells (out ++ [UInt8.ofNat o, UInt8.ofNat n]) := by
    simp [Lib.byteCells, Nat.mod_eq_of_lt ho, Nat.mod_eq_of_lt hn]
  refine ⟨v', w', hrun, by rw [← e, List.length_append]; exact r1, fun B u hB hu => ?_⟩
  exact (hu.alloc (by omega) _).grown r2 (by simp; omega) (fun j ej => Nat.le_trans hB (hown2.lt j ej).1)

set_option maxRecDepth 100000 in
set_option maxHeartbeats 4000000 in
theorem refParse_any (s : List UInt8) (w : World) (hs : s.length ≤ 5000) :
    Calls Tryz.prog 15 #[.string (str s)] w fun e w' => e = .returned (.tuple #[.string (str (parseB s).1), .int .i64 ((parseB s).2.1 : Nat), .int .i64 (parseB s).2.2]) ∧ Below w.heap.size w w' := by
  have hps : (str s).size = s.length := str_size s
  have hPG : ∀ j (h : j < (str s).size), (((str s)[j].toNat : Nat) : Int) = (s[j]!.toNat : Nat) := fun j h => by
    rw [str_at, getElem!_pos s j (by rw [str_size] at h; exact h)]
  have hex := extract_mid s
  generalize str s = P at *
  replace hPG := Lib.hid hPG
  replace hps := Lib.hid hps
  replace hex := Lib.hid hex
  go_enter Tryz.func15, Tryz.ntmps15
  go_wp2_with fail
  go_loopw [8, 7, 6, 5] (fun i g l v wr => ∃ (k f ln : Nat) (out : List UInt8), k ≤ s.length ∧ i = .int .i64 k ∧ g = .int .i64 f ∧ l = .int .i64 ((ln : Int) + 1) ∧ Hid (RefI w wr s k f ln out v)) (fun i _ _ _ _ => s.length - (intOf i).toNat)
  case atStart => exact ⟨0, 0, 0, [], Nat.zero_le _, rfl, rfl, rfl, (show RefI _ _ _ _ _ _ _ _ from ⟨Below.refl _ _, World.ownsRow_nil _ _ _ _, rfl, by simp, Nat.le_refl _, Nat.zero_le _, by simp⟩)⟩
  case round =>
    obtain ⟨k, f, ln, out, hk, rfl, rfl, rfl, hI⟩ := hrel
    obtain ⟨ao, vc, rfl⟩ := own_val hI.out.own
    have hps' := hps.out
    have hfk := hI.out.le
    have hol := hI.out.len
    have hcap := hI.out.cap
    by_cases hlt : k < s.length
    · have hj0 : k < P.size := by omega
      have hd : decide ((k : Int) < (P.size : Int)) = true := by simp; omega
      have hg := hPG.out k hj0
      by_cases hc : s[k]! = 10
      · have hex' := hex.out f k
        have hstep := hI.out.hit hlt hc
        rw [hc] at hg
        have hq : ((((P[k]'hj0).toNat : Nat) : Int) != 10) = false := by rw [hg]; rfl
        have i1 : (0 : Int) ≤ (f : Int) := by omega
        have i2 : (f : Int) ≤ (k : Int) := by omega
        have i3 : (k : Int) ≤ (P.size : Int) := by omega
        have hFi := fun W => find_any ((s.drop f).take (k - f)) W (by rw [List.length_take]; omega)
        generalize (s.drop f).take (k - f) = pc at *
        clear hc
        replace hstep := Lib.hid hstep
        replace hFi := Lib.hid hFi
        replace hps' := Lib.hid hps'
        go_wp2_with fail
        refine (hFi.out _).mono ?_
        rintro e w2 ⟨o, n, ok, rfl, hy, hn, hb2⟩
        have hB2 := hI.out.below.trans (hb2.mono hI.out.below.size)
        have ho2 := own_below hI.out.own hb2
        cases ok with
        | false =>
          have hres : Hid (parseB s = ([], ln + 1, 120)) := by
            show _ = _
            rw [hstep.out, hn rfl]; rfl
          clear hy hn
          go_wp2_with fail
          rw [hres.out]
          exact bodyPost_ret (v := .tuple #[.string ⟨#[]⟩, .int .i64 ((ln : Int) + 1), .int .i64 120]) (by simp [results, Tryz.f15, go_sem]) rfl ⟨rfl, hB2⟩
        | true =>
          have hf := hy rfl
          obtain ⟨ho256, hn256, _⟩ := findB_some.1 hf
          clear hy hn
          by_cases hfull : 256 ≤ out.length
          · have hd2 : decide ((out.length : Int) ≥ 256) = true := by simp; omega
            have hres : Hid (parseB s = ([], ln + 1, 120)) := by
              show _ = _
              rw [hstep.out, hf, stepP, if_pos hfull]
            replace hf := Lib.hid hf
            go_wp2_with fail
            rw [hres.out]
            exact bodyPost_ret (v := .tuple #[.string ⟨#[]⟩, .int .i64 ((ln : Int) + 1), .int .i64 120]) (by simp [results, Tryz.f15, go_sem]) rfl ⟨rfl, hB2⟩
          · have hd2 : decide ((out.length : Int) ≥ 256) = false := by simp; omega
            obtain ⟨v', w', hrun, r1, r5⟩ := append_two w2 w.heap.size _ out o n ho256 hn256 ho2 (by omega) hB2.size
            have hIn : RefI w w' s (k + 1) (k + 1) (ln + 1) (out ++ [UInt8.ofNat o, UInt8.ofNat n]) v' := ⟨r5 _ _ (Nat.le_refl _) hB2, r1, by rw [hstep.out, hf, stepP, if_neg hfull], by simp, Nat.le_refl _, by omega, by simp; omega⟩
            have hw1 : IntKind.u8.wrap (o : Int) = (o : Int) := IntWalk.u8_in _ (by omega)
            have hw2 : IntKind.u8.wrap (n : Int) = (n : Int) := IntWalk.u8_in _ (by omega)
            have hw3 : IntKind.i64.wrap ((ln : Int) + 1 + 1) = (ln : Int) + 1 + 1 := IntWalk.i64_in _ (by omega)
            replace hIn := Lib.hid hIn
            replace hrun := Lib.hid hrun
            replace hf := Lib.hid hf
            clear r1 r5 ho2 hI
            go_wp2_with (at_builtin; go_loud (refine wpList_append_known rfl _ _ _ _ rfl _ _ rfl rfl hrun.out ?_))
            exact ⟨⟨k + 1, k + 1, ln + 1, _, by omega, by go_num, by go_num, by go_num, hIn⟩, by simp [intOf]; omega⟩
      · have hIn := Lib.hid (hI.out.miss hlt hc)
        have hc2 : s[k]!.toNat ≠ 10 := fun h => hc (UInt8.toNat_inj.1 h)
        clear hc
        generalize s[k]! = x at *
        have hq : ((((P[k]'hj0).toNat : Nat) : Int) != 10) = true := by rw [hg, bne_iff_ne]; omega
        have hq2 : (((x.toNat : Nat) : Int) != 10) = true := by rw [bne_iff_ne]; omega
        clear hI
        replace hps' := Lib.hid hps'
        go_wp2_with fail
        exact ⟨⟨k + 1, f, ln, _, by omega, by go_num, by go_num, rfl, hIn⟩, by simp [intOf]; omega⟩
    · obtain rfl : k = s.length := by omega
      have hd : decide ((s.length : Int) < (P.size : Int)) = false := by rw [hps']; simp
      have hj0 : ¬ s.length < P.size := by omega
      have hdone := hI.out.done
      have hBz := hI.out.below
      by_cases hf : f < s.length
      · have hd2 : decide ((f : Int) < (P.size : Int)) = true := by simp; omega
        have hf2 : f < P.size := by omega
        rw [if_pos hf] at hdone
        replace hdone := Lib.hid hdone
        replace hps' := Lib.hid hps'
        go_wp2_with fail
        rw [hdone.out]
        exact bodyPost_ret (v := .tuple #[.string ⟨#[]⟩, .int .i64 ((ln : Int) + 1), .int .i64 120]) (by simp [results, Tryz.f15, go_sem]) rfl ⟨rfl, hBz⟩
      · have hd2 : decide ((f : Int) < (P.size : Int)) = false := by simp; omega
        have hf2 : ¬ f < P.size := by omega
        rw [if_neg hf] at hdone
        have hconv := conv_own hI.out.own
        replace hdone := Lib.hid hdone
        replace hps' := Lib.hid hps'
        go_wp2_with fail
        rw [hdone.out]
        exact bodyPost_ret (v := .tuple #[.string (str out), .int .i64 0, .int .i64 0]) (by simp [results, Tryz.f15, go_sem]) rfl ⟨rfl, hBz⟩
end Go.Proofs.YtkgbknjpnhoadaaGreatDoor
