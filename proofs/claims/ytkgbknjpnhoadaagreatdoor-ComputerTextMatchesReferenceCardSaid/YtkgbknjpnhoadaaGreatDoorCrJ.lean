/-
  The reference's Valid, Print and Parse.
-/
import Derived.Test.YtkgbknjpnhoadaaGreatDoorCrI
namespace Go.Proofs.YtkgbknjpnhoadaaGreatDoor
open Go.RowKit Go.Shelf

set_option maxHeartbeats 1000000 in
theorem refValid_any (p d : ByteArray) (w : World) :
    Calls Tryz.prog 27 #[.string p, .string d] w fun r w' => r = .returned (.bool (progOk p.data.toList d.data.toList)) ∧ ∃ q, w' = w.drewN q := by
  go_enter Tryz.func27, Tryz.ntmps27
  go_wp2
  all_goals (go_ret; refine ⟨congrArg (fun z => Ending.returned (.bool z)) ?_, by first | exact ⟨0, rfl⟩ | exact ⟨_, rfl⟩⟩; rw [Bool.eq_iff_iff]; simp [progOk]; try omega)

theorem printB_app : ∀ (a : List UInt8) (x y : UInt8), a.length % 2 = 0 → printB (a ++ [x, y]) = printB a ++ (lineB x.toNat y.toNat ++ [10])
  | [], x, y, _ => by simp [printB]
  | [_], _, _, h => by simp at h
  | u :: v :: r, x, y, h => by
    have ih := printB_app r x y (by simp at h ⊢; omega)
    rw [List.cons_append, List.cons_append, printB, ih, printB]
    simp
theorem printB_snoc (l : List UInt8) (j : Nat) (he : j % 2 = 0) (h : j + 1 < l.length) : printB (l.take (j + 2)) = printB (l.take j) ++ (lineB l[j]!.toNat l[j + 1]!.toNat ++ [10]) := by
  rw [take_snoc l (j + 1) h, take_snoc l j (by omega), List.append_assoc]
  exact printB_app _ _ _ (by rw [List.length_take]; omega)

set_option maxRecDepth 100000 in
set_option maxHeartbeats 4000000 in
theorem refPrint_any (l : List UInt8) (w : World) :
    Calls Tryz.prog 13 #[.string (str l)] w fun e w' => e = .returned (.tuple #[.string (str (printL (str l))), .int .i64 (printE (str l))]) ∧ Below w.heap.size w w' := by
  have hV := Lib.hid (refValid_any (str l) ByteArray.empty w)
  have hpl : progOk l [] = true → printL (str l) = printB l ∧ printE (str l) = 0 := fun h => ⟨if_pos h, if_pos h⟩
  have hpn : progOk l [] = false → printL (str l) = [] ∧ printE (str l) = 120 := fun h => ⟨if_neg (by rw [str_list, h]; decide), if_neg (by rw [str_list, h]; decide)⟩
  cases hq : progOk l [] with
  | false =>
    rw [(hpn hq).1, (hpn hq).2]
    rw [show progOk (str l).data.toList ByteArray.empty.data.toList = false from hq] at hV
    clear hpl hpn hq
    go_enter Tryz.func13, Tryz.ntmps13
    go_wp2_with fail
    refine hV.out.mono ?_
    rintro e w1 ⟨rfl, q1, rfl⟩
    have hb1 := below_drewN (Below.refl w.heap.size w) q1
    go_wp2_with fail
    go_ret2
    exact ⟨rfl, hb1⟩
  | true =>
    rw [(hpl hq).1, (hpl hq).2]
    rw [show progOk (str l).data.toList ByteArray.empty.data.toList = true from hq] at hV
    have h2 : l.length ≤ 256 ∧ l.length % 2 = 0 := by simpa [progOk] using hq
    clear hpl hpn hq
    have hps : (str l).size = l.length := str_size l
    have hPG : ∀ j (h : j < (str l).size), (str l)[j].toNat = l[j]!.toNat := fun j h => by
      rw [str_at, getElem!_pos l j (by rw [str_size] at h; exact h)]
    generalize str l = P at *
    replace hps := Lib.hid hps
    replace hPG := Lib.hid hPG
    obtain ⟨h256, hev⟩ := h2
    go_enter Tryz.func13, Tryz.ntmps13
    go_wp2_with fail
    refine hV.out.mono ?_
    rintro e w1 ⟨rfl, q1, rfl⟩
    have hb1 := below_drewN (Below.refl w.heap.size w) q1
    clear hV
    generalize w.drewN q1 = w1 at *
    go_wp2_with fail
    go_loopw [5, 4] (fun i v wr => ∃ j : Nat, j ≤ l.length ∧ Hid (j % 2 = 0) ∧ i = .int .i64 j ∧ v = .string (str (printB (l.take j))) ∧ Aside (Below w1.heap.size w1 wr)) (fun i _ _ => l.length - (intOf i).toNat)
    case atStart => exact ⟨0, Nat.zero_le _, (show Hid _ from rfl), rfl, rfl, Below.refl _ _⟩
    case round =>
      obtain ⟨j, hj, he, rfl, rfl, BW⟩ := hrel
      have hps' := hps.out
      by_cases hlt : j < l.length
      · have hj1 : j + 1 < l.length := by have := he.out; omega
        have hjs : j + 1 < P.size := by omega
        have hj0 : j < P.size := by omega
        have hd : decide ((j : Int) + 1 < (P.size : Int)) = true := by simp; omega
        have g1 := hPG.out j hj0
        have g2 := hPG.out (j + 1) hjs
        have hsn := printB_snoc l j he.out hj1
        rw [← g1, ← g2] at hsn
        have hLn := Lib.hid (fun W => refLine_any (P[j]'hj0).toNat (P[j + 1]'hjs).toNat W (by rw [g1]; exact (l[j]!).toNat_lt) (by rw [g2]; exact (l[j + 1]!).toNat_lt))
        have hll : (lineB (P[j]'hj0).toNat (P[j + 1]'hjs).toNat).length ≤ 11 := lineB_len (by rw [g1]; exact (l[j]!).toNat_lt) (by rw [g2]; exact (l[j + 1]!).toNat_lt)
        have hpl := printB_len (l.take j)
        rw [List.length_take] at hpl
        have hadd1 := add_str (printB (l.take j)) (lineB (P[j]'hj0).toNat (P[j + 1]'hjs).toNat) (by omega)
        have hadd2 := add_str (printB (l.take j) ++ lineB (P[j]'hj0).toNat (P[j + 1]'hjs).toNat) [10] (by simp; omega)
        rw [List.append_assoc, ← hsn, show str [10] = ⟨#[10]⟩ from rfl] at hadd2
        replace hsn := Lib.hid hsn
        have i1 : (0 : Int) ≤ (j : Int) + 1 := by omega
        have i2 : (j : Int) + 1 < (P.size : Int) := by omega
        have hw1 : IntKind.i64.wrap ((j : Int) + 1) = (j : Int) + 1 := IntWalk.i64_in _ (by omega)
        have hw2 : IntKind.i64.wrap ((j : Int) + 2) = (j : Int) + 2 := IntWalk.i64_in _ (by omega)
        have hw3 : IntKind.i64.wrap (((P[j]'hj0).toNat : Nat) : Int) = (((P[j]'hj0).toNat : Nat) : Int) := IntWalk.i64_in _ (by have := (P[j]'hj0).toNat_lt; omega)
        have hw4 : IntKind.i64.wrap (((P[j + 1]'hjs).toNat : Nat) : Int) = (((P[j + 1]'hjs).toNat : Nat) : Int) := IntWalk.i64_in _ (by have := (P[j + 1]'hjs).toNat_lt; omega)
        have hBr := BW.out
        have hsz : w1.heap.size ≤ wr.drew.heap.size := hBr.size
        generalize printB (l.take j) ++ lineB (P[j]'hj0).toNat (P[j + 1]'hjs).toNat = s1 at *
        clear g1 g2 hpl
        replace hps' := Lib.hid hps'
        go_wp2_with fail
        refine wp_region_held_drew (S := fun w' => True) (by kernel_rfl) (by exact trivial) (fun hHeld => ?_)
        refine take_l (i := 0) (v := ?_) rfl (by kernel_rfl) (by kernel_rfl) (by kernel_rfl) (fun _ _ _ h => h) (Or.inl ⟨by kernel_rfl, ?_⟩) (by assumption) ?_
        rotate_left
        · intro w hSw; (try dsimp only at hSw); go_simp; (try with_reducible rfl)
        (try dsimp only [Act.put, List.setIfInBounds_toArray, List.set_cons_zero, List.set_cons_succ])
        refine take_l (i := 1) (v := ?_) rfl (by kernel_rfl) (by kernel_rfl) (by kernel_rfl) (fun _ _ _ h => h) (Or.inl ⟨by kernel_rfl, ?_⟩) (by assumption) ?_
        rotate_left
        · intro w hSw; (try dsimp only at hSw); go_simp; (try with_reducible rfl)
        (try dsimp only [Act.put, List.setIfInBounds_toArray, List.set_cons_zero, List.set_cons_succ])
        refine take_l (i := 2) (v := ?_) rfl (by kernel_rfl) (by kernel_rfl) (by kernel_rfl) (fun _ _ _ h => h) (Or.inl ⟨by kernel_rfl, ?_⟩) (by assumption) ?_
        rotate_left
        · intro w hSw; (try dsimp only at hSw); go_simp; (try with_reducible rfl)
        (try dsimp only [Act.put, List.setIfInBounds_toArray, List.set_cons_zero, List.set_cons_succ])
        refine take_l (i := 3) (v := ?_) rfl (by kernel_rfl) (by kernel_rfl) (by kernel_rfl) (fun _ _ _ h => h) (Or.inl ⟨by kernel_rfl, ?_⟩) (by assumption) ?_
        rotate_left
        · intro w hSw; (try dsimp only at hSw); go_simp; (try with_reducible rfl)
        (try dsimp only [Act.put, List.setIfInBounds_toArray, List.set_cons_zero, List.set_cons_succ])
        refine take_l (i := 4) (v := ?_) rfl (by kernel_rfl) (by kernel_rfl) (by kernel_rfl) (fun _ _ _ h => h) (Or.inl ⟨by kernel_rfl, ?_⟩) (by assumption) ?_
        rotate_left
        · intro w hSw; (try dsimp only at hSw); go_simp; (try with_reducible rfl)
        (try dsimp only [Act.put, List.setIfInBounds_toArray, List.set_cons_zero, List.set_cons_succ])
        refine take_l (i := 5) (v := ?_) rfl (by kernel_rfl) (by kernel_rfl) (by kernel_rfl) (fun _ _ _ h => h) (Or.inl ⟨by kernel_rfl, ?_⟩) (by assumption) ?_
        rotate_left
        · intro w hSw; (try dsimp only at hSw); go_simp; (try with_reducible rfl)
        (try dsimp only [Act.put, List.setIfInBounds_toArray, List.set_cons_zero, List.set_cons_succ])
        refine take_l (i := 6) (v := ?_) rfl (by kernel_rfl) (by kernel_rfl) (by kernel_rfl) (fun _ _ _ h => h) (Or.inl ⟨by kernel_rfl, ?_⟩) (by assumption) ?_
        rotate_left
        · intro w hSw; (try dsimp only at hSw); go_simp; (try with_reducible rfl)
        (try dsimp only [Act.put, List.setIfInBounds_toArray, List.set_cons_zero, List.set_cons_succ])
        refine take_l (i := 7) (v := ?_) rfl (by kernel_rfl) (by kernel_rfl) (by kernel_rfl) (fun _ _ _ h => h) (Or.inl ⟨by kernel_rfl, ?_⟩) (by assumption) ?_
        rotate_left
        · intro w hSw; (try dsimp only at hSw); go_simp; (try with_reducible rfl)
        (try dsimp only [Act.put, List.setIfInBounds_toArray, List.set_cons_zero, List.set_cons_succ])
        refine take_l (i := 8) (v := ?_) rfl (by kernel_rfl) (by kernel_rfl) (by kernel_rfl) (fun _ _ _ h => h) (Or.inl ⟨by kernel_rfl, ?_⟩) (by assumption) ?_
        rotate_left
        · intro w hSw; (try dsimp only at hSw); go_simp; (try with_reducible rfl)
        (try dsimp only [Act.put, List.setIfInBounds_toArray, List.set_cons_zero, List.set_cons_succ])
        refine take_l (i := 9) (v := ?_) rfl (by kernel_rfl) (by kernel_rfl) (by kernel_rfl) (fun _ _ _ h => h) (Or.inl ⟨by kernel_rfl, ?_⟩) (by assumption) ?_
        rotate_left
        · intro w hSw; (try dsimp only at hSw); go_simp; (try with_reducible rfl)
        (try dsimp only [Act.put, List.setIfInBounds_toArray, List.set_cons_zero, List.set_cons_succ])
        refine wpAnyH_ready (rs := [10]) (by kernel_rfl) (by simp) ?_
        refine ready_l rfl (fun K hK => ?_) AllReadyH.nil
        go_simp
        (go_at_call 32; (with_reducible refine (hLn.out _).mono ?_); rintro e vA ⟨rfl, hbvA⟩; have hBvA : Below w1.heap.size w1 vA := Below.trans (by repeat first | with_reducible exact Below.refl _ _ | with_reducible assumption | with_reducible refine below_drewN ?_ _ | with_reducible refine Below.drew ?_ | with_reducible refine Below.setCell ?_ (by first | exact Nat.le_refl _ | (simp; done) | (simp; omega) | omega) _ | with_reducible refine Below.alloc ?_ (by first | exact Nat.le_refl _ | (simp; done) | (simp; omega) | omega) _ | exact Below.refl _ _ | assumption) (hbvA.mono (by first | exact Nat.le_refl _ | assumption | (simp; done) | (simp; omega) | omega)); have hzvA := hbvA.size; )
        refine hK.out _ _ (by exact trivial) (fun hHeld => ?_)
        clear hK K
        (try dsimp only [Act.put, List.setIfInBounds_toArray, List.set_cons_zero, List.set_cons_succ])
        refine take_l (i := 11) (v := ?_) rfl (by kernel_rfl) (by kernel_rfl) (by kernel_rfl) (fun _ _ _ h => h) (Or.inl ⟨by kernel_rfl, ?_⟩) (by assumption) ?_
        rotate_left
        · intro w hSw; (try dsimp only at hSw); go_simp; (try with_reducible rfl)
        (try dsimp only [Act.put, List.setIfInBounds_toArray, List.set_cons_zero, List.set_cons_succ])
        refine take_l (i := 12) (v := ?_) rfl (by kernel_rfl) (by kernel_rfl) (by kernel_rfl) (fun _ _ _ h => h) (Or.inl ⟨by kernel_rfl, ?_⟩) (by assumption) ?_
        rotate_left
        · intro w hSw; (try dsimp only at hSw); go_simp; (try with_reducible rfl)
        (try dsimp only [Act.put, List.setIfInBounds_toArray, List.set_cons_zero, List.set_cons_succ])
        refine take_l (i := 13) (v := ?_) rfl (by kernel_rfl) (by kernel_rfl) (by kernel_rfl) (fun _ _ _ h => h) (Or.inl ⟨by kernel_rfl, ?_⟩) (by assumption) ?_
        rotate_left
        · intro w hSw; (try dsimp only at hSw); go_simp; (try with_reducible rfl)
        (try dsimp only [Act.put, List.setIfInBounds_toArray, List.set_cons_zero, List.set_cons_succ])
        refine wpAnyH_done (by kernel_rfl) ?_ _
        go_wp2_with fail
        exact ⟨⟨j + 2, by omega, (show Hid _ from by have := he.out; show (j + 2) % 2 = 0; omega), by go_num, rfl, hBvA⟩, by simp [intOf]; omega⟩
      · have hje : j = l.length := by omega
        have hjs : ¬ j + 1 < P.size := by omega
        have hd : decide ((j : Int) + 1 < (P.size : Int)) = false := by simp; omega
        have hw1 : IntKind.i64.wrap ((j : Int) + 1) = (j : Int) + 1 := IntWalk.i64_in _ (by omega)
        have htk : printB (l.take j) = printB l := by rw [hje, List.take_length]
        rw [htk]
        replace htk := Lib.hid htk
        replace hje := Lib.hid hje
        replace hps' := Lib.hid hps'
        have hBr := hb1.trans (BW.out.mono hb1.size)
        go_wp2_with fail
        go_ret2
        exact ⟨rfl, hBr⟩
end Go.Proofs.YtkgbknjpnhoadaaGreatDoor
