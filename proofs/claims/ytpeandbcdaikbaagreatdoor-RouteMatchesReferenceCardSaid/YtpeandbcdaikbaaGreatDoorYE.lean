/-
 Routes of chapter 11: abstraction.Valid.
 Routes of chapter 11: abstraction.Valid, joined.
 Routes of chapter 11: slices.Concat of steps.
-/
import Derived.Test.YtpeandbcdaikbaaGreatDoorYD
import Derived.Test.YtpeandbcdaikbaaGreatDoorShelf
import Derived.Deep.QuietTactic
import Derived.BigQuiet
import Derived.Laws.OwnMore
namespace Go.Proofs.YtpeandbcdaikbaaGreatDoor
open Go.RowKit Go.Shelf

attribute [local go_sem] Oper.semAt_some

def numOk : Nat → Int → Bool
 | 3, n => n == 10 || n == 100 || n == 1000 | 4, n => withinZ n 0 6 | _, n => n == 0
theorem num_any (k : Nat) (n : Int) (w : World) (f : Nat) (h : numV k = fnV f) : Calls Tryz.prog f #[.int .i64 n] w fun e w' => e = .returned (.bool (numOk k n)) ∧ w' = w := by
 unfold numV at h
 unfold numOk
 split at h
 ·
  injection h with h _ _; injection h with h; subst h; exact kinds1_any n w
 ·
  injection h with h _ _; injection h with h; subst h; exact kinds2_any n w
 ·
  rename_i h3 h4
  injection h with h _ _; injection h with h; subst h
  split
  ·
   exact absurd rfl h3
  ·
   exact absurd rfl h4
  ·
   exact none_any n w
theorem fits_kind (p n : Int) (k : Nat) (h1 : 1 ≤ k) (h6 : k ≤ 6) : fitsA p ⟨k, n⟩ = ((propsOf k).contains p && numOk k n) := by
 obtain rfl | rfl | rfl | rfl | rfl | rfl : k = 1 ∨ k = 2 ∨ k = 3 ∨ k = 4 ∨ k = 5 ∨ k = 6 := by omega
 ·
  unfold fitsA propsOf numOk; simp <;> rfl
 ·
  unfold fitsA propsOf numOk; simp <;> rfl
 ·
  unfold fitsA propsOf numOk; simp <;> rfl
 ·
  unfold fitsA propsOf numOk withinZ; simp <;> rfl
 ·
  unfold fitsA propsOf numOk; simp <;> rfl
 ·
  have hd : decide (1 ≤ p ∧ p ≤ 8) = [1, 2, 3, 4, 5, 6, 7, 8].contains p := by
   rw [Bool.eq_iff_iff, decide_eq_true_eq, List.contains_iff_mem]
   simp only [List.mem_cons, List.not_mem_nil, or_false]
   omega
  unfold fitsA propsOf numOk
  simp only [hd]
  simp
theorem fits_out (p n k : Int) (h : ¬(1 ≤ k ∧ k ≤ 6)) : fitsA p ⟨k, n⟩ = false := by
 unfold fitsA
 dsimp only
 rw [if_neg (by omega), if_neg (by omega), if_neg (by omega), if_neg (by omega), if_neg (by omega)]
/-- The table of kinds in memory. -/
structure KindsAt (w : World) (A H : Nat) : Prop where
 arr : Arr w A 125 (kindsL H)
 props : ∀ k, 1 ≤ k → k ≤ 6 → Arr w (propB H k) 3 ((propsOf k).map (Value.int .i64))
theorem KindsAt.below {w w' : World} {A H : Nat} (h : KindsAt w A H) (hb : Below w.heap.size w w') : KindsAt w' A H := ⟨h.arr.below hb, fun k h1 h6 => (h.props k h1 h6).below hb⟩
theorem contains_props {w : World} {A H k : Nat} (h : KindsAt w A H) (h1 : 1 ≤ k) (h6 : k ≤ 6) (p : Int) {W : World} (hW : ∀ b o, W.cell? ⟨b, o, none⟩ = w.cell? ⟨b, o, none⟩) (n : Nat) (hn : n = (propsOf k).length) :
  Calls Tryz.prog 71 #[rowV (propB H k) n, .int .i64 p] W fun e w' => e = .returned (.bool ((propsOf k).contains p)) ∧ w' = W := by
 subst hn
 have hh := Any.slices_Contains_int Tryz.lays107 (propB H k) 0 (propsOf k).length (propsOf k).length (propsOf k) p W (Nat.le_refl _) (by unfold propsOf; split <;> simp) (fun j hj => by
  rw [Nat.zero_add, hW, (h.props k h1 h6).cell? j, List.getElem?_map, List.getD_eq_getElem?_getD, List.getElem?_eq_getElem hj]
  rfl)
 rwa [List.take_length] at hh
set_option maxRecDepth 100000 in
set_option maxHeartbeats 4000000 in
theorem valid1_1 (p n : Int) (A Bp H : Nat) (w : World) (hK : KindsAt w A H) (hp : Arr w Bp 3 [.int .i64 p]) :
  Calls Tryz.prog 90 #[.agg #[.int .i64 1, .int .i64 n], .pointer (some ⟨A, 0, none⟩), .pointer (some ⟨Bp, 0, none⟩)] w fun e w' => e = .returned (.bool (!((propsOf 1).contains p && numOk 1 n))) ∧ Below w.heap.size w w' := by
 have hal : Below w.heap.size w (w.alloc (.cells #[.int .i64 1, .int .i64 n] 73)) := (Below.refl _ _).alloc (Nat.le_refl _) _
 have c0 : _ = some (Value.slice (some ⟨propB H 1, 0, none⟩) 1 1) := (hK.arr.below hal).cell (j := 3) rfl
 have c1 : _ = some (Value.func (.func 111) #[] #[]) := (hK.arr.below hal).cell (j := 4) rfl
 have cp := (hp.below hal).cell (j := 0) rfl
 have hK' := Lib.hid (hK.below hal)
 have hw : ∀ W, Hid (Calls Tryz.prog 88 #[.int .i64 1, .int .i64 1, .int .i64 6] W fun e w' => e = .returned (.bool true) ∧ w' = W) := fun W => Lib.hid (within_any 1 1 6 W)
 have hn := fun W => Lib.hid (num_any 1 n W _ rfl)
 clear hK hp
 generalize numOk 1 n = r at *
 replace hal := Lib.hid hal
 have hx : ∀ m : Nat, Calls Tryz.prog 71 #[.slice (some ⟨propB H 1, 0, none⟩) 1 1, .int .i64 p] ((w.alloc (.cells #[.int .i64 1, .int .i64 n] 73)).drewN m) fun e w' => e = .returned (.bool ((propsOf 1).contains p)) ∧ w' = ((w.alloc (.cells #[.int .i64 1, .int .i64 n] 73)).drewN m) := fun m => contains_props (k := 1) hK'.out (by omega) (by omega) p (W := (w.alloc (.cells #[.int .i64 1, .int .i64 n] 73)).drewN m) (fun _ _ => rfl) 1 rfl
 replace hx := Lib.hid hx
 clear hK'
 generalize propB H 1 = pb at *
 cases hc : (propsOf 1).contains p with
 | true =>
  rw [hc] at hx
  go_enter Tryz.func90, Tryz.ntmps90
  go_wp2_with fail
  go_quiet (first | (with_reducible refine Calls.quiet_of_same (hw _).out) | (with_reducible refine Calls.quiet_of_same (hx.out _)) | (with_reducible refine Calls.quiet_of_same (hn _).out))
  go_wp2
  go_ret
  exact ⟨by simp, below_drewN hal.out _⟩
 | false =>
  rw [hc] at hx
  go_enter Tryz.func90, Tryz.ntmps90
  go_wp2_with fail
  go_quiet (first | (with_reducible refine Calls.quiet_of_same (hw _).out) | (with_reducible refine Calls.quiet_of_same (hx.out _)) | (with_reducible refine Calls.quiet_of_same (hn _).out))
  go_wp2
  go_ret
  exact ⟨by simp, below_drewN hal.out _⟩
set_option maxRecDepth 100000 in
set_option maxHeartbeats 4000000 in
theorem valid1_2 (p n : Int) (A Bp H : Nat) (w : World) (hK : KindsAt w A H) (hp : Arr w Bp 3 [.int .i64 p]) :
  Calls Tryz.prog 90 #[.agg #[.int .i64 2, .int .i64 n], .pointer (some ⟨A, 0, none⟩), .pointer (some ⟨Bp, 0, none⟩)] w fun e w' => e = .returned (.bool (!((propsOf 2).contains p && numOk 2 n))) ∧ Below w.heap.size w w' := by
 have hal : Below w.heap.size w (w.alloc (.cells #[.int .i64 2, .int .i64 n] 73)) := (Below.refl _ _).alloc (Nat.le_refl _) _
 have c0 : _ = some (Value.slice (some ⟨propB H 2, 0, none⟩) 1 1) := (hK.arr.below hal).cell (j := 6) rfl
 have c1 : _ = some (Value.func (.func 111) #[] #[]) := (hK.arr.below hal).cell (j := 7) rfl
 have cp := (hp.below hal).cell (j := 0) rfl
 have hK' := Lib.hid (hK.below hal)
 have hw : ∀ W, Hid (Calls Tryz.prog 88 #[.int .i64 2, .int .i64 1, .int .i64 6] W fun e w' => e = .returned (.bool true) ∧ w' = W) := fun W => Lib.hid (within_any 2 1 6 W)
 have hn := fun W => Lib.hid (num_any 2 n W _ rfl)
 clear hK hp
 generalize numOk 2 n = r at *
 replace hal := Lib.hid hal
 have hx : ∀ m : Nat, Calls Tryz.prog 71 #[.slice (some ⟨propB H 2, 0, none⟩) 1 1, .int .i64 p] ((w.alloc (.cells #[.int .i64 2, .int .i64 n] 73)).drewN m) fun e w' => e = .returned (.bool ((propsOf 2).contains p)) ∧ w' = ((w.alloc (.cells #[.int .i64 2, .int .i64 n] 73)).drewN m) := fun m => contains_props (k := 2) hK'.out (by omega) (by omega) p (W := (w.alloc (.cells #[.int .i64 2, .int .i64 n] 73)).drewN m) (fun _ _ => rfl) 1 rfl
 replace hx := Lib.hid hx
 clear hK'
 generalize propB H 2 = pb at *
 cases hc : (propsOf 2).contains p with
 | true =>
  rw [hc] at hx
  go_enter Tryz.func90, Tryz.ntmps90
  go_wp2_with fail
  go_quiet (first | (with_reducible refine Calls.quiet_of_same (hw _).out) | (with_reducible refine Calls.quiet_of_same (hx.out _)) | (with_reducible refine Calls.quiet_of_same (hn _).out))
  go_wp2
  go_ret
  exact ⟨by simp, below_drewN hal.out _⟩
 | false =>
  rw [hc] at hx
  go_enter Tryz.func90, Tryz.ntmps90
  go_wp2_with fail
  go_quiet (first | (with_reducible refine Calls.quiet_of_same (hw _).out) | (with_reducible refine Calls.quiet_of_same (hx.out _)) | (with_reducible refine Calls.quiet_of_same (hn _).out))
  go_wp2
  go_ret
  exact ⟨by simp, below_drewN hal.out _⟩
set_option maxRecDepth 100000 in
set_option maxHeartbeats 4000000 in
theorem valid1_3 (p n : Int) (A Bp H : Nat) (w : World) (hK : KindsAt w A H) (hp : Arr w Bp 3 [.int .i64 p]) :
  Calls Tryz.prog 90 #[.agg #[.int .i64 3, .int .i64 n], .pointer (some ⟨A, 0, none⟩), .pointer (some ⟨Bp, 0, none⟩)] w fun e w' => e = .returned (.bool (!((propsOf 3).contains p && numOk 3 n))) ∧ Below w.heap.size w w' := by
 have hal : Below w.heap.size w (w.alloc (.cells #[.int .i64 3, .int .i64 n] 73)) := (Below.refl _ _).alloc (Nat.le_refl _) _
 have c0 : _ = some (Value.slice (some ⟨propB H 3, 0, none⟩) 2 2) := (hK.arr.below hal).cell (j := 9) rfl
 have c1 : _ = some (Value.func (.func 115) #[] #[]) := (hK.arr.below hal).cell (j := 10) rfl
 have cp := (hp.below hal).cell (j := 0) rfl
 have hK' := Lib.hid (hK.below hal)
 have hw : ∀ W, Hid (Calls Tryz.prog 88 #[.int .i64 3, .int .i64 1, .int .i64 6] W fun e w' => e = .returned (.bool true) ∧ w' = W) := fun W => Lib.hid (within_any 3 1 6 W)
 have hn := fun W => Lib.hid (num_any 3 n W _ rfl)
 clear hK hp
 generalize numOk 3 n = r at *
 replace hal := Lib.hid hal
 have hx : ∀ m : Nat, Calls Tryz.prog 71 #[.slice (some ⟨propB H 3, 0, none⟩) 2 2, .int .i64 p] ((w.alloc (.cells #[.int .i64 3, .int .i64 n] 73)).drewN m) fun e w' => e = .returned (.bool ((propsOf 3).contains p)) ∧ w' = ((w.alloc (.cells #[.int .i64 3, .int .i64 n] 73)).drewN m) := fun m => contains_props (k := 3) hK'.out (by omega) (by omega) p (W := (w.alloc (.cells #[.int .i64 3, .int .i64 n] 73)).drewN m) (fun _ _ => rfl) 2 rfl
 replace hx := Lib.hid hx
 clear hK'
 generalize propB H 3 = pb at *
 cases hc : (propsOf 3).contains p with
 | true =>
  rw [hc] at hx
  go_enter Tryz.func90, Tryz.ntmps90
  go_wp2_with fail
  go_quiet (first | (with_reducible refine Calls.quiet_of_same (hw _).out) | (with_reducible refine Calls.quiet_of_same (hx.out _)) | (with_reducible refine Calls.quiet_of_same (hn _).out))
  go_wp2
  go_ret
  exact ⟨by simp, below_drewN hal.out _⟩
 | false =>
  rw [hc] at hx
  go_enter Tryz.func90, Tryz.ntmps90
  go_wp2_with fail
  go_quiet (first | (with_reducible refine Calls.quiet_of_same (hw _).out) | (with_reducible refine Calls.quiet_of_same (hx.out _)) | (with_reducible refine Calls.quiet_of_same (hn _).out))
  go_wp2
  go_ret
  exact ⟨by simp, below_drewN hal.out _⟩
set_option maxRecDepth 100000 in
set_option maxHeartbeats 4000000 in
theorem valid1_4 (p n : Int) (A Bp H : Nat) (w : World) (hK : KindsAt w A H) (hp : Arr w Bp 3 [.int .i64 p]) :
  Calls Tryz.prog 90 #[.agg #[.int .i64 4, .int .i64 n], .pointer (some ⟨A, 0, none⟩), .pointer (some ⟨Bp, 0, none⟩)] w fun e w' => e = .returned (.bool (!((propsOf 4).contains p && numOk 4 n))) ∧ Below w.heap.size w w' := by
 have hal : Below w.heap.size w (w.alloc (.cells #[.int .i64 4, .int .i64 n] 73)) := (Below.refl _ _).alloc (Nat.le_refl _) _
 have c0 : _ = some (Value.slice (some ⟨propB H 4, 0, none⟩) 1 1) := (hK.arr.below hal).cell (j := 12) rfl
 have c1 : _ = some (Value.func (.func 117) #[] #[]) := (hK.arr.below hal).cell (j := 13) rfl
 have cp := (hp.below hal).cell (j := 0) rfl
 have hK' := Lib.hid (hK.below hal)
 have hw : ∀ W, Hid (Calls Tryz.prog 88 #[.int .i64 4, .int .i64 1, .int .i64 6] W fun e w' => e = .returned (.bool true) ∧ w' = W) := fun W => Lib.hid (within_any 4 1 6 W)
 have hn := fun W => Lib.hid (num_any 4 n W _ rfl)
 clear hK hp
 generalize numOk 4 n = r at *
 replace hal := Lib.hid hal
 have hx : ∀ m : Nat, Calls Tryz.prog 71 #[.slice (some ⟨propB H 4, 0, none⟩) 1 1, .int .i64 p] ((w.alloc (.cells #[.int .i64 4, .int .i64 n] 73)).drewN m) fun e w' => e = .returned (.bool ((propsOf 4).contains p)) ∧ w' = ((w.alloc (.cells #[.int .i64 4, .int .i64 n] 73)).drewN m) := fun m => contains_props (k := 4) hK'.out (by omega) (by omega) p (W := (w.alloc (.cells #[.int .i64 4, .int .i64 n] 73)).drewN m) (fun _ _ => rfl) 1 rfl
 replace hx := Lib.hid hx
 clear hK'
 generalize propB H 4 = pb at *
 cases hc : (propsOf 4).contains p with
 | true =>
  rw [hc] at hx
  go_enter Tryz.func90, Tryz.ntmps90
  go_wp2_with fail
  go_quiet (first | (with_reducible refine Calls.quiet_of_same (hw _).out) | (with_reducible refine Calls.quiet_of_same (hx.out _)) | (with_reducible refine Calls.quiet_of_same (hn _).out))
  go_wp2
  go_ret
  exact ⟨by simp, below_drewN hal.out _⟩
 | false =>
  rw [hc] at hx
  go_enter Tryz.func90, Tryz.ntmps90
  go_wp2_with fail
  go_quiet (first | (with_reducible refine Calls.quiet_of_same (hw _).out) | (with_reducible refine Calls.quiet_of_same (hx.out _)) | (with_reducible refine Calls.quiet_of_same (hn _).out))
  go_wp2
  go_ret
  exact ⟨by simp, below_drewN hal.out _⟩
set_option maxRecDepth 100000 in
set_option maxHeartbeats 4000000 in
theorem valid1_5 (p n : Int) (A Bp H : Nat) (w : World) (hK : KindsAt w A H) (hp : Arr w Bp 3 [.int .i64 p]) :
  Calls Tryz.prog 90 #[.agg #[.int .i64 5, .int .i64 n], .pointer (some ⟨A, 0, none⟩), .pointer (some ⟨Bp, 0, none⟩)] w fun e w' => e = .returned (.bool (!((propsOf 5).contains p && numOk 5 n))) ∧ Below w.heap.size w w' := by
 have hal : Below w.heap.size w (w.alloc (.cells #[.int .i64 5, .int .i64 n] 73)) := (Below.refl _ _).alloc (Nat.le_refl _) _
 have c0 : _ = some (Value.slice (some ⟨propB H 5, 0, none⟩) 2 2) := (hK.arr.below hal).cell (j := 15) rfl
 have c1 : _ = some (Value.func (.func 111) #[] #[]) := (hK.arr.below hal).cell (j := 16) rfl
 have cp := (hp.below hal).cell (j := 0) rfl
 have hK' := Lib.hid (hK.below hal)
 have hw : ∀ W, Hid (Calls Tryz.prog 88 #[.int .i64 5, .int .i64 1, .int .i64 6] W fun e w' => e = .returned (.bool true) ∧ w' = W) := fun W => Lib.hid (within_any 5 1 6 W)
 have hn := fun W => Lib.hid (num_any 5 n W _ rfl)
 clear hK hp
 generalize numOk 5 n = r at *
 replace hal := Lib.hid hal
 have hx : ∀ m : Nat, Calls Tryz.prog 71 #[.slice (some ⟨propB H 5, 0, none⟩) 2 2, .int .i64 p] ((w.alloc (.cells #[.int .i64 5, .int .i64 n] 73)).drewN m) fun e w' => e = .returned (.bool ((propsOf 5).contains p)) ∧ w' = ((w.alloc (.cells #[.int .i64 5, .int .i64 n] 73)).drewN m) := fun m => contains_props (k := 5) hK'.out (by omega) (by omega) p (W := (w.alloc (.cells #[.int .i64 5, .int .i64 n] 73)).drewN m) (fun _ _ => rfl) 2 rfl
 replace hx := Lib.hid hx
 clear hK'
 generalize propB H 5 = pb at *
 cases hc : (propsOf 5).contains p with
 | true =>
  rw [hc] at hx
  go_enter Tryz.func90, Tryz.ntmps90
  go_wp2_with fail
  go_quiet (first | (with_reducible refine Calls.quiet_of_same (hw _).out) | (with_reducible refine Calls.quiet_of_same (hx.out _)) | (with_reducible refine Calls.quiet_of_same (hn _).out))
  go_wp2
  go_ret
  exact ⟨by simp, below_drewN hal.out _⟩
 | false =>
  rw [hc] at hx
  go_enter Tryz.func90, Tryz.ntmps90
  go_wp2_with fail
  go_quiet (first | (with_reducible refine Calls.quiet_of_same (hw _).out) | (with_reducible refine Calls.quiet_of_same (hx.out _)) | (with_reducible refine Calls.quiet_of_same (hn _).out))
  go_wp2
  go_ret
  exact ⟨by simp, below_drewN hal.out _⟩
set_option maxRecDepth 100000 in
set_option maxHeartbeats 4000000 in
theorem valid1_6 (p n : Int) (A Bp H : Nat) (w : World) (hK : KindsAt w A H) (hp : Arr w Bp 3 [.int .i64 p]) :
  Calls Tryz.prog 90 #[.agg #[.int .i64 6, .int .i64 n], .pointer (some ⟨A, 0, none⟩), .pointer (some ⟨Bp, 0, none⟩)] w fun e w' => e = .returned (.bool (!((propsOf 6).contains p && numOk 6 n))) ∧ Below w.heap.size w w' := by
 have hal : Below w.heap.size w (w.alloc (.cells #[.int .i64 6, .int .i64 n] 73)) := (Below.refl _ _).alloc (Nat.le_refl _) _
 have c0 : _ = some (Value.slice (some ⟨propB H 6, 0, none⟩) 8 8) := (hK.arr.below hal).cell (j := 18) rfl
 have c1 : _ = some (Value.func (.func 111) #[] #[]) := (hK.arr.below hal).cell (j := 19) rfl
 have cp := (hp.below hal).cell (j := 0) rfl
 have hK' := Lib.hid (hK.below hal)
 have hw : ∀ W, Hid (Calls Tryz.prog 88 #[.int .i64 6, .int .i64 1, .int .i64 6] W fun e w' => e = .returned (.bool true) ∧ w' = W) := fun W => Lib.hid (within_any 6 1 6 W)
 have hn := fun W => Lib.hid (num_any 6 n W _ rfl)
 clear hK hp
 generalize numOk 6 n = r at *
 replace hal := Lib.hid hal
 have hx : ∀ m : Nat, Calls Tryz.prog 71 #[.slice (some ⟨propB H 6, 0, none⟩) 8 8, .int .i64 p] ((w.alloc (.cells #[.int .i64 6, .int .i64 n] 73)).drewN m) fun e w' => e = .returned (.bool ((propsOf 6).contains p)) ∧ w' = ((w.alloc (.cells #[.int .i64 6, .int .i64 n] 73)).drewN m) := fun m => contains_props (k := 6) hK'.out (by omega) (by omega) p (W := (w.alloc (.cells #[.int .i64 6, .int .i64 n] 73)).drewN m) (fun _ _ => rfl) 8 rfl
 replace hx := Lib.hid hx
 clear hK'
 generalize propB H 6 = pb at *
 cases hc : (propsOf 6).contains p with
 | true =>
  rw [hc] at hx
  go_enter Tryz.func90, Tryz.ntmps90
  go_wp2_with fail
  go_quiet (first | (with_reducible refine Calls.quiet_of_same (hw _).out) | (with_reducible refine Calls.quiet_of_same (hx.out _)) | (with_reducible refine Calls.quiet_of_same (hn _).out))
  go_wp2
  go_ret
  exact ⟨by simp, below_drewN hal.out _⟩
 | false =>
  rw [hc] at hx
  go_enter Tryz.func90, Tryz.ntmps90
  go_wp2_with fail
  go_quiet (first | (with_reducible refine Calls.quiet_of_same (hw _).out) | (with_reducible refine Calls.quiet_of_same (hx.out _)) | (with_reducible refine Calls.quiet_of_same (hn _).out))
  go_wp2
  go_ret
  exact ⟨by simp, below_drewN hal.out _⟩
end Go.Proofs.YtpeandbcdaikbaaGreatDoor
namespace Go.Proofs.YtpeandbcdaikbaaGreatDoor
open Go.RowKit Go.Shelf

attribute [local go_sem] Oper.semAt_some

set_option maxRecDepth 100000 in
set_option maxHeartbeats 4000000 in
theorem valid1_out (n k : Int) (hk : withinZ k 1 6 = false) (A Bp : Nat) (w : World) :
  Calls Tryz.prog 90 #[.agg #[.int .i64 k, .int .i64 n], .pointer (some ⟨A, 0, none⟩), .pointer (some ⟨Bp, 0, none⟩)] w fun e w' => e = .returned (.bool true) ∧ Below w.heap.size w w' := by
 have hal : Below w.heap.size w (w.alloc (.cells #[.int .i64 k, .int .i64 n] 73)) := (Below.refl _ _).alloc (Nat.le_refl _) _
 have hw : ∀ W, Hid (Calls Tryz.prog 88 #[.int .i64 k, .int .i64 1, .int .i64 6] W fun e w' => e = .returned (.bool false) ∧ w' = W) := fun W => Lib.hid (by have := within_any k 1 6 W; rwa [hk] at this)
 replace hal := Lib.hid hal
 clear hk
 go_enter Tryz.func90, Tryz.ntmps90
 go_wp2_with fail
 go_quiet (with_reducible refine Calls.quiet_of_same (hw _).out)
 go_wp2
 go_ret
 exact ⟨rfl, below_drewN hal.out _⟩
theorem within_iff (a b c : Int) : withinZ a b c = true ↔ b ≤ a ∧ a ≤ c := by
 unfold withinZ
 rw [Bool.and_eq_true, decide_eq_true_eq, decide_eq_true_eq]
theorem valid1_any (p : Int) (s : Stp) (A Bp H : Nat) (w : World) (hK : KindsAt w A H) (hp : Arr w Bp 3 [.int .i64 p]) :
  Calls Tryz.prog 90 #[.agg (stC s).toArray, .pointer (some ⟨A, 0, none⟩), .pointer (some ⟨Bp, 0, none⟩)] w fun e w' => e = .returned (.bool (!fitsA p s)) ∧ Below w.heap.size w w' := by
 obtain ⟨k, n⟩ := s
 show Calls Tryz.prog 90 #[.agg #[.int .i64 k, .int .i64 n], _, _] w _
 by_cases hk : 1 ≤ k ∧ k ≤ 6
 ·
  obtain ⟨m, rfl⟩ : ∃ m : Nat, k = (m : Int) := ⟨k.toNat, by omega⟩
  have h1 : 1 ≤ m := by omega
  have h6 : m ≤ 6 := by omega
  rw [fits_kind p n m h1 h6]
  obtain rfl | rfl | rfl | rfl | rfl | rfl : m = 1 ∨ m = 2 ∨ m = 3 ∨ m = 4 ∨ m = 5 ∨ m = 6 := by omega
  ·
   exact valid1_1 p n A Bp H w hK hp
  ·
   exact valid1_2 p n A Bp H w hK hp
  ·
   exact valid1_3 p n A Bp H w hK hp
  ·
   exact valid1_4 p n A Bp H w hK hp
  ·
   exact valid1_5 p n A Bp H w hK hp
  ·
   exact valid1_6 p n A Bp H w hK hp
 ·
  rw [fits_out p n k hk]
  refine valid1_out n k ?_ A Bp w
  rw [Bool.eq_false_iff]
  intro h
  exact hk ((within_iff _ _ _).1 h)
set_option maxHeartbeats 1000000 in
theorem containsS_nil (a : Option Addr) (c A Bp : Nat) (w : World) :
  Calls Tryz.prog 89 #[.slice a 0 c, .func (.func 90) #[] #[.pointer (some ⟨A, 0, none⟩), .pointer (some ⟨Bp, 0, none⟩)]] w fun e w' => e = .returned (.bool false) ∧ Below w.heap.size w w' := by
 go_enter Tryz.func89, Tryz.ntmps89
 go_wp2
 go_loop [8] (fun i => i = .int .i64 0) (fun _ => 0)
 case atStart => rfl
 case round =>
  subst hrel
  go_wp2
  go_ret
  exact ⟨rfl, Below.refl _ w⟩
theorem containsS_any (v : Value) (l : List Stp) (p : Int) (A Bp H : Nat) (w : World) (hv : StepsAt w w.heap.size v l) (hK : KindsAt w A H) (hp : Arr w Bp 3 [.int .i64 p]) :
  Calls Tryz.prog 89 #[v, .func (.func 90) #[] #[.pointer (some ⟨A, 0, none⟩), .pointer (some ⟨Bp, 0, none⟩)]] w fun e w' => e = .returned (.bool (l.any fun s => !fitsA p s)) ∧ Below w.heap.size w w' := by
 obtain ⟨a, c, rfl, hn1, hn2, hc⟩ := hv
 by_cases h0 : l.length = 0
 ·
  obtain rfl : l = [] := List.eq_nil_of_length_eq_zero h0
  exact containsS_nil a c A Bp w
 ·
  obtain ⟨b, o, rfl, hb, hcell⟩ := hc (by omega)
  have h := AnyQ.slices_ContainsFunc Tryz.laysF8s 2 Tryz.isAgg73 Tryz.sizeOf73 stC (fun _ => rfl) (fun s => !fitsA p s) 90 #[.pointer (some ⟨A, 0, none⟩), .pointer (some ⟨Bp, 0, none⟩)] (enters_of Tryz.func90 (by kernel_rfl) rfl) b o l.length c l w
   (fun W x hb' => (valid1_any p x A Bp H W (hK.below hb') (hp.below hb')).mono fun _ _ h => ⟨h.1, hb'.trans (h.2.mono hb'.size)⟩) (Nat.le_refl _) (by unfold maxLen at hn2; omega) hb
   (fun j hj i u hu => by
    have hi : i < 2 := (List.getElem?_eq_some_iff.1 hu).1
    have := hcell (j * 2 + i) u ((stL_at l j i hj hi).trans hu)
    rwa [← Nat.add_assoc] at this)
  rwa [List.take_length] at h
theorem any_not (p : Int) (l : List Stp) : (l.any fun s => !fitsA p s) = !l.all (fitsA p) := by
 induction l with
 | nil => rfl
 | cons s l ih => rw [List.any_cons, List.all_cons, ih, Bool.not_and]
set_option maxRecDepth 100000 in
set_option maxHeartbeats 4000000 in
theorem validA_any (p : Int) (v : Value) (l : List Stp) (w : World) (hv : StepsAt w w.heap.size v l) :
  Calls Tryz.prog 58 #[.int .i64 p, v] w fun e w' => e = .returned (.bool (validA p l)) ∧ Below w.heap.size w w' := by
 have hmf : ∀ (fn : Fn) (first cap : Array Value) (w : World), (Instr.makeFunc fn first cap).run Tryz.prog w = .ok (.func fn first cap) w := fun _ _ _ _ => rfl
 have hk := fun W => Lib.hid (kinds_any W)
 have hw := fun W => Lib.hid (within_any p 1 8 W)
 have hvd : validA p l = (withinZ p 1 8 && decide ((l.length : Int) ≤ 64) && !(l.any fun s => !fitsA p s)) := by
  have h1 : decide (1 ≤ p ∧ p ≤ 8) = withinZ p 1 8 := by rw [Bool.eq_iff_iff, decide_eq_true_eq, within_iff]
  have h2 : decide (l.length ≤ 64) = decide ((l.length : Int) ≤ 64) := by rw [Bool.eq_iff_iff, decide_eq_true_eq, decide_eq_true_eq]; omega
  unfold validA
  rw [any_not, Bool.not_not, h1, h2]
 have hv0 := hv
 obtain ⟨a, c, rfl, hn1, hn2, _⟩ := hv0
 have hvh := Lib.hid hv
 clear hv
 rw [hvd]
 clear hvd
 go_enter Tryz.func58, Tryz.ntmps58
 go_wp2_with fail
 refine (hk _).out.mono ?_
 rintro e w2 ⟨rfl, hP, hb2⟩
 have hb1 : Below w.heap.size w (w.alloc (.cells #[.int .i64 p] 3)) := (Below.refl _ _).alloc (Nat.le_refl _) _
 have hp1 : Arr (w.alloc (.cells #[.int .i64 p] 3)) w.heap.size 3 [.int .i64 p] := Arr.new rfl rfl
 have hp2 := hp1.below hb2
 have hb12 := hb1.trans (hb2.mono hb1.size)
 clear hk hb2 hb1 hp1
 simp only [World.size_alloc] at hP ⊢
 generalize w.heap.size + 1 = H at *
 obtain ⟨W, hW⟩ : ∃ W, W = w2.alloc (.cells #[.slice none 0 0, .nilFunc, .nilFunc, .slice none 0 0, .nilFunc, .nilFunc, .slice none 0 0, .nilFunc, .nilFunc, .slice none 0 0, .nilFunc, .nilFunc, .slice none 0 0, .nilFunc, .nilFunc, .slice none 0 0, .nilFunc, .nilFunc, .slice none 0 0, .nilFunc, .nilFunc] 125) := ⟨_, rfl⟩
 have hA3 : Arr W w2.heap.size 125 zero21 := by rw [hW]; exact Arr.new rfl rfl
 have hP3 : ∀ k, 1 ≤ k → k ≤ 6 → Arr W (propB H k) 3 ((propsOf k).map (Value.int .i64)) := fun k h1 h6 => by rw [hW]; exact (hP k h1 h6).alloc _
 have hp3 : Arr W w.heap.size 3 [.int .i64 p] := by rw [hW]; exact hp2.alloc _
 have hb3 : Below w.heap.size w W := by rw [hW]; exact hb12.alloc hb12.size _
 obtain ⟨W2, hW2⟩ : ∃ W2, W2 = W.setCells w2.heap.size 0 (kindsL H) := ⟨_, rfl⟩
 have hK4 : KindsAt W2 w2.heap.size H := by rw [hW2]; exact ⟨hA3.setAll rfl, fun k h1 h6 => Arr.setCells_other _ _ _ _ (hP3 k h1 h6) (by have := (hP k h1 h6).lt; omega)⟩
 have hp4 : Arr W2 w.heap.size 3 [.int .i64 p] := by rw [hW2]; exact Arr.setCells_other _ _ _ _ hp3 (by have := hp2.lt; omega)
 have hb4 : Below w.heap.size w W2 := by rw [hW2]; exact Below.setCells _ _ _ _ hb3 hb12.size
 have hS4 := StepsAt.later hvh.out hb4
 have hcs := Lib.hid (containsS_any _ l p w2.heap.size w.heap.size H W2 hS4 hK4 hp4)
 have cp := hp4.cell (j := 0) rfl
 clear hP hP3 hp2 hp3 hb3 hK4 hp4 hS4
 replace hA3 := Lib.hid hA3
 replace hb4 := Lib.hid hb4
 replace hW2 := Lib.hid hW2
 go_wp2_with (rw [← hW]; refine arr_store rfl 125 _ _ rfl w2.heap.size rfl (vs := kindsL H) rfl hA3.out (n := 21) (by kernel_rfl) rfl rfl rfl ?_; rw [← hW2.out])
 clear hW hW2 hA3
 cases hwb : withinZ p 1 8 with
 | false =>
  rw [hwb] at hw
  go_wp2_with fail
  refine (hw _).out.mono ?_
  rintro e w3 ⟨rfl, rfl⟩
  go_wp2_with fail
  go_ret
  exact ⟨by rw [hwb]; rfl, hb4.out⟩
 | true =>
  rw [hwb] at hw
  cases hlb : decide ((l.length : Int) ≤ 64) with
  | false =>
   go_wp2_with fail
   refine (hw _).out.mono ?_
   rintro e w3 ⟨rfl, rfl⟩
   go_wp2_with fail
   go_ret
   exact ⟨by rw [hwb, hlb]; rfl, hb4.out⟩
  | true =>
   go_wp2_with fail
   refine (hw _).out.mono ?_
   rintro e w3 ⟨rfl, rfl⟩
   go_wp2_with fail
   refine hcs.out.mono ?_
   rintro e w4 ⟨rfl, hb5⟩
   go_wp2_with fail
   go_ret
   exact ⟨by rw [hwb, hlb]; rfl, hb4.out.trans (hb5.mono hb4.out.size)⟩
end Go.Proofs.YtpeandbcdaikbaaGreatDoor
namespace Go.Proofs.YtpeandbcdaikbaaGreatDoor
open Go.RowKit Go.Shelf

attribute [local go_sem] Oper.semAt_some

theorem Tryz.info_step : (Tryz.prog.info? 73).map (fun i => (i.zero, i.size, i.bytes)) = some (some (.agg #[.int .i64 0, .int .i64 0]), 2, 16) := by kernel_rfl
/-- Some lists of steps, the first argument of normal. -/
def ListsAt (w : World) (v : Value) (ls : List (List Stp)) : Prop := ∃ vs : List Value, vs.length = ls.length ∧ SliceAt w w.heap.size v ls.length vs ∧ ∀ i, i < ls.length → StepsAt w w.heap.size vs[i]! ls[i]!
theorem run_append_empty {P : Program} (w : World) (t ty e : TypeId) (i : TypeInfo) (ht : P.underlying t = some (.slice e)) (hi : P.info? e = some i) (base a : Option Addr) (n c c' : Nat) (hle : n ≤ c) :
  (Builtin.append_ #[t, t] ty #[.slice base n c, .slice a 0 c']).run P w = .ok (.slice base n c) w := by
 cases base <;> cases a <;> simp [Builtin.append_, run_underlying ht, sizeOf, typeInfo, hi, Builtin.lenOf, Builtin.firstCells, hle, storeCells, loadCells, loadCellsFrom]
/-- append of a slice that came in, nil and empty ones too, to a row of the call's own. -/
theorem wpList_append_src {P : Program} {w : World} {ops : Array Oper} {rest : List Oper} {o : Oper} {a : Act} {Q : Exit → Act → World → Prop} (hgd : o.guard = none) (s x : Operand) (t : TypeId)
  (ho : o.op = .call { callee := .builtin .append, args := #[s, x], argTypes := #[t, t] })
  (base : Nat) (e : TypeId) (i : TypeInfo) (z : Value) (size bytes : Nat) (ht : P.underlying t = some (.slice e)) (hi : P.info? e = some i) (hz : i.zero = some z)
  (hsize : i.size = size) (hby : i.bytes = bytes) (hzs : z.cells.size = size) (hsz : 0 < size)
  (v : Value) (n : Nat) (xs : List Value) (hs : a.eval s = v) (hown : w.ownsRow base e size v n xs)
  (xv : Value) (m B : Nat) (news : List Value) (hx : a.eval x = xv) (hsrc : SliceAt w B xv m news) (hl : news.length = m * size) (h1 : ∀ u ∈ news, u.oneCell' = true)
  (h63 : n + m ≤ maxLen) (hbytes : (n + m) * bytes ≤ 140737488355328) (hbase : base ≤ w.heap.size)
  (h : ∀ v' w', w'.ownsRow base e size v' (n + m) (xs ++ news) → w.grownBy w' v.ownBlock → wpList P ops Q rest (a.put o.dst v') w') : wpList P ops Q (o :: rest) a w := by
 obtain ⟨sa, sc, rfl, hs1, hs2, hs3⟩ := hsrc
 by_cases h0 : m = 0
 ·
  subst h0
  have hnil : news = [] := List.eq_nil_of_length_eq_zero (by omega)
  subst hnil
  refine wpList_plain hgd fun K hK => ?_
  have hrun : (Builtin.append_ #[t, t] o.type #[v, .slice sa 0 sc]).run P w = .ok v w := by
   rcases hown.2 with ⟨rfl, _⟩ | ⟨g, cp, cur, rfl, _, _, hnc, _⟩
   ·
    have := run_append_empty (P := P) w t o.type e i ht hi none sa 0 0 sc (Nat.le_refl _)
    exact this
   ·
    exact run_append_empty (P := P) w t o.type e i ht hi _ sa n cp sc hnc
  unfold Oper.wp
  simp [execOp, ho, resolve, invoke, builtin, hs, hx, hrun, Result.andThen]
  exact hK _ _ (h v w (by simpa using hown) ⟨rfl, rfl, rfl, Nat.le_refl _, fun _ _ _ => rfl⟩)
 ·
  obtain ⟨b, o', rfl, _, hc⟩ := hs3 (by omega)
  exact wpList_append_own w hgd s x t ho base e i z size bytes ht hi hz hsize hby hzs hsz v n xs hs hown ⟨b, o', none⟩ m sc news hx hl (fun j u hu => by rw [Addr.add_lit]; exact hc j u hu) h1 h63 hbytes hbase fun v' w' h2 h3 _ => h v' w' h2 h3
theorem own_block {w : World} {B n s g : Nat} {e : TypeId} {v : Value} {xs : List Value} (h : w.ownsRow B e s v n xs) (hg : v.ownBlock = some g) : g < w.heap.size ∧ B ≤ g ∧ ∃ cur, w.heap[g]? = some (.cells cur e (0, 0)) := by
 obtain ⟨_, h⟩ := h
 rcases h with ⟨rfl, _⟩ | ⟨g', cap, cur, rfl, h1, h2, _⟩
 ·
  cases hg
 ·
  have : g = g' := by simpa [Value.ownBlock] using hg.symm
  subst this
  exact ⟨(Array.getElem?_eq_some_iff.1 h2).1, h1, cur, h2⟩
theorem stL_flat_succ (ls : List (List Stp)) (i : Nat) (hi : i < ls.length) : stL ((ls.take (i + 1)).flatten) = stL ((ls.take i).flatten) ++ stL ls[i]! := by
 rw [List.take_succ_eq_append_getElem hi, List.flatten_append, List.flatten_singleton, stL_app, getElem!_pos ls i hi]
/-- How many steps the first lists have. -/
def lenTo (ls : List (List Stp)) (i : Nat) : Nat := ((ls.take i).flatten).length
theorem lenTo_le (ls : List (List Stp)) (i : Nat) : lenTo ls i ≤ ls.flatten.length := by
 have := congrArg List.length (congrArg List.flatten (List.take_append_drop i ls))
 rw [List.flatten_append, List.length_append] at this
 unfold lenTo
 omega
theorem lenTo_succ (ls : List (List Stp)) (i : Nat) (hi : i < ls.length) : lenTo ls (i + 1) = lenTo ls i + ls[i]!.length := by
 unfold lenTo
 rw [List.take_succ_eq_append_getElem hi, List.flatten_append, List.flatten_singleton, List.length_append, getElem!_pos ls i hi]
theorem lenTo_all (ls : List (List Stp)) : lenTo ls ls.length = ls.flatten.length := by unfold lenTo; rw [List.take_length]
theorem growS_any (n : Nat) (w : World) (hn : n ≤ 1000) :
  Calls Tryz.prog 122 #[.slice none 0 0, .int .i64 n] w fun e w' => ∃ v, e = .returned v ∧ w'.ownsRow w.heap.size 73 2 v 0 [] ∧ Below w.heap.size w w' := by
 obtain ⟨i0, hi, hz0, hz1, hz2⟩ := info_parts Tryz.info_step
 by_cases h0 : n = 0
 ·
  subst h0
  exact (Any8.slices_Grow_room Tryz.laysGrow none 0 0 0 w (Nat.le_refl _) (by omega) (by omega) (Nat.le_refl _)).mono fun e w' ⟨h1, h2⟩ => ⟨_, h1, by rw [h2]; exact World.ownsRow_nil _ _ _ _, by rw [h2]; exact Below.refl _ _⟩
 ·
  have h := Any8.slices_Grow_grow Tryz.laysGrow i0 (.agg #[.int .i64 0, .int .i64 0]) hi hz0 (by omega) none 0 0 n [] w (Nat.le_refl _) (by omega) (by rw [hz2]; omega) (by omega) (by simp) (fun _ => rfl) (fun a ha => by cases ha)
  refine h.mono fun e w' ⟨h1, h2⟩ => ⟨_, h1, ?_, by rw [h2]; exact (below_drewN (Below.refl _ w) 1).alloc (Nat.le_refl _) _⟩
  rw [h2]
  have hcap := grownCap_ge w (0 + n) 0 73
  refine ⟨rfl, .inr ⟨w.heap.size, _, _, rfl, Nat.le_refl _, World.alloc_heap_new w.drew _, Nat.zero_le _, ?_, ?_, rfl⟩⟩
  ·
   exact grownCap_le_maxLen w _ _ _ (by unfold maxLen; omega)
  ·
   have hs2 : (Value.agg #[Value.int .i64 0, Value.int .i64 0]).cells.size = 2 := rfl
   have hcap' : 0 + n ≤ grownCap w (0 + n) 0 73 := hcap
   show (([] : List Value).toArray ++ Builtin.zeroCells _ (0 + n - 0) ++ Builtin.zeroCells _ (grownCap w (0 + n) 0 73 - (0 + n))).size = grownCap w (0 + n) 0 73 * 2
   rw [Array.size_append, Array.size_append, size_zeroCells, size_zeroCells, hs2]
   simp only [List.size_toArray, List.length_nil]
   omega
set_option maxRecDepth 100000 in
set_option maxHeartbeats 4000000 in
theorem concatS_any (v : Value) (ls : List (List Stp)) (w : World) (hv : ListsAt w v ls) (hn : ls.length ≤ 10) (ht : ls.flatten.length ≤ 1000) :
  Calls Tryz.prog 91 #[v] w fun e w' => ∃ v', e = .returned v' ∧ w'.ownsRow w.heap.size 73 2 v' ls.flatten.length (stL ls.flatten) ∧ Below w.heap.size w w' := by
 obtain ⟨i0, hi, hz0, hz1, hz2⟩ := info_parts Tryz.info_step
 obtain ⟨vs, hvl, ⟨a, cap, rfl, hcp, hcm, hat⟩, hst⟩ := hv
 have hat' := Lib.hid hat
 have hst' := Lib.hid hst
 clear hat hst
 have hg := fun W => Lib.hid (growS_any (lenTo ls ls.length) W (by rw [lenTo_all]; exact ht))
 have hfl : ∀ i, lenTo ls i ≤ 1000 := fun i => Nat.le_trans (lenTo_le ls i) ht
 have hzero : lenTo ls 0 = 0 := rfl
 replace ht := Lib.hid ht
 go_enter Tryz.func91, Tryz.ntmps91
 go_wp2_with fail
 go_loopw [3, 11] (fun sv iv wr => ∃ i : Nat, i ≤ ls.length ∧ sv = .int .i64 (lenTo ls i : Nat) ∧ iv = .int .i64 (i : Int) ∧ wr = w) (fun _ iv _ => ls.length - (intOf iv).toNat)
 case atStart => exact ⟨0, Nat.zero_le _, by rw [hzero]; rfl, rfl, rfl⟩
 case round =>
  obtain ⟨i, hi', rfl, rfl, hw⟩ := hrel
  subst wr
  by_cases hlt : i < ls.length
  ·
   obtain ⟨b, o, rfl, hb, hcell⟩ := hat'.out (by omega)
   have hs := hst'.out i hlt
   obtain ⟨sa, sc, hsv, hs1, hs2, hs3⟩ := hs
   clear hs3
   have x0 := hcell i vs[i]! (by rw [getElem!_pos vs i (by omega)]; exact List.getElem?_eq_getElem (by omega))
   rw [hsv] at x0
   have hsu := lenTo_succ ls i hlt
   have hle1 := hfl (i + 1)
   generalize ls[i]!.length = m at *
   have hw1 : IntKind.i64.wrap ((i : Int) + 1) = ((i + 1 : Nat) : Int) := by rw [Int.natCast_succ]; exact IntWalk.i64_in _ (by omega)
   have hw2 : wrap64 (((lenTo ls i : Nat) : Int) + (m : Int)) = ((lenTo ls (i + 1) : Nat) : Int) := by rw [hsu, Int.natCast_add]; unfold wrap64; omega
   have i0 : (0 : Int) ≤ (i : Int) := by omega
   have i1 : (i : Int) < (ls.length : Int) := by omega
   have hng : decide (((lenTo ls (i + 1) : Nat) : Int) < 0) = false := by simp
   clear hcell hsv hsu
   go_wp2_with fail
   exact ⟨⟨i + 1, by omega, by first | rfl | go_num, by first | rfl | go_num, trivial⟩, by simp [intOf]; omega⟩
  ·
   obtain rfl : i = ls.length := by omega
   have hno : decide ((ls.length : Int) < (ls.length : Int)) = false := by simp
   go_wp2_with fail
   refine (hg _).out.mono ?_
   rintro e w1 ⟨gv, rfl, hown1, hb1⟩
   replace hown1 := Lib.hid hown1
   replace hb1 := Lib.hid hb1
   clear hg
   go_wp2_with fail
   go_loopw [6, 27] (fun gv iv wr => ∃ i : Nat, i ≤ ls.length ∧ iv = .int .i64 (i : Int) ∧ Hid (wr.ownsRow w.heap.size 73 2 gv (lenTo ls i) (stL ((ls.take i).flatten)) ∧ Below w.heap.size w wr)) (fun _ iv _ => ls.length - (intOf iv).toNat)
   case atStart => exact ⟨0, Nat.zero_le _, rfl, (show Hid _ from ⟨hown1.out, hb1.out⟩)⟩
   case round =>
    obtain ⟨i, hi', rfl, hall⟩ := hrel
    obtain ⟨hown, hbr⟩ := hall.out
    clear hall hown1 hb1
    by_cases hlt : i < ls.length
    ·
     obtain ⟨b, o, rfl, hb, hcell⟩ := hat'.out (by omega)
     have hs := (hst'.out i hlt).below hbr (Nat.le_refl _)
     have hs0 := hs
     have hsu := lenTo_succ ls i hlt
     have hss := stL_flat_succ ls i hlt
     have hle1 := hfl (i + 1)
     obtain ⟨sa, sc, hsv, _, _, hs3⟩ := hs0
     clear hs3
     have x0 := (hbr.cell (p := ⟨b, o + i, none⟩) hb).trans (hcell i vs[i]! (by rw [getElem!_pos vs i (by omega)]; exact List.getElem?_eq_getElem (by omega)))
     rw [hsv] at x0 hs
     have hw1 : IntKind.i64.wrap ((i : Int) + 1) = ((i + 1 : Nat) : Int) := by rw [Int.natCast_succ]; exact IntWalk.i64_in _ (by omega)
     have i0' : (0 : Int) ≤ (i : Int) := by omega
     have i1 : (i : Int) < (ls.length : Int) := by omega
     have hll := stL_len ls[i]!
     have hl1 := stL_one ls[i]!
     unfold StepsAt at hs
     generalize ls[i]!.length = m at *
     generalize stL ls[i]! = news at *
     clear hcell hsv
     have hs' := Lib.hid hs
     have hown' := Lib.hid hown
     have hl1' := Lib.hid hl1
     have hsz := hbr.size
     clear hs hl1
     go_wp2_with (at_builtin; refine wpList_append_src rfl _ _ 55 rfl w.heap.size 73 i0 (.agg #[.int .i64 0, .int .i64 0]) 2 16 Tryz.underlying55 hi hz0 hz1 hz2 rfl (by decide) _ _ _ rfl hown'.out _ m _ news rfl hs'.out hll hl1'.out ?qc4 ?qc5 ?qc6 ?_)
     case qc4 => unfold maxLen; omega
     case qc5 => omega
     case qc6 => exact hsz
     intro v' w1 hown2 hgrow
     rw [← hsu, ← hss] at hown2
     have hb2 := hbr.grown hgrow hsz (by intro k hk; exact (own_block hown hk).2.1)
     have hkk : Hid (w1.ownsRow w.heap.size 73 2 v' (lenTo ls (i + 1)) (stL ((ls.take (i + 1)).flatten)) ∧ Below w.heap.size w w1) := ⟨hown2, hb2⟩
     clear hgrow hown2
     go_wp2_with fail
     exact ⟨⟨i + 1, by omega, by first | rfl | go_num, hkk⟩, by simp [intOf]; omega⟩
    ·
     obtain rfl : i = ls.length := by omega
     rw [List.take_length, lenTo_all] at hown
     go_wp2_with fail
     go_ret
     exact ⟨_, rfl, hown, hbr⟩
end Go.Proofs.YtpeandbcdaikbaaGreatDoor
