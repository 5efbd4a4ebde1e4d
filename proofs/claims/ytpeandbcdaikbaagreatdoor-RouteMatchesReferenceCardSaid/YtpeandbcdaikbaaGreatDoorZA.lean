/-
 Routes of chapter 11: the reference's Valid (abstractions).
 Routes of chapter 11: the reference's count (abstractions).
 Routes of chapter 11: an append to a row of the call's own lies in the row's old block or in a new one (general).
 Routes of chapter 11: the reference's Normal (abstractions).
-/
import Derived.Test.YtpeandbcdaikbaaGreatDoorYL
namespace Go.Proofs.YtpeandbcdaikbaaGreatDoor
open Go.RowKit Go.Shelf Go.Maps

attribute [local go_sem] Oper.semAt_some

theorem within7_any (n a b : Int) (r : Bool) (hr : r = (decide (a ≤ n) && decide (n ≤ b))) (w : World) :
  Calls Tryz.prog 103 #[.int .i64 n, .int .i64 a, .int .i64 b] w fun e w' => e = .returned (.bool r) ∧ w' = w := by
 subst hr
 by_cases h1 : a ≤ n
 ·
  have e1 : decide (n ≥ a) = true := decide_eq_true h1
  have e2 : decide (a ≤ n) = true := decide_eq_true h1
  rw [e2, Bool.true_and]
  replace h1 := Lib.hid h1
  generalize hd : decide (n ≤ b) = d at *
  go_enter Tryz.func103, Tryz.ntmps103
  go_wp2_with fail
  go_ret
  first | exact ⟨by rw [hd], rfl⟩ | exact ⟨rfl, rfl⟩
 ·
  have e1 : decide (n ≥ a) = false := decide_eq_false h1
  have e2 : decide (a ≤ n) = false := decide_eq_false h1
  rw [e2, Bool.false_and]
  replace h1 := Lib.hid h1
  go_enter Tryz.func103, Tryz.ntmps103
  go_wp2_with fail
  go_ret
  exact ⟨rfl, rfl⟩
theorem number7_any (p : Int) (r : Bool) (hr : r = (p == 3 || p == 5)) (w : World) :
  Calls Tryz.prog 104 #[.int .i64 p] w fun e w' => e = .returned (.bool r) ∧ w' = w := by
 by_cases h1 : p = 3
 ·
  subst h1
  subst hr
  go_enter Tryz.func104, Tryz.ntmps104
  go_wp2_with fail
  go_ret
  exact ⟨rfl, rfl⟩
 ·
  have e1 : (p == 3) = false := beq_false_of_ne h1
  have e2 : decide (p = 3) = false := decide_eq_false h1
  rw [e1, Bool.false_or] at hr
  by_cases h2 : p = 5
  ·
   subst h2
   subst hr
   go_enter Tryz.func104, Tryz.ntmps104
   go_wp2_with fail
   go_ret
   exact ⟨rfl, rfl⟩
  ·
   have e3 : (p == 5) = false := beq_false_of_ne h2
   have e4 : decide (p = 5) = false := decide_eq_false h2
   rw [e3] at hr
   subst hr
   replace h1 := Lib.hid h1
   replace h2 := Lib.hid h2
   go_enter Tryz.func104, Tryz.ntmps104
   go_wp2_with fail
   go_ret
   exact ⟨rfl, rfl⟩
theorem valid7_false {p : Int} {l : List Stp} {i : Nat} (hi : i < l.length) {s : Stp} (hs : l[i]! = s) (h : fitsA p s = false) : validA p l = false := by
 unfold validA
 rw [Bool.and_eq_false_iff]
 refine .inr ?_
 rw [List.all_eq_false]
 exact ⟨l[i]!, by rw [getElem!_pos l i hi]; exact List.getElem_mem hi, by rw [hs, h]; exact Bool.false_ne_true⟩
theorem valid7_snoc {p : Int} {l : List Stp} {i : Nat} (h : ∀ j, j < i → fitsA p l[j]! = true) {s : Stp} (hs : l[i]! = s) (hf : fitsA p s = true) : ∀ j, j < i + 1 → fitsA p l[j]! = true := fun j hj => by
 by_cases q : j = i
 ·
  rw [q, hs]; exact hf
 ·
  exact h j (by omega)
set_option maxRecDepth 100000 in
set_option maxHeartbeats 4000000 in
theorem Valid7_any (p : Int) (v : Value) (l : List Stp) (w : World) (hv : StepsAt w w.heap.size v l) :
  Calls Tryz.prog 74 #[.int .i64 p, v] w fun e w' => e = .returned (.bool (validA p l)) ∧ Below w.heap.size w w' := by
 have hc1 := Lib.hid fun i (hi : i < l.length) => StepsAt.cells hv hi
 obtain ⟨va, vc, rfl, _, hvm, _⟩ := hv
 obtain ⟨R, hR⟩ : ∃ R, validA p l = R := ⟨_, rfl⟩
 rw [hR]
 replace hR := Lib.hid hR
 by_cases hp : 1 ≤ p ∧ p ≤ 8
 ·
  have hwi := fun W => within7_any p 1 8 true (by rw [decide_eq_true hp.1, decide_eq_true hp.2]; rfl) W
  replace hwi := Lib.hid hwi
  by_cases h64 : l.length ≤ 64
  ·
   have e0 : decide ((l.length : Int) > 64) = false := decide_eq_false (by omega)
   have e0b : decide ((64 : Int) < (l.length : Int)) = false := decide_eq_false (by omega)
   have e0c : decide (64 < l.length) = false := decide_eq_false (by omega)
   have hbw := Lib.hid (Below.refl w.heap.size w)
   have hst : Hid (∀ j, j < 0 → fitsA p l[j]! = true) := fun j hj => absurd hj (Nat.not_lt_zero j)
   go_enter Tryz.func74, Tryz.ntmps74
   go_wp2_with fail
   refine (hwi.out _).mono ?_
   rintro e w1 ⟨rfl, rfl⟩
   go_wp2_with fail
   go_loopw [5] (fun iv wr => ∃ i : Nat, i ≤ l.length ∧ iv = .int .i64 (i : Int) ∧ Hid (∀ j, j < i → fitsA p l[j]! = true) ∧ Hid (Below w1.heap.size w1 wr)) (fun iv _ => l.length - (intOf iv).toNat)
   case atStart => exact ⟨0, Nat.zero_le _, rfl, hst, hbw⟩
   case round =>
    obtain ⟨i, hi, rfl, heq, hb⟩ := hrel
    clear hst hbw hwi e0 e0b e0c
    by_cases hlt : i < l.length
    ·
     have hyes : decide ((i : Int) < (l.length : Int)) = true := decide_eq_true (by omega)
     have hw1 : IntKind.i64.wrap ((i : Int) + 1) = (i : Int) + 1 := IntWalk.i64_in _ (by omega)
     have k0 : (0 : Int) ≤ (i : Int) := by omega
     have k1 : (i : Int) < (l.length : Int) := by omega
     obtain ⟨b1, o1, c1, q1, l1, x1, x2⟩ := hc1.out i hlt
     cases q1
     replace x1 := (hb.out.cell (p := ⟨b1, o1 + i * 2, none⟩) l1).trans x1
     replace x2 := (hb.out.cell (p := ⟨b1, o1 + i * 2 + 1, none⟩) l1).trans x2
     generalize hx : l[i]! = x at *
     obtain ⟨xk, n⟩ := x
     dsimp only at x1 x2
     clear hc1
     replace hx := Lib.hid hx
     replace heq := Lib.hid heq.out
     have p1 := hp.1
     have p8 := hp.2
     replace hp := Lib.hid hp
     by_cases hk1 : xk = 1
     ·
      subst hk1
      by_cases hp1 : p = 1
      ·
       skip
       have hp1b : (p == 1) = true := by rw [hp1]; rfl
       have hp1c : decide (p = 1) = true := decide_eq_true hp1
       by_cases hn0 : n = 0
       ·
        skip
        have hn0b : (n == 0) = true := by rw [hn0]; rfl
        have hn0c : decide (n = 0) = true := decide_eq_true hn0
        have hf : fitsA p ⟨1, n⟩ = true := by unfold fitsA; simp [hp1, hn0]
        have hn := Lib.hid (valid7_snoc heq.out hx.out hf)
        clear hf
        replace hp1 := Lib.hid hp1
        replace hn0 := Lib.hid hn0
        go_wp2_with fail
        exact ⟨⟨i + 1, by omega, rfl, hn, hb⟩, by simp [intOf]; omega⟩
       ·
        skip
        have hn0b : (n == 0) = false := beq_false_of_ne hn0
        have hn0c : decide (n = 0) = false := decide_eq_false hn0
        have hf : fitsA p ⟨1, n⟩ = false := by unfold fitsA; simp [hp1, hn0]
        obtain rfl : R = false := by rw [← hR.out]; exact valid7_false hlt hx.out hf
        clear hf
        replace hp1 := Lib.hid hp1
        replace hn0 := Lib.hid hn0
        go_wp2_with fail
        go_ret
        exact ⟨rfl, hb.out⟩
      ·
       skip
       have hp1b : (p == 1) = false := beq_false_of_ne hp1
       have hp1c : decide (p = 1) = false := decide_eq_false hp1
       have hf : fitsA p ⟨1, n⟩ = false := by unfold fitsA; simp [hp1]
       obtain rfl : R = false := by rw [← hR.out]; exact valid7_false hlt hx.out hf
       clear hf
       replace hp1 := Lib.hid hp1
       go_wp2_with fail
       go_ret
       exact ⟨rfl, hb.out⟩
     ·
      skip
      have hk1b : (xk == 1) = false := beq_false_of_ne hk1
      have hk1c : decide (xk = 1) = false := decide_eq_false hk1
      by_cases hk2 : xk = 2
      ·
       subst hk2
       by_cases hp1 : p = 1
       ·
        skip
        have hp1b : (p == 1) = true := by rw [hp1]; rfl
        have hp1c : decide (p = 1) = true := decide_eq_true hp1
        by_cases hn0 : n = 0
        ·
         skip
         have hn0b : (n == 0) = true := by rw [hn0]; rfl
         have hn0c : decide (n = 0) = true := decide_eq_true hn0
         have hf : fitsA p ⟨2, n⟩ = true := by unfold fitsA; simp [hp1, hn0]
         have hn := Lib.hid (valid7_snoc heq.out hx.out hf)
         clear hf
         replace hp1 := Lib.hid hp1
         replace hn0 := Lib.hid hn0
         go_wp2_with fail
         exact ⟨⟨i + 1, by omega, rfl, hn, hb⟩, by simp [intOf]; omega⟩
        ·
         skip
         have hn0b : (n == 0) = false := beq_false_of_ne hn0
         have hn0c : decide (n = 0) = false := decide_eq_false hn0
         have hf : fitsA p ⟨2, n⟩ = false := by unfold fitsA; simp [hp1, hn0]
         obtain rfl : R = false := by rw [← hR.out]; exact valid7_false hlt hx.out hf
         clear hf
         replace hp1 := Lib.hid hp1
         replace hn0 := Lib.hid hn0
         go_wp2_with fail
         go_ret
         exact ⟨rfl, hb.out⟩
       ·
        skip
        have hp1b : (p == 1) = false := beq_false_of_ne hp1
        have hp1c : decide (p = 1) = false := decide_eq_false hp1
        have hf : fitsA p ⟨2, n⟩ = false := by unfold fitsA; simp [hp1]
        obtain rfl : R = false := by rw [← hR.out]; exact valid7_false hlt hx.out hf
        clear hf
        replace hp1 := Lib.hid hp1
        go_wp2_with fail
        go_ret
        exact ⟨rfl, hb.out⟩
      ·
       skip
       have hk2b : (xk == 2) = false := beq_false_of_ne hk2
       have hk2c : decide (xk = 2) = false := decide_eq_false hk2
       by_cases hk3 : xk = 3
       ·
        subst hk3
        by_cases hp3 : p = 3
        ·
         skip
         have hp3b : (p == 3) = true := by rw [hp3]; rfl
         have hp3c : decide (p = 3) = true := decide_eq_true hp3
         have hcall := Lib.hid fun W => number7_any p true (by simp [hp3]) W
         by_cases h10 : n = 10
         ·
          skip
          have h10b : (n == 10) = true := by rw [h10]; rfl
          have h10c : decide (n = 10) = true := decide_eq_true h10
          have hf : fitsA p ⟨3, n⟩ = true := by unfold fitsA; simp [hp3, h10]
          have hn := Lib.hid (valid7_snoc heq.out hx.out hf)
          clear hf
          replace hp3 := Lib.hid hp3
          replace h10 := Lib.hid h10
          go_wp2_with fail
          refine (hcall.out _).mono ?_
          rintro e wy ⟨rfl, rfl⟩
          go_wp2_with fail
          exact ⟨⟨i + 1, by omega, rfl, hn, hb⟩, by simp [intOf]; omega⟩
         ·
          skip
          have h10b : (n == 10) = false := beq_false_of_ne h10
          have h10c : decide (n = 10) = false := decide_eq_false h10
          by_cases h100 : n = 100
          ·
           skip
           have h100b : (n == 100) = true := by rw [h100]; rfl
           have h100c : decide (n = 100) = true := decide_eq_true h100
           have hf : fitsA p ⟨3, n⟩ = true := by unfold fitsA; simp [hp3, h100]
           have hn := Lib.hid (valid7_snoc heq.out hx.out hf)
           clear hf
           replace hp3 := Lib.hid hp3
           replace h10 := Lib.hid h10
           replace h100 := Lib.hid h100
           go_wp2_with fail
           refine (hcall.out _).mono ?_
           rintro e wy ⟨rfl, rfl⟩
           go_wp2_with fail
           exact ⟨⟨i + 1, by omega, rfl, hn, hb⟩, by simp [intOf]; omega⟩
          ·
           skip
           have h100b : (n == 100) = false := beq_false_of_ne h100
           have h100c : decide (n = 100) = false := decide_eq_false h100
           by_cases h1000 : n = 1000
           ·
            skip
            have h1000b : (n == 1000) = true := by rw [h1000]; rfl
            have h1000c : decide (n = 1000) = true := decide_eq_true h1000
            have hf : fitsA p ⟨3, n⟩ = true := by unfold fitsA; simp [hp3, h1000]
            have hn := Lib.hid (valid7_snoc heq.out hx.out hf)
            clear hf
            replace hp3 := Lib.hid hp3
            replace h10 := Lib.hid h10
            replace h100 := Lib.hid h100
            replace h1000 := Lib.hid h1000
            go_wp2_with fail
            refine (hcall.out _).mono ?_
            rintro e wy ⟨rfl, rfl⟩
            go_wp2_with fail
            exact ⟨⟨i + 1, by omega, rfl, hn, hb⟩, by simp [intOf]; omega⟩
           ·
            skip
            have h1000b : (n == 1000) = false := beq_false_of_ne h1000
            have h1000c : decide (n = 1000) = false := decide_eq_false h1000
            have hf : fitsA p ⟨3, n⟩ = false := by unfold fitsA; simp [hp3, h10, h100, h1000]
            obtain rfl : R = false := by rw [← hR.out]; exact valid7_false hlt hx.out hf
            clear hf
            replace hp3 := Lib.hid hp3
            replace h10 := Lib.hid h10
            replace h100 := Lib.hid h100
            replace h1000 := Lib.hid h1000
            go_wp2_with fail
            refine (hcall.out _).mono ?_
            rintro e wy ⟨rfl, rfl⟩
            go_wp2_with fail
            go_ret
            exact ⟨rfl, hb.out⟩
        ·
         skip
         have hp3b : (p == 3) = false := beq_false_of_ne hp3
         have hp3c : decide (p = 3) = false := decide_eq_false hp3
         by_cases hp5 : p = 5
         ·
          skip
          have hp5b : (p == 5) = true := by rw [hp5]; rfl
          have hp5c : decide (p = 5) = true := decide_eq_true hp5
          have hcall := Lib.hid fun W => number7_any p true (by simp [hp5]) W
          by_cases h10 : n = 10
          ·
           skip
           have h10b : (n == 10) = true := by rw [h10]; rfl
           have h10c : decide (n = 10) = true := decide_eq_true h10
           have hf : fitsA p ⟨3, n⟩ = true := by unfold fitsA; simp [hp5, h10]
           have hn := Lib.hid (valid7_snoc heq.out hx.out hf)
           clear hf
           replace hp3 := Lib.hid hp3
           replace hp5 := Lib.hid hp5
           replace h10 := Lib.hid h10
           go_wp2_with fail
           refine (hcall.out _).mono ?_
           rintro e wy ⟨rfl, rfl⟩
           go_wp2_with fail
           exact ⟨⟨i + 1, by omega, rfl, hn, hb⟩, by simp [intOf]; omega⟩
          ·
           skip
           have h10b : (n == 10) = false := beq_false_of_ne h10
           have h10c : decide (n = 10) = false := decide_eq_false h10
           by_cases h100 : n = 100
           ·
            skip
            have h100b : (n == 100) = true := by rw [h100]; rfl
            have h100c : decide (n = 100) = true := decide_eq_true h100
            have hf : fitsA p ⟨3, n⟩ = true := by unfold fitsA; simp [hp5, h100]
            have hn := Lib.hid (valid7_snoc heq.out hx.out hf)
            clear hf
            replace hp3 := Lib.hid hp3
            replace hp5 := Lib.hid hp5
            replace h10 := Lib.hid h10
            replace h100 := Lib.hid h100
            go_wp2_with fail
            refine (hcall.out _).mono ?_
            rintro e wy ⟨rfl, rfl⟩
            go_wp2_with fail
            exact ⟨⟨i + 1, by omega, rfl, hn, hb⟩, by simp [intOf]; omega⟩
           ·
            skip
            have h100b : (n == 100) = false := beq_false_of_ne h100
            have h100c : decide (n = 100) = false := decide_eq_false h100
            by_cases h1000 : n = 1000
            ·
             skip
             have h1000b : (n == 1000) = true := by rw [h1000]; rfl
             have h1000c : decide (n = 1000) = true := decide_eq_true h1000
             have hf : fitsA p ⟨3, n⟩ = true := by unfold fitsA; simp [hp5, h1000]
             have hn := Lib.hid (valid7_snoc heq.out hx.out hf)
             clear hf
             replace hp3 := Lib.hid hp3
             replace hp5 := Lib.hid hp5
             replace h10 := Lib.hid h10
             replace h100 := Lib.hid h100
             replace h1000 := Lib.hid h1000
             go_wp2_with fail
             refine (hcall.out _).mono ?_
             rintro e wy ⟨rfl, rfl⟩
             go_wp2_with fail
             exact ⟨⟨i + 1, by omega, rfl, hn, hb⟩, by simp [intOf]; omega⟩
            ·
             skip
             have h1000b : (n == 1000) = false := beq_false_of_ne h1000
             have h1000c : decide (n = 1000) = false := decide_eq_false h1000
             have hf : fitsA p ⟨3, n⟩ = false := by unfold fitsA; simp [hp5, h10, h100, h1000]
             obtain rfl : R = false := by rw [← hR.out]; exact valid7_false hlt hx.out hf
             clear hf
             replace hp3 := Lib.hid hp3
             replace hp5 := Lib.hid hp5
             replace h10 := Lib.hid h10
             replace h100 := Lib.hid h100
             replace h1000 := Lib.hid h1000
             go_wp2_with fail
             refine (hcall.out _).mono ?_
             rintro e wy ⟨rfl, rfl⟩
             go_wp2_with fail
             go_ret
             exact ⟨rfl, hb.out⟩
         ·
          skip
          have hp5b : (p == 5) = false := beq_false_of_ne hp5
          have hp5c : decide (p = 5) = false := decide_eq_false hp5
          have hcall := Lib.hid fun W => number7_any p false (by simp [hp3, hp5]) W
          have hf : fitsA p ⟨3, n⟩ = false := by unfold fitsA; simp [hp3, hp5]
          obtain rfl : R = false := by rw [← hR.out]; exact valid7_false hlt hx.out hf
          clear hf
          replace hp3 := Lib.hid hp3
          replace hp5 := Lib.hid hp5
          go_wp2_with fail
          refine (hcall.out _).mono ?_
          rintro e wy ⟨rfl, rfl⟩
          go_wp2_with fail
          go_ret
          exact ⟨rfl, hb.out⟩
       ·
        skip
        have hk3b : (xk == 3) = false := beq_false_of_ne hk3
        have hk3c : decide (xk = 3) = false := decide_eq_false hk3
        by_cases hk4 : xk = 4
        ·
         subst hk4
         by_cases hp2 : p = 2
         ·
          skip
          have hp2b : (p == 2) = true := by rw [hp2]; rfl
          have hp2c : decide (p = 2) = true := decide_eq_true hp2
          by_cases hn6 : 0 ≤ n ∧ n ≤ 6
          ·
           skip
           have hcall := Lib.hid fun W => within7_any n 0 6 true (by simp [hn6]) W
           have hf : fitsA p ⟨4, n⟩ = true := by unfold fitsA; simp [hp2, hn6]
           have hn := Lib.hid (valid7_snoc heq.out hx.out hf)
           clear hf
           replace hp2 := Lib.hid hp2
           replace hn6 := Lib.hid hn6
           go_wp2_with fail
           refine (hcall.out _).mono ?_
           rintro e wy ⟨rfl, rfl⟩
           go_wp2_with fail
           exact ⟨⟨i + 1, by omega, rfl, hn, hb⟩, by simp [intOf]; omega⟩
          ·
           skip
           have hcall := Lib.hid fun W => within7_any n 0 6 false (by rw [← Bool.decide_and]; exact (decide_eq_false hn6).symm) W
           have hf : fitsA p ⟨4, n⟩ = false := by unfold fitsA; simp [hp2, hn6]
           obtain rfl : R = false := by rw [← hR.out]; exact valid7_false hlt hx.out hf
           clear hf
           replace hp2 := Lib.hid hp2
           replace hn6 := Lib.hid hn6
           go_wp2_with fail
           refine (hcall.out _).mono ?_
           rintro e wy ⟨rfl, rfl⟩
           go_wp2_with fail
           go_ret
           exact ⟨rfl, hb.out⟩
         ·
          skip
          have hp2b : (p == 2) = false := beq_false_of_ne hp2
          have hp2c : decide (p = 2) = false := decide_eq_false hp2
          have hf : fitsA p ⟨4, n⟩ = false := by unfold fitsA; simp [hp2]
          obtain rfl : R = false := by rw [← hR.out]; exact valid7_false hlt hx.out hf
          clear hf
          replace hp2 := Lib.hid hp2
          go_wp2_with fail
          go_ret
          exact ⟨rfl, hb.out⟩
        ·
         skip
         have hk4b : (xk == 4) = false := beq_false_of_ne hk4
         have hk4c : decide (xk = 4) = false := decide_eq_false hk4
         by_cases hk5 : xk = 5
         ·
          subst hk5
          by_cases hp6 : p = 6
          ·
           skip
           have hp6b : (p == 6) = true := by rw [hp6]; rfl
           have hp6c : decide (p = 6) = true := decide_eq_true hp6
           by_cases hn0 : n = 0
           ·
            skip
            have hn0b : (n == 0) = true := by rw [hn0]; rfl
            have hn0c : decide (n = 0) = true := decide_eq_true hn0
            have hf : fitsA p ⟨5, n⟩ = true := by unfold fitsA; simp [hp6, hn0]
            have hn := Lib.hid (valid7_snoc heq.out hx.out hf)
            clear hf
            replace hp6 := Lib.hid hp6
            replace hn0 := Lib.hid hn0
            go_wp2_with fail
            exact ⟨⟨i + 1, by omega, rfl, hn, hb⟩, by simp [intOf]; omega⟩
           ·
            skip
            have hn0b : (n == 0) = false := beq_false_of_ne hn0
            have hn0c : decide (n = 0) = false := decide_eq_false hn0
            have hf : fitsA p ⟨5, n⟩ = false := by unfold fitsA; simp [hp6, hn0]
            obtain rfl : R = false := by rw [← hR.out]; exact valid7_false hlt hx.out hf
            clear hf
            replace hp6 := Lib.hid hp6
            replace hn0 := Lib.hid hn0
            go_wp2_with fail
            go_ret
            exact ⟨rfl, hb.out⟩
          ·
           skip
           have hp6b : (p == 6) = false := beq_false_of_ne hp6
           have hp6c : decide (p = 6) = false := decide_eq_false hp6
           by_cases hp7 : p = 7
           ·
            skip
            have hp7b : (p == 7) = true := by rw [hp7]; rfl
            have hp7c : decide (p = 7) = true := decide_eq_true hp7
            by_cases hn0 : n = 0
            ·
             skip
             have hn0b : (n == 0) = true := by rw [hn0]; rfl
             have hn0c : decide (n = 0) = true := decide_eq_true hn0
             have hf : fitsA p ⟨5, n⟩ = true := by unfold fitsA; simp [hp7, hn0]
             have hn := Lib.hid (valid7_snoc heq.out hx.out hf)
             clear hf
             replace hp6 := Lib.hid hp6
             replace hp7 := Lib.hid hp7
             replace hn0 := Lib.hid hn0
             go_wp2_with fail
             exact ⟨⟨i + 1, by omega, rfl, hn, hb⟩, by simp [intOf]; omega⟩
            ·
             skip
             have hn0b : (n == 0) = false := beq_false_of_ne hn0
             have hn0c : decide (n = 0) = false := decide_eq_false hn0
             have hf : fitsA p ⟨5, n⟩ = false := by unfold fitsA; simp [hp7, hn0]
             obtain rfl : R = false := by rw [← hR.out]; exact valid7_false hlt hx.out hf
             clear hf
             replace hp6 := Lib.hid hp6
             replace hp7 := Lib.hid hp7
             replace hn0 := Lib.hid hn0
             go_wp2_with fail
             go_ret
             exact ⟨rfl, hb.out⟩
           ·
            skip
            have hp7b : (p == 7) = false := beq_false_of_ne hp7
            have hp7c : decide (p = 7) = false := decide_eq_false hp7
            have hf : fitsA p ⟨5, n⟩ = false := by unfold fitsA; simp [hp6, hp7]
            obtain rfl : R = false := by rw [← hR.out]; exact valid7_false hlt hx.out hf
            clear hf
            replace hp6 := Lib.hid hp6
            replace hp7 := Lib.hid hp7
            go_wp2_with fail
            go_ret
            exact ⟨rfl, hb.out⟩
         ·
          skip
          have hk5b : (xk == 5) = false := beq_false_of_ne hk5
          have hk5c : decide (xk = 5) = false := decide_eq_false hk5
          by_cases hk6 : xk = 6
          ·
           subst hk6
           by_cases hn0 : n = 0
           ·
            skip
            have hn0b : (n == 0) = true := by rw [hn0]; rfl
            have hn0c : decide (n = 0) = true := decide_eq_true hn0
            have hf : fitsA p ⟨6, n⟩ = true := by unfold fitsA; simp [p1, p8, hn0]
            have hn := Lib.hid (valid7_snoc heq.out hx.out hf)
            clear hf
            replace hn0 := Lib.hid hn0
            go_wp2_with fail
            exact ⟨⟨i + 1, by omega, rfl, hn, hb⟩, by simp [intOf]; omega⟩
           ·
            skip
            have hn0b : (n == 0) = false := beq_false_of_ne hn0
            have hn0c : decide (n = 0) = false := decide_eq_false hn0
            have hf : fitsA p ⟨6, n⟩ = false := by unfold fitsA; simp [p1, p8, hn0]
            obtain rfl : R = false := by rw [← hR.out]; exact valid7_false hlt hx.out hf
            clear hf
            replace hn0 := Lib.hid hn0
            go_wp2_with fail
            go_ret
            exact ⟨rfl, hb.out⟩
          ·
           skip
           have hk6b : (xk == 6) = false := beq_false_of_ne hk6
           have hk6c : decide (xk = 6) = false := decide_eq_false hk6
           have hf : fitsA p ⟨xk, n⟩ = false := by unfold fitsA; simp [hk1, hk2, hk3, hk4, hk5, hk6]
           obtain rfl : R = false := by rw [← hR.out]; exact valid7_false hlt hx.out hf
           clear hf
           replace hk1 := Lib.hid hk1
           replace hk2 := Lib.hid hk2
           replace hk3 := Lib.hid hk3
           replace hk4 := Lib.hid hk4
           replace hk5 := Lib.hid hk5
           replace hk6 := Lib.hid hk6
           go_wp2_with fail
           go_ret
           exact ⟨rfl, hb.out⟩
    ·
     have hno : decide ((i : Int) < (l.length : Int)) = false := decide_eq_false (by omega)
     obtain rfl : i = l.length := by omega
     obtain rfl : R = true := by
      rw [← hR.out]
      unfold validA
      rw [decide_eq_true hp, decide_eq_true h64, Bool.true_and, Bool.true_and, List.all_eq_true]
      intro s hs
      obtain ⟨j, hj, rfl⟩ := List.mem_iff_getElem.1 hs
      have := heq.out j hj
      rwa [getElem!_pos l j hj] at this
     go_wp2_with fail
     go_ret
     exact ⟨rfl, hb.out⟩
  ·
   have e0 : decide ((l.length : Int) > 64) = true := decide_eq_true (by omega)
   have e0b : decide ((64 : Int) < (l.length : Int)) = true := decide_eq_true (by omega)
   have e0c : decide (64 < l.length) = true := decide_eq_true (by omega)
   obtain rfl : R = false := by
    rw [← hR.out]
    unfold validA
    rw [decide_eq_false h64, Bool.and_false, Bool.false_and]
   go_enter Tryz.func74, Tryz.ntmps74
   go_wp2_with fail
   refine (hwi.out _).mono ?_
   rintro e w1 ⟨rfl, rfl⟩
   go_wp2_with fail
   go_ret
   exact ⟨rfl, Below.refl _ _⟩
 ·
  have hwi := fun W => within7_any p 1 8 false (by rw [← Bool.decide_and]; exact (decide_eq_false hp).symm) W
  replace hwi := Lib.hid hwi
  obtain rfl : R = false := by
   rw [← hR.out]
   unfold validA
   rw [decide_eq_false hp, Bool.false_and, Bool.false_and]
  go_enter Tryz.func74, Tryz.ntmps74
  go_wp2_with fail
  refine (hwi.out _).mono ?_
  rintro e w1 ⟨rfl, rfl⟩
  go_wp2_with fail
  go_ret
  exact ⟨rfl, Below.refl _ _⟩
end Go.Proofs.YtpeandbcdaikbaaGreatDoor
namespace Go.Proofs.YtpeandbcdaikbaaGreatDoor
open Go.RowKit Go.Shelf Go.Maps

attribute [local go_sem] Oper.semAt_some

def lowR (L : List Int) : Int := if L = [] then 0 else minL L
def highR (L : List Int) : Int := if L = [] then 0 else maxL L
theorem lowR_snoc (L : List Int) (n : Int) : lowR (L ++ [n]) = if L = [] then n else min (lowR L) n := by
 unfold lowR
 rw [if_neg (by simp)]
 by_cases h : L = []
 ·
  subst h
  rw [if_pos rfl, List.nil_append, minL_one]
 ·
  rw [if_neg h, if_neg h, minL_app h (by simp), minL_one]
theorem highR_snoc (L : List Int) (n : Int) : highR (L ++ [n]) = if L = [] then n else max (highR L) n := by
 unfold highR
 rw [if_neg (by simp)]
 by_cases h : L = []
 ·
  subst h
  rw [if_pos rfl, List.nil_append, maxL_one]
 ·
  rw [if_neg h, if_neg h, maxL_app h (by simp), maxL_one]
def numsTo (k : Int) (l : List Stp) (i : Nat) : List Int := numsA k (l.take i)
theorem numsTo_yes {k : Int} {l : List Stp} {i : Nat} (hi : i < l.length) {s : Stp} (hs : l[i]! = s) (h : s.kind = k) : numsTo k l (i + 1) = numsTo k l i ++ [s.n] := by
 unfold numsTo
 rw [List.take_succ_eq_append_getElem hi, numsA_snoc, ← getElem!_pos l i hi, hs, if_pos h]
theorem numsTo_no {k : Int} {l : List Stp} {i : Nat} (hi : i < l.length) {s : Stp} (hs : l[i]! = s) (h : s.kind ≠ k) : numsTo k l (i + 1) = numsTo k l i := by
 unfold numsTo
 rw [List.take_succ_eq_append_getElem hi, numsA_snoc, ← getElem!_pos l i hi, hs, if_neg h]
theorem numsTo_len (k : Int) (l : List Stp) (i : Nat) : (numsTo k l i).length ≤ i := by
 unfold numsTo numsA
 rw [List.length_map]
 have := List.length_filter_le (fun s : Stp => s.kind == k) (l.take i)
 rw [List.length_take] at this
 omega
theorem results_tmp3 {fn : Func} {t u v : Tmp} (h : fn.results = #[.tmp t, .tmp u, .tmp v]) (tmps : Array Value) (P : Program) (w : World) :
  (results fn tmps).run P w = .ok (.tuple #[tmps.getD t undef, tmps.getD u undef, tmps.getD v undef]) w := by
 simp [results, h, go_sem]
set_option maxRecDepth 100000 in
set_option maxHeartbeats 4000000 in
theorem count7_any (k : Int) (v : Value) (l : List Stp) (w : World) (hv : StepsAt w w.heap.size v l) :
  Calls Tryz.prog 105 #[v, .int .i64 k] w fun e w' => e = .returned (.tuple #[.int .i64 ((numsA k l).length : Int), .int .i64 (lowR (numsA k l)), .int .i64 (highR (numsA k l))]) ∧ Below w.heap.size w w' := by
 have hc1 := Lib.hid fun i (hi : i < l.length) => StepsAt.cells hv hi
 obtain ⟨va, vc, rfl, _, hvm, _⟩ := hv
 have hbw := Lib.hid (Below.refl w.heap.size w)
 have hst : Hid (0 = ((numsTo k l 0).length : Int) ∧ (0 : Int) = lowR (numsTo k l 0) ∧ (0 : Int) = highR (numsTo k l 0)) := ⟨rfl, rfl, rfl⟩
 go_enter Tryz.func105, Tryz.ntmps105
 go_wp2_with fail
 go_loopw [7, 8, 9, 10] (fun cv lv gv iv wr => ∃ (i : Nat) (c lo gr : Int), i ≤ l.length ∧ iv = .int .i64 (i : Int) ∧ cv = .int .i64 c ∧ lv = .int .i64 lo ∧ gv = .int .i64 gr ∧ Hid (c = ((numsTo k l i).length : Int) ∧ lo = lowR (numsTo k l i) ∧ gr = highR (numsTo k l i)) ∧ Hid (Below w.heap.size w wr)) (fun _ _ _ iv _ => l.length - (intOf iv).toNat)
 case atStart => exact ⟨0, 0, 0, 0, Nat.zero_le _, rfl, rfl, rfl, rfl, hst, hbw⟩
 case round =>
  obtain ⟨i, c, lo, gr, hi, rfl, rfl, rfl, rfl, hall, hb⟩ := hrel
  clear hst hbw
  by_cases hlt : i < l.length
  ·
   have hyes : decide ((i : Int) < (l.length : Int)) = true := decide_eq_true (by omega)
   have hw1 : IntKind.i64.wrap ((i : Int) + 1) = (i : Int) + 1 := IntWalk.i64_in _ (by unfold maxLen at hvm; omega)
   have k0 : (0 : Int) ≤ (i : Int) := by omega
   have k1 : (i : Int) < (l.length : Int) := by omega
   obtain ⟨b1, o1, c1, q1, l1, x1, x2⟩ := hc1.out i hlt
   cases q1
   replace x1 := (hb.out.cell (p := ⟨b1, o1 + i * 2, none⟩) l1).trans x1
   replace x2 := (hb.out.cell (p := ⟨b1, o1 + i * 2 + 1, none⟩) l1).trans x2
   generalize hx : l[i]! = x at *
   obtain ⟨xk, n⟩ := x
   dsimp only at x1 x2
   clear hc1
   by_cases hk : xk = k
   ·
    have hs := numsTo_yes hlt hx hk
    have hln := numsTo_len k l i
    generalize numsTo k l i = L at *
    replace hs := Lib.hid hs
    obtain ⟨h1, h2, h3⟩ := hall.out
    have hlo := lowR_snoc L n
    have hgr := highR_snoc L n
    have hw2 : IntKind.i64.wrap (c + 1) = c + 1 := IntWalk.i64_in _ (by unfold maxLen at hvm; omega)
    have hkb : (xk == k) = true := by rw [hk]; exact beq_self_eq_true _
    have hkc : decide (xk = k) = true := decide_eq_true hk
    replace hx := Lib.hid hx
    replace hk := Lib.hid hk
    replace hlo := Lib.hid hlo
    replace hgr := Lib.hid hgr
    by_cases hc0 : c = 0
    ·
     have hL : L = [] := List.eq_nil_of_length_eq_zero (by omega)
     have hn : Hid (c + 1 = ((numsTo k l (i + 1)).length : Int) ∧ n = lowR (numsTo k l (i + 1)) ∧ n = highR (numsTo k l (i + 1))) := by rw [hs.out]; exact ⟨by simp; omega, by rw [hlo.out, if_pos hL], by rw [hgr.out, if_pos hL]⟩
     have f1 : (c == 0) = true := by rw [hc0]; rfl
     have f2 : decide (c = 0) = true := decide_eq_true hc0
     replace h1 := Lib.hid h1
     replace h2 := Lib.hid h2
     replace h3 := Lib.hid h3
     replace hL := Lib.hid hL
     replace hc0 := Lib.hid hc0
     clear hall
     go_wp2_with fail
     exact ⟨⟨i + 1, c + 1, n, n, by omega, rfl, rfl, rfl, rfl, hn, hb⟩, by simp [intOf]; omega⟩
    ·
     have hL : L ≠ [] := fun e => hc0 (by rw [h1, e]; rfl)
     have f1 : (c == 0) = false := beq_false_of_ne hc0
     have f2 : decide (c = 0) = false := decide_eq_false hc0
     have hn0 : c + 1 = ((L ++ [n]).length : Int) := by simp; omega
     have hl2 := hlo.out
     have hg2 := hgr.out
     rw [if_neg hL, ← h2] at hl2
     rw [if_neg hL, ← h3] at hg2
     replace h1 := Lib.hid h1
     replace h2 := Lib.hid h2
     replace h3 := Lib.hid h3
     replace hL := Lib.hid hL
     replace hc0 := Lib.hid hc0
     replace hn0 := Lib.hid hn0
     clear hall hlo hgr
     by_cases hA : n < lo
     ·
      have g1 : decide (n < lo) = true := decide_eq_true hA
      by_cases hB : gr < n
      ·
       have g2 : decide (n > gr) = true := decide_eq_true hB
       have g3 : decide (gr < n) = true := decide_eq_true hB
       have hn : Hid (c + 1 = ((numsTo k l (i + 1)).length : Int) ∧ n = lowR (numsTo k l (i + 1)) ∧ n = highR (numsTo k l (i + 1))) := by rw [hs.out]; exact ⟨hn0.out, by rw [hl2]; omega, by rw [hg2]; omega⟩
       replace hl2 := Lib.hid hl2
       replace hg2 := Lib.hid hg2
       go_wp2_with fail
       exact ⟨⟨i + 1, c + 1, n, n, by omega, rfl, rfl, rfl, rfl, hn, hb⟩, by simp [intOf]; omega⟩
      ·
       have g2 : decide (n > gr) = false := decide_eq_false hB
       have g3 : decide (gr < n) = false := decide_eq_false hB
       have hn : Hid (c + 1 = ((numsTo k l (i + 1)).length : Int) ∧ n = lowR (numsTo k l (i + 1)) ∧ gr = highR (numsTo k l (i + 1))) := by rw [hs.out]; exact ⟨hn0.out, by rw [hl2]; omega, by rw [hg2]; omega⟩
       replace hl2 := Lib.hid hl2
       replace hg2 := Lib.hid hg2
       go_wp2_with fail
       exact ⟨⟨i + 1, c + 1, n, gr, by omega, rfl, rfl, rfl, rfl, hn, hb⟩, by simp [intOf]; omega⟩
     ·
      have g1 : decide (n < lo) = false := decide_eq_false hA
      by_cases hB : gr < n
      ·
       have g2 : decide (n > gr) = true := decide_eq_true hB
       have g3 : decide (gr < n) = true := decide_eq_true hB
       have hn : Hid (c + 1 = ((numsTo k l (i + 1)).length : Int) ∧ lo = lowR (numsTo k l (i + 1)) ∧ n = highR (numsTo k l (i + 1))) := by rw [hs.out]; exact ⟨hn0.out, by rw [hl2]; omega, by rw [hg2]; omega⟩
       replace hl2 := Lib.hid hl2
       replace hg2 := Lib.hid hg2
       go_wp2_with fail
       exact ⟨⟨i + 1, c + 1, lo, n, by omega, rfl, rfl, rfl, rfl, hn, hb⟩, by simp [intOf]; omega⟩
      ·
       have g2 : decide (n > gr) = false := decide_eq_false hB
       have g3 : decide (gr < n) = false := decide_eq_false hB
       have hn : Hid (c + 1 = ((numsTo k l (i + 1)).length : Int) ∧ lo = lowR (numsTo k l (i + 1)) ∧ gr = highR (numsTo k l (i + 1))) := by rw [hs.out]; exact ⟨hn0.out, by rw [hl2]; omega, by rw [hg2]; omega⟩
       replace hl2 := Lib.hid hl2
       replace hg2 := Lib.hid hg2
       go_wp2_with fail
       exact ⟨⟨i + 1, c + 1, lo, gr, by omega, rfl, rfl, rfl, rfl, hn, hb⟩, by simp [intOf]; omega⟩
   ·
    have hs := numsTo_no hlt hx hk
    have hkb : (xk == k) = false := beq_false_of_ne hk
    have hkc : decide (xk = k) = false := decide_eq_false hk
    rw [← hs] at hall
    replace hs := Lib.hid hs
    replace hx := Lib.hid hx
    replace hk := Lib.hid hk
    go_wp2_with fail
    exact ⟨⟨i + 1, c, lo, gr, by omega, rfl, rfl, rfl, rfl, hall, hb⟩, by simp [intOf]; omega⟩
  ·
   have hno : decide ((i : Int) < (l.length : Int)) = false := decide_eq_false (by omega)
   obtain rfl : i = l.length := by omega
   have hd : numsTo k l l.length = numsA k l := by unfold numsTo; rw [List.take_length]
   rw [hd] at hall
   replace hd := Lib.hid hd
   go_wp2_with fail
   (try simp only [Exit.inBlock, Exit.then])
   refine bodyPost_ret (results_tmp3 rfl _ _ _) rfl ?_
   obtain ⟨h1, h2, h3⟩ := hall.out
   rw [← h1, ← h2, ← h3]
   exact ⟨rfl, hb.out⟩
end Go.Proofs.YtpeandbcdaikbaaGreatDoor
namespace Go.Proofs.YtpeandbcdaikbaaGreatDoor
open Go.RowKit Go.Shelf Go.Maps

theorem run_append_block {P : Program} (w : World) (base : Nat) (t ty e : TypeId) (i : TypeInfo) (z : Value) (size bytes : Nat) (ht : P.underlying t = some (.slice e)) (hi : P.info? e = some i) (hz : i.zero = some z)
  (hsize : i.size = size) (hby : i.bytes = bytes)
  (v : Value) (n : Nat) (xs : List Value) (hown : w.ownsRow base e size v n xs)
  (a : Addr) (m c : Nat) (news : List Value) (hl : news.length = m * size) (hnews : ∀ j u, news[j]? = some u → w.cell? (a.add j) = some u) (h1 : ∀ u ∈ news, u.oneCell' = true)
  (h63 : n + m ≤ maxLen) (hbytes : (n + m) * bytes ≤ 140737488355328) (v' : Value) (w' : World)
  (hr0 : (Builtin.append_ #[t, t] ty #[v, .slice (some a) m c]).run P w = .ok v' w') : v'.ownBlock = v.ownBlock ∨ v'.ownBlock = some w.heap.size := by
 subst hsize
 subst hby
 have hsmall : n + m ≤ 9223372036854775807 := by simp only [maxLen] at h63; omega
 rcases hown.2 with ⟨rfl, rfl⟩ | ⟨g, cap, cur, rfl, hbg, hg, hnc, hcm, hcs, htake⟩
 ·
  have hx : xs = [] := List.eq_nil_of_length_eq_zero (by simpa using hown.1)
  subst hx
  by_cases hm : m = 0
  ·
   subst hm
   have hn : news = [] := List.eq_nil_of_length_eq_zero (by simpa using hl)
   subst hn
   have hr : (Builtin.append_ #[t, t] ty #[.slice none 0 0, .slice (some a) 0 c]).run P w = .ok (.slice none 0 0) w := by
    simp [Builtin.append_, run_underlying ht, sizeOf, typeInfo, hi, Builtin.lenOf, Builtin.firstCells, loadCells, loadCellsFrom]
   rw [hr] at hr0
   injection hr0 with q1 q2
   subst q1
   exact .inl rfl
  ·
   have hr := run_append_nil (P := P) w t ty e i z ht hi hz a m c news hl hnews (by omega) (by omega) (by have hb := hbytes; simp only [Nat.zero_add] at hb; omega)
   rw [hr] at hr0
   injection hr0 with q1 q2
   subst q1
   exact .inr rfl
 ·
  by_cases hroom : n + m ≤ cap
  ·
   have hfit : n * i.size + news.length ≤ cur.size := by rw [hl, hcs, ← Nat.add_mul]; exact Nat.mul_le_mul_right _ hroom
   have hr := run_append_room (P := P) w t ty e i ht hi g n cap cur hg a m c news hl hnews h1 hroom hfit
   rw [hr] at hr0
   injection hr0 with q1 q2
   subst q1
   exact .inl rfl
  ·
   have holds : ∀ j u, xs[j]? = some u → w.cell? ((⟨g, 0, none⟩ : Addr).add j) = some u := hown.cells (g := g) rfl
   have hr := run_append_grow (P := P) w t ty e i z ht hi hz ⟨g, 0, none⟩ n cap xs hown.1 holds a m c news hl hnews (by omega) (by omega) (growslice_fits (by omega) hbytes)
   rw [hr] at hr0
   injection hr0 with q1 q2
   subst q1
   exact .inr rfl
theorem wpList_append_blk {P : Program} {w : World} {ops : Array Oper} {rest : List Oper} {o : Oper} {a : Act} {Q : Exit → Act → World → Prop} (hgd : o.guard = none) (s x : Operand) (t : TypeId)
  (ho : o.op = .call { callee := .builtin .append, args := #[s, x], argTypes := #[t, t] })
  (base : Nat) (e : TypeId) (i : TypeInfo) (z : Value) (size bytes : Nat) (ht : P.underlying t = some (.slice e)) (hi : P.info? e = some i) (hz : i.zero = some z)
  (hsize : i.size = size) (hby : i.bytes = bytes) (hzs : z.cells.size = size) (hsz : 0 < size)
  (v : Value) (n : Nat) (xs : List Value) (hs : a.eval s = v) (hown : w.ownsRow base e size v n xs)
  (ad : Addr) (m c : Nat) (news : List Value) (hx : a.eval x = .slice (some ad) m c) (hl : news.length = m * size) (hnews : ∀ j u, news[j]? = some u → w.cell? (ad.add j) = some u) (h1 : ∀ u ∈ news, u.oneCell' = true)
  (h63 : n + m ≤ maxLen) (hbytes : (n + m) * bytes ≤ 140737488355328) (hbase : base ≤ w.heap.size)
  (h : ∀ v' w', w'.ownsRow base e size v' (n + m) (xs ++ news) → w.grownBy w' v.ownBlock → (v'.ownBlock = v.ownBlock ∨ v'.ownBlock = some w.heap.size) → wpList P ops Q rest (a.put o.dst v') w') : wpList P ops Q (o :: rest) a w := by
 refine wpList_plain hgd fun K hK => ?_
 obtain ⟨v', w', hr, h2, h3, h4⟩ := run_append_own (P := P) w base t o.type e i z size bytes ht hi hz hsize hby hzs hsz v n xs hown ad m c news hl hnews h1 h63 hbytes hbase
 have h5 := run_append_block (P := P) w base t o.type e i z size bytes ht hi hz hsize hby v n xs hown ad m c news hl hnews h1 h63 hbytes v' w' hr
 unfold Oper.wp execOp
 simp only [ho, resolve, invoke, builtin, Sem.run_bind, Sem.run_pure, Result.andThen_ok, List.map_toArray, List.map_cons, List.map_nil, hs, hx, hr]
 exact hK _ _ (h v' w' h2 h3 h5)
end Go.Proofs.YtpeandbcdaikbaaGreatDoor
namespace Go.Proofs.YtpeandbcdaikbaaGreatDoor
open Go.RowKit Go.Shelf Go.Maps

attribute [local go_sem] Oper.semAt_some

def mostK (k : Int) : Nat := if k = 5 then 5 else 1
def valK (k : Int) (L : List Int) : Int := if k = 3 then highR L else if k = 4 then lowR L else 0
theorem nums_zero {p : Int} {l : List Stp} (h : validA p l = true) {k : Int} (hk : k = 1 ∨ k = 2 ∨ k = 5) : ∀ n ∈ numsA k l, n = 0 := fun n hn => by
 obtain ⟨s, hs, rfl⟩ := List.mem_map.1 hn
 obtain ⟨hs, hsk⟩ := List.mem_filter.1 hs
 have hf := (valid_parts h).2.2 s hs
 have hsk : s.kind = k := by simpa using hsk
 unfold fitsA at hf
 rw [hsk] at hf
 rcases hk with rfl | rfl | rfl
 all_goals
  simp at hf
  exact hf.2
theorem minL_zero {L : List Int} (hL : L ≠ []) (h : ∀ n ∈ L, n = 0) : minL L = 0 := by
 obtain ⟨x, r, rfl⟩ := List.exists_cons_of_ne_nil hL
 have hx := h x List.mem_cons_self
 subst hx
 have key : ∀ r : List Int, (∀ n ∈ r, n = 0) → r.foldl min (0 : Int) = 0 := fun r => by
  induction r with
  | nil => intro _; rfl
  | cons y r ih =>
   intro hr
   rw [List.foldl_cons, hr y List.mem_cons_self]
   exact ih fun n hn => hr n (List.mem_cons_of_mem _ hn)
 exact key _ h
theorem ofKind_eq {p : Int} {l : List Stp} (h : validA p l = true) {k : Int} (hk : 1 ≤ k ∧ k ≤ 5) : ofKind k (numsA k l) = List.replicate (min (numsA k l).length (mostK k)) ⟨k, valK k (numsA k l)⟩ := by
 have hz := fun hk' => nums_zero h (k := k) hk'
 generalize numsA k l = L at *
 unfold ofKind
 by_cases hL : L = []
 ·
  subst hL
  rw [canon_nil]
  simp
 ·
  have hpos : 0 < L.length := List.length_pos_iff.2 hL
  unfold valK mostK
  by_cases h3 : k = 3
  ·
   subst h3
   rw [canon_3 hL, if_pos rfl, if_neg (by decide), show min L.length 1 = 1 by omega]
   unfold highR
   rw [if_neg hL]
   rfl
  ·
   by_cases h5 : k = 5
   ·
    subst h5
    rw [canon_5 hL, if_pos rfl, if_neg (by decide), if_neg (by decide)]
    have hz := hz (.inr (.inr rfl))
    have : L = List.replicate L.length 0 := List.eq_replicate_iff.2 ⟨rfl, hz⟩
    rw [this, List.take_replicate, List.map_replicate, List.length_replicate, Nat.min_comm]
   ·
    rw [canon_k hL h3 h5, if_neg h3, if_neg h5, show min L.length 1 = 1 by omega]
    by_cases h4 : k = 4
    ·
     subst h4
     unfold lowR
     rw [if_pos rfl, if_neg hL]
     rfl
    ·
     rw [if_neg h4, minL_zero hL (hz (by omega))]
     rfl
def outK (l : List Stp) (j : Nat) : List Stp := (List.range j).flatMap fun (i : Nat) => ofKind ((i : Int) + 1) (numsA ((i : Int) + 1) l)
theorem outK_succ (l : List Stp) (j : Nat) : outK l (j + 1) = outK l j ++ ofKind ((j : Int) + 1) (numsA ((j : Int) + 1) l) := by
 unfold outK
 rw [List.range_succ, List.flatMap_append, List.flatMap_cons, List.flatMap_nil, List.append_nil]
theorem outK_five {l : List Stp} (h : numsA 6 l = []) : outK l 5 = normalA l := by
 unfold normalA
 rw [if_neg (by simpa using h)]
 rfl
theorem outK_len {p : Int} {l : List Stp} (h : validA p l = true) : ∀ j, j ≤ 5 → (outK l j).length ≤ 5 * j
 | 0, _ => Nat.le_refl _
 | j + 1, hj => by
  have ih := outK_len h j (by omega)
  rw [outK_succ, List.length_append, ofKind_eq h (by omega), List.length_replicate]
  have : mostK ((j : Int) + 1) ≤ 5 := by unfold mostK; split <;> omega
  omega
def normR (p : Int) (l : List Stp) : List Stp := if validA p l then normalA l else []
theorem rep_snoc (L : List Stp) (i : Nat) (s : Stp) : stL (L ++ List.replicate (i + 1) s) = stL (L ++ List.replicate i s) ++ stC s := by
 rw [List.replicate_succ', ← List.append_assoc, stL_snoc]
structure NInner (w w0 : World) (B : Nat) (v : Value) (L : List Stp) (i : Nat) (s : Stp) (wr : World) : Prop where
 own : wr.ownsRow w.heap.size 73 2 v (L.length + i) (stL (L ++ List.replicate i s))
 box : Arr wr B 73 [.int .i64 s.kind, .int .i64 s.n]
 apart : v.ownBlock ≠ some B
 below : Below w.heap.size w wr
 ints : Arr wr w0.heap.size 3 [.int .i64 1, .int .i64 2, .int .i64 3, .int .i64 4, .int .i64 5]
theorem NInner.snoc {w w0 wr wn : World} {B : Nat} {v v' : Value} {L : List Stp} {i : Nat} {s : Stp} (h : NInner w w0 B v L i s wr)
  (hown : wn.ownsRow w.heap.size 73 2 v' (L.length + i + 1) (stL (L ++ List.replicate i s) ++ stC s)) (hg : (wr.alloc (.cells #[.int .i64 s.kind, .int .i64 s.n] 73)).grownBy wn v.ownBlock)
  (hb : v'.ownBlock = v.ownBlock ∨ v'.ownBlock = some (wr.heap.size + 1)) : NInner w w0 B v' L (i + 1) s wn := by
 have hBl := h.box.lt
 have hba : Below wr.heap.size wr (wr.alloc (.cells #[.int .i64 s.kind, .int .i64 s.n] 73)) := (Below.refl _ _).alloc (Nat.le_refl _) _
 refine ⟨by rw [rep_snoc, ← Nat.add_assoc]; exact hown, ?_, ?_, (h.below.trans (hba.mono h.below.size)).grown hg (by have := h.below.size; have := hba.size; omega) (fun g hq => (own_block h.own hq).2.1), ?_⟩
 ·
  exact (hg.block B (by have := hba.size; omega) (fun e => h.apart e.symm)).trans (h.box.below hba)
 ·
  rcases hb with hb | hb
  ·
   rw [hb]; exact h.apart
  ·
   rw [hb]
   intro e
   injection e with e
   have := hba.size
   omega
 ·
  refine (hg.block _ (by have := h.ints.lt; have := hba.size; omega) (fun e => ?_)).trans (h.ints.below hba)
  obtain ⟨_, _, cur, hc⟩ := own_block h.own e.symm
  have hi := h.ints
  unfold Arr at hi
  rw [hi] at hc
  injection hc with hc
  injection hc with _ hc
  exact absurd hc (by decide)
set_option maxRecDepth 100000 in
set_option maxHeartbeats 8000000 in
theorem Normal7_any (p : Int) (v : Value) (l : List Stp) (w : World) (hv : StepsAt w w.heap.size v l) :
  Calls Tryz.prog 75 #[.int .i64 p, v] w fun e w' => ∃ v', e = .returned (.tuple #[v', .int .i64 (if validA p l then 0 else 70)]) ∧ StepsT w' v' (normR p l) ∧ Below w.heap.size w w' := by
 have hva := Lib.hid (Valid7_any p v l w hv)
 have hcn := Lib.hid fun k W (hW : Below w.heap.size w W) => count7_any k v l W (hv.later hW)
 obtain ⟨va, vc, rfl, _, hvm, _⟩ := hv
 obtain ⟨i0, hi_, hz0, hz1, hz2⟩ := info_parts Tryz.info_step
 replace hi_ := Lib.hid hi_
 unfold normR
 cases hvl : validA p l with
 | false =>
  rw [hvl] at hva
  replace hvl := Lib.hid hvl
  go_enter Tryz.func75, Tryz.ntmps75
  go_wp2_with fail
  refine hva.out.mono ?_
  rintro e w1 ⟨rfl, hb1⟩
  go_wp2_with fail
  go_ret2
  exact ⟨_, rfl, RowT.of_own (World.ownsRow_nil w1 w1.heap.size _ 2), hb1⟩
 | true =>
  rw [hvl] at hva
  replace hvl := Lib.hid hvl
  go_enter Tryz.func75, Tryz.ntmps75
  go_wp2_with fail
  refine hva.out.mono ?_
  rintro e w1 ⟨rfl, hb1⟩
  clear hva
  have hc6 := Lib.hid (hcn.out 6 w1 hb1)
  replace hb1 := Lib.hid hb1
  generalize hL6 : numsA 6 l = L6 at *
  replace hL6 := Lib.hid hL6
  go_wp2_with fail
  refine hc6.out.mono ?_
  rintro e w2 ⟨rfl, hb2⟩
  replace hb2 := Lib.hid (hb1.out.trans (hb2.mono hb1.out.size))
  clear hc6 hb1
  by_cases h6 : L6 = []
  ·
   have e1 : decide ((L6.length : Int) > 0) = false := by rw [h6]; rfl
   have e2 : decide ((0 : Int) < (L6.length : Int)) = false := by rw [h6]; rfl
   have e3 : decide (0 < L6.length) = false := by rw [h6]; rfl
   have hnor := outK_five (l := l) (by rw [hL6.out, h6])
   replace hnor := Lib.hid hnor
   replace h6 := Lib.hid h6
   obtain ⟨w3, hw⟩ : ∃ w3, w3 = w2.alloc (.cells #[.int .i64 1, .int .i64 2, .int .i64 3, .int .i64 4, .int .i64 5] 3) := ⟨_, rfl⟩
   have hI : Hid (Arr w3 w2.heap.size 3 [.int .i64 1, .int .i64 2, .int .i64 3, .int .i64 4, .int .i64 5]) := by rw [hw]; exact Arr.new rfl rfl
   have hb3 : Below w2.heap.size w2 w3 := by rw [hw]; exact (Below.refl _ _).alloc (Nat.le_refl _) _
   replace hb3 := Lib.hid (hb2.out.trans (hb3.mono hb2.out.size))
   have hst : Hid (w3.ownsRow w.heap.size 73 2 (.slice none 0 0) (outK l 0).length (stL (outK l 0)) ∧ Below w.heap.size w w3 ∧ Arr w3 w2.heap.size 3 [.int .i64 1, .int .i64 2, .int .i64 3, .int .i64 4, .int .i64 5]) := ⟨World.ownsRow_nil _ _ _ _, hb3.out, hI.out⟩
   clear hI hb3
   go_wp2_with fail
   rw [← hw]
   clear hw
   go_loopw [10, 36] (fun ov jv wr => ∃ j : Nat, j ≤ 5 ∧ jv = .int .i64 (j : Int) ∧ Hid (wr.ownsRow w.heap.size 73 2 ov (outK l j).length (stL (outK l j)) ∧ Below w.heap.size w wr ∧ Arr wr w2.heap.size 3 [.int .i64 1, .int .i64 2, .int .i64 3, .int .i64 4, .int .i64 5])) (fun _ jv _ => 5 - (intOf jv).toNat)
   case atStart => exact ⟨0, by omega, rfl, hst⟩
   case round =>
    obtain ⟨wo, hwo⟩ : ∃ wo, wo = wr := ⟨_, rfl⟩
    subst hwo
    obtain ⟨j, hj, rfl, hall⟩ := hrel
    clear hst
    by_cases hj5 : j < 5
    ·
     obtain ⟨hown, hbo, hA⟩ := hall.out
     clear hall
     have hol := outK_len hvl.out j (by omega)
     have hkeq := ofKind_eq hvl.out (k := (j : Int) + 1) (by omega)
     have hsucc := outK_succ l j
     rw [hkeq] at hsucc
     have hcn1 := Lib.hid (hcn.out ((j : Int) + 1) wo hbo)
     have hlen5 : Hid (5 * j ≤ 20) := (show 5 * j ≤ 20 by omega)
     clear hkeq
     have hnl : (numsA ((j : Int) + 1) l).length ≤ l.length := by unfold numsA; rw [List.length_map]; exact List.length_filter_le _ _
     generalize hLL : numsA ((j : Int) + 1) l = LL at *
     replace hLL := Lib.hid hLL
     generalize hK : outK l j = KL at *
     replace hK := Lib.hid hK
     replace hsucc := Lib.hid hsucc
     replace hown := Lib.hid hown
     replace hbo := Lib.hid hbo
     have hne : Hid (∀ s B, wo.heap.size ≤ B → Arr s B 73 [] → u10.ownBlock ≠ some B) := fun s B hB _ e => by have := (own_block hown.out e).1; omega
     have hob : Hid (∀ B, wo.heap.size ≤ B → u10.ownBlock ≠ some B) := fun B hB e => by have := (own_block hown.out e).1; omega
     clear hne
     obtain rfl | rfl | rfl | rfl | rfl : j = 0 ∨ j = 1 ∨ j = 2 ∨ j = 3 ∨ j = 4 := by omega
     ·
      have c0 := hA.cell (j := 0) rfl
      have hd1 : decide (((0 : Nat) : Int) < 5) = true := by decide
      change Hid (Calls Tryz.prog 105 #[_, .int .i64 1] wo _) at hcn1
      replace hA := Lib.hid hA
      go_wp2_with fail
      refine hcn1.out.mono ?_
      clear hcn1
      rintro e w4 ⟨rfl, hb4⟩
      have hA4 := Lib.hid (hA.out.below hb4)
      have hown4 := Lib.hid (own_below hown.out hb4)
      have hbw4 := Lib.hid (hbo.out.trans (hb4.mono hbo.out.size))
      have hob4 : Hid (u10.ownBlock ≠ some w4.heap.size) := hob.out _ hb4.size
      have hbl4 : Hid (w.heap.size ≤ w4.heap.size) := hbw4.out.size
      clear hA hown hb4 hob c0 hbo
      generalize hhi : highR LL = hi at *
      generalize hlo : lowR LL = lo at *
      replace hhi := Lib.hid hhi
      replace hlo := Lib.hid hlo
      obtain ⟨w5, hw⟩ : ∃ w5, w5 = w4.alloc (.cells #[.int .i64 1, .int .i64 0] 73) := ⟨_, rfl⟩
      have hX : Hid (Arr w5 w4.heap.size 73 [.int .i64 1, .int .i64 0]) := by rw [hw]; exact Arr.new rfl rfl
      have hb5 : Below w4.heap.size w4 w5 := by rw [hw]; exact (Below.refl _ _).alloc (Nat.le_refl _) _
      have hA5 := Lib.hid (hA4.out.below hb5)
      have hown5 := Lib.hid (own_below hown4.out hb5)
      have hbw5 := Lib.hid (hbw4.out.trans (hb5.mono hbw4.out.size))
      clear hA4 hown4 hbw4 hb5
      go_upto_region 14 with fail
      rw [← hw]
      clear hw
      have hin : Hid (NInner w w2 w4.heap.size u10 KL 0 ⟨1, 0⟩ w5) := ⟨by simpa using hown5.out, hX.out, hob4.out, hbw5.out, hA5.out⟩
      clear hX hA5 hown5 hbw5
      have hfin : Hid (stL (outK l (0 + 1)) = stL (KL ++ List.replicate (min LL.length 1) ⟨1, 0⟩) ∧ (outK l (0 + 1)).length = KL.length + min LL.length 1) := by
       rw [hsucc.out]
       have hv1 : valK (((0 : Nat) : Int) + 1) LL = 0 := by rfl
       have hm1 : mostK (((0 : Nat) : Int) + 1) = 1 := rfl
       rw [hv1, hm1]
       refine ⟨rfl, by rw [List.length_append, List.length_replicate]⟩
      clear hsucc
      generalize hmm : min LL.length 1 = mm at *
      have hm1 : mm ≤ LL.length := by omega
      have hm2 : mm ≤ 1 := by omega
      go_wp2_with fail
      go_loopw [10, 18] (fun ov iv wr => ∃ i : Nat, i ≤ mm ∧ iv = .int .i64 (i : Int) ∧ Hid (NInner w w2 w4.heap.size ov KL i ⟨1, 0⟩ wr)) (fun _ iv _ => mm - (intOf iv).toNat)
      case atStart => exact ⟨0, Nat.zero_le _, rfl, hin⟩
      case round =>
       obtain ⟨i, him, rfl, hI⟩ := hrel
       clear hin
       by_cases hlt : i < mm
       ·
        have d1 : decide ((i : Int) < (LL.length : Int)) = true := decide_eq_true (by omega)
        have d2 : decide ((i : Int) < 1) = true := decide_eq_true (by omega)
        have hw1 : IntKind.i64.wrap ((i : Int) + 1) = (i : Int) + 1 := IntWalk.i64_in _ (by omega)
        have x0 := hI.out.box.cell (j := 0) rfl
        have x1 := hI.out.box.cell (j := 1) rfl
        have hba : Below wr.heap.size wr (wr.alloc (.cells #[.int .i64 1, .int .i64 0] 73)) := (Below.refl _ _).alloc (Nat.le_refl _) _
        have hown := Lib.hid (own_below hI.out.own hba)
        have hnews : ∀ q y, [Value.int .i64 1, .int .i64 0][q]? = some y → (wr.alloc (.cells #[.int .i64 1, .int .i64 0] 73)).cell? ((⟨wr.heap.size, 0, none⟩ : Addr).add q) = some y := fun q y hy => cells_new wr [.int .i64 1, .int .i64 0] 73 q y hy
        have hsz : Hid (w.heap.size ≤ wr.heap.size) := hI.out.below.size
        have hkl : KL.length ≤ 20 := by have := hlen5.out; omega
        generalize hkn : KL.length = kn at *
        replace hkn := Lib.hid hkn
        generalize hii : kn + i = ki at *
        have hki : ki ≤ 25 := by omega
        replace hii := Lib.hid hii
        clear hba
        go_wp2_with (at_builtin; refine wpList_append_blk rfl _ _ 55 rfl w.heap.size 73 i0 (.agg #[.int .i64 0, .int .i64 0]) 2 16 Tryz.underlying55 hi_.out hz0 hz1 hz2 rfl (by decide) _ ki _ rfl hown.out ⟨wr.heap.size, 0, none⟩ 1 1 [.int .i64 1, .int .i64 0] rfl rfl hnews (by simp [Value.oneCell']) ?qa ?qb ?qc ?_)
        case qa => unfold maxLen; omega
        case qb => omega
        case qc => have := hsz.out; (try simp only [World.size_alloc]); omega
        intro v' wn hown4 hgrow hblk
        have hI2 := Lib.hid (hI.out.snoc (by rw [hkn.out, hii.out]; exact hown4) hgrow hblk)
        clear hown hown4 hgrow hblk hnews x0 x1
        go_wp2_with fail
        exact ⟨⟨i + 1, by omega, rfl, hI2⟩, by simp [intOf]; omega⟩
       ·
        obtain rfl : i = mm := by omega
        have hend : Hid (wr.ownsRow w.heap.size 73 2 u10 (outK l (0 + 1)).length (stL (outK l (0 + 1))) ∧ Below w.heap.size w wr ∧ Arr wr w2.heap.size 3 [.int .i64 1, .int .i64 2, .int .i64 3, .int .i64 4, .int .i64 5]) := ⟨by rw [hfin.out.1, hfin.out.2]; exact hI.out.own, hI.out.below, hI.out.ints⟩
        by_cases h1 : i < LL.length
        ·
         have d1 : decide ((i : Int) < (LL.length : Int)) = true := decide_eq_true (by omega)
         have d2 : decide ((i : Int) < 1) = false := decide_eq_false (by omega)
         go_wp2_with fail
         exact ⟨⟨0 + 1, by omega, rfl, hend⟩, by simp [intOf]⟩
        ·
         have d1 : decide ((i : Int) < (LL.length : Int)) = false := decide_eq_false (by omega)
         go_wp2_with fail
         exact ⟨⟨0 + 1, by omega, rfl, hend⟩, by simp [intOf]⟩
     ·
      have c0 := hA.cell (j := 1) rfl
      have hd1 : decide (((1 : Nat) : Int) < 5) = true := by decide
      change Hid (Calls Tryz.prog 105 #[_, .int .i64 2] wo _) at hcn1
      replace hA := Lib.hid hA
      go_wp2_with fail
      refine hcn1.out.mono ?_
      clear hcn1
      rintro e w4 ⟨rfl, hb4⟩
      have hA4 := Lib.hid (hA.out.below hb4)
      have hown4 := Lib.hid (own_below hown.out hb4)
      have hbw4 := Lib.hid (hbo.out.trans (hb4.mono hbo.out.size))
      have hob4 : Hid (u10.ownBlock ≠ some w4.heap.size) := hob.out _ hb4.size
      have hbl4 : Hid (w.heap.size ≤ w4.heap.size) := hbw4.out.size
      clear hA hown hb4 hob c0 hbo
      generalize hhi : highR LL = hi at *
      generalize hlo : lowR LL = lo at *
      replace hhi := Lib.hid hhi
      replace hlo := Lib.hid hlo
      obtain ⟨w5, hw⟩ : ∃ w5, w5 = w4.alloc (.cells #[.int .i64 2, .int .i64 0] 73) := ⟨_, rfl⟩
      have hX : Hid (Arr w5 w4.heap.size 73 [.int .i64 2, .int .i64 0]) := by rw [hw]; exact Arr.new rfl rfl
      have hb5 : Below w4.heap.size w4 w5 := by rw [hw]; exact (Below.refl _ _).alloc (Nat.le_refl _) _
      have hA5 := Lib.hid (hA4.out.below hb5)
      have hown5 := Lib.hid (own_below hown4.out hb5)
      have hbw5 := Lib.hid (hbw4.out.trans (hb5.mono hbw4.out.size))
      clear hA4 hown4 hbw4 hb5
      go_upto_region 14 with fail
      rw [← hw]
      clear hw
      have hin : Hid (NInner w w2 w4.heap.size u10 KL 0 ⟨2, 0⟩ w5) := ⟨by simpa using hown5.out, hX.out, hob4.out, hbw5.out, hA5.out⟩
      clear hX hA5 hown5 hbw5
      have hfin : Hid (stL (outK l (1 + 1)) = stL (KL ++ List.replicate (min LL.length 1) ⟨2, 0⟩) ∧ (outK l (1 + 1)).length = KL.length + min LL.length 1) := by
       rw [hsucc.out]
       have hv1 : valK (((1 : Nat) : Int) + 1) LL = 0 := by rfl
       have hm1 : mostK (((1 : Nat) : Int) + 1) = 1 := rfl
       rw [hv1, hm1]
       refine ⟨rfl, by rw [List.length_append, List.length_replicate]⟩
      clear hsucc
      generalize hmm : min LL.length 1 = mm at *
      have hm1 : mm ≤ LL.length := by omega
      have hm2 : mm ≤ 1 := by omega
      go_wp2_with fail
      go_loopw [10, 18] (fun ov iv wr => ∃ i : Nat, i ≤ mm ∧ iv = .int .i64 (i : Int) ∧ Hid (NInner w w2 w4.heap.size ov KL i ⟨2, 0⟩ wr)) (fun _ iv _ => mm - (intOf iv).toNat)
      case atStart => exact ⟨0, Nat.zero_le _, rfl, hin⟩
      case round =>
       obtain ⟨i, him, rfl, hI⟩ := hrel
       clear hin
       by_cases hlt : i < mm
       ·
        have d1 : decide ((i : Int) < (LL.length : Int)) = true := decide_eq_true (by omega)
        have d2 : decide ((i : Int) < 1) = true := decide_eq_true (by omega)
        have hw1 : IntKind.i64.wrap ((i : Int) + 1) = (i : Int) + 1 := IntWalk.i64_in _ (by omega)
        have x0 := hI.out.box.cell (j := 0) rfl
        have x1 := hI.out.box.cell (j := 1) rfl
        have hba : Below wr.heap.size wr (wr.alloc (.cells #[.int .i64 2, .int .i64 0] 73)) := (Below.refl _ _).alloc (Nat.le_refl _) _
        have hown := Lib.hid (own_below hI.out.own hba)
        have hnews : ∀ q y, [Value.int .i64 2, .int .i64 0][q]? = some y → (wr.alloc (.cells #[.int .i64 2, .int .i64 0] 73)).cell? ((⟨wr.heap.size, 0, none⟩ : Addr).add q) = some y := fun q y hy => cells_new wr [.int .i64 2, .int .i64 0] 73 q y hy
        have hsz : Hid (w.heap.size ≤ wr.heap.size) := hI.out.below.size
        have hkl : KL.length ≤ 20 := by have := hlen5.out; omega
        generalize hkn : KL.length = kn at *
        replace hkn := Lib.hid hkn
        generalize hii : kn + i = ki at *
        have hki : ki ≤ 25 := by omega
        replace hii := Lib.hid hii
        clear hba
        go_wp2_with (at_builtin; refine wpList_append_blk rfl _ _ 55 rfl w.heap.size 73 i0 (.agg #[.int .i64 0, .int .i64 0]) 2 16 Tryz.underlying55 hi_.out hz0 hz1 hz2 rfl (by decide) _ ki _ rfl hown.out ⟨wr.heap.size, 0, none⟩ 1 1 [.int .i64 2, .int .i64 0] rfl rfl hnews (by simp [Value.oneCell']) ?qa ?qb ?qc ?_)
        case qa => unfold maxLen; omega
        case qb => omega
        case qc => have := hsz.out; (try simp only [World.size_alloc]); omega
        intro v' wn hown4 hgrow hblk
        have hI2 := Lib.hid (hI.out.snoc (by rw [hkn.out, hii.out]; exact hown4) hgrow hblk)
        clear hown hown4 hgrow hblk hnews x0 x1
        go_wp2_with fail
        exact ⟨⟨i + 1, by omega, rfl, hI2⟩, by simp [intOf]; omega⟩
       ·
        obtain rfl : i = mm := by omega
        have hend : Hid (wr.ownsRow w.heap.size 73 2 u10 (outK l (1 + 1)).length (stL (outK l (1 + 1))) ∧ Below w.heap.size w wr ∧ Arr wr w2.heap.size 3 [.int .i64 1, .int .i64 2, .int .i64 3, .int .i64 4, .int .i64 5]) := ⟨by rw [hfin.out.1, hfin.out.2]; exact hI.out.own, hI.out.below, hI.out.ints⟩
        by_cases h1 : i < LL.length
        ·
         have d1 : decide ((i : Int) < (LL.length : Int)) = true := decide_eq_true (by omega)
         have d2 : decide ((i : Int) < 1) = false := decide_eq_false (by omega)
         go_wp2_with fail
         exact ⟨⟨1 + 1, by omega, rfl, hend⟩, by simp [intOf]⟩
        ·
         have d1 : decide ((i : Int) < (LL.length : Int)) = false := decide_eq_false (by omega)
         go_wp2_with fail
         exact ⟨⟨1 + 1, by omega, rfl, hend⟩, by simp [intOf]⟩
     ·
      have c0 := hA.cell (j := 2) rfl
      have hd1 : decide (((2 : Nat) : Int) < 5) = true := by decide
      change Hid (Calls Tryz.prog 105 #[_, .int .i64 3] wo _) at hcn1
      replace hA := Lib.hid hA
      go_wp2_with fail
      refine hcn1.out.mono ?_
      clear hcn1
      rintro e w4 ⟨rfl, hb4⟩
      have hA4 := Lib.hid (hA.out.below hb4)
      have hown4 := Lib.hid (own_below hown.out hb4)
      have hbw4 := Lib.hid (hbo.out.trans (hb4.mono hbo.out.size))
      have hob4 : Hid (u10.ownBlock ≠ some w4.heap.size) := hob.out _ hb4.size
      have hbl4 : Hid (w.heap.size ≤ w4.heap.size) := hbw4.out.size
      clear hA hown hb4 hob c0 hbo
      generalize hhi : highR LL = hi at *
      generalize hlo : lowR LL = lo at *
      replace hhi := Lib.hid hhi
      replace hlo := Lib.hid hlo
      obtain ⟨w5, hw⟩ : ∃ w5, w5 = w4.alloc (.cells #[.int .i64 3, .int .i64 0] 73) := ⟨_, rfl⟩
      have hX : Hid (Arr w5 w4.heap.size 73 [.int .i64 3, .int .i64 0]) := by rw [hw]; exact Arr.new rfl rfl
      have hb5 : Below w4.heap.size w4 w5 := by rw [hw]; exact (Below.refl _ _).alloc (Nat.le_refl _) _
      have hA5 := Lib.hid (hA4.out.below hb5)
      have hown5 := Lib.hid (own_below hown4.out hb5)
      have hbw5 := Lib.hid (hbw4.out.trans (hb5.mono hbw4.out.size))
      clear hA4 hown4 hbw4 hb5
      go_upto_region 14 with fail
      rw [← hw]
      clear hw
      have x1 := hX.out.cell (j := 1) rfl
      have f1 := hX.out.free 1
      have hX6 : Hid (Arr (w5.setCell ⟨w4.heap.size, 1, none⟩ (.int .i64 hi)) w4.heap.size 73 [.int .i64 3, .int .i64 hi]) := hX.out.set 1 _
      have hA6 : Hid (Arr (w5.setCell ⟨w4.heap.size, 1, none⟩ (.int .i64 hi)) w2.heap.size 3 [.int .i64 1, .int .i64 2, .int .i64 3, .int .i64 4, .int .i64 5]) := hA5.out.other _ (fun e => by
       have h1 := hA5.out
       have h2 := hX.out
       unfold Arr at h1 h2
       rw [e, h1] at h2
       injection h2 with h2
       injection h2 with _ h2
       exact absurd h2 (by decide))
      have hown6 : Hid ((w5.setCell ⟨w4.heap.size, 1, none⟩ (.int .i64 hi)).ownsRow w.heap.size 73 2 u10 KL.length (stL KL)) := ownsRow_setCell_other hown5.out hob4.out _
      have hbw6 : Hid (Below w.heap.size w (w5.setCell ⟨w4.heap.size, 1, none⟩ (.int .i64 hi))) := hbw5.out.setCell (p := ⟨w4.heap.size, 1, none⟩) (show w.heap.size ≤ w4.heap.size by have := hX.out.lt; have := hbw5.out.size; have := hbl4.out; omega) _
      clear hX hA5 hown5 hbw5
      go_upto_region 21 with fail
      clear x1 f1
      generalize w5.setCell ⟨w4.heap.size, 1, none⟩ (.int .i64 hi) = w6 at *
      have hin : Hid (NInner w w2 w4.heap.size u10 KL 0 ⟨3, hi⟩ w6) := ⟨by simpa using hown6.out, hX6.out, hob4.out, hbw6.out, hA6.out⟩
      clear hX6 hA6 hown6 hbw6
      have hfin : Hid (stL (outK l (2 + 1)) = stL (KL ++ List.replicate (min LL.length 1) ⟨3, hi⟩) ∧ (outK l (2 + 1)).length = KL.length + min LL.length 1) := by
       rw [hsucc.out]
       have hv1 : valK (((2 : Nat) : Int) + 1) LL = hi := by rw [← hhi.out]; rfl
       have hm1 : mostK (((2 : Nat) : Int) + 1) = 1 := rfl
       rw [hv1, hm1]
       refine ⟨rfl, by rw [List.length_append, List.length_replicate]⟩
      clear hsucc
      generalize hmm : min LL.length 1 = mm at *
      have hm1 : mm ≤ LL.length := by omega
      have hm2 : mm ≤ 1 := by omega
      go_wp2_with fail
      go_loopw [10, 18] (fun ov iv wr => ∃ i : Nat, i ≤ mm ∧ iv = .int .i64 (i : Int) ∧ Hid (NInner w w2 w4.heap.size ov KL i ⟨3, hi⟩ wr)) (fun _ iv _ => mm - (intOf iv).toNat)
      case atStart => exact ⟨0, Nat.zero_le _, rfl, hin⟩
      case round =>
       obtain ⟨i, him, rfl, hI⟩ := hrel
       clear hin
       by_cases hlt : i < mm
       ·
        have d1 : decide ((i : Int) < (LL.length : Int)) = true := decide_eq_true (by omega)
        have d2 : decide ((i : Int) < 1) = true := decide_eq_true (by omega)
        have hw1 : IntKind.i64.wrap ((i : Int) + 1) = (i : Int) + 1 := IntWalk.i64_in _ (by omega)
        have x0 := hI.out.box.cell (j := 0) rfl
        have x1 := hI.out.box.cell (j := 1) rfl
        have hba : Below wr.heap.size wr (wr.alloc (.cells #[.int .i64 3, .int .i64 hi] 73)) := (Below.refl _ _).alloc (Nat.le_refl _) _
        have hown := Lib.hid (own_below hI.out.own hba)
        have hnews : ∀ q y, [Value.int .i64 3, .int .i64 hi][q]? = some y → (wr.alloc (.cells #[.int .i64 3, .int .i64 hi] 73)).cell? ((⟨wr.heap.size, 0, none⟩ : Addr).add q) = some y := fun q y hy => cells_new wr [.int .i64 3, .int .i64 hi] 73 q y hy
        have hsz : Hid (w.heap.size ≤ wr.heap.size) := hI.out.below.size
        have hkl : KL.length ≤ 20 := by have := hlen5.out; omega
        generalize hkn : KL.length = kn at *
        replace hkn := Lib.hid hkn
        generalize hii : kn + i = ki at *
        have hki : ki ≤ 25 := by omega
        replace hii := Lib.hid hii
        clear hba
        go_wp2_with (at_builtin; refine wpList_append_blk rfl _ _ 55 rfl w.heap.size 73 i0 (.agg #[.int .i64 0, .int .i64 0]) 2 16 Tryz.underlying55 hi_.out hz0 hz1 hz2 rfl (by decide) _ ki _ rfl hown.out ⟨wr.heap.size, 0, none⟩ 1 1 [.int .i64 3, .int .i64 hi] rfl rfl hnews (by simp [Value.oneCell']) ?qa ?qb ?qc ?_)
        case qa => unfold maxLen; omega
        case qb => omega
        case qc => have := hsz.out; (try simp only [World.size_alloc]); omega
        intro v' wn hown4 hgrow hblk
        have hI2 := Lib.hid (hI.out.snoc (by rw [hkn.out, hii.out]; exact hown4) hgrow hblk)
        clear hown hown4 hgrow hblk hnews x0 x1
        go_wp2_with fail
        exact ⟨⟨i + 1, by omega, rfl, hI2⟩, by simp [intOf]; omega⟩
       ·
        obtain rfl : i = mm := by omega
        have hend : Hid (wr.ownsRow w.heap.size 73 2 u10 (outK l (2 + 1)).length (stL (outK l (2 + 1))) ∧ Below w.heap.size w wr ∧ Arr wr w2.heap.size 3 [.int .i64 1, .int .i64 2, .int .i64 3, .int .i64 4, .int .i64 5]) := ⟨by rw [hfin.out.1, hfin.out.2]; exact hI.out.own, hI.out.below, hI.out.ints⟩
        by_cases h1 : i < LL.length
        ·
         have d1 : decide ((i : Int) < (LL.length : Int)) = true := decide_eq_true (by omega)
         have d2 : decide ((i : Int) < 1) = false := decide_eq_false (by omega)
         go_wp2_with fail
         exact ⟨⟨2 + 1, by omega, rfl, hend⟩, by simp [intOf]⟩
        ·
         have d1 : decide ((i : Int) < (LL.length : Int)) = false := decide_eq_false (by omega)
         go_wp2_with fail
         exact ⟨⟨2 + 1, by omega, rfl, hend⟩, by simp [intOf]⟩
     ·
      have c0 := hA.cell (j := 3) rfl
      have hd1 : decide (((3 : Nat) : Int) < 5) = true := by decide
      change Hid (Calls Tryz.prog 105 #[_, .int .i64 4] wo _) at hcn1
      replace hA := Lib.hid hA
      go_wp2_with fail
      refine hcn1.out.mono ?_
      clear hcn1
      rintro e w4 ⟨rfl, hb4⟩
      have hA4 := Lib.hid (hA.out.below hb4)
      have hown4 := Lib.hid (own_below hown.out hb4)
      have hbw4 := Lib.hid (hbo.out.trans (hb4.mono hbo.out.size))
      have hob4 : Hid (u10.ownBlock ≠ some w4.heap.size) := hob.out _ hb4.size
      have hbl4 : Hid (w.heap.size ≤ w4.heap.size) := hbw4.out.size
      clear hA hown hb4 hob c0 hbo
      generalize hhi : highR LL = hi at *
      generalize hlo : lowR LL = lo at *
      replace hhi := Lib.hid hhi
      replace hlo := Lib.hid hlo
      obtain ⟨w5, hw⟩ : ∃ w5, w5 = w4.alloc (.cells #[.int .i64 4, .int .i64 0] 73) := ⟨_, rfl⟩
      have hX : Hid (Arr w5 w4.heap.size 73 [.int .i64 4, .int .i64 0]) := by rw [hw]; exact Arr.new rfl rfl
      have hb5 : Below w4.heap.size w4 w5 := by rw [hw]; exact (Below.refl _ _).alloc (Nat.le_refl _) _
      have hA5 := Lib.hid (hA4.out.below hb5)
      have hown5 := Lib.hid (own_below hown4.out hb5)
      have hbw5 := Lib.hid (hbw4.out.trans (hb5.mono hbw4.out.size))
      clear hA4 hown4 hbw4 hb5
      go_upto_region 14 with fail
      rw [← hw]
      clear hw
      have x1 := hX.out.cell (j := 1) rfl
      have f1 := hX.out.free 1
      have hX6 : Hid (Arr (w5.setCell ⟨w4.heap.size, 1, none⟩ (.int .i64 lo)) w4.heap.size 73 [.int .i64 4, .int .i64 lo]) := hX.out.set 1 _
      have hA6 : Hid (Arr (w5.setCell ⟨w4.heap.size, 1, none⟩ (.int .i64 lo)) w2.heap.size 3 [.int .i64 1, .int .i64 2, .int .i64 3, .int .i64 4, .int .i64 5]) := hA5.out.other _ (fun e => by
       have h1 := hA5.out
       have h2 := hX.out
       unfold Arr at h1 h2
       rw [e, h1] at h2
       injection h2 with h2
       injection h2 with _ h2
       exact absurd h2 (by decide))
      have hown6 : Hid ((w5.setCell ⟨w4.heap.size, 1, none⟩ (.int .i64 lo)).ownsRow w.heap.size 73 2 u10 KL.length (stL KL)) := ownsRow_setCell_other hown5.out hob4.out _
      have hbw6 : Hid (Below w.heap.size w (w5.setCell ⟨w4.heap.size, 1, none⟩ (.int .i64 lo))) := hbw5.out.setCell (p := ⟨w4.heap.size, 1, none⟩) (show w.heap.size ≤ w4.heap.size by have := hX.out.lt; have := hbw5.out.size; have := hbl4.out; omega) _
      clear hX hA5 hown5 hbw5
      go_upto_region 21 with fail
      clear x1 f1
      generalize w5.setCell ⟨w4.heap.size, 1, none⟩ (.int .i64 lo) = w6 at *
      have hin : Hid (NInner w w2 w4.heap.size u10 KL 0 ⟨4, lo⟩ w6) := ⟨by simpa using hown6.out, hX6.out, hob4.out, hbw6.out, hA6.out⟩
      clear hX6 hA6 hown6 hbw6
      have hfin : Hid (stL (outK l (3 + 1)) = stL (KL ++ List.replicate (min LL.length 1) ⟨4, lo⟩) ∧ (outK l (3 + 1)).length = KL.length + min LL.length 1) := by
       rw [hsucc.out]
       have hv1 : valK (((3 : Nat) : Int) + 1) LL = lo := by rw [← hlo.out]; rfl
       have hm1 : mostK (((3 : Nat) : Int) + 1) = 1 := rfl
       rw [hv1, hm1]
       refine ⟨rfl, by rw [List.length_append, List.length_replicate]⟩
      clear hsucc
      generalize hmm : min LL.length 1 = mm at *
      have hm1 : mm ≤ LL.length := by omega
      have hm2 : mm ≤ 1 := by omega
      go_wp2_with fail
      go_loopw [10, 18] (fun ov iv wr => ∃ i : Nat, i ≤ mm ∧ iv = .int .i64 (i : Int) ∧ Hid (NInner w w2 w4.heap.size ov KL i ⟨4, lo⟩ wr)) (fun _ iv _ => mm - (intOf iv).toNat)
      case atStart => exact ⟨0, Nat.zero_le _, rfl, hin⟩
      case round =>
       obtain ⟨i, him, rfl, hI⟩ := hrel
       clear hin
       by_cases hlt : i < mm
       ·
        have d1 : decide ((i : Int) < (LL.length : Int)) = true := decide_eq_true (by omega)
        have d2 : decide ((i : Int) < 1) = true := decide_eq_true (by omega)
        have hw1 : IntKind.i64.wrap ((i : Int) + 1) = (i : Int) + 1 := IntWalk.i64_in _ (by omega)
        have x0 := hI.out.box.cell (j := 0) rfl
        have x1 := hI.out.box.cell (j := 1) rfl
        have hba : Below wr.heap.size wr (wr.alloc (.cells #[.int .i64 4, .int .i64 lo] 73)) := (Below.refl _ _).alloc (Nat.le_refl _) _
        have hown := Lib.hid (own_below hI.out.own hba)
        have hnews : ∀ q y, [Value.int .i64 4, .int .i64 lo][q]? = some y → (wr.alloc (.cells #[.int .i64 4, .int .i64 lo] 73)).cell? ((⟨wr.heap.size, 0, none⟩ : Addr).add q) = some y := fun q y hy => cells_new wr [.int .i64 4, .int .i64 lo] 73 q y hy
        have hsz : Hid (w.heap.size ≤ wr.heap.size) := hI.out.below.size
        have hkl : KL.length ≤ 20 := by have := hlen5.out; omega
        generalize hkn : KL.length = kn at *
        replace hkn := Lib.hid hkn
        generalize hii : kn + i = ki at *
        have hki : ki ≤ 25 := by omega
        replace hii := Lib.hid hii
        clear hba
        go_wp2_with (at_builtin; refine wpList_append_blk rfl _ _ 55 rfl w.heap.size 73 i0 (.agg #[.int .i64 0, .int .i64 0]) 2 16 Tryz.underlying55 hi_.out hz0 hz1 hz2 rfl (by decide) _ ki _ rfl hown.out ⟨wr.heap.size, 0, none⟩ 1 1 [.int .i64 4, .int .i64 lo] rfl rfl hnews (by simp [Value.oneCell']) ?qa ?qb ?qc ?_)
        case qa => unfold maxLen; omega
        case qb => omega
        case qc => have := hsz.out; (try simp only [World.size_alloc]); omega
        intro v' wn hown4 hgrow hblk
        have hI2 := Lib.hid (hI.out.snoc (by rw [hkn.out, hii.out]; exact hown4) hgrow hblk)
        clear hown hown4 hgrow hblk hnews x0 x1
        go_wp2_with fail
        exact ⟨⟨i + 1, by omega, rfl, hI2⟩, by simp [intOf]; omega⟩
       ·
        obtain rfl : i = mm := by omega
        have hend : Hid (wr.ownsRow w.heap.size 73 2 u10 (outK l (3 + 1)).length (stL (outK l (3 + 1))) ∧ Below w.heap.size w wr ∧ Arr wr w2.heap.size 3 [.int .i64 1, .int .i64 2, .int .i64 3, .int .i64 4, .int .i64 5]) := ⟨by rw [hfin.out.1, hfin.out.2]; exact hI.out.own, hI.out.below, hI.out.ints⟩
        by_cases h1 : i < LL.length
        ·
         have d1 : decide ((i : Int) < (LL.length : Int)) = true := decide_eq_true (by omega)
         have d2 : decide ((i : Int) < 1) = false := decide_eq_false (by omega)
         go_wp2_with fail
         exact ⟨⟨3 + 1, by omega, rfl, hend⟩, by simp [intOf]⟩
        ·
         have d1 : decide ((i : Int) < (LL.length : Int)) = false := decide_eq_false (by omega)
         go_wp2_with fail
         exact ⟨⟨3 + 1, by omega, rfl, hend⟩, by simp [intOf]⟩
     ·
      have c0 := hA.cell (j := 4) rfl
      have hd1 : decide (((4 : Nat) : Int) < 5) = true := by decide
      change Hid (Calls Tryz.prog 105 #[_, .int .i64 5] wo _) at hcn1
      replace hA := Lib.hid hA
      go_wp2_with fail
      refine hcn1.out.mono ?_
      clear hcn1
      rintro e w4 ⟨rfl, hb4⟩
      have hA4 := Lib.hid (hA.out.below hb4)
      have hown4 := Lib.hid (own_below hown.out hb4)
      have hbw4 := Lib.hid (hbo.out.trans (hb4.mono hbo.out.size))
      have hob4 : Hid (u10.ownBlock ≠ some w4.heap.size) := hob.out _ hb4.size
      clear hA hown hb4 hob c0 hbo
      generalize hhi : highR LL = hi at *
      generalize hlo : lowR LL = lo at *
      replace hhi := Lib.hid hhi
      replace hlo := Lib.hid hlo
      obtain ⟨w5, hw⟩ : ∃ w5, w5 = w4.alloc (.cells #[.int .i64 5, .int .i64 0] 73) := ⟨_, rfl⟩
      have hX : Hid (Arr w5 w4.heap.size 73 [.int .i64 5, .int .i64 0]) := by rw [hw]; exact Arr.new rfl rfl
      have hb5 : Below w4.heap.size w4 w5 := by rw [hw]; exact (Below.refl _ _).alloc (Nat.le_refl _) _
      have hA5 := Lib.hid (hA4.out.below hb5)
      have hown5 := Lib.hid (own_below hown4.out hb5)
      have hbw5 := Lib.hid (hbw4.out.trans (hb5.mono hbw4.out.size))
      clear hA4 hown4 hbw4 hb5
      go_upto_region 14 with fail
      rw [← hw]
      clear hw
      have hin : Hid (NInner w w2 w4.heap.size u10 KL 0 ⟨5, 0⟩ w5) := ⟨by simpa using hown5.out, hX.out, hob4.out, hbw5.out, hA5.out⟩
      clear hX hA5 hown5 hbw5
      have hfin : Hid (stL (outK l (4 + 1)) = stL (KL ++ List.replicate (min LL.length 5) ⟨5, 0⟩) ∧ (outK l (4 + 1)).length = KL.length + min LL.length 5) := by
       rw [hsucc.out]
       have hv1 : valK (((4 : Nat) : Int) + 1) LL = 0 := by rfl
       have hm1 : mostK (((4 : Nat) : Int) + 1) = 5 := rfl
       rw [hv1, hm1]
       refine ⟨rfl, by rw [List.length_append, List.length_replicate]⟩
      clear hsucc
      generalize hmm : min LL.length 5 = mm at *
      have hm1 : mm ≤ LL.length := by omega
      have hm2 : mm ≤ 5 := by omega
      go_wp2_with fail
      go_loopw [10, 18] (fun ov iv wr => ∃ i : Nat, i ≤ mm ∧ iv = .int .i64 (i : Int) ∧ Hid (NInner w w2 w4.heap.size ov KL i ⟨5, 0⟩ wr)) (fun _ iv _ => mm - (intOf iv).toNat)
      case atStart => exact ⟨0, Nat.zero_le _, rfl, hin⟩
      case round =>
       obtain ⟨i, him, rfl, hI⟩ := hrel
       clear hin
       by_cases hlt : i < mm
       ·
        have d1 : decide ((i : Int) < (LL.length : Int)) = true := decide_eq_true (by omega)
        have d2 : decide ((i : Int) < 5) = true := decide_eq_true (by omega)
        have hw1 : IntKind.i64.wrap ((i : Int) + 1) = (i : Int) + 1 := IntWalk.i64_in _ (by omega)
        have x0 := hI.out.box.cell (j := 0) rfl
        have x1 := hI.out.box.cell (j := 1) rfl
        have hba : Below wr.heap.size wr (wr.alloc (.cells #[.int .i64 5, .int .i64 0] 73)) := (Below.refl _ _).alloc (Nat.le_refl _) _
        have hown := Lib.hid (own_below hI.out.own hba)
        have hnews : ∀ q y, [Value.int .i64 5, .int .i64 0][q]? = some y → (wr.alloc (.cells #[.int .i64 5, .int .i64 0] 73)).cell? ((⟨wr.heap.size, 0, none⟩ : Addr).add q) = some y := fun q y hy => cells_new wr [.int .i64 5, .int .i64 0] 73 q y hy
        have hsz : Hid (w.heap.size ≤ wr.heap.size) := hI.out.below.size
        have hkl : KL.length ≤ 20 := by have := hlen5.out; omega
        generalize hkn : KL.length = kn at *
        replace hkn := Lib.hid hkn
        generalize hii : kn + i = ki at *
        have hki : ki ≤ 25 := by omega
        replace hii := Lib.hid hii
        clear hba
        go_wp2_with (at_builtin; refine wpList_append_blk rfl _ _ 55 rfl w.heap.size 73 i0 (.agg #[.int .i64 0, .int .i64 0]) 2 16 Tryz.underlying55 hi_.out hz0 hz1 hz2 rfl (by decide) _ ki _ rfl hown.out ⟨wr.heap.size, 0, none⟩ 1 1 [.int .i64 5, .int .i64 0] rfl rfl hnews (by simp [Value.oneCell']) ?qa ?qb ?qc ?_)
        case qa => unfold maxLen; omega
        case qb => omega
        case qc => have := hsz.out; (try simp only [World.size_alloc]); omega
        intro v' wn hown4 hgrow hblk
        have hI2 := Lib.hid (hI.out.snoc (by rw [hkn.out, hii.out]; exact hown4) hgrow hblk)
        clear hown hown4 hgrow hblk hnews x0 x1
        go_wp2_with fail
        exact ⟨⟨i + 1, by omega, rfl, hI2⟩, by simp [intOf]; omega⟩
       ·
        obtain rfl : i = mm := by omega
        have hend : Hid (wr.ownsRow w.heap.size 73 2 u10 (outK l (4 + 1)).length (stL (outK l (4 + 1))) ∧ Below w.heap.size w wr ∧ Arr wr w2.heap.size 3 [.int .i64 1, .int .i64 2, .int .i64 3, .int .i64 4, .int .i64 5]) := ⟨by rw [hfin.out.1, hfin.out.2]; exact hI.out.own, hI.out.below, hI.out.ints⟩
        by_cases h1 : i < LL.length
        ·
         have d1 : decide ((i : Int) < (LL.length : Int)) = true := decide_eq_true (by omega)
         have d2 : decide ((i : Int) < 5) = false := decide_eq_false (by omega)
         go_wp2_with fail
         exact ⟨⟨4 + 1, by omega, rfl, hend⟩, by simp [intOf]⟩
        ·
         have d1 : decide ((i : Int) < (LL.length : Int)) = false := decide_eq_false (by omega)
         go_wp2_with fail
         exact ⟨⟨4 + 1, by omega, rfl, hend⟩, by simp [intOf]⟩
    ·
     obtain rfl : j = 5 := by omega
     obtain ⟨hown, hbo, hA⟩ := hall.out
     rw [hnor.out] at hown
     have hd1 : decide (((5 : Nat) : Int) < 5) = false := by decide
     have hres : Hid (StepsT wo u10 (normalA l)) := RowT.of_own hown
     replace hbo := Lib.hid hbo
     clear hall hown hA
     go_wp2_with fail
     go_ret2
     exact ⟨_, rfl, hres.out, hbo.out⟩
  ·
   have hpos : 0 < L6.length := List.length_pos_iff.2 h6
   have e1 : decide ((L6.length : Int) > 0) = true := decide_eq_true (by omega)
   have e2 : decide ((0 : Int) < (L6.length : Int)) = true := decide_eq_true (by omega)
   have e3 : decide (0 < L6.length) = true := decide_eq_true hpos
   have hn : normalA l = [⟨6, 0⟩] := by
    unfold normalA
    rw [if_pos (by rw [hL6.out]; exact h6)]
   replace hn := Lib.hid hn
   have hres : Hid (StepsT (w2.alloc (.cells #[.int .i64 6, .int .i64 0] 73)) (.slice (some ⟨w2.heap.size, 0, none⟩) 1 1) [⟨6, 0⟩]) := ⟨_, _, rfl, Nat.le_refl _, by unfold maxLen; omega, fun _ => ⟨w2.heap.size, 0, #[.int .i64 6, .int .i64 0], (0, 0), rfl, World.alloc_heap_new w2 _, fun j u hu => by rw [Nat.zero_add]; simpa [stL, stC] using hu⟩⟩
   have hb3 : Hid (Below w.heap.size w (w2.alloc (.cells #[.int .i64 6, .int .i64 0] 73))) := hb2.out.alloc hb2.out.size _
   replace h6 := Lib.hid h6
   clear hpos
   go_wp2_with fail
   go_ret2
   exact ⟨_, rfl, by rw [hn.out]; exact hres.out, hb3.out⟩
end Go.Proofs.YtpeandbcdaikbaaGreatDoor
