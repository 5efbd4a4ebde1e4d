/-
 Routes of chapter 11: abstraction.Normal, Compose.
 Routes of chapter 11: slices.Equal of steps; abstraction.Coarser.
-/
import Derived.Test.YtpeandbcdaikbaaGreatDoorYF
namespace Go.Proofs.YtpeandbcdaikbaaGreatDoor
open Go.RowKit Go.Shelf

attribute [local go_sem] Oper.semAt_some

theorem lists_one {w : World} {v : Value} {l : List Stp} (h : StepsAt w w.heap.size v l) : ListsAt (w.alloc (.cells #[v] 55)) (.slice (some ⟨w.heap.size, 0, none⟩) 1 1) [l] := by
 have hb : Below w.heap.size w (w.alloc (.cells #[v] 55)) := (Below.refl _ _).alloc (Nat.le_refl _) _
 refine ⟨[v], rfl, ⟨_, _, rfl, Nat.le_refl _, by unfold maxLen; simp, fun _ => ⟨w.heap.size, 0, rfl, by simp, fun j u hu => by rw [Nat.zero_add]; exact (Arr.new rfl rfl).cell hu⟩⟩, fun i hi => ?_⟩
 obtain rfl : i = 0 := by simp at hi; omega
 exact h.later hb
theorem lists_two {w : World} {v u : Value} {l m : List Stp} (h : StepsAt w w.heap.size v l) (h2 : StepsAt w w.heap.size u m) : ListsAt (w.alloc (.cells #[v, u] 55)) (.slice (some ⟨w.heap.size, 0, none⟩) 2 2) [l, m] := by
 have hb : Below w.heap.size w (w.alloc (.cells #[v, u] 55)) := (Below.refl _ _).alloc (Nat.le_refl _) _
 refine ⟨[v, u], rfl, ⟨_, _, rfl, Nat.le_refl _, by unfold maxLen; simp, fun _ => ⟨w.heap.size, 0, rfl, by simp, fun j x hx => by rw [Nat.zero_add]; exact (Arr.new rfl rfl).cell hx⟩⟩, fun i hi => ?_⟩
 obtain rfl | rfl : i = 0 ∨ i = 1 := by simp at hi; omega
 ·
  exact h.later hb
 ·
  exact h2.later hb
theorem kinds_fit {p : Int} {s : Stp} (h : fitsA p s = true) : 1 ≤ s.kind ∧ s.kind ≤ 6 := by
 refine Classical.byContradiction fun hc => ?_
 obtain ⟨k, n⟩ := s
 rw [fits_out p n k hc] at h
 cases h
theorem normal1_any (v : Value) (l : List Stp) (p : Int) (w : World) (hv : StepsAt w w.heap.size v l) (hl : validA p l = true) :
  Calls Tryz.prog 59 #[.slice (some ⟨w.heap.size, 0, none⟩) 1 1] (w.alloc (.cells #[v] 55)) fun e w' => ∃ v', e = .returned v' ∧ StepsT w' v' (normalA l) ∧ Below w.heap.size w w' := by
 have hp := valid_parts hl
 have h := normal_any _ [l] _ (lists_one hv) (by simp) (by simp; omega) (fun s hs => kinds_fit (hp.2.2 s (by simpa using hs)))
 refine h.mono fun e w' ⟨v', h1, h2, h3⟩ => ⟨v', h1, ?_, ((Below.refl _ w).alloc (Nat.le_refl _) _).trans (h3.mono (by simp))⟩
 rw [List.flatten_singleton] at h2
 exact RowT.of_own h2
theorem normal2_any (v u : Value) (l m : List Stp) (p : Int) (w : World) (hv : StepsAt w w.heap.size v l) (hu : StepsAt w w.heap.size u m) (hl : validA p l = true) (hm : validA p m = true) :
  Calls Tryz.prog 59 #[.slice (some ⟨w.heap.size, 0, none⟩) 2 2] (w.alloc (.cells #[v, u] 55)) fun e w' => ∃ v', e = .returned v' ∧ StepsT w' v' (normalA (l ++ m)) ∧ Below w.heap.size w w' := by
 have hp := valid_parts hl
 have hq := valid_parts hm
 have hfl : [l, m].flatten = l ++ m := by simp
 have h := normal_any _ [l, m] _ (lists_two hv hu) (by simp) (by rw [hfl, List.length_append]; omega) (fun s hs => by
  rw [hfl] at hs
  rcases List.mem_append.1 hs with hs | hs
  ·
   exact kinds_fit (hp.2.2 s hs)
  ·
   exact kinds_fit (hq.2.2 s hs))
 refine h.mono fun e w' ⟨v', h1, h2, h3⟩ => ⟨v', h1, ?_, ((Below.refl _ w).alloc (Nat.le_refl _) _).trans (h3.mono (by simp))⟩
 rw [hfl] at h2
 exact RowT.of_own h2
theorem StepsT.nil (w : World) (a : Option Addr) (c : Nat) (hc : c ≤ maxLen) : StepsT w (.slice a 0 c) [] := ⟨a, c, rfl, Nat.zero_le _, hc, fun h => absurd h (Nat.lt_irrefl 0)⟩
def errA (b : Bool) : Int := if b then 0 else 70
set_option maxRecDepth 100000 in
set_option maxHeartbeats 2000000 in
theorem NormalF_any (p : Int) (v : Value) (l : List Stp) (w : World) (hv : StepsAt w w.heap.size v l) :
  Calls Tryz.prog 32 #[.int .i64 p, v] w fun e w' => ∃ v', e = .returned (.tuple #[v', .int .i64 (errA (validA p l))]) ∧ StepsT w' v' (if validA p l then normalA l else []) ∧ Below w.heap.size w w' := by
 have hva := Lib.hid (validA_any p v l w hv)
 have hno := fun w1 (hb : Below w.heap.size w w1) (h : validA p l = true) => normal1_any v l p w1 (hv.later hb) h
 obtain ⟨a, c, rfl, _, _, _⟩ := hv
 cases hvl : validA p l with
 | false =>
  rw [hvl] at hva
  go_enter Tryz.func32, Tryz.ntmps32
  go_wp2_with fail
  refine hva.out.mono ?_
  rintro e w1 ⟨rfl, hb1⟩
  go_wp2_with fail
  go_ret2
  exact ⟨_, rfl, StepsT.nil _ _ _ (Nat.zero_le _), hb1⟩
 | true =>
  rw [hvl] at hva
  replace hno := Lib.hid fun w1 hb => hno w1 hb hvl
  go_enter Tryz.func32, Tryz.ntmps32
  go_wp2_with fail
  refine hva.out.mono ?_
  rintro e w1 ⟨rfl, hb1⟩
  go_wp2_with fail
  refine (hno.out w1 hb1).mono ?_
  rintro e w2 ⟨v', rfl, hs, hb2⟩
  go_wp2_with fail
  go_ret2
  exact ⟨_, rfl, hs, hb1.trans (hb2.mono hb1.size)⟩
set_option maxRecDepth 100000 in
set_option maxHeartbeats 2000000 in
theorem Compose_any (p : Int) (v u : Value) (l m : List Stp) (w : World) (hv : StepsAt w w.heap.size v l) (hu : StepsAt w w.heap.size u m) :
  Calls Tryz.prog 27 #[.int .i64 p, v, u] w fun e w' => ∃ v', e = .returned (.tuple #[v', .int .i64 (errA (validA p l && validA p m))]) ∧ StepsT w' v' (composeA p l m) ∧ Below w.heap.size w w' := by
 have hva := Lib.hid (validA_any p v l w hv)
 have hvb := Lib.hid fun w1 (hb : Below w.heap.size w w1) => validA_any p u m w1 (hu.later hb)
 have hno := fun w1 (hb : Below w.heap.size w w1) (h : validA p l = true) (h2 : validA p m = true) => normal2_any v u l m p w1 (hv.later hb) (hu.later hb) h h2
 unfold composeA
 obtain ⟨a, c, rfl, _, _, _⟩ := hv
 obtain ⟨a', c', rfl, _, _, _⟩ := hu
 cases hvl : validA p l with
 | false =>
  rw [hvl] at hva
  go_enter Tryz.func27, Tryz.ntmps27
  go_wp2_with fail
  refine hva.out.mono ?_
  rintro e w1 ⟨rfl, hb1⟩
  go_wp2_with fail
  go_ret2
  exact ⟨_, rfl, StepsT.nil _ _ _ (Nat.zero_le _), hb1⟩
 | true =>
  rw [hvl] at hva
  cases hvm : validA p m with
  | false =>
   rw [hvm] at hvb
   go_enter Tryz.func27, Tryz.ntmps27
   go_wp2_with fail
   refine hva.out.mono ?_
   rintro e w1 ⟨rfl, hb1⟩
   go_wp2_with fail
   refine (hvb.out w1 hb1).mono ?_
   rintro e w2 ⟨rfl, hb2⟩
   go_wp2_with fail
   go_ret2
   exact ⟨_, rfl, StepsT.nil _ _ _ (Nat.zero_le _), hb1.trans (hb2.mono hb1.size)⟩
  | true =>
   rw [hvm] at hvb
   replace hno := Lib.hid fun w1 hb => hno w1 hb hvl hvm
   go_enter Tryz.func27, Tryz.ntmps27
   go_wp2_with fail
   refine hva.out.mono ?_
   rintro e w1 ⟨rfl, hb1⟩
   go_wp2_with fail
   refine (hvb.out w1 hb1).mono ?_
   rintro e w2 ⟨rfl, hb2⟩
   have hb12 := hb1.trans (hb2.mono hb1.size)
   go_wp2_with fail
   refine (hno.out w2 hb12).mono ?_
   rintro e w3 ⟨v', rfl, hs, hb3⟩
   go_wp2_with fail
   go_ret2
   exact ⟨_, rfl, hs, hb12.trans (hb3.mono hb12.size)⟩
end Go.Proofs.YtpeandbcdaikbaaGreatDoor
namespace Go.Proofs.YtpeandbcdaikbaaGreatDoor
open Go.RowKit Go.Shelf

attribute [local go_sem] Oper.semAt_some

def stB (a b : Stp) : Bool := a.kind == b.kind && a.n == b.n
theorem stB_iff (a b : Stp) : stB a b = true ↔ a = b := by
 obtain ⟨a1, a2⟩ := a
 obtain ⟨b1, b2⟩ := b
 simp [stB]
theorem run_ne_st (a b : Stp) (w : World) : (binOp .neq 73 (.agg (stC a).toArray) (.agg (stC b).toArray)).run Tryz.prog w = .ok (.bool !(stB a b)) w := by
 obtain ⟨a1, a2⟩ := a
 obtain ⟨b1, b2⟩ := b
 unfold stB stC
 dsimp only
 by_cases h1 : a1 = b1
 ·
  by_cases h2 : a2 = b2
  ·
   subst h1 h2
   go_simp
  ·
   have h2' : (a2 == b2) = false := by simpa using h2
   subst h1
   go_simp
 ·
  have h1' : (a1 == b1) = false := by simpa using h1
  go_simp
theorem neqSt : NeqAt Tryz.prog 73 (fun x : Stp => .agg (stC x).toArray) stB := ⟨run_ne_st, GuardAt.agg (fun x : Stp => (stC x).toArray) (by kernel_rfl)⟩
set_option maxHeartbeats 1000000 in
theorem equalS_len (a a' : Option Addr) (n m c c' : Nat) (w : World) (h : ((n : Int) == (m : Int)) = false) :
  Calls Tryz.prog 84 #[.slice a n c, .slice a' m c'] w fun e w' => e = .returned (.bool false) ∧ Below w.heap.size w w' := by
 have h' : ((n : Int) != (m : Int)) = true := by simpa [bne] using h
 go_enter Tryz.func84, Tryz.ntmps84
 go_wp2
 go_ret
 exact ⟨rfl, Below.refl _ _⟩
set_option maxHeartbeats 1000000 in
theorem equalS_nil (a a' : Option Addr) (c c' : Nat) (w : World) :
  Calls Tryz.prog 84 #[.slice a 0 c, .slice a' 0 c'] w fun e w' => e = .returned (.bool true) ∧ Below w.heap.size w w' := by
 go_enter Tryz.func84, Tryz.ntmps84
 go_wp2
 go_loop [13] (fun i => i = .int .i64 0) (fun _ => 0)
 case atStart => rfl
 case round =>
  subst hrel
  go_wp2
  go_ret
  exact ⟨rfl, Below.refl _ w⟩
theorem allEq_st : ∀ (l m : List Stp), Lib.allEq stB l m = true ↔ l = m
 | [], [] => by simp [Lib.allEq]
 | [], _ :: _ => by simp [Lib.allEq]
 | _ :: _, [] => by simp [Lib.allEq]
 | x :: l, y :: m => by rw [Lib.allEq, Bool.and_eq_true, stB_iff, allEq_st l m, List.cons.injEq]
theorem allEq_dec (l m : List Stp) : Lib.allEq stB l m = decide (l = m) := by
 rw [Bool.eq_iff_iff, allEq_st, decide_eq_true_eq]
theorem equalS_any (v v' : Value) (l m : List Stp) (w : World) (B B' : Nat) (hv : StepsAt w B v l) (hv' : StepsAt w B' v' m) :
  Calls Tryz.prog 84 #[v, v'] w fun e w' => e = .returned (.bool (decide (l = m))) ∧ Below w.heap.size w w' := by
 obtain ⟨a, cap, rfl, h1, h2, hc⟩ := hv
 obtain ⟨a', cap', rfl, h1', h2', hc'⟩ := hv'
 unfold maxLen at h2 h2'
 by_cases hlm : l.length = m.length
 ·
  by_cases h0 : l.length = 0
  ·
   obtain rfl : l = [] := List.eq_nil_of_length_eq_zero h0
   obtain rfl : m = [] := List.eq_nil_of_length_eq_zero hlm.symm
   exact equalS_nil a a' cap cap' w
  ·
   obtain ⟨b, o, rfl, hb, hcell⟩ := hc (by omega)
   obtain ⟨b', o', rfl, hb', hcell'⟩ := hc' (by omega)
   have hh := AnyQ.slices_Equal Tryz.laysQ8 2 Tryz.isAgg73 Tryz.sizeOf73 stC (fun _ => rfl) stB neqSt b o l.length cap b' o' m.length cap' l m w (Nat.le_refl _) (Nat.le_refl _) (by omega) (by omega)
    (fun j hj i u hu => by
     have hi : i < 2 := (List.getElem?_eq_some_iff.1 hu).1
     have := hcell (j * 2 + i) u ((stL_at l j i hj hi).trans hu)
     rwa [← Nat.add_assoc] at this)
    (fun j hj i u hu => by
     have hi : i < 2 := (List.getElem?_eq_some_iff.1 hu).1
     have := hcell' (j * 2 + i) u ((stL_at m j i hj hi).trans hu)
     rwa [← Nat.add_assoc] at this)
   refine hh.mono ?_
   rintro e w' ⟨rfl, q, rfl⟩
   rw [List.take_length, List.take_length, allEq_dec]
   exact ⟨rfl, below_drewN (Below.refl _ _) q⟩
 ·
  have : decide (l = m) = false := decide_eq_false fun e => hlm (by rw [e])
  rw [this]
  exact equalS_len a a' l.length m.length cap cap' w (by simpa using fun e : (l.length : Int) = m.length => hlm (by omega))
set_option maxHeartbeats 1000000 in
theorem coarser1_any (v : Value) (l : List Stp) (w : World) (hv : StepsAt w w.heap.size v l) :
  Calls Tryz.prog 83 #[v] w fun e w' => e = .returned (.bool (lostA l)) ∧ Below w.heap.size w w' := by
 by_cases h1 : l.length = 1
 ·
  obtain ⟨b, o, cap, rfl, hb, x0, x1⟩ := StepsAt.cells hv (i := 0) (by omega)
  obtain ⟨s, rfl⟩ := List.length_eq_one_iff.1 h1
  rw [Nat.zero_mul, Nat.add_zero] at x0
  have hv : lostA [s] = (s.kind == 6) := rfl
  rw [hv]
  change w.cell? ⟨b, o, none⟩ = some (.int .i64 s.kind) at x0
  generalize s.kind = k at *
  clear x1 h1
  go_enter Tryz.func83, Tryz.ntmps83
  go_wp2
  go_ret
  exact ⟨rfl, by repeat first | exact Below.refl _ _ | refine Below.drew ?_ | refine below_drewN ?_ _⟩
 ·
  obtain ⟨a, c, rfl, _, _, _⟩ := hv
  have hv : lostA l = false := by unfold lostA; rw [decide_eq_false h1]; rfl
  have hd : ((l.length : Int) == 1) = false := by simpa using fun e : (l.length : Int) = 1 => h1 (by omega)
  rw [hv]
  clear h1 hv
  go_enter Tryz.func83, Tryz.ntmps83
  go_wp2
  go_ret
  exact ⟨rfl, by repeat first | exact Below.refl _ _ | refine Below.drew ?_ | refine below_drewN ?_ _⟩
set_option maxRecDepth 100000 in
set_option maxHeartbeats 4000000 in
theorem Coarser_any (p : Int) (v u : Value) (l m : List Stp) (w : World) (hv : StepsAt w w.heap.size v l) (hu : StepsAt w w.heap.size u m) :
  Calls Tryz.prog 54 #[.int .i64 p, v, u] w fun e w' => e = .returned (.bool (coarserA p l m)) ∧ Below w.heap.size w w' := by
 have hva := Lib.hid (validA_any p v l w hv)
 have hvb := Lib.hid fun w1 (hb : Below w.heap.size w w1) => validA_any p u m w1 (hu.later hb)
 have hnl := fun w1 (hb : Below w.heap.size w w1) (h : validA p l = true) => normal1_any v l p w1 (hv.later hb) h
 have hnm := fun w1 (hb : Below w.heap.size w w1) (h : validA p m = true) => normal1_any u m p w1 (hu.later hb) h
 have hno := fun w1 (hb : Below w.heap.size w w1) (h : validA p m = true) (h2 : validA p l = true) => normal2_any u v m l p w1 (hu.later hb) (hv.later hb) h h2
 obtain ⟨R, hR⟩ : ∃ R, R = coarserA p l m := ⟨_, rfl⟩
 rw [← hR]
 unfold coarserA at hR
 obtain ⟨a, c, rfl, _, _, _⟩ := hv
 obtain ⟨a', c', rfl, _, _, _⟩ := hu
 cases hvl : validA p l with
 | false =>
  have hres : Hid (R = false) := by show _ = _; rw [hR, hvl]; rfl
  clear hR
  rw [hvl] at hva
  go_enter Tryz.func54, Tryz.ntmps54
  go_wp2_with fail
  refine hva.out.mono ?_
  rintro e w1 ⟨rfl, hb1⟩
  go_wp2_with fail
  go_ret
  exact ⟨by rw [hres.out]; rfl, hb1⟩
 | true =>
  rw [hvl] at hva
  cases hvm : validA p m with
  | false =>
   have hres : Hid (R = false) := by show _ = _; rw [hR, hvl, hvm]; rfl
   clear hR
   rw [hvm] at hvb
   go_enter Tryz.func54, Tryz.ntmps54
   go_wp2_with fail
   refine hva.out.mono ?_
   rintro e w1 ⟨rfl, hb1⟩
   go_wp2_with fail
   refine (hvb.out w1 hb1).mono ?_
   rintro e w2 ⟨rfl, hb2⟩
   go_wp2_with fail
   go_ret
   exact ⟨by rw [hres.out]; rfl, hb1.trans (hb2.mono hb1.size)⟩
  | true =>
   rw [hvm] at hvb
   replace hnl := Lib.hid fun w1 hb => hnl w1 hb hvl
   replace hnm := Lib.hid fun w1 hb => hnm w1 hb hvm
   replace hno := Lib.hid fun w1 hb => hno w1 hb hvm hvl
   rw [hvl, hvm, Bool.true_and, Bool.true_and] at hR
   generalize hX : normalA l = X at *
   generalize hY : normalA m = Y at *
   generalize normalA (m ++ l) = Z at *
   clear hX hY hvl hvm
   replace hR := Lib.hid hR
   go_enter Tryz.func54, Tryz.ntmps54
   go_wp2_with fail
   refine hva.out.mono ?_
   rintro e w1 ⟨rfl, hb1⟩
   go_wp2_with fail
   refine (hvb.out w1 hb1).mono ?_
   rintro e w2 ⟨rfl, hb2⟩
   have hb12 := hb1.trans (hb2.mono hb1.size)
   go_wp2_with fail
   refine (hnl.out w2 hb12).mono ?_
   rintro e w3 ⟨xv, rfl, hX, hb3⟩
   have hb13 := hb12.trans (hb3.mono hb12.size)
   go_wp2_with fail
   refine (hnm.out w3 hb13).mono ?_
   rintro e w4 ⟨yv, rfl, hY, hb4⟩
   have hb14 := hb13.trans (hb4.mono hb13.size)
   have hX4 := hX.below hb4
   have hY4 := hY
   obtain ⟨xa, xc, rfl, _, _, _⟩ := hX
   obtain ⟨ya, yc, rfl, _, _, _⟩ := hY
   clear hb1 hb2 hb12 hb3 hb13 hb4 hva hvb
   replace hX4 := Lib.hid hX4
   replace hY4 := Lib.hid hY4
   replace hb14 := Lib.hid hb14
   have hlx := fun w5 (hb : Below w4.heap.size w4 w5) => Lib.hid (coarser1_any _ X w5 (hX4.out.below hb).at)
   have hly := fun w5 (hb : Below w4.heap.size w4 w5) => Lib.hid (coarser1_any _ Y w5 (hY4.out.below hb).at)
   replace hlx := Lib.hid hlx
   replace hly := Lib.hid hly
   cases hlX : lostA X with
   | true =>
    rw [hlX] at hlx
    have hres : Hid (R = true) := by show _ = _; rw [hR.out, hlX, Bool.true_or, if_pos rfl]
    go_wp2_with fail
    refine (hlx.out w4 (Below.refl _ _)).out.mono ?_
    rintro e w5 ⟨rfl, hb5⟩
    go_wp2_with fail
    refine (hlx.out w5 hb5).out.mono ?_
    rintro e w6 ⟨rfl, hb6⟩
    go_wp2_with fail
    go_ret
    have hb56 := hb5.trans (hb6.mono hb5.size)
    exact ⟨by rw [hres.out]; rfl, hb14.out.trans (hb56.mono hb14.out.size)⟩
   | false =>
    rw [hlX] at hlx
    cases hlY : lostA Y with
    | true =>
     rw [hlY] at hly
     have hres : Hid (R = false) := by show _ = _; rw [hR.out, hlX, hlY, Bool.false_or, if_pos rfl]
     go_wp2_with fail
     refine (hlx.out w4 (Below.refl _ _)).out.mono ?_
     rintro e w5 ⟨rfl, hb5⟩
     go_wp2_with fail
     refine (hly.out w5 hb5).out.mono ?_
     rintro e w6 ⟨rfl, hb6⟩
     have hb56 := hb5.trans (hb6.mono hb5.size)
     go_wp2_with fail
     refine (hlx.out w6 hb56).out.mono ?_
     rintro e w7 ⟨rfl, hb7⟩
     go_wp2_with fail
     go_ret
     exact ⟨by rw [hres.out]; rfl, hb14.out.trans ((hb56.trans (hb7.mono hb56.size)).mono hb14.out.size)⟩
    | false =>
     rw [hlY] at hly
     by_cases hp : p = 6 ∨ p = 7
     ·
      have hres : Hid (R = decide (Y.length ≤ X.length)) := by show _ = _; rw [hR.out, hlX, hlY, Bool.false_or, if_neg (by decide), if_pos hp]
      go_wp2_with fail
      refine (hlx.out w4 (Below.refl _ _)).out.mono ?_
      rintro e w5 ⟨rfl, hb5⟩
      go_wp2_with fail
      refine (hly.out w5 hb5).out.mono ?_
      rintro e w6 ⟨rfl, hb6⟩
      have hb56 := hb5.trans (hb6.mono hb5.size)
      rcases hp with rfl | rfl
      ·
       go_wp2_with fail
       go_ret
       exact ⟨by rw [hres.out]; rfl, hb14.out.trans (hb56.mono hb14.out.size)⟩
      ·
       go_wp2_with fail
       go_ret
       exact ⟨by rw [hres.out]; rfl, hb14.out.trans (hb56.mono hb14.out.size)⟩
     ·
      have hres : Hid (R = decide (Z = X)) := by show _ = _; rw [hR.out, hlX, hlY, Bool.false_or, if_neg (by decide), if_neg hp]
      have hp6 : (p == 6) = false := by simpa using fun e => hp (.inl e)
      have hp7 : (p == 7) = false := by simpa using fun e => hp (.inr e)
      go_wp2_with fail
      refine (hlx.out w4 (Below.refl _ _)).out.mono ?_
      rintro e w5 ⟨rfl, hb5⟩
      go_wp2_with fail
      refine (hly.out w5 hb5).out.mono ?_
      rintro e w6 ⟨rfl, hb6⟩
      have hb56 := hb5.trans (hb6.mono hb5.size)
      have hb16 := hb14.out.trans (hb56.mono hb14.out.size)
      go_wp2_with fail
      refine (hno.out w6 hb16).mono ?_
      rintro e w7 ⟨zv, rfl, hZ, hb7⟩
      have hb17 := hb16.trans (hb7.mono hb16.size)
      go_wp2_with fail
      refine (hnl.out w7 hb17).mono ?_
      rintro e w8 ⟨xv2, rfl, hX2, hb8⟩
      have hb18 := hb17.trans (hb8.mono hb17.size)
      have heq := Lib.hid (equalS_any zv xv2 Z X w8 _ _ (hZ.below hb8).at hX2.at)
      go_wp2_with fail
      refine heq.out.mono ?_
      rintro e w9 ⟨rfl, hb9⟩
      go_wp2_with fail
      go_ret
      exact ⟨by rw [hres.out]; rfl, hb18.trans (hb9.mono hb18.size)⟩
end Go.Proofs.YtpeandbcdaikbaaGreatDoor
