/-
 Routes of chapter 11: the reference's Better and Keeps.
 Routes of chapter 11: the reference's ahead.
 Routes of chapter 11: the reference's ways, plain.
 Routes of chapter 11: the reference's ways.
-/
import Derived.Test.YtpeandbcdaikbaaGreatDoorZD
import Derived.Test.YtpeandbcdaikbaaGreatDoorZE
open List (setIfInBounds_toArray set_cons_zero set_cons_succ)
namespace Go.Proofs.YtpeandbcdaikbaaGreatDoor
open Go.RowKit Go.Shelf Go.Maps

attribute [local go_sem] Oper.semAt_some

set_option maxRecDepth 100000 in
set_option maxHeartbeats 8000000 in
theorem Better11_any (a b : Rou) (ea eb : Option Addr) (na nb ma mb : Nat) (ca cb : Value) (w : World) (hca : ClaimsAt w w.heap.size ca a.claims) (hcb : ClaimsAt w w.heap.size cb b.claims) :
  Calls Tryz.prog 25 #[.agg #[.slice ea na ma, .int .i64 a.cost, .int .i64 a.life, ca], .agg #[.slice eb nb mb, .int .i64 b.cost, .int .i64 b.life, cb]] w fun e w' => e = .returned (.bool (betterP a b)) ∧ Below w.heap.size w w' := by
 have hsa := Lib.hid fun p w1 (hb : Below w.heap.size w w1) => Steps11_any ca a.claims p w1 (hca.later hb)
 have hsb := Lib.hid fun p w1 (hb : Below w.heap.size w w1) => Steps11_any cb b.claims p w1 (hcb.later hb)
 obtain ⟨R, hR⟩ : ∃ R, R = betterP a b := ⟨_, rfl⟩
 rw [← hR]
 unfold betterP at hR
 obtain ⟨_, _, ⟨xa, xc, rfl, _, _, _⟩, _⟩ := hca
 obtain ⟨_, _, ⟨ya, yc, rfl, _, _, _⟩, _⟩ := hcb
 obtain ⟨ae, acost, alife, al⟩ := a
 obtain ⟨be, bcost, blife, bl⟩ := b
 dsimp only at hsa hsb hR ⊢
 obtain ⟨F, hF⟩ : ∃ F : Int → Bool, F = fun p => coarserA p (stepsC bl p) (stepsC al p) := ⟨_, rfl⟩
 have hFp : Hid (∀ p, coarserA p (stepsC bl p) (stepsC al p) = F p) := fun p => by rw [hF]
 rw [← hF] at hR
 have h8 := Lib.hid (all8 F)
 replace hR := Lib.hid hR
 clear hF
 obtain ⟨W, hW⟩ : ∃ W, W = (w.alloc (.cells #[.slice ea na ma, .int .i64 acost, .int .i64 alife, .slice xa al.length xc] 33)).alloc (.cells #[.slice eb nb mb, .int .i64 bcost, .int .i64 blife, .slice ya bl.length yc] 33) := ⟨_, rfl⟩
 have hA : Arr W w.heap.size 33 [.slice ea na ma, .int .i64 acost, .int .i64 alife, .slice xa al.length xc] := by rw [hW]; exact (Arr.new rfl rfl).alloc _
 have hB : Arr W (w.heap.size + 1) 33 [.slice eb nb mb, .int .i64 bcost, .int .i64 blife, .slice ya bl.length yc] := by rw [hW]; exact Arr.new rfl (by simp)
 have hbW : Below w.heap.size w W := by rw [hW]; exact ((Below.refl _ _).alloc (Nat.le_refl _) _).alloc (by simp) _
 replace hA := Lib.hid hA
 replace hB := Lib.hid hB
 replace hbW := Lib.hid hbW
 go_enter Tryz.func25, Tryz.ntmps25
 go_wp2_with (rw [← hW])
 clear hW
 go_loopw [5] (fun iv wr => ∃ i : Nat, i ≤ 8 ∧ iv = .int .i64 ((i : Int) + 1) ∧ Hid ((∀ j : Nat, j < i → F ((j : Int) + 1) = true) ∧ Arr wr w.heap.size 33 [.slice ea na ma, .int .i64 acost, .int .i64 alife, .slice xa al.length xc] ∧ Arr wr (w.heap.size + 1) 33 [.slice eb nb mb, .int .i64 bcost, .int .i64 blife, .slice ya bl.length yc] ∧ Below w.heap.size w wr)) (fun iv _ => 9 - (intOf iv).toNat)
 case atStart => exact ⟨0, by omega, rfl, (show Hid _ from ⟨fun j hj => by omega, hA.out, hB.out, hbW.out⟩)⟩
 case round =>
  obtain ⟨i, hi8, rfl, hall⟩ := hrel
  obtain ⟨hF1, hA1, hB1, hb1⟩ := hall.out
  clear hall hA hB hbW
  by_cases hlt : i < 8
  ·
   have d3 : wr.drew.cell? ⟨w.heap.size, 3, none⟩ = some (.slice xa al.length xc) := hA1.cell rfl
   have e3 : wr.drew.cell? ⟨w.heap.size + 1, 3, none⟩ = some (.slice ya bl.length yc) := hB1.cell rfl
   have hle : decide ((i : Int) + 1 ≤ 8) = true := decide_eq_true (by omega)
   have hw1 : IntKind.i64.wrap ((i : Int) + 1 + 1) = (i : Int) + 1 + 1 := IntWalk.i64_in _ (by omega)
   replace hF1 := Lib.hid hF1
   go_wp2_with fail
   refine wp_region_held_drew (S := fun w' => w'.cell? ⟨w.heap.size, 3, none⟩ = some (.slice xa al.length xc) ∧ w'.cell? ⟨w.heap.size + 1, 3, none⟩ = some (.slice ya bl.length yc)) (by kernel_rfl) (by exact ⟨d3, e3⟩) (fun hHeld => ?_)
   refine tk 0 ?_ rfl ?_ ?_
   rotate_left
   ·
    intro w hSw; (try dsimp only at hSw); go_simp; (try with_reducible rfl)
   (try simp only [Act.put, setIfInBounds_toArray, set_cons_zero, set_cons_succ])
   refine tk 1 ?_ rfl ?_ ?_
   rotate_left
   ·
    intro w hSw; (try dsimp only at hSw); go_simp; (try with_reducible rfl)
   (try simp only [Act.put, setIfInBounds_toArray, set_cons_zero, set_cons_succ])
   refine tk 2 ?_ rfl ?_ ?_
   rotate_left
   ·
    intro w hSw; (try dsimp only at hSw); go_simp; (try with_reducible rfl)
   (try simp only [Act.put, setIfInBounds_toArray, set_cons_zero, set_cons_succ])
   refine tk 3 ?_ rfl ?_ ?_
   rotate_left
   ·
    intro w hSw; (try dsimp only at hSw); go_simp; (try with_reducible rfl)
   (try simp only [Act.put, setIfInBounds_toArray, set_cons_zero, set_cons_succ])
   refine tk 5 ?_ rfl ?_ ?_
   rotate_left
   ·
    intro w hSw; (try dsimp only at hSw); go_simp; (try with_reducible rfl)
   (try simp only [Act.put, setIfInBounds_toArray, set_cons_zero, set_cons_succ])
   refine tk 6 ?_ rfl ?_ ?_
   rotate_left
   ·
    intro w hSw; (try dsimp only at hSw); go_simp; (try with_reducible rfl)
   (try simp only [Act.put, setIfInBounds_toArray, set_cons_zero, set_cons_succ])
   refine tk 7 ?_ rfl ?_ ?_
   rotate_left
   ·
    intro w hSw; (try dsimp only at hSw); go_simp; (try with_reducible rfl)
   (try simp only [Act.put, setIfInBounds_toArray, set_cons_zero, set_cons_succ])
   have hbd := hb1.drew
   refine wpAnyH_ready (rs := [4]) (by kernel_rfl) (by simp) ?_
   refine ready_l rfl (fun K hK => ?_) AllReadyH.nil
   go_simp
   go_at_call 46
   refine (hsb.out ((i : Int) + 1) wr.drew hbd).mono ?_
   rintro e w2 ⟨sv, rfl, hS, hb2⟩
   have hA2 : Arr w2 w.heap.size 33 [.slice ea na ma, .int .i64 acost, .int .i64 alife, .slice xa al.length xc] := hA1.drew.below hb2
   have hB2 : Arr w2 (w.heap.size + 1) 33 [.slice eb nb mb, .int .i64 bcost, .int .i64 blife, .slice ya bl.length yc] := hB1.drew.below hb2
   have hb12 := hbd.trans (hb2.mono hbd.size)
   refine hK.out _ _ (by exact ⟨hA2.cell rfl, hB2.cell rfl⟩) (fun hHeld2 => ?_)
   clear hK K hHeld
   (try simp only [Act.put, setIfInBounds_toArray, set_cons_zero, set_cons_succ])
   refine wpAnyH_ready (rs := [8]) (by kernel_rfl) (by simp) ?_
   refine ready_l rfl (fun K hK => ?_) AllReadyH.nil
   go_simp
   go_at_call 46
   refine (hsa.out ((i : Int) + 1) w2 hb12).mono ?_
   rintro e w3 ⟨su, rfl, hS2, hb3⟩
   have hA3 := hA2.below hb3
   have hB3 := hB2.below hb3
   have hb13 := hb12.trans (hb3.mono hb12.size)
   refine hK.out _ _ (by exact ⟨hA3.cell rfl, hB3.cell rfl⟩) (fun hHeld3 => ?_)
   clear hK K hHeld2
   (try simp only [Act.put, setIfInBounds_toArray, set_cons_zero, set_cons_succ])
   have hco := Lib.hid (Coarser7_any ((i : Int) + 1) sv su _ _ w3 (hS.later hb3) hS2)
   rw [hFp.out] at hco
   refine wpAnyH_ready (rs := [9]) (by kernel_rfl) (by simp) ?_
   refine ready_l rfl (fun K hK => ?_) AllReadyH.nil
   go_simp
   go_at_call 57
   refine hco.out.mono ?_
   rintro e w4 ⟨rfl, hb4⟩
   have hA4 := hA3.below hb4
   have hB4 := hB3.below hb4
   have hb14 := hb13.trans (hb4.mono hb13.size)
   refine hK.out _ _ (by exact ⟨hA4.cell rfl, hB4.cell rfl⟩) (fun hHeld => ?_)
   clear hK K hHeld3
   (try simp only [Act.put, setIfInBounds_toArray, set_cons_zero, set_cons_succ])
   clear hco hS hS2 hb2 hb3 hb4 hA2 hA3 hB2 hB3 hb12 hb13 d3 e3 hbd
   replace hA4 := Lib.hid hA4
   replace hB4 := Lib.hid hB4
   replace hb14 := Lib.hid hb14
   cases hFi : F ((i : Int) + 1) with
   | false =>
    have hres : Hid (R = false) := by
     show _ = _
     rw [hR.out, Bool.and_eq_false_iff]
     refine .inl (Bool.eq_false_iff.2 fun h => ?_)
     rw [h8.out.1 h i hlt] at hFi
     cases hFi
    rw [hFi] at *
    refine tk 10 ?_ rfl ?_ ?_
    rotate_left
    ·
     intro w hSw; (try dsimp only at hSw); go_simp; (try with_reducible rfl)
    (try simp only [Act.put, setIfInBounds_toArray, set_cons_zero, set_cons_succ])
    refine wpAnyH_done (by kernel_rfl) ?_ _
    go_wp2_with fail
    go_ret
    exact ⟨by rw [hres.out]; rfl, hb14.out⟩
   | true =>
    have hkk : Hid ((∀ j : Nat, j < i + 1 → F ((j : Int) + 1) = true) ∧ Arr w4 w.heap.size 33 [.slice ea na ma, .int .i64 acost, .int .i64 alife, .slice xa al.length xc] ∧ Arr w4 (w.heap.size + 1) 33 [.slice eb nb mb, .int .i64 bcost, .int .i64 blife, .slice ya bl.length yc] ∧ Below w.heap.size w w4) := ⟨fun j hj => by
     by_cases e : j = i
     ·
      rw [e]; exact hFi
     ·
      exact hF1.out j (by omega), hA4.out, hB4.out, hb14.out⟩
    refine tk 10 ?_ rfl ?_ ?_
    rotate_left
    ·
     intro w hSw; (try dsimp only at hSw); go_simp; (try with_reducible rfl)
    (try simp only [Act.put, setIfInBounds_toArray, set_cons_zero, set_cons_succ])
    refine wpAnyH_done (by kernel_rfl) ?_ _
    go_wp2_with fail
    exact ⟨⟨i + 1, by omega, by first | rfl | go_num, hkk⟩, by simp [intOf]; omega⟩
  ·
   obtain rfl : i = 8 := by omega
   have hno : decide (((8 : Nat) : Int) + 1 ≤ 8) = false := by decide
   have hall8 : props8.all F = true := h8.out.2 hF1
   have c1 := hA1.cell (j := 1) rfl
   have c2 := hA1.cell (j := 2) rfl
   have e1 := hB1.cell (j := 1) rfl
   have e2 := hB1.cell (j := 2) rfl
   have hres : Hid (R = (decide (acost ≤ bcost) && decide (blife ≤ alife))) := by show _ = _; rw [hR.out, hall8, Bool.true_and]
   clear hF1
   by_cases hc : acost ≤ bcost
   ·
    have hd : decide (acost ≤ bcost) = true := decide_eq_true hc
    go_wp2_with fail
    go_ret
    exact ⟨by rw [hres.out, hd]; rfl, hb1⟩
   ·
    have hd : decide (acost ≤ bcost) = false := decide_eq_false hc
    go_wp2_with fail
    go_ret
    exact ⟨by rw [hres.out, hd]; rfl, hb1⟩
theorem keeps_false {r : Rou} {policy : Clms} {i : Nat} (hi : i < policy.length) (h : coarserA policy[i]!.1 policy[i]!.2 (stepsC r.claims policy[i]!.1) = false) : keepsP r policy = false := by
 unfold keepsP
 rw [List.all_eq_false]
 exact ⟨policy[i]!, by rw [getElem!_pos policy i hi]; exact List.getElem_mem hi, by rw [h]; exact Bool.false_ne_true⟩
theorem keeps_true {r : Rou} {policy : Clms} (h : ∀ i, i < policy.length → coarserA policy[i]!.1 policy[i]!.2 (stepsC r.claims policy[i]!.1) = true) : keepsP r policy = true := by
 unfold keepsP
 rw [List.all_eq_true]
 intro c hc
 obtain ⟨i, hi, rfl⟩ := List.mem_iff_getElem.1 hc
 have := h i hi
 rwa [getElem!_pos policy i hi] at this
set_option maxRecDepth 100000 in
set_option maxHeartbeats 8000000 in
theorem Keeps11_any (r : Rou) (ea : Option Addr) (na ma : Nat) (cv pv : Value) (policy : Clms) (w : World) (hcv : ClaimsAt w w.heap.size cv r.claims) (hp : ClaimsAt w w.heap.size pv policy) :
  Calls Tryz.prog 23 #[.agg #[.slice ea na ma, .int .i64 r.cost, .int .i64 r.life, cv], pv] w fun e w' => e = .returned (.bool (keepsP r policy)) ∧ Below w.heap.size w w' := by
 have hcell := Lib.hid fun i (hi : i < policy.length) => ClaimsAt.cells hp hi
 have hst := Lib.hid fun p w1 (hb : Below w.heap.size w w1) => Steps11_any cv r.claims p w1 (hcv.later hb)
 obtain ⟨_, _, ⟨xa, xc, rfl, _, _, _⟩, _⟩ := hcv
 obtain ⟨_, _, ⟨pa, pc, rfl, _, hpm, _⟩, _⟩ := hp
 obtain ⟨R, hR⟩ : ∃ R, keepsP r policy = R := ⟨_, rfl⟩
 rw [hR]
 have hfa := fun i hi h => hR.symm.trans (keeps_false (r := r) (policy := policy) (i := i) hi h)
 have htr := fun h => hR.symm.trans (keeps_true (r := r) (policy := policy) h)
 replace hfa := Lib.hid hfa
 replace htr := Lib.hid htr
 clear hR
 obtain ⟨ae, acost, alife, al⟩ := r
 dsimp only at hst hfa htr ⊢
 obtain ⟨W, hW⟩ : ∃ W, W = w.alloc (.cells #[.slice ea na ma, .int .i64 acost, .int .i64 alife, .slice xa al.length xc] 33) := ⟨_, rfl⟩
 have hA : Arr W w.heap.size 33 [.slice ea na ma, .int .i64 acost, .int .i64 alife, .slice xa al.length xc] := by rw [hW]; exact Arr.new rfl rfl
 have hbW : Below w.heap.size w W := by rw [hW]; exact (Below.refl _ _).alloc (Nat.le_refl _) _
 have hst0 : Hid ((∀ j, j < 0 → coarserA policy[j]!.1 policy[j]!.2 (stepsC al policy[j]!.1) = true) ∧ Arr W w.heap.size 33 [.slice ea na ma, .int .i64 acost, .int .i64 alife, .slice xa al.length xc] ∧ Below w.heap.size w W) := ⟨fun j hj => absurd hj (Nat.not_lt_zero j), hA, hbW⟩
 clear hA hbW
 go_enter Tryz.func23, Tryz.ntmps23
 go_upto_region 1 with fail
 rw [← hW]
 clear hW
 go_wp2_with fail
 go_loopw [5] (fun iv wr => ∃ i : Nat, i ≤ policy.length ∧ iv = .int .i64 (i : Int) ∧ Hid ((∀ j, j < i → coarserA policy[j]!.1 policy[j]!.2 (stepsC al policy[j]!.1) = true) ∧ Arr wr w.heap.size 33 [.slice ea na ma, .int .i64 acost, .int .i64 alife, .slice xa al.length xc] ∧ Below w.heap.size w wr)) (fun iv _ => policy.length - (intOf iv).toNat)
 case atStart => exact ⟨0, Nat.zero_le _, rfl, hst0⟩
 case round =>
  obtain ⟨i, hi, rfl, hall⟩ := hrel
  clear hst0
  obtain ⟨heq, hA, hb⟩ := hall.out
  clear hall
  by_cases hlt : i < policy.length
  ·
   have hyes : decide ((i : Int) < (policy.length : Int)) = true := decide_eq_true (by omega)
   have hw1 : IntKind.i64.wrap ((i : Int) + 1) = (i : Int) + 1 := IntWalk.i64_in _ (by unfold maxLen at hpm; omega)
   have k0 : (0 : Int) ≤ (i : Int) := by omega
   have k1 : (i : Int) < (policy.length : Int) := by omega
   obtain ⟨b1, o1, cp, u, hv1, hbl, x0, x1, hs⟩ := hcell.out i hlt
   cases hv1
   have hbd := hb.drew
   have hAd := hA.drew
   replace x0 := (hbd.cell (p := ⟨b1, o1 + i * 2, none⟩) hbl).trans x0
   replace x1 := (hbd.cell (p := ⟨b1, o1 + i * 2 + 1, none⟩) hbl).trans x1
   have hsd := hs.later hbd
   obtain ⟨ua, uc, rfl, _, _, _⟩ := id hs
   have hfi := hfa.out i hlt
   have hti : coarserA policy[i]!.1 policy[i]!.2 (stepsC al policy[i]!.1) = true → ∀ j, j < i + 1 → coarserA policy[j]!.1 policy[j]!.2 (stepsC al policy[j]!.1) = true := fun h j hj => by
    by_cases q : j = i
    ·
     rw [q]; exact h
    ·
     exact heq j (by omega)
   generalize hx : policy[i]! = x at *
   obtain ⟨p, sp⟩ := x
   dsimp only at x0 x1 hsd hfi hti hs
   have c3 := hAd.cell (j := 3) rfl
   have hsp := Lib.hid fun W (hW : Below w.heap.size w W) => hst.out p W hW
   have hb1l : b1 < wr.drew.heap.size := Nat.lt_of_lt_of_le hbl hbd.size
   replace hx := Lib.hid hx
   replace heq := Lib.hid heq
   replace hfi := Lib.hid hfi
   replace hti := Lib.hid hti
   replace hsd := Lib.hid hsd
   replace hbd := Lib.hid hbd
   replace hAd := Lib.hid hAd
   replace hs := Lib.hid hs
   clear hcell hst hfa htr hA hb
   go_upto_region 4 with fail
   refine wp_region_held_drew (S := fun w' => w'.cell? ⟨b1, o1 + i * 2, none⟩ = some (.int .i64 p) ∧ w'.cell? ⟨b1, o1 + i * 2 + 1, none⟩ = some (.slice ua sp.length uc) ∧ w'.cell? ⟨w.heap.size, 3, none⟩ = some (.slice xa al.length xc)) (by kernel_rfl) (by exact ⟨x0, x1, c3⟩) (fun hHeld => ?_)
   refine tk 0 ?_ rfl ?_ ?_
   rotate_left
   ·
    intro w hSw; (try dsimp only at hSw); go_simp; (try with_reducible rfl)
   (try simp only [Act.put, setIfInBounds_toArray, set_cons_zero, set_cons_succ])
   refine tk 1 ?_ rfl ?_ ?_
   rotate_left
   ·
    intro w hSw; (try dsimp only at hSw); go_simp; (try with_reducible rfl)
   (try simp only [Act.put, setIfInBounds_toArray, set_cons_zero, set_cons_succ])
   refine tk 2 ?_ rfl ?_ ?_
   rotate_left
   ·
    intro w hSw; (try dsimp only at hSw); go_simp; (try with_reducible rfl)
   (try simp only [Act.put, setIfInBounds_toArray, set_cons_zero, set_cons_succ])
   refine tk 3 ?_ rfl ?_ ?_
   rotate_left
   ·
    intro w hSw; (try dsimp only at hSw); go_simp; (try with_reducible rfl)
   (try simp only [Act.put, setIfInBounds_toArray, set_cons_zero, set_cons_succ])
   refine tk 4 ?_ rfl ?_ ?_
   rotate_left
   ·
    intro w hSw; (try dsimp only at hSw); go_simp; (try with_reducible rfl)
   (try simp only [Act.put, setIfInBounds_toArray, set_cons_zero, set_cons_succ])
   refine tk 5 ?_ rfl ?_ ?_
   rotate_left
   ·
    intro w hSw; (try dsimp only at hSw); go_simp; (try with_reducible rfl)
   (try simp only [Act.put, setIfInBounds_toArray, set_cons_zero, set_cons_succ])
   refine tk 6 ?_ rfl ?_ ?_
   rotate_left
   ·
    intro w hSw; (try dsimp only at hSw); go_simp; (try with_reducible rfl)
   (try simp only [Act.put, setIfInBounds_toArray, set_cons_zero, set_cons_succ])
   refine tk 7 ?_ rfl ?_ ?_
   rotate_left
   ·
    intro w hSw; (try dsimp only at hSw); go_simp; (try with_reducible rfl)
   (try simp only [Act.put, setIfInBounds_toArray, set_cons_zero, set_cons_succ])
   refine tk 8 ?_ rfl ?_ ?_
   rotate_left
   ·
    intro w hSw; (try dsimp only at hSw); go_simp; (try with_reducible rfl)
   (try simp only [Act.put, setIfInBounds_toArray, set_cons_zero, set_cons_succ])
   refine tk 9 ?_ rfl ?_ ?_
   rotate_left
   ·
    intro w hSw; (try dsimp only at hSw); go_simp; (try with_reducible rfl)
   (try simp only [Act.put, setIfInBounds_toArray, set_cons_zero, set_cons_succ])
   refine tk 10 ?_ rfl ?_ ?_
   rotate_left
   ·
    intro w hSw; (try dsimp only at hSw); go_simp; (try with_reducible rfl)
   (try simp only [Act.put, setIfInBounds_toArray, set_cons_zero, set_cons_succ])
   refine tk 11 ?_ rfl ?_ ?_
   rotate_left
   ·
    intro w hSw; (try dsimp only at hSw); go_simp; (try with_reducible rfl)
   (try simp only [Act.put, setIfInBounds_toArray, set_cons_zero, set_cons_succ])
   refine tk 12 ?_ rfl ?_ ?_
   rotate_left
   ·
    intro w hSw; (try dsimp only at hSw); go_simp; (try with_reducible rfl)
   (try simp only [Act.put, setIfInBounds_toArray, set_cons_zero, set_cons_succ])
   refine tk 13 ?_ rfl ?_ ?_
   rotate_left
   ·
    intro w hSw; (try dsimp only at hSw); go_simp; (try with_reducible rfl)
   (try simp only [Act.put, setIfInBounds_toArray, set_cons_zero, set_cons_succ])
   refine tk 14 ?_ rfl ?_ ?_
   rotate_left
   ·
    intro w hSw; (try dsimp only at hSw); go_simp; (try with_reducible rfl)
   (try simp only [Act.put, setIfInBounds_toArray, set_cons_zero, set_cons_succ])
   refine tk 15 ?_ rfl ?_ ?_
   rotate_left
   ·
    intro w hSw; (try dsimp only at hSw); go_simp; (try with_reducible rfl)
   (try simp only [Act.put, setIfInBounds_toArray, set_cons_zero, set_cons_succ])
   refine tk 16 ?_ rfl ?_ ?_
   rotate_left
   ·
    intro w hSw; (try dsimp only at hSw); go_simp; (try with_reducible rfl)
   (try simp only [Act.put, setIfInBounds_toArray, set_cons_zero, set_cons_succ])
   generalize wr.drew = q0 at *
   clear c3
   refine wpAnyH_ready (rs := [17]) (by kernel_rfl) (by simp) ?_
   refine ready_l rfl (fun K hK => ?_) AllReadyH.nil
   go_simp
   go_at_call 46
   refine (hsp.out _ hbd.out).mono ?_
   rintro e q1 ⟨sv, rfl, hS, hbx⟩
   have hA1 := Lib.hid (hAd.out.below hbx)
   have hb1 := Lib.hid (hbd.out.trans (hbx.mono hbd.out.size))
   have hs1 := hsd.out.later hbx
   replace x0 := (hbx.cell (p := ⟨b1, o1 + i * 2, none⟩) hb1l).trans x0
   replace x1 := (hbx.cell (p := ⟨b1, o1 + i * 2 + 1, none⟩) hb1l).trans x1
   replace hb1l := Nat.lt_of_lt_of_le hb1l hbx.size
   have hco := Lib.hid (Coarser7_any p _ _ _ _ q1 hs1 hS)
   refine hK.out _ _ (by exact ⟨x0, x1, hA1.out.cell (j := 3) rfl⟩) (fun hHeld2 => ?_)
   clear hK K hHeld hbx hs1 hS
   (try simp only [Act.put, setIfInBounds_toArray, set_cons_zero, set_cons_succ])
   generalize hcv : coarserA p sp (stepsC al p) = cvv at *
   refine wpAnyH_ready (rs := [18]) (by kernel_rfl) (by simp) ?_
   refine ready_l rfl (fun K hK => ?_) AllReadyH.nil
   go_simp
   go_at_call 57
   refine hco.out.mono ?_
   rintro e q2 ⟨rfl, hbx⟩
   have hA2 := Lib.hid (hA1.out.below hbx)
   have hb2 := Lib.hid (hb1.out.trans (hbx.mono hb1.out.size))
   replace x0 := (hbx.cell (p := ⟨b1, o1 + i * 2, none⟩) hb1l).trans x0
   replace x1 := (hbx.cell (p := ⟨b1, o1 + i * 2 + 1, none⟩) hb1l).trans x1
   refine hK.out _ _ (by exact ⟨x0, x1, hA2.out.cell (j := 3) rfl⟩) (fun hHeld3 => ?_)
   clear hK K hHeld2 hbx hco x0 x1 hb1l
   (try simp only [Act.put, setIfInBounds_toArray, set_cons_zero, set_cons_succ])
   refine tk 19 ?_ rfl ?_ ?_
   rotate_left
   ·
    intro w hSw; (try dsimp only at hSw); go_simp; (try with_reducible rfl)
   (try simp only [Act.put, setIfInBounds_toArray, set_cons_zero, set_cons_succ])
   refine wpAnyH_done (by kernel_rfl) ?_ _
   replace hcv := Lib.hid hcv
   cases cvv with
   | false =>
    obtain rfl : R = false := hfi.out rfl
    go_wp2_with fail
    go_ret
    exact ⟨rfl, hb2.out⟩
   | true =>
    have hn : Hid ((∀ j, j < i + 1 → coarserA policy[j]!.1 policy[j]!.2 (stepsC al policy[j]!.1) = true) ∧ Arr q2 w.heap.size 33 [.slice ea na ma, .int .i64 acost, .int .i64 alife, .slice xa al.length xc] ∧ Below w.heap.size w q2) := ⟨hti.out rfl, hA2.out, hb2.out⟩
    go_wp2_with fail
    exact ⟨⟨i + 1, by omega, rfl, hn⟩, by simp [intOf]; omega⟩
  ·
   have hno : decide ((i : Int) < (policy.length : Int)) = false := decide_eq_false (by omega)
   obtain rfl : i = policy.length := by omega
   obtain rfl : R = true := htr.out heq
   replace hb := Lib.hid hb
   clear heq
   go_wp2_with fail
   go_ret
   exact ⟨rfl, hb.out⟩
end Go.Proofs.YtpeandbcdaikbaaGreatDoor
namespace Go.Proofs.YtpeandbcdaikbaaGreatDoor
open Go.RowKit Go.Shelf Go.Maps

attribute [local go_sem] Oper.semAt_some

theorem cmpL_at : ∀ (a b : List Int) (i : Nat), i < a.length → i < b.length → (∀ j, j < i → a[j]! = b[j]!) → a[i]! ≠ b[i]! → (cmpL a b < 0 ↔ a[i]! < b[i]!)
 | [], _, _, h, _, _, _ => by simp at h
 | _ :: _, [], _, _, h, _, _ => by simp at h
 | x :: a, y :: b, 0, _, _, _, hne => by
  have hne : x ≠ y := hne
  show cmpL (x :: a) (y :: b) < 0 ↔ x < y
  rw [cmpL]
  by_cases h1 : x < y
  ·
   rw [if_pos h1]; simp [h1]
  ·
   rw [if_neg h1, if_pos (by omega)]
   simp [h1]
 | x :: a, y :: b, i + 1, h1, h2, hj, hne => by
  have h0 : x = y := hj 0 (by omega)
  subst h0
  rw [cmpL, if_neg (by omega), if_neg (by omega)]
  exact cmpL_at a b i (by simpa using h1) (by simpa using h2) (fun j hj' => by simpa using hj (j + 1) (by omega)) (by simpa using hne)
theorem cmpL_end : ∀ (a b : List Int) (n : Nat), n = min a.length b.length → (∀ j, j < n → a[j]! = b[j]!) → (cmpL a b < 0 ↔ a.length < b.length)
 | [], [], _, _, _ => by simp [cmpL]
 | [], _ :: _, _, _, _ => by simp [cmpL]
 | _ :: _, [], _, _, _ => by simp [cmpL]
 | x :: a, y :: b, n, hn, hj => by
  have hn' : n = min a.length b.length + 1 := by rw [hn]; simp only [List.length_cons]; omega
  subst hn'
  have h0 : x = y := hj 0 (by omega)
  subst h0
  rw [cmpL, if_neg (by omega), if_neg (by omega), cmpL_end a b _ rfl (fun j hj' => by simpa using hj (j + 1) (by omega))]
  simp
set_option maxRecDepth 100000 in
set_option maxHeartbeats 8000000 in
theorem ahead11_any (a b : Rou) (ea eb ca cb : Option Addr) (na nb ma mb : Nat) (w : World) (hea : NumsAt w w.heap.size (.slice ea a.edges.length ma) a.edges) (heb : NumsAt w w.heap.size (.slice eb b.edges.length mb) b.edges) :
  Calls Tryz.prog 52 #[.agg #[.slice ea a.edges.length ma, .int .i64 a.cost, .int .i64 a.life, .slice ca a.claims.length na], .agg #[.slice eb b.edges.length mb, .int .i64 b.cost, .int .i64 b.life, .slice cb b.claims.length nb]] w fun e w' => e = .returned (.bool (aheadP a b)) ∧ Below w.heap.size w w' := by
 have hc1 := Lib.hid fun i (hi : i < a.edges.length) => NumsAt.cells hea hi
 have hc2 := Lib.hid fun i (hi : i < b.edges.length) => NumsAt.cells heb hi
 obtain ⟨R, hR⟩ : ∃ R, aheadP a b = R := ⟨_, rfl⟩
 have hai := ahead_iff a b
 rw [hR] at hai ⊢
 clear hR
 obtain ⟨_, _, h1, _, hm1, _⟩ := hea
 obtain ⟨_, _, h2, _, hm2, _⟩ := heb
 injection h1 with h1a h1b h1c
 injection h2 with h2a h2b h2c
 subst h1c h2c
 clear h1a h1b h2a h2b
 obtain ⟨ae, acost, alife, al⟩ := a
 obtain ⟨be, bcost, blife, bl⟩ := b
 dsimp only at hc1 hc2 hai hm1 hm2 ⊢
 obtain ⟨W, hW⟩ : ∃ W, W = (w.alloc (.cells #[.slice ea ae.length ma, .int .i64 acost, .int .i64 alife, .slice ca al.length na] 33)).alloc (.cells #[.slice eb be.length mb, .int .i64 bcost, .int .i64 blife, .slice cb bl.length nb] 33) := ⟨_, rfl⟩
 have hA : Arr W w.heap.size 33 [.slice ea ae.length ma, .int .i64 acost, .int .i64 alife, .slice ca al.length na] := by rw [hW]; exact (Arr.new rfl rfl).alloc _
 have hB : Arr W (w.heap.size + 1) 33 [.slice eb be.length mb, .int .i64 bcost, .int .i64 blife, .slice cb bl.length nb] := by rw [hW]; exact Arr.new rfl (by simp)
 have hbW : Below w.heap.size w W := by rw [hW]; exact ((Below.refl _ _).alloc (Nat.le_refl _) _).alloc (by simp) _
 have a0 := hA.cell (j := 0) rfl
 have a1 := hA.cell (j := 1) rfl
 have a2 := hA.cell (j := 2) rfl
 have b0 := hB.cell (j := 0) rfl
 have b1 := hB.cell (j := 1) rfl
 have b2 := hB.cell (j := 2) rfl
 replace hA := Lib.hid hA
 replace hB := Lib.hid hB
 replace hbW := Lib.hid hbW
 by_cases hcc : acost = bcost
 ·
  have e1 : (acost != bcost) = false := by rw [hcc]; exact bne_self_eq_false _
  have e2 : (acost == bcost) = true := by rw [hcc]; exact beq_self_eq_true _
  have e3 : decide (acost = bcost) = true := decide_eq_true hcc
  by_cases hlf : alife = blife
  ·
   have f1 : (alife != blife) = false := by rw [hlf]; exact bne_self_eq_false _
   have f2 : (alife == blife) = true := by rw [hlf]; exact beq_self_eq_true _
   have f3 : decide (alife = blife) = true := decide_eq_true hlf
   have hRL : R = true ↔ cmpL ae be < 0 := by rw [hai]; omega
   have hRi := fun i h1 h2 h3 h4 => (hRL.trans (cmpL_at ae be i h1 h2 h3 h4))
   have hRe := fun n h1 h2 => (hRL.trans (cmpL_end ae be n h1 h2))
   replace hRi := Lib.hid hRi
   replace hRe := Lib.hid hRe
   replace hcc := Lib.hid hcc
   replace hlf := Lib.hid hlf
   replace hai := Lib.hid hai
   replace hRL := Lib.hid hRL
   have hst : Hid (∀ j, j < 0 → ae[j]! = be[j]!) := fun j hj => absurd hj (Nat.not_lt_zero j)
   have hbw := Lib.hid (Below.refl W.heap.size W)
   go_enter Tryz.func52, Tryz.ntmps52
   go_upto_region 1 with fail
   rw [← hW]
   clear hW
   go_wp2_with fail
   go_loopw [5] (fun iv wr => ∃ i : Nat, i ≤ min ae.length be.length ∧ iv = .int .i64 (i : Int) ∧ Hid (∀ j, j < i → ae[j]! = be[j]!) ∧ Hid (Below W.heap.size W wr)) (fun iv _ => ae.length - (intOf iv).toNat)
   case atStart => exact ⟨0, Nat.zero_le _, rfl, hst, hbw⟩
   case round =>
    obtain ⟨i, hi, rfl, heq, hb⟩ := hrel
    clear hst hbw a0 a1 a2 b0 b1 b2
    have a0 := (hA.out.below hb.out).cell (j := 0) rfl
    have b0 := (hB.out.below hb.out).cell (j := 0) rfl
    have hbw := Lib.hid (hbW.out.trans (hb.out.mono hbW.out.size))
    by_cases hia : i < ae.length
    ·
     have d1 : decide ((i : Int) < (ae.length : Int)) = true := decide_eq_true (by omega)
     by_cases hib : i < be.length
     ·
      have d2 : decide ((i : Int) < (be.length : Int)) = true := decide_eq_true (by omega)
      have hw1 : IntKind.i64.wrap ((i : Int) + 1) = (i : Int) + 1 := IntWalk.i64_in _ (by unfold maxLen at hm1; omega)
      have k0 : (0 : Int) ≤ (i : Int) := by omega
      have k1 : (i : Int) < (ae.length : Int) := by omega
      have k2 : (i : Int) < (be.length : Int) := by omega
      obtain ⟨g1, o1, c1, q1, l1, x1⟩ := hc1.out i hia
      obtain ⟨g2, o2, c2, q2, l2, x2⟩ := hc2.out i hib
      cases q1
      cases q2
      replace x1 := (hbw.out.cell (p := ⟨g1, o1 + i, none⟩) l1).trans x1
      replace x2 := (hbw.out.cell (p := ⟨g2, o2 + i, none⟩) l2).trans x2
      have hri := hRi.out i hia hib heq.out
      have hnx : ae[i]! = be[i]! → ∀ j, j < i + 1 → ae[j]! = be[j]! := fun h j hj => by
       by_cases q : j = i
       ·
        rw [q]; exact h
       ·
        exact heq.out j (by omega)
      clear hc1 hc2 hRi hRe hai hRL
      generalize ae[i]! = x at *
      generalize be[i]! = y at *
      replace heq := Lib.hid heq.out
      by_cases hxy : x = y
      ·
       have g3 : (x != y) = false := by rw [hxy]; exact bne_self_eq_false _
       have g4 : (x == y) = true := by rw [hxy]; exact beq_self_eq_true _
       have g5 : decide (x = y) = true := decide_eq_true hxy
       have hn := Lib.hid (hnx hxy)
       replace hxy := Lib.hid hxy
       clear hri hnx
       go_upto_region 8 with fail
       go_quiet (fail)
       have hbn := Lib.hid (below_drewN hb.out nq)
       go_wp2_with fail
       exact ⟨⟨i + 1, by omega, rfl, hn, hbn⟩, by simp [intOf]; omega⟩
      ·
       have g3 : (x != y) = true := bne_iff_ne.2 hxy
       have g4 : (x == y) = false := beq_false_of_ne hxy
       have g5 : decide (x = y) = false := decide_eq_false hxy
       have hr2 := hri hxy
       obtain rfl : R = decide (x < y) := by rw [Bool.eq_iff_iff, decide_eq_true_eq]; exact hr2
       replace hxy := Lib.hid hxy
       clear hri hnx hr2
       go_upto_region 8 with fail
       go_quiet (fail)
       go_upto_region 9 with fail
       go_quiet (fail)
       have hbz := hbw.out
       go_wp2_with fail
       go_ret
       first | exact ⟨rfl, below_drewN (below_drewN hbz _) _⟩ | exact ⟨rfl, below_drewN hbz _⟩
     ·
      have d2 : decide ((i : Int) < (be.length : Int)) = false := decide_eq_false (by omega)
      have hre := hRe.out i (by omega) heq.out
      obtain rfl : R = false := by rw [Bool.eq_false_iff]; intro h; have := hre.1 h; omega
      have d3 : decide ((ae.length : Int) < (be.length : Int)) = false := decide_eq_false (by omega)
      have d4 : decide (ae.length < be.length) = false := decide_eq_false (by omega)
      clear hre hc1 hc2 hRi hRe hai hRL
      replace heq := Lib.hid heq.out
      go_wp2_with fail
      go_ret
      exact ⟨rfl, hbw.out⟩
    ·
     have d1 : decide ((i : Int) < (ae.length : Int)) = false := decide_eq_false (by omega)
     have hre := hRe.out i (by omega) heq.out
     obtain rfl : R = decide (ae.length < be.length) := by rw [Bool.eq_iff_iff, decide_eq_true_eq]; exact hre
     have d4 : decide ((ae.length : Int) < (be.length : Int)) = decide (ae.length < be.length) := by rw [Bool.eq_iff_iff, decide_eq_true_eq, decide_eq_true_eq]; omega
     clear hre hc1 hc2 hRi hRe hai hRL
     replace heq := Lib.hid heq.out
     go_wp2_with fail
     go_ret
     first | exact ⟨rfl, hbw.out⟩ | exact ⟨by rw [d4], hbw.out⟩
  ·
   have f1 : (alife != blife) = true := bne_iff_ne.2 hlf
   have f2 : (alife == blife) = false := beq_false_of_ne hlf
   have f3 : decide (alife = blife) = false := decide_eq_false hlf
   obtain rfl : R = decide (alife > blife) := by rw [Bool.eq_iff_iff, decide_eq_true_eq, hai]; omega
   replace hcc := Lib.hid hcc
   replace hlf := Lib.hid hlf
   clear hai hc1 hc2
   go_enter Tryz.func52, Tryz.ntmps52
   go_upto_region 1 with fail
   rw [← hW]
   clear hW
   go_wp2_with fail
   go_ret
   exact ⟨rfl, hbW.out⟩
 ·
  have e1 : (acost != bcost) = true := bne_iff_ne.2 hcc
  have e2 : (acost == bcost) = false := beq_false_of_ne hcc
  have e3 : decide (acost = bcost) = false := decide_eq_false hcc
  obtain rfl : R = decide (acost < bcost) := by rw [Bool.eq_iff_iff, decide_eq_true_eq, hai]; omega
  replace hcc := Lib.hid hcc
  clear hai hc1 hc2
  go_enter Tryz.func52, Tryz.ntmps52
  go_upto_region 1 with fail
  rw [← hW]
  clear hW
  go_wp2_with fail
  go_ret
  exact ⟨rfl, hbW.out⟩
end Go.Proofs.YtpeandbcdaikbaaGreatDoor
namespace Go.Proofs.YtpeandbcdaikbaaGreatDoor
open Go.RowKit Go.Shelf Go.Maps

/-- The routes of the ways that begin with some edges, and have at most h further ones. -/
def waysP (l : List Edg) (life : List Int) (f d : Int) (h : Nat) (es : List Int) : List Rou := match onsP l d (beginP f) es with
 | some w => fromP l life d h w
 | none => []
def lastP (l : List Edg) (f : Int) (es : List Int) : Int := if es = [] then f else l[(es.getLastD 0).toNat]!.does.to
def waysTo (l : List Edg) (life : List Int) (f d : Int) (h : Nat) (es : List Int) (i : Nat) : List Rou :=
 (ofP l life f d es).toList ++ (List.range i).flatMap fun (j : Nat) => if l[j]!.does.frm = lastP l f es then waysP l life f d h (es ++ [(j : Int)]) else []
theorem last_begin {l : List Edg} {d f : Int} {es : List Int} {w : Way} (h : onsP l d (beginP f) es = some w) : w.last = lastP l f es := by
 obtain ⟨_, h2, _⟩ := ons_facts es h
 unfold Way.last lastP
 rw [h2]
 exact last_of (fun e => l[e.toNat]!.does.to) f es
theorem ways_zero {l : List Edg} (hv : validE l = true) (life : List Int) (f d : Int) (es : List Int) : waysP l life f d 0 es = (ofP l life f d es).toList := by
 unfold waysP ofP
 rw [if_pos hv]
 cases onsP l d (beginP f) es with
 | none => rfl
 | some w => rfl
theorem ways_step {l : List Edg} (hv : validE l = true) (life : List Int) (f d : Int) (h : Nat) (es : List Int) : waysP l life f d (h + 1) es = waysTo l life f d h es l.length := by
 unfold waysTo
 have hw : ∀ j : Nat, waysP l life f d h (es ++ [(j : Int)]) = match (onsP l d (beginP f) es).bind fun w => onP l d w (j : Int) with
   | some n => fromP l life d h n
   | none => [] := fun j => by
  unfold waysP
  rw [ons_app]
  cases onsP l d (beginP f) es with
  | none => rfl
  | some w =>
   show (match onsP l d w [(j : Int)] with | some w => fromP l life d h w | none => []) = (match onP l d w (j : Int) with | some n => fromP l life d h n | none => [])
   rw [onsP]
   cases onP l d w (j : Int) with
   | none => rfl
   | some n => rfl
 simp only [hw]
 unfold waysP ofP
 rw [if_pos hv]
 cases ho : onsP l d (beginP f) es with
 | none =>
  show [] = (none : Option Rou).toList ++ _
  rw [Option.toList_none, List.nil_append]
  refine (List.flatMap_eq_nil_iff.2 fun j _ => ?_).symm
  split <;> rfl
 | some w =>
  show fromP l life d (h + 1) w = _
  rw [fromP]
  show _ = (arrivedP life d w).toList ++ _
  congr 1
  unfold List.flatMap
  congr 1
  refine List.map_congr_left fun j _ => ?_
  rw [← last_begin ho]
  show _ = if _ then (match onP l d w (j : Int) with | some n => fromP l life d h n | none => []) else []
  by_cases hf : l[j]!.does.frm = w.last
  ·
   rw [if_pos hf]
   rfl
  ·
   rw [if_neg hf]
   cases hon : onP l d w (j : Int) with
   | none => rfl
   | some n =>
    have := (on_some.1 hon).1.2.2.2.1
    rw [Int.toNat_natCast] at this
    exact absurd this hf
theorem ways_len {l : List Edg} (hv : validE l = true) (life : List Int) (f d : Int) {h : Nat} (hh : h ≤ 6) (es : List Int) : (waysP l life f d h es).length ≤ 5000000000 := by
 unfold waysP
 cases onsP l d (beginP f) es with
 | none => exact Nat.zero_le _
 | some w =>
  have h1 := from_len (life := life) (day := d) (validE_parts hv).1 h w
  have h2 := ways_mono hh
  have h3 : waysN 6 ≤ 5000000000 := by decide
  show (fromP l life d h w).length ≤ _
  omega
theorem waysTo_succ (l : List Edg) (life : List Int) (f d : Int) (h : Nat) (es : List Int) (i : Nat) : waysTo l life f d h es (i + 1) = waysTo l life f d h es i ++ if l[i]!.does.frm = lastP l f es then waysP l life f d h (es ++ [(i : Int)]) else [] := by
 unfold waysTo
 rw [List.range_succ, List.flatMap_append, List.flatMap_cons, List.flatMap_nil, List.append_nil, List.append_assoc]
theorem waysTo_mono (l : List Edg) (life : List Int) (f d : Int) (h : Nat) (es : List Int) : ∀ k i, (waysTo l life f d h es i).length ≤ (waysTo l life f d h es (i + k)).length
 | 0, _ => Nat.le_refl _
 | k + 1, i => by
  have h1 := waysTo_mono l life f d h es k i
  have h2 := congrArg List.length (waysTo_succ l life f d h es (i + k))
  rw [List.length_append] at h2
  rw [← Nat.add_assoc]
  omega
theorem waysTo_len {l : List Edg} (hv : validE l = true) (life : List Int) (f d : Int) {h : Nat} (hh : h + 1 ≤ 6) (es : List Int) {i : Nat} (hi : i ≤ l.length) : (waysTo l life f d h es i).length ≤ 5000000000 := by
 have h1 := waysTo_mono l life f d h es (l.length - i) i
 rw [Nat.add_sub_cancel' hi, ← ways_step hv] at h1
 have := ways_len hv life f d hh es
 omega
theorem all_ways (l : List Edg) (life : List Int) (f d hops : Int) : allP l life f d hops = waysP l life f d (min hops 6).toNat [] := rfl
end Go.Proofs.YtpeandbcdaikbaaGreatDoor
namespace Go.Proofs.YtpeandbcdaikbaaGreatDoor
open Go.RowKit Go.Shelf Go.Maps

attribute [local go_sem] Oper.semAt_some

theorem rouCells_app (l m : List RouM) : rouCells (l ++ m) = rouCells l ++ rouCells m := by simp [rouCells]
theorem rouCells_one {zs : List RouM} {w : World} (h : ∀ z ∈ zs, OkR z w) : ∀ u ∈ rouCells zs, u.oneCell' = true := fun u hu => by
 obtain ⟨z, hz, hu⟩ := List.mem_flatMap.1 hu
 exact (h z hz).one u hu
/-- Routes that the call has collected. -/
structure RouI (w wr : World) (ov : Value) (zs : List RouM) (R : List Rou) : Prop where
 eq : zs.map RouM.r = R
 own : wr.ownsRow w.heap.size 33 4 ov zs.length (rouCells zs)
 ok : ∀ z ∈ zs, OkR z wr
 below : Below w.heap.size w wr
theorem RouI.nil (w wr : World) (hb : Below w.heap.size w wr) : RouI w wr (.slice none 0 0) [] [] := ⟨rfl, World.ownsRow_nil _ _ _ _, fun z hz => (by cases hz), hb⟩
theorem RouI.later {w wr wn : World} {ov : Value} {zs : List RouM} {R : List Rou} (h : RouI w wr ov zs R) (hb : Below wr.heap.size wr wn) : RouI w wn ov zs R :=
 ⟨h.eq, own_below h.own hb, fun z hz => (h.ok z hz).below hb, h.below.trans (hb.mono h.below.size)⟩
theorem RouI.add {w wr wn : World} {ov ov' : Value} {zs zs' : List RouM} {R R' : List Rou} (h : RouI w wr ov zs R) (h' : zs'.map RouM.r = R') (hok : ∀ z ∈ zs', OkR z wr)
  (hown : wn.ownsRow w.heap.size 33 4 ov' (zs.length + zs'.length) (rouCells zs ++ rouCells zs')) (hg : wr.grownBy wn ov.ownBlock) : RouI w wn ov' (zs ++ zs') (R ++ R') := by
 have hk : KeepTy RX wr wn := KeepTy.grown h.own hg (by decide)
 refine ⟨by rw [List.map_append, h.eq, h'], by rw [List.length_append, rouCells_app]; exact hown, fun z hz => ?_, h.below.grown hg h.below.size (fun g hq => (own_block h.own hq).2.1)⟩
 rcases List.mem_append.1 hz with hz | hz
 ·
  exact (h.ok z hz).keepTy hk
 ·
  exact (hok z hz).keepTy hk
theorem RouI.len {w wr : World} {ov : Value} {zs : List RouM} {R : List Rou} (h : RouI w wr ov zs R) : zs.length = R.length := by rw [← h.eq, List.length_map]
theorem lastP_snoc (l : List Edg) (f : Int) {es : List Int} (h : es ≠ []) : lastP l f es = l[(es[es.length - 1]!).toNat]!.does.to := by
 unfold lastP
 rw [if_neg h]
 congr 3
 rw [List.getLastD_eq_getLast?, List.getLast?_eq_getElem?]
 have : es.length - 1 < es.length := by have := List.length_pos_iff.2 h; omega
 rw [List.getElem?_eq_getElem this, getElem!_pos es _ this]
 rfl
def WaysC (l : List Edg) (life : List Int) (f d : Int) (hops h : Nat) : Prop := ∀ (es : List Int) (ev lv xv : Value) (w : World), hops = es.length + h → (∀ e ∈ es, 0 ≤ e ∧ e < (l.length : Int)) → EdgesAt w w.heap.size ev l → NumsAt w w.heap.size lv life → NumsAt w w.heap.size xv es →
  Calls Tryz.prog 82 #[ev, lv, .int .i64 f, .int .i64 d, .int .i64 (hops : Int), xv] w fun e w' => ∃ ov zs, e = .returned ov ∧ RouI w w' ov zs (waysP l life f d h es)
set_option maxRecDepth 100000 in
set_option maxHeartbeats 16000000 in
theorem ways_body (l : List Edg) (hv : validE l = true) (life : List Int) (f d : Int) (hops : Nat) (hh6 : hops ≤ 6) (h : Nat) (IH : ∀ h', h = h' + 1 → WaysC l life f d hops h') : WaysC l life f d hops h := by
 intro es ev lv xv w hlen hin hE hL hx
 replace hlen := Lib.hid hlen
 obtain ⟨i0, hi_, hz0, hz1, hz2⟩ := info_parts Tryz.info_int
 obtain ⟨r0, hr_, hy0, hy1, hy2⟩ := info_parts Tryz.info_route
 replace hi_ := Lib.hid hi_
 replace hr_ := Lib.hid hr_
 have hof := Lib.hid (Of11_any l life f d es ev lv xv w hE hL hx)
 have hEw := Lib.hid fun W (hW : Below w.heap.size w W) => hE.later hW
 have hLw := Lib.hid fun W (hW : Below w.heap.size w W) => NumsAt.later hL hW
 have hxw := Lib.hid fun W (hW : Below w.heap.size w W) => NumsAt.later hx hW
 have hcell := Lib.hid fun i (hi : i < l.length) => EdgesAt.cells hE hi
 have hnum := Lib.hid fun i (hi : i < es.length) => NumsAt.cells hx hi
 obtain ⟨_, _, ⟨pa, pc, rfl, _, hpm, _⟩, _⟩ := hE
 obtain ⟨la, lc, rfl, _, _, _⟩ := hL
 obtain ⟨xa, xc, rfl, _, hem, _⟩ := hx
 have hl40 := (validE_parts hv).1
 replace IH := Lib.hid IH
 replace hv := Lib.hid hv
 replace hin := Lib.hid hin
 obtain ⟨o, ho⟩ : ∃ o, ofP l life f d es = o := ⟨_, rfl⟩
 rw [ho] at hof
 go_enter Tryz.func82, Tryz.ntmps82
 go_wp2_with fail
 refine hof.out.mono ?_
 clear hof
 rintro e w1 ⟨ea, ec, ca, cc, r, rfl, hr, hok, hb1⟩
 obtain ⟨w2, hw2⟩ : ∃ w2, w2 = w1.alloc (.cells #[.slice ea r.edges.length ec, .int .i64 r.cost, .int .i64 r.life, .slice ca r.claims.length cc] 33) := ⟨_, rfl⟩
 have hB2 : Arr w2 w1.heap.size 33 [.slice ea r.edges.length ec, .int .i64 r.cost, .int .i64 r.life, .slice ca r.claims.length cc] := by rw [hw2]; exact Arr.new rfl rfl
 have hb2 : Below w1.heap.size w1 w2 := by rw [hw2]; exact lit_below _ _
 have hok2 := Lib.hid (hok.below hb2)
 have hbw2 := Lib.hid (hb1.trans (hb2.mono hb1.size))
 replace hB2 := Lib.hid hB2
 replace hr := Lib.hid hr
 replace ho := Lib.hid ho
 go_upto_region 3 with fail
 rw [← hw2]
 clear hw2 hb1 hb2 hok
 go_upto_if 28 with fail
 go_cut [13] from 29 (fun ov wx => ∃ zs, Hid (RouI w wx ov zs o.toList))
 case first =>
  cases o with
  | none =>
   have es_ : ofE none = 110 := rfl
   rw [es_]
   clear es_
   have hI : Hid (RouI w w2 (.slice none 0 0) [] (none : Option Rou).toList) := RouI.nil w w2 hbw2.out
   go_wp2_with fail
   go_meet
   exact ⟨[], hI⟩
  | some rr =>
   have es_ : ofE (some rr) = 0 := rfl
   rw [es_]
   clear es_
   obtain rfl : r = rr := hr.out
   have x0 := hB2.out.cell (j := 0) rfl
   have x1 := hB2.out.cell (j := 1) rfl
   have x2 := hB2.out.cell (j := 2) rfl
   have x3 := hB2.out.cell (j := 3) rfl
   have hba := lit_below w2 (.cells #[.slice ea r.edges.length ec, .int .i64 r.cost, .int .i64 r.life, .slice ca r.claims.length cc] 33)
   have hnews : ∀ q y, [Value.slice ea r.edges.length ec, .int .i64 r.cost, .int .i64 r.life, .slice ca r.claims.length cc][q]? = some y → (w2.alloc (.cells #[.slice ea r.edges.length ec, .int .i64 r.cost, .int .i64 r.life, .slice ca r.claims.length cc] 33)).cell? ((⟨w2.heap.size, 0, none⟩ : Addr).add q) = some y := fun q y hy => cells_new w2 [Value.slice ea r.edges.length ec, .int .i64 r.cost, .int .i64 r.life, .slice ca r.claims.length cc] 33 q y hy
   have hI := Lib.hid ((RouI.nil w w2 hbw2.out).later hba)
   have hz := Lib.hid (hok2.out.below hba)
   have hsz : Hid (w.heap.size ≤ w2.heap.size) := hbw2.out.size
   clear hba
   go_wp2_with (at_builtin; refine wpList_append_own _ rfl _ _ 48 rfl w.heap.size 33 r0 (.agg #[.slice none 0 0, .int .i64 0, .int .i64 0, .slice none 0 0]) 4 64 Tryz.underlying48 hr_.out hy0 hy1 hy2 rfl (by decide) _ 0 _ rfl hI.out.own ⟨w2.heap.size, 0, none⟩ 1 1 [.slice ea r.edges.length ec, .int .i64 r.cost, .int .i64 r.life, .slice ca r.claims.length cc] rfl rfl hnews (by simp [Value.oneCell']) ?qa ?qb ?qc ?_)
   case qa => unfold maxLen; omega
   case qb => omega
   case qc => have := hsz.out; (try simp only [World.size_alloc]); omega
   intro v2 w3 hown4 hgrow hnil
   have hI3 : Hid (RouI w w3 v2 ([] ++ [⟨r, .slice ea r.edges.length ec, .slice ca r.claims.length cc⟩]) ([] ++ [r])) := hI.out.add (zs' := [⟨r, .slice ea r.edges.length ec, .slice ca r.claims.length cc⟩]) rfl (fun z hz' => by rw [List.mem_singleton.1 hz']; exact hz.out) hown4 hgrow
   clear hI hz hown4 hgrow hnil hnews hsz x0 x1 x2 x3
   go_wp2_with fail
   go_meet
   exact ⟨_, hI3⟩
 case rest =>
  obtain ⟨zs0, hI0⟩ := hcut
  clear hB2 hok2 hbw2 hr
  obtain ⟨wk, hwk⟩ : ∃ wk, wk = wc := ⟨_, rfl⟩
  subst hwk
  cases h with
  | zero =>
   have hz := ways_zero hv.out life f d es
   rw [ho.out] at hz
   replace hz := Lib.hid hz
   have d2 : decide ((es.length : Int) < (hops : Int)) = false := decide_eq_false (by have := hlen.out; omega)
   have d3 : decide (es.length < hops) = false := decide_eq_false (by have := hlen.out; omega)
   have hst : Hid (∃ zs, RouI w wk u13 zs o.toList) := ⟨zs0, hI0.out⟩
   go_wp2_with fail
   go_loopw [13, 16] (fun ov iv wr => iv = .int .i64 0 ∧ Hid (∃ zs, RouI w wr ov zs o.toList)) (fun _ _ _ => 0)
   case atStart => exact ⟨rfl, hst⟩
   case round =>
    obtain ⟨rfl, hI⟩ := hrel
    clear hst
    by_cases hl0 : 0 < l.length
    ·
     have d1 : decide ((0 : Int) < (l.length : Int)) = true := decide_eq_true (by omega)
     have d1b : decide (0 < l.length) = true := decide_eq_true hl0
     replace hl0 := Lib.hid hl0
     go_wp2_with fail
     go_ret
     obtain ⟨zs, hI⟩ := hI.out
     exact ⟨_, zs, rfl, by rw [hz.out]; exact hI⟩
    ·
     have d1 : decide ((0 : Int) < (l.length : Int)) = false := decide_eq_false (by omega)
     have d1b : decide (0 < l.length) = false := decide_eq_false hl0
     replace hl0 := Lib.hid hl0
     go_wp2_with fail
     go_ret
     obtain ⟨zs, hI⟩ := hI.out
     exact ⟨_, zs, rfl, by rw [hz.out]; exact hI⟩
  | succ h =>
   have hz := ways_step hv.out life f d h es
   replace hz := Lib.hid hz
   have d2 : decide ((es.length : Int) < (hops : Int)) = true := decide_eq_true (by have := hlen.out; omega)
   have d3 : decide (es.length < hops) = true := decide_eq_true (by have := hlen.out; omega)
   have ih := Lib.hid (IH.out h rfl)
   have hst : Hid (∃ zs, RouI w wk u13 zs (waysTo l life f d h es 0)) := ⟨zs0, by unfold waysTo; rw [ho.out]; simpa using hI0.out⟩
   have hsuc := Lib.hid fun i => waysTo_succ l life f d h es i
   have hwl := Lib.hid fun i (hi : i ≤ l.length) => waysTo_len hv.out life f d (h := h) (by have := hlen.out; omega) es hi
   have hwp := Lib.hid fun es => ways_len hv.out life f d (h := h) (by have := hlen.out; omega) es
   have hlast := Lib.hid fun hne => lastP_snoc l f (es := es) hne
   have hlast0 : Hid (es = [] → lastP l f es = f) := fun e => by unfold lastP; rw [if_pos e]
   have hes6 : Hid (es.length ≤ 6) := (show es.length ≤ 6 by have := hlen.out; omega)
   clear hI0 IH
   go_wp2_with fail
   go_loopw [13, 16] (fun ov iv wr => ∃ i : Nat, i ≤ l.length ∧ iv = .int .i64 (i : Int) ∧ Hid (∃ zs, RouI w wr ov zs (waysTo l life f d h es i))) (fun _ iv _ => l.length - (intOf iv).toNat)
   case atStart => exact ⟨0, Nat.zero_le _, rfl, hst⟩
   case round =>
    obtain ⟨wo, hwo⟩ : ∃ wo, wo = wr := ⟨_, rfl⟩
    subst hwo
    obtain ⟨i, hi, rfl, hall⟩ := hrel
    clear hst
    obtain ⟨zs, hI⟩ := hall.out
    clear hall
    obtain ⟨ox, on, oc, rfl⟩ : ∃ x n c, u13 = .slice x n c := by
     obtain ⟨x, c, e⟩ := own_val hI.own
     exact ⟨x, _, c, e⟩
    have hbo := hI.below
    by_cases hlt : i < l.length
    ·
     have d1 : decide ((i : Int) < (l.length : Int)) = true := decide_eq_true (by omega)
     have hw1 : IntKind.i64.wrap ((i : Int) + 1) = (i : Int) + 1 := IntWalk.i64_in _ (by omega)
     have k0 : (0 : Int) ≤ (i : Int) := by omega
     have k1 : (i : Int) < (l.length : Int) := by omega
     have hs1 := hsuc.out i
     obtain ⟨b1, o1, cp1, u1, hv1, hbl1, _, _, _, z3, _, _, _, _⟩ := hcell.out i hlt
     cases hv1
     replace z3 : wo.cell? ⟨b1, o1 + i * 7 + 2 + 1, none⟩ = some (.int .i64 l[i]!.does.frm) := (hbo.cell (p := ⟨b1, o1 + i * 7 + 3, none⟩) hbl1).trans z3
     generalize l[i]!.does.frm = fi at *
     generalize hLP : lastP l f es = LP at *
     replace hLP := Lib.hid hLP
     replace hI := Lib.hid hI
     replace hs1 := Lib.hid hs1
     have hbo' := Lib.hid hbo
     clear hbo
     go_upto_if 48 with fail
     go_cut [17] from 33 to 81 (fun v wx => v = .int .i64 LP ∧ wx = wo)
     case first =>
      by_cases he : es = []
      ·
       have h0 : es.length = 0 := by rw [he]; rfl
       have e1 : decide ((es.length : Int) > 0) = false := decide_eq_false (by omega)
       have e2 : decide ((0 : Int) < (es.length : Int)) = false := decide_eq_false (by omega)
       have e3 : decide (0 < es.length) = false := decide_eq_false (by omega)
       have hq := hlast0.out he
       replace he := Lib.hid he
       replace h0 := Lib.hid h0
       replace hq := Lib.hid hq
       rw [e3]
       go_wp2_with fail
       go_meet
       exact ⟨by rw [← hq.out], rfl⟩
      ·
       have hpos : 0 < es.length := List.length_pos_iff.2 he
       have e1 : decide ((es.length : Int) > 0) = true := decide_eq_true (by omega)
       have e2 : decide ((0 : Int) < (es.length : Int)) = true := decide_eq_true (by omega)
       have e3 : decide (0 < es.length) = true := decide_eq_true hpos
       have hq := hlast.out he
       obtain ⟨n, hn⟩ : ∃ n, es.length = n + 1 := ⟨es.length - 1, by omega⟩
       rw [show es.length - 1 = n by omega] at hq
       have hw2 : IntKind.i64.wrap ((es.length : Int) - 1) = (n : Int) := by rw [show (es.length : Int) - 1 = (n : Int) by omega]; exact IntWalk.i64_in _ (by have := hes6.out; omega)
       have q0 : (0 : Int) ≤ (n : Int) := by omega
       have q1 : (n : Int) < (es.length : Int) := by omega
       obtain ⟨b2, o2, c2, hq2, hl2, x2⟩ := hnum.out n (by omega)
       cases hq2
       replace x2 := (hbo'.out.cell (p := ⟨b2, o2 + n, none⟩) hl2).trans x2
       have hme := hin.out es[n]! (by rw [getElem!_pos es n (by omega)]; exact List.getElem_mem (by omega))
       obtain ⟨k, hk⟩ : ∃ k : Nat, es[n]! = (k : Int) := ⟨(es[n]!).toNat, by omega⟩
       rw [hk] at hme hq x2
       rw [Int.toNat_natCast] at hq
       have hkl : k < l.length := by omega
       have q2 : (0 : Int) ≤ (k : Int) := by omega
       have q3 : (k : Int) < (l.length : Int) := by omega
       obtain ⟨b3, o3, cp3, u3, hv3, hbl3, _, _, _, _, z4, _, _, _⟩ := hcell.out k hkl
       cases hv3
       replace z4 : wo.cell? ⟨b1, o1 + k * 7 + 2 + 2, none⟩ = some (.int .i64 l[k]!.does.to) := (hbo'.out.cell (p := ⟨b1, o1 + k * 7 + 4, none⟩) hbl3).trans z4
       rw [← hq] at z4
       replace he := Lib.hid he
       replace hn := Lib.hid hn
       replace hk := Lib.hid hk
       replace hq := Lib.hid hq
       rw [e3]
       clear hpos e2 e3
       go_wp2_with fail
       go_meet
       exact ⟨rfl, rfl⟩
     case rest =>
      obtain ⟨rfl, rfl⟩ := hcut
      by_cases hf : fi = LP
      ·
       have f1 : (fi == LP) = true := by rw [hf]; exact beq_self_eq_true _
       have f2 : decide (fi = LP) = true := decide_eq_true hf
       have hs2 := hs1.out
       rw [if_pos hf] at hs2
       replace hs1 := Lib.hid hs2
       clear hs2
       replace hf := Lib.hid hf
       have hbe := lit_below wc (.cells #[] 3)
       have hsrc : Hid (SliceAt (wc.alloc (.cells #[] 3)) (wc.alloc (.cells #[] 3)).heap.size (.slice xa es.length xc) es.length (ints es)) := SliceAt.later (hxw.out wc hbo'.out) hbe
       have hone := Lib.hid (ints_one es)
       have hil : Hid ((ints es).length = es.length * 1) := (show (ints es).length = es.length * 1 by rw [ints_len]; omega)
       replace hbe := Lib.hid hbe
       go_wp2_with (at_builtin; refine wpList_append_src rfl _ _ 23 rfl wc.heap.size 3 i0 (.int .i64 0) 1 8 Tryz.underlying23 hi_.out hz0 hz1 hz2 rfl (by decide) _ _ _ rfl (World.ownsRow_made wc #[] 0 (Nat.le_refl _) (Nat.zero_le _) (by simp)) _ es.length _ (ints es) rfl hsrc.out hil.out hone.out ?qa ?qb ?qc ?_)
       case qa => have := hes6.out; unfold maxLen; omega
       case qb => have := hes6.out; omega
       all_goals (try (case qc => simp))
       intro yv w4 hown hgrow
       replace hown : w4.ownsRow wc.heap.size 3 1 yv es.length (ints es) := by simpa using hown
       have hb4 : Below wc.heap.size wc w4 := hbe.out.grown hgrow (by simp) (by intro k hk; simp [Value.ownBlock] at hk; omega)
       have hba := lit_below w4 (.cells #[.int .i64 (i : Int)] 3)
       have hown2 := Lib.hid (own_below hown hba)
       have hb5 := Lib.hid (hb4.trans (hba.mono hb4.size))
       have hnews : ∀ q y, [Value.int .i64 (i : Int)][q]? = some y → (w4.alloc (.cells #[.int .i64 (i : Int)] 3)).cell? ((⟨w4.heap.size, 0, none⟩ : Addr).add q) = some y := fun q y hy => cells_new w4 [.int .i64 (i : Int)] 3 q y hy
       have hsz : Hid (wc.heap.size ≤ w4.heap.size) := hb4.size
       clear hown hgrow hsrc hone hil hbe hb4 hba
       go_wp2_with (at_builtin; refine wpList_append_own _ rfl _ _ 23 rfl wc.heap.size 3 i0 (.int .i64 0) 1 8 Tryz.underlying23 hi_.out hz0 hz1 hz2 rfl (by decide) _ es.length _ rfl hown2.out ⟨w4.heap.size, 0, none⟩ 1 1 [.int .i64 (i : Int)] rfl rfl hnews (by simp [Value.oneCell']) ?qa ?qb ?qc ?_)
       case qa => have := hes6.out; unfold maxLen; omega
       case qb => have := hes6.out; omega
       case qc => have := hsz.out; (try simp only [World.size_alloc]); omega
       intro y2 w6 hown4 hgrow hnil
       have hb6 := hb5.out.grown hgrow hb5.out.size (fun g hg => (own_block hown2.out hg).2.1)
       have hN6 : NumsT w6 y2 (es ++ [(i : Int)]) := by
        have := RowT.of_own hown4
        unfold NumsT
        rw [List.length_append, List.map_append]
        exact this
       obtain ⟨yx, yc, rfl⟩ := own_val hown4
       have hbw6 := hbo'.out.trans (hb6.mono hbo'.out.size)
       have hcall := Lib.hid (ih.out (es ++ [(i : Int)]) _ _ _ w6 (by have := hlen.out; rw [List.length_append]; simp; omega) (fun e he => by
        rcases List.mem_append.1 he with he | he
        ·
         exact hin.out e he
        ·
         rw [List.mem_singleton.1 he]; exact ⟨k0, k1⟩) (hEw.out w6 hbw6) (hLw.out w6 hbw6) hN6.at)
       have hI6 := Lib.hid (hI.out.later hb6)
       clear hown2 hown4 hgrow hnil hnews hsz hb5 hb6 hN6 hbw6
       go_wp2_with fail
       refine hcall.out.mono ?_
       clear hcall
       rintro e w7 ⟨ov2, zs2, rfl, hI7⟩
       have hO7 := hI6.out.later hI7.below
       have hsrc : Hid (SliceAt w7 w7.heap.size ov2 zs2.length (rouCells zs2)) := sliceAt_of_own hI7.own
       have hone : Hid (∀ u ∈ rouCells zs2, u.oneCell' = true) := rouCells_one hI7.ok
       have hrl : Hid ((rouCells zs2).length = zs2.length * 4) := rouCells_len zs2
       have n1 : zs.length ≤ 5000000000 := by rw [hO7.len]; exact hwl.out i hi
       have n2 : zs2.length ≤ 5000000000 := by rw [hI7.len]; exact hwp.out _
       obtain ⟨tx, tc, rfl⟩ := own_val hI7.own
       have hon : on = zs.length := by
        obtain ⟨_, _, hon⟩ := own_val hO7.own
        injection hon
       subst hon
       have hsz : Hid (w.heap.size ≤ w7.heap.size) := hO7.below.size
       have hok7 := Lib.hid hI7.ok
       have heq7 := Lib.hid hI7.eq
       replace hO7 := Lib.hid hO7
       clear hI7 hI6
       go_wp2_with (at_builtin; go_loud (refine wpList_append_src rfl _ _ 48 rfl w.heap.size 33 r0 (.agg #[.slice none 0 0, .int .i64 0, .int .i64 0, .slice none 0 0]) 4 64 Tryz.underlying48 hr_.out hy0 hy1 hy2 rfl (by decide) _ zs.length _ rfl hO7.out.own _ zs2.length _ (rouCells zs2) rfl hsrc.out hrl.out hone.out ?qa ?qb ?qc ?_))
       case qa => unfold maxLen; omega
       case qb => omega
       case qc => exact hsz.out
       intro v8 w8 hown8 hgrow8
       have hn : Hid (∃ zs, RouI w w8 v8 zs (waysTo l life f d h es (i + 1))) := ⟨_, by rw [hs1.out]; exact hO7.out.add heq7.out hok7.out hown8 hgrow8⟩
       clear hown8 hgrow8 hsrc hone hrl hO7
       go_wp2_with fail
       exact ⟨⟨i + 1, by omega, rfl, hn⟩, by simp [intOf]; omega⟩
      ·
       have f1 : (fi == LP) = false := beq_false_of_ne hf
       have f2 : decide (fi = LP) = false := decide_eq_false hf
       have hs2 := hs1.out
       rw [if_neg hf, List.append_nil] at hs2
       have hn : Hid (∃ zs, RouI w wc (.slice ox on oc) zs (waysTo l life f d h es (i + 1))) := ⟨zs, by rw [hs2]; exact hI.out⟩
       replace hf := Lib.hid hf
       replace hs2 := Lib.hid hs2
       go_wp2_with fail
       exact ⟨⟨i + 1, by omega, rfl, hn⟩, by simp [intOf]; omega⟩
    ·
     have d1 : decide ((i : Int) < (l.length : Int)) = false := decide_eq_false (by omega)
     obtain rfl : i = l.length := by omega
     replace hI := Lib.hid hI
     clear hbo
     go_wp2_with fail
     go_ret
     exact ⟨_, zs, rfl, by rw [hz.out]; exact hI.out⟩
theorem ways_any (l : List Edg) (hv : validE l = true) (life : List Int) (f d : Int) (hops : Nat) (hh6 : hops ≤ 6) : ∀ h, WaysC l life f d hops h
 | 0 => ways_body l hv life f d hops hh6 0 (fun h' e => by omega)
 | h + 1 => ways_body l hv life f d hops hh6 (h + 1) (fun h' e => by
   obtain rfl : h' = h := by omega
   exact ways_any l hv life f d hops hh6 h')
end Go.Proofs.YtpeandbcdaikbaaGreatDoor
