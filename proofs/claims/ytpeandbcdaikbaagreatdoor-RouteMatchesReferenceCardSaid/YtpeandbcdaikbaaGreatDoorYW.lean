/-
 Routes of chapter 11: the reference's SameClaims.
 Routes of chapter 11: the reference's Same (routes).
 Routes of chapter 11: what the laws ask of Best's list (plain), and Best, Better and Same in the shape that the laws' walks want.
-/
import Derived.Test.YtpeandbcdaikbaaGreatDoorYV
open List (setIfInBounds_toArray set_cons_zero set_cons_succ)
namespace Go.Proofs.YtpeandbcdaikbaaGreatDoor
open Go.RowKit Go.Shelf Go.Maps

attribute [local go_sem] Oper.semAt_some

set_option maxRecDepth 100000 in
set_option maxHeartbeats 4000000 in
theorem SameC_any (v u : Value) (l m : Clms) (w : World) (hv : ClaimsAt w w.heap.size v l) (hu : ClaimsAt w w.heap.size u m) :
  Calls Tryz.prog 30 #[v, u] w fun e w' => e = .returned (.bool (decide (l = m))) ∧ Below w.heap.size w w' := by
 have hc1 := Lib.hid fun i (hi : i < l.length) => ClaimsAt.cells hv hi
 have hc2 := Lib.hid fun i (hi : i < m.length) => ClaimsAt.cells hu hi
 obtain ⟨_, _, ⟨va, vc, rfl, _, hvm, _⟩, _⟩ := hv
 obtain ⟨_, _, ⟨ua, uc, rfl, _, hum, _⟩, _⟩ := hu
 obtain ⟨R, hR⟩ : ∃ R, decide (l = m) = R := ⟨_, rfl⟩
 rw [hR]
 replace hR := Lib.hid hR
 by_cases hl : l.length = m.length
 ·
  have hd : ((l.length : Int) == (m.length : Int)) = true := by rw [hl]; simp
  go_enter Tryz.func30, Tryz.ntmps30
  rw [← hl]
  rw [← hl] at hc2
  replace hl := Lib.hid hl
  have hbw := Lib.hid (Below.refl w.heap.size w)
  have hst : Hid (∀ j, j < 0 → l[j]! = m[j]!) := fun j hj => absurd hj (Nat.not_lt_zero j)
  go_wp2_with fail
  go_loopw [5] (fun iv wr => ∃ i : Nat, i ≤ l.length ∧ iv = .int .i64 (i : Int) ∧ Hid (∀ j, j < i → l[j]! = m[j]!) ∧ Hid (Below w.heap.size w wr)) (fun iv _ => l.length - (intOf iv).toNat)
  case atStart => exact ⟨0, Nat.zero_le _, rfl, hst, hbw⟩
  case round =>
   obtain ⟨i, hi, rfl, heq, hb⟩ := hrel
   clear hst hbw
   by_cases hlt : i < l.length
   ·
    have hyes : decide ((i : Int) < (l.length : Int)) = true := decide_eq_true (by omega)
    have hw1 : IntKind.i64.wrap ((i : Int) + 1) = (i : Int) + 1 := IntWalk.i64_in _ (by unfold maxLen at hvm; omega)
    have k0 : (0 : Int) ≤ (i : Int) := by omega
    have k1 : (i : Int) < (l.length : Int) := by omega
    obtain ⟨b1, o1, c1, u1, q1, l1, x1, x2, s1⟩ := hc1.out i hlt
    obtain ⟨b2, o2, c2, u2, q2, l2, y1, y2, s2⟩ := hc2.out i (by have := hl.out; omega)
    cases q1
    cases q2
    generalize hx : l[i]! = x at *
    generalize hy : m[i]! = y at *
    obtain ⟨xk, xs⟩ := x
    obtain ⟨yk, ys⟩ := y
    dsimp only at x1 x2 y1 y2 s1 s2
    obtain ⟨sa, sc, rfl⟩ := s1.shaped
    obtain ⟨ta, tc, rfl⟩ := s2.shaped
    have hbd := hb.out.drew
    have X2 := (hbd.cell (p := ⟨b1, o1 + i * 2 + 1, none⟩) l1).trans x2
    have Y2 := (hbd.cell (p := ⟨b2, o2 + i * 2 + 1, none⟩) l2).trans y2
    have hsm := Lib.hid (Same7_any _ _ _ _ wr.drew (s1.later hbd) (s2.later hbd))
    clear hc1 hc2 x2 y2 s1 s2
    replace hx := Lib.hid hx
    replace hy := Lib.hid hy
    replace hb := Lib.hid hb.out
    replace hbd := Lib.hid hbd
    go_wp2_with fail
    refine wp_region_held_drew (S := fun w' => w'.cell? ⟨b1, o1 + i * 2 + 1, none⟩ = some (.slice sa xs.length sc) ∧ w'.cell? ⟨b2, o2 + i * 2 + 1, none⟩ = some (.slice ta ys.length tc)) (by kernel_rfl) (by exact ⟨X2, Y2⟩) (fun hHeld => ?_)
    refine tk 0 ?_ rfl ?_ ?_
    rotate_left
    ·
     intro w hSw; (try dsimp only at hSw); go_simp; (try with_reducible rfl)
    (try simp only [Act.put, setIfInBounds_toArray, set_cons_zero, set_cons_succ])
    refine tk 1 ?_ rfl ?_ ?_
    rotate_left
    ·
     intro w hSw; (try dsimp only at hSw); go_simp; (try with_reducible rfl)
    (try simp only [Act.put, setIfInBounds_toArray, set_cons_zero, set_cons_succ])
    refine tk 2 ?_ rfl ?_ ?_
    rotate_left
    ·
     intro w hSw; (try dsimp only at hSw); go_simp; (try with_reducible rfl)
    (try simp only [Act.put, setIfInBounds_toArray, set_cons_zero, set_cons_succ])
    refine tk 3 ?_ rfl ?_ ?_
    rotate_left
    ·
     intro w hSw; (try dsimp only at hSw); go_simp; (try with_reducible rfl)
    (try simp only [Act.put, setIfInBounds_toArray, set_cons_zero, set_cons_succ])
    refine tk 4 ?_ rfl ?_ ?_
    rotate_left
    ·
     intro w hSw; (try dsimp only at hSw); go_simp; (try with_reducible rfl)
    (try simp only [Act.put, setIfInBounds_toArray, set_cons_zero, set_cons_succ])
    refine tk 5 ?_ rfl ?_ ?_
    rotate_left
    ·
     intro w hSw; (try dsimp only at hSw); go_simp; (try with_reducible rfl)
    (try simp only [Act.put, setIfInBounds_toArray, set_cons_zero, set_cons_succ])
    refine tk 6 ?_ rfl ?_ ?_
    rotate_left
    ·
     intro w hSw; (try dsimp only at hSw); go_simp; (try with_reducible rfl)
    (try simp only [Act.put, setIfInBounds_toArray, set_cons_zero, set_cons_succ])
    refine tk 7 ?_ rfl ?_ ?_
    rotate_left
    ·
     intro w hSw; (try dsimp only at hSw); go_simp; (try with_reducible rfl)
    (try simp only [Act.put, setIfInBounds_toArray, set_cons_zero, set_cons_succ])
    refine tk 8 ?_ rfl ?_ ?_
    rotate_left
    ·
     intro w hSw; (try dsimp only at hSw); go_simp; (try with_reducible rfl)
    (try simp only [Act.put, setIfInBounds_toArray, set_cons_zero, set_cons_succ])
    refine tk 9 ?_ rfl ?_ ?_
    rotate_left
    ·
     intro w hSw; (try dsimp only at hSw); go_simp; (try with_reducible rfl)
    (try simp only [Act.put, setIfInBounds_toArray, set_cons_zero, set_cons_succ])
    refine wpAnyH_ready (rs := [10]) (by kernel_rfl) (by simp) ?_
    refine ready_l rfl (fun K hK => ?_) AllReadyH.nil
    go_simp
    refine hsm.out.mono ?_
    rintro e w11 ⟨rfl, hb11⟩
    refine hK.out _ _ (by exact ⟨(hb11.cell (p := ⟨b1, _, none⟩) (Nat.lt_of_lt_of_le l1 hbd.out.size)).trans X2, (hb11.cell (p := ⟨b2, _, none⟩) (Nat.lt_of_lt_of_le l2 hbd.out.size)).trans Y2⟩) (fun hHeld2 => ?_)
    clear hK K hHeld
    (try simp only [Act.put, setIfInBounds_toArray, set_cons_zero, set_cons_succ])
    refine tk 11 ?_ rfl ?_ ?_
    rotate_left
    ·
     intro w hSw; (try dsimp only at hSw); go_simp; (try with_reducible rfl)
    (try simp only [Act.put, setIfInBounds_toArray, set_cons_zero, set_cons_succ])
    refine wpAnyH_done (by kernel_rfl) ?_ _
    have hbn := Lib.hid (hbd.out.trans (hb11.mono hbd.out.size))
    replace x1 := (hbn.out.cell (p := ⟨b1, _, none⟩) l1).trans x1
    replace y1 := (hbn.out.cell (p := ⟨b2, _, none⟩) l2).trans y1
    have hsb : decide (xs = ys) = true ↔ xs = ys := decide_eq_true_iff
    generalize decide (xs = ys) = sb at *
    replace hsb := Lib.hid hsb
    clear hsm X2 Y2 hHeld2 hbd hb hb11
    have hout : Hid ((xk = yk ∧ sb = true) ↔ (xk, xs) = (yk, ys)) := ⟨fun h => by rw [h.1, hsb.out.1 h.2], fun h => by injection h with h1 h2; exact ⟨h1, hsb.out.2 h2⟩⟩
    clear hsb
    by_cases hp : xk = yk
    ·
     subst hp
     have e1 : (xk == xk) = true := beq_self_eq_true xk
     cases sb with
     | true =>
      have hn : Hid (∀ j, j < i + 1 → l[j]! = m[j]!) := fun j hj => by
       by_cases e : j = i
       ·
        subst e
        rw [hx.out, hy.out]
        exact hout.out.1 ⟨rfl, rfl⟩
       ·
        exact heq.out j (by omega)
      go_wp2_with fail
      go_quiet (fail)
      have hbq := Lib.hid (hbn.out.trans ((below_drewN (Below.refl w11.heap.size w11) nq).mono hbn.out.size))
      go_wp2_with fail
      exact ⟨⟨i + 1, by omega, rfl, hn, hbq⟩, by simp [intOf]; omega⟩
     | false =>
      obtain rfl : R = false := by
       rw [← hR.out]
       refine decide_eq_false fun e => ?_
       have : (xk, xs) = (xk, ys) := by rw [← hx.out, ← hy.out, e]
       exact Bool.false_ne_true (hout.out.2 this).2
      go_wp2_with fail
      go_quiet (fail)
      have hbq := Lib.hid (hbn.out.trans ((below_drewN (Below.refl w11.heap.size w11) nq).mono hbn.out.size))
      go_wp2_with fail
      go_ret
      exact ⟨rfl, hbq.out⟩
    ·
     have e1 : (xk == yk) = false := beq_false_of_ne hp
     have e3 : (xk != yk) = true := bne_iff_ne.2 hp
     have e2 : decide (xk = yk) = false := decide_eq_false hp
     obtain rfl : R = false := by
      rw [← hR.out]
      refine decide_eq_false fun e => ?_
      have : (xk, xs) = (yk, ys) := by rw [← hx.out, ← hy.out, e]
      exact hp (hout.out.2 this).1
     replace hp := Lib.hid hp
     go_wp2_with fail
     go_quiet (fail)
     have hbq := Lib.hid (hbn.out.trans ((below_drewN (Below.refl w11.heap.size w11) nq).mono hbn.out.size))
     go_wp2_with fail
     go_ret
     exact ⟨rfl, hbq.out⟩
   ·
    have hno : decide ((i : Int) < (l.length : Int)) = false := decide_eq_false (by omega)
    obtain rfl : i = l.length := by omega
    obtain rfl : R = true := by
     rw [← hR.out]
     refine decide_eq_true (List.ext_getElem hl.out fun j h1 h2 => ?_)
     have := heq.out j h1
     rwa [getElem!_pos l j h1, getElem!_pos m j h2] at this
    go_wp2_with fail
    go_ret
    exact ⟨rfl, hb.out⟩
 ·
  have hd : ((l.length : Int) == (m.length : Int)) = false := beq_false_of_ne (by omega)
  have hd2 : decide ((l.length : Int) = (m.length : Int)) = false := decide_eq_false (by omega)
  have hd3 : decide (l.length = m.length) = false := decide_eq_false hl
  obtain rfl : R = false := by
   rw [← hR.out]
   exact decide_eq_false fun e => hl (by rw [e])
  replace hl := Lib.hid hl
  go_enter Tryz.func30, Tryz.ntmps30
  go_wp2_with fail
  go_ret
  exact ⟨rfl, Below.refl _ _⟩
end Go.Proofs.YtpeandbcdaikbaaGreatDoor
namespace Go.Proofs.YtpeandbcdaikbaaGreatDoor
open Go.RowKit Go.Shelf Go.Maps

attribute [local go_sem] Oper.semAt_some

set_option maxRecDepth 100000 in
set_option maxHeartbeats 4000000 in
theorem SameR_any (a b : Rou) (ea eb : Option Addr) (ma mb : Nat) (ca cb : Value) (w : World) (hea : NumsAt w w.heap.size (.slice ea a.edges.length ma) a.edges) (heb : NumsAt w w.heap.size (.slice eb b.edges.length mb) b.edges) (hca : ClaimsAt w w.heap.size ca a.claims) (hcb : ClaimsAt w w.heap.size cb b.claims) :
  Calls Tryz.prog 21 #[.agg #[.slice ea a.edges.length ma, .int .i64 a.cost, .int .i64 a.life, ca], .agg #[.slice eb b.edges.length mb, .int .i64 b.cost, .int .i64 b.life, cb]] w fun e w' => e = .returned (.bool (decide (a = b))) ∧ Below w.heap.size w w' := by
 have hsc := Lib.hid fun w1 (hb : Below w.heap.size w w1) => SameC_any ca cb a.claims b.claims w1 (hca.later hb) (hcb.later hb)
 obtain ⟨R, hR⟩ : ∃ R, decide (a = b) = R := ⟨_, rfl⟩
 rw [hR]
 have hma : a.edges.length ≤ maxLen := by obtain ⟨_, _, h, h1, h2, _⟩ := hea; injection h with _ _ h3; omega
 have hc1 := Lib.hid fun i (hi : i < a.edges.length) => NumsAt.cells hea hi
 have hc2 := Lib.hid fun i (hi : i < b.edges.length) => NumsAt.cells heb hi
 obtain ⟨_, _, ⟨xa, xc, rfl, _, _, _⟩, _⟩ := hca
 obtain ⟨_, _, ⟨ya, yc, rfl, _, _, _⟩, _⟩ := hcb
 obtain ⟨ae, acost, alife, al⟩ := a
 obtain ⟨be, bcost, blife, bl⟩ := b
 replace hR : decide (ae = be ∧ acost = bcost ∧ alife = blife ∧ al = bl) = R := by
  rw [← hR]
  exact decide_eq_decide.2 ⟨fun h => by obtain ⟨h1, h2, h3, h4⟩ := h; rw [h1, h2, h3, h4], fun h => by injection h with h1 h2 h3 h4; exact ⟨h1, h2, h3, h4⟩⟩
 dsimp only at hsc hc1 hc2 hma ⊢
 clear hea heb
 obtain ⟨W, hW⟩ : ∃ W, W = (w.alloc (.cells #[.slice ea ae.length ma, .int .i64 acost, .int .i64 alife, .slice xa al.length xc] 33)).alloc (.cells #[.slice eb be.length mb, .int .i64 bcost, .int .i64 blife, .slice ya bl.length yc] 33) := ⟨_, rfl⟩
 have hA : Arr W w.heap.size 33 [.slice ea ae.length ma, .int .i64 acost, .int .i64 alife, .slice xa al.length xc] := by rw [hW]; exact (Arr.new rfl rfl).alloc _
 have hB : Arr W (w.heap.size + 1) 33 [.slice eb be.length mb, .int .i64 bcost, .int .i64 blife, .slice ya bl.length yc] := by rw [hW]; exact Arr.new rfl (by simp)
 have hbW : Below w.heap.size w W := by rw [hW]; exact ((Below.refl _ _).alloc (Nat.le_refl _) _).alloc (by simp) _
 have a0 := hA.cell (j := 0) rfl
 have a1 := hA.cell (j := 1) rfl
 have a2 := hA.cell (j := 2) rfl
 have b0 := hB.cell (j := 0) rfl
 have b1 := hB.cell (j := 1) rfl
 have b2 := hB.cell (j := 2) rfl
 replace hA := Lib.hid hA
 replace hB := Lib.hid hB
 replace hbW := Lib.hid hbW
 replace hR := Lib.hid hR
 go_enter Tryz.func21, Tryz.ntmps21
 go_upto_region 1 with fail
 rw [← hW]
 clear hW
 by_cases h1 : acost = bcost
 rotate_left
 ·
  have e1 : (acost == bcost) = false := beq_false_of_ne h1
  have e2 : (acost != bcost) = true := bne_iff_ne.2 h1
  obtain rfl : R = false := by rw [← hR.out]; exact decide_eq_false fun h => h1 h.2.1
  replace h1 := Lib.hid h1
  go_wp2_with fail
  go_ret
  exact ⟨rfl, hbW.out⟩
 subst h1
 have e1 : (acost == acost) = true := beq_self_eq_true _
 have e1' : (acost != acost) = false := bne_self_eq_false _
 by_cases h2 : alife = blife
 rotate_left
 ·
  have e3 : (alife == blife) = false := beq_false_of_ne h2
  have e4 : (alife != blife) = true := bne_iff_ne.2 h2
  obtain rfl : R = false := by rw [← hR.out]; exact decide_eq_false fun h => h2 h.2.2.1
  replace h2 := Lib.hid h2
  go_wp2_with fail
  go_ret
  exact ⟨rfl, hbW.out⟩
 subst h2
 have e3 : (alife == alife) = true := beq_self_eq_true _
 have e3' : (alife != alife) = false := bne_self_eq_false _
 by_cases h3 : ae.length = be.length
 rotate_left
 ·
  have e5 : ((ae.length : Int) == (be.length : Int)) = false := beq_false_of_ne (by omega)
  have e6 : ((ae.length : Int) != (be.length : Int)) = true := bne_iff_ne.2 (by omega)
  have e7 : (ae.length == be.length) = false := beq_false_of_ne h3
  have e8 : decide (ae.length = be.length) = false := decide_eq_false h3
  obtain rfl : R = false := by rw [← hR.out]; exact decide_eq_false fun h => h3 (by rw [h.1])
  replace h3 := Lib.hid h3
  go_wp2_with fail
  go_ret
  exact ⟨rfl, hbW.out⟩
 have e5 : ((ae.length : Int) == (be.length : Int)) = true := by rw [h3]; exact beq_self_eq_true _
 have e6 : ((ae.length : Int) != (be.length : Int)) = false := by rw [h3]; exact bne_self_eq_false _
 have hst : Hid (∀ j, j < 0 → ae[j]! = be[j]!) := fun j hj => absurd hj (Nat.not_lt_zero j)
 rw [← h3] at b0 hB hc2 e5 e6
 replace h3 := Lib.hid h3
 go_wp2_with fail
 clear e5 e6 a0 a1 a2 b0 b1 b2 e1 e1' e3 e3'
 go_loopw [5] (fun iv wr => ∃ i : Nat, i ≤ ae.length ∧ iv = .int .i64 (i : Int) ∧ Hid (∀ j, j < i → ae[j]! = be[j]!) ∧ Hid (Below w.heap.size w wr) ∧ Hid (Arr wr w.heap.size 33 [.slice ea ae.length ma, .int .i64 acost, .int .i64 alife, .slice xa al.length xc] ∧ Arr wr (w.heap.size + 1) 33 [.slice eb ae.length mb, .int .i64 acost, .int .i64 alife, .slice ya bl.length yc])) (fun iv _ => ae.length - (intOf iv).toNat)
 case atStart => exact ⟨0, Nat.zero_le _, rfl, hst, hbW, (show Hid _ from ⟨hA.out, hB.out⟩)⟩
 case round =>
  obtain ⟨i, hi, rfl, heq, hb, hAB⟩ := hrel
  obtain ⟨hA1, hB1⟩ := hAB.out
  clear hst hbW hA hB hAB
  have a0 := hA1.cell (j := 0) rfl
  have b0 := hB1.cell (j := 0) rfl
  by_cases hlt : i < ae.length
  ·
   have hyes : decide ((i : Int) < (ae.length : Int)) = true := decide_eq_true (by omega)
   have hw1 : IntKind.i64.wrap ((i : Int) + 1) = (i : Int) + 1 := IntWalk.i64_in _ (by unfold maxLen at hma; omega)
   have k0 : (0 : Int) ≤ (i : Int) := by omega
   have k1 : (i : Int) < (ae.length : Int) := by omega
   obtain ⟨b1, o1, c1, q1, l1, x1⟩ := hc1.out i hlt
   obtain ⟨b2, o2, c2, q2, l2, y1⟩ := hc2.out i (by have := h3.out; omega)
   cases q1
   cases q2
   replace x1 := (hb.out.cell (p := ⟨b1, _, none⟩) l1).trans x1
   replace y1 := (hb.out.cell (p := ⟨b2, _, none⟩) l2).trans y1
   clear hc1 hc2
   generalize hx : ae[i]! = x at *
   generalize hy : be[i]! = y at *
   replace hx := Lib.hid hx
   replace hy := Lib.hid hy
   replace hA1 := Lib.hid hA1
   replace hB1 := Lib.hid hB1
   by_cases hp : x = y
   ·
    subst hp
    have e1 : (x == x) = true := beq_self_eq_true _
    have e2 : (x != x) = false := bne_self_eq_false _
    have hn : Hid (∀ j, j < i + 1 → ae[j]! = be[j]!) := fun j hj => by
     by_cases e : j = i
     ·
      subst e
      rw [hx.out, hy.out]
     ·
      exact heq.out j (by omega)
    go_upto_region 6 with fail
    go_quiet (fail)
    have hbq := below_drewN (Below.refl wr.heap.size wr) nq
    have hbn := Lib.hid (hb.out.trans (hbq.mono hb.out.size))
    have hAB := (show Hid _ from And.intro (hA1.out.below hbq) (hB1.out.below hbq))
    go_wp2_with fail
    exact ⟨⟨i + 1, by omega, rfl, hn, hbn, hAB⟩, by simp [intOf]; omega⟩
   ·
    have e1 : (x == y) = false := beq_false_of_ne hp
    have e2 : (x != y) = true := bne_iff_ne.2 hp
    obtain rfl : R = false := by
     rw [← hR.out]
     refine decide_eq_false fun e => hp ?_
     rw [← hx.out, ← hy.out, e.1]
    replace hp := Lib.hid hp
    go_upto_region 6 with fail
    go_quiet (fail)
    have hbq := below_drewN (Below.refl wr.heap.size wr) nq
    have hbn := Lib.hid (hb.out.trans (hbq.mono hb.out.size))
    go_wp2_with fail
    go_ret
    exact ⟨rfl, hbn.out⟩
  ·
   have hno : decide ((i : Int) < (ae.length : Int)) = false := decide_eq_false (by omega)
   have a3 := hA1.cell (j := 3) rfl
   have b3 := hB1.cell (j := 3) rfl
   obtain rfl : i = ae.length := by omega
   have hae : ae = be := List.ext_getElem h3.out fun j h1 h2 => by
    have := heq.out j h1
    rwa [getElem!_pos ae j h1, getElem!_pos be j h2] at this
   obtain rfl : R = decide (al = bl) := by
    rw [← hR.out]
    exact decide_eq_decide.2 ⟨fun h => h.2.2.2, fun h => by refine ⟨hae, ?_, ?_, h⟩ <;> first | rfl | trivial⟩
   replace hae := Lib.hid hae
   have hs := Lib.hid (hsc.out wr hb.out)
   clear hA1 hB1 hc1 hc2 hR heq hsc
   go_wp2_with fail
   refine hs.out.mono ?_
   rintro e w2 ⟨rfl, hb2⟩
   have hbn := Lib.hid (hb.out.trans (hb2.mono hb.out.size))
   clear hs
   go_wp2_with fail
   go_ret
   exact ⟨rfl, hbn.out⟩
end Go.Proofs.YtpeandbcdaikbaaGreatDoor
namespace Go.Proofs.YtpeandbcdaikbaaGreatDoor
open Go.RowKit Go.Shelf Go.Maps

/-- A list of routes is Best's. -/
structure BestIs (l : List Edg) (life : List Int) (f d hops : Int) (zs : List RouM) : Prop where
 eq : zs.map RouM.r = bestP l life f d hops
theorem BestIs.mem {l : List Edg} {life : List Int} {f d hops : Int} {zs : List RouM} (h : BestIs l life f d hops zs) {i : Nat} (hi : i < zs.length) : (zs[i]!).r ∈ bestP l life f d hops := by
 rw [← h.eq, getElem!_pos zs i hi]
 exact List.mem_map.2 ⟨_, List.getElem_mem hi, rfl⟩
theorem BestIs.at {l : List Edg} {life : List Int} {f d hops : Int} {zs : List RouM} (h : BestIs l life f d hops zs) (i : Nat) (hi : i < zs.length) (hi2 : i < (bestP l life f d hops).length) : (bestP l life f d hops)[i] = (zs[i]!).r := by
 rw [getElem!_pos zs i hi]
 simp [← h.eq]
theorem BestIs.len {l : List Edg} {life : List Int} {f d hops : Int} {zs : List RouM} (h : BestIs l life f d hops zs) : (bestP l life f d hops).length = zs.length := by rw [← h.eq, List.length_map]
theorem BestIs.of {l : List Edg} {life : List Int} {f d hops : Int} {zs : List RouM} (h : BestIs l life f d hops zs) (hl : validE l = true) (hh : 0 ≤ hops) {i : Nat} (hi : i < zs.length) : ofP l life f d (zs[i]!).r.edges = some (zs[i]!).r ∧ ((zs[i]!).r.edges.length : Int) ≤ hops ∧ (zs[i]!).r.edges.length ≤ 6 := by
 have := all_of hl ((best_mem hl hh).1 (h.mem hi)).1
 exact ⟨this.1, by omega, by omega⟩
theorem BestIs.step {l : List Edg} {life : List Int} {f d hops : Int} {zs : List RouM} (h : BestIs l life f d hops zs) {i : Nat} (hi : i + 1 < zs.length) : (zs[i]!).r.cost ≤ (zs[i + 1]!).r.cost ∧ ((zs[i + 1]!).r.cost = (zs[i]!).r.cost → (zs[i + 1]!).r.life ≤ (zs[i]!).r.life) := by
 have hs := best_sorted l life f d hops
 have hl := h.len
 rw [List.pairwise_iff_getElem] at hs
 have := hs i (i + 1) (by omega) (by omega) (by omega)
 rw [h.at i (by omega) (by omega), h.at (i + 1) hi (by omega)] at this
 generalize (zs[i]!).r = a at *
 generalize (zs[i + 1]!).r = b at *
 unfold aheadP at this
 rw [decide_eq_false_iff_not] at this
 unfold compareP firstI at this
 by_cases hc : b.cost < a.cost
 ·
  have h1 := (cmpI_neg b.cost a.cost).2 hc
  rw [if_pos (by omega)] at this
  exact absurd h1 this
 ·
  refine ⟨by omega, fun he => ?_⟩
  have h0 : cmpI b.cost a.cost = 0 := by unfold cmpI; rw [if_neg (by omega), if_neg (by omega)]
  rw [if_neg (by omega)] at this
  by_cases hlf : a.life < b.life
  ·
   have h1 := (cmpI_neg a.life b.life).2 hlf
   rw [if_pos (by omega)] at this
   exact absurd h1 this
  ·
   omega
theorem BestIs.apart {l : List Edg} {life : List Int} {f d hops : Int} {zs : List RouM} (h : BestIs l life f d hops zs) (hl : validE l = true) (hh : 0 ≤ hops) {i k : Nat} (hi : i < zs.length) (hk : k < zs.length) (hne : k ≠ i) : betterP (zs[k]!).r (zs[i]!).r = false := by
 cases hb : betterP (zs[k]!).r (zs[i]!).r with
 | false => rfl
 | true =>
  have he := best_apart hl hh (h.mem hk) (h.mem hi) hb
  have hn := best_nodup l life f d hops
  have hlen := h.len
  rw [← h.at k hk (by omega), ← h.at i hi (by omega)] at he
  rcases Nat.lt_or_gt_of_ne hne with h1 | h1
  ·
   exact absurd he (List.pairwise_iff_getElem.1 hn k i (by omega) (by omega) h1)
  ·
   exact absurd he.symm (List.pairwise_iff_getElem.1 hn i k (by omega) (by omega) h1)
theorem BestIs.over {l : List Edg} {life : List Int} {f d hops : Int} {zs : List RouM} (h : BestIs l life f d hops zs) (hl : validE l = true) (hh : 0 ≤ hops) {es : List Int} {r : Rou} (hr : ofP l life f d es = some r) (he : (es.length : Int) ≤ hops) : ∃ k, k < zs.length ∧ betterP (zs[k]!).r r = true := by
 obtain ⟨b, hb, hbr⟩ := best_over hl hh ((all_mem hl).2 ⟨es, by have := (of_facts hr).2.2.2.2.2.2.1; omega, hr⟩)
 rw [← h.eq] at hb
 obtain ⟨z, hz, rfl⟩ := List.mem_map.1 hb
 obtain ⟨k, hk, rfl⟩ := List.mem_iff_getElem.1 hz
 exact ⟨k, hk, by rw [getElem!_pos zs k hk]; exact hbr⟩
/-- Best in the shape that the laws' walks want. -/
theorem best_law (l : List Edg) (life : List Int) (f d hops : Int) (ev lv : Value) (w : World) (hm : ∀ e ∈ l, MigIn e.does) (hE : EdgesT w ev l) (hL : NumsT w lv life) :
  Calls Tryz.prog 19 #[ev, lv, .int .i64 f, .int .i64 d, .int .i64 hops] w fun e w' => ∃ a c zs, e = .returned (.slice a zs.length c) ∧ zs.length ≤ maxLen ∧ BestIs l life f d hops zs ∧ RoutesT w' (.slice a zs.length c) zs ∧ Below w.heap.size w w' := by
 refine (Best_any l life f d hops ev lv w hm hE.at hL.at).mono ?_
 rintro e w' ⟨v, zs, rfl, hz, hR, hb⟩
 obtain ⟨a, c, rfl, hlen⟩ := hR.len
 exact ⟨a, c, zs, rfl, hlen, ⟨hz⟩, hR, hb⟩
/-- The cells of a route in a row. -/
theorem RoutesT.row {w : World} {a : Option Addr} {c : Nat} {zs : List RouM} (h : RoutesT w (.slice a zs.length c) zs) {i : Nat} (hi : i < zs.length) : ∃ b o ea ec ca cc, a = some ⟨b, o, none⟩ ∧ b < w.heap.size ∧ w.cell? ⟨b, o + i * 4, none⟩ = some (.slice ea (zs[i]!).r.edges.length ec) ∧ w.cell? ⟨b, o + i * 4 + 1, none⟩ = some (.int .i64 (zs[i]!).r.cost) ∧ w.cell? ⟨b, o + i * 4 + 2, none⟩ = some (.int .i64 (zs[i]!).r.life) ∧ w.cell? ⟨b, o + i * 4 + 3, none⟩ = some (.slice ca (zs[i]!).r.claims.length cc) ∧ OkR ⟨(zs[i]!).r, .slice ea (zs[i]!).r.edges.length ec, .slice ca (zs[i]!).r.claims.length cc⟩ w := by
 have hok := h.ok hi
 obtain ⟨b, o, c', hq, hb, x0, x1, x2, x3⟩ := h.cells hi
 injection hq with q1 _ _
 obtain ⟨ea, ec, ca, cc, he, hc⟩ := hok.shape
 generalize zs[i]! = z at *
 obtain ⟨r, ev, cv⟩ := z
 dsimp only at he hc x0 x1 x2 x3 ⊢
 subst he hc
 exact ⟨b, o, ea, ec, ca, cc, q1, hb, x0, x1, x2, x3, hok⟩
/-- Better and Same of two routes. -/
theorem better_law (a b : Rou) (ea eb ca cb : Option Addr) (ma mb na nb : Nat) (w : World) (ha : OkR ⟨a, .slice ea a.edges.length ma, .slice ca a.claims.length na⟩ w) (hb : OkR ⟨b, .slice eb b.edges.length mb, .slice cb b.claims.length nb⟩ w) :
  Calls Tryz.prog 24 #[.agg #[.slice ea a.edges.length ma, .int .i64 a.cost, .int .i64 a.life, .slice ca a.claims.length na], .agg #[.slice eb b.edges.length mb, .int .i64 b.cost, .int .i64 b.life, .slice cb b.claims.length nb]] w fun e w' => e = .returned (.bool (betterP a b)) ∧ Below w.heap.size w w' :=
 Better_any a b ea eb a.edges.length b.edges.length ma mb _ _ w ha.2.at hb.2.at
theorem same_law (a b : Rou) (ea eb ca cb : Option Addr) (ma mb na nb : Nat) (w : World) (ha : OkR ⟨a, .slice ea a.edges.length ma, .slice ca a.claims.length na⟩ w) (hb : OkR ⟨b, .slice eb b.edges.length mb, .slice cb b.claims.length nb⟩ w) :
  Calls Tryz.prog 21 #[.agg #[.slice ea a.edges.length ma, .int .i64 a.cost, .int .i64 a.life, .slice ca a.claims.length na], .agg #[.slice eb b.edges.length mb, .int .i64 b.cost, .int .i64 b.life, .slice cb b.claims.length nb]] w fun e w' => e = .returned (.bool (decide (a = b))) ∧ Below w.heap.size w w' :=
 SameR_any a b ea eb ma mb _ _ w ha.1.at hb.1.at ha.2.at hb.2.at
end Go.Proofs.YtpeandbcdaikbaaGreatDoor
