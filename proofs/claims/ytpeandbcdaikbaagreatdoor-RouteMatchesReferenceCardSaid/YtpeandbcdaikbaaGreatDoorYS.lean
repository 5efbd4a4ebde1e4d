/-
 Routes of chapter 11: the law's made; the reference's Same (steps).
 Routes of chapter 11: the law's made.
 Routes of chapter 11: what the laws know of a case's edges and lives.
-/
import Derived.Test.YtpeandbcdaikbaaGreatDoorYR
open List (setIfInBounds_toArray set_cons_zero set_cons_succ)
namespace Go.Proofs.YtpeandbcdaikbaaGreatDoor
open Go.RowKit Go.Shelf Go.Maps

attribute [local go_sem] Oper.semAt_some

set_option maxRecDepth 100000 in
set_option maxHeartbeats 4000000 in
theorem Same7_any (v u : Value) (l m : List Stp) (w : World) (hv : StepsAt w w.heap.size v l) (hu : StepsAt w w.heap.size u m) :
  Calls Tryz.prog 28 #[v, u] w fun e w' => e = .returned (.bool (decide (l = m))) ∧ Below w.heap.size w w' := by
 have hc1 := Lib.hid fun i (hi : i < l.length) => StepsAt.cells hv hi
 have hc2 := Lib.hid fun i (hi : i < m.length) => StepsAt.cells hu hi
 have hne := run_ne_st
 obtain ⟨va, vc, rfl, _, hvm, _⟩ := hv
 obtain ⟨ua, uc, rfl, _, hum, _⟩ := hu
 obtain ⟨R, hR⟩ : ∃ R, decide (l = m) = R := ⟨_, rfl⟩
 rw [hR]
 replace hR := Lib.hid hR
 by_cases hl : l.length = m.length
 ·
  have hd : ((l.length : Int) == (m.length : Int)) = true := by rw [hl]; simp
  go_enter Tryz.func28, Tryz.ntmps28
  rw [← hl]
  rw [← hl] at hc2
  have hbw := Lib.hid (Below.refl w.heap.size w)
  have hst : Hid (∀ j, j < 0 → l[j]! = m[j]!) := fun j hj => absurd hj (Nat.not_lt_zero j)
  go_wp2_with fail
  go_loopw [5] (fun iv wr => ∃ i : Nat, i ≤ l.length ∧ iv = .int .i64 (i : Int) ∧ Hid (∀ j, j < i → l[j]! = m[j]!) ∧ Hid (Below w.heap.size w wr)) (fun iv _ => l.length - (intOf iv).toNat)
  case atStart => exact ⟨0, Nat.zero_le _, rfl, hst, hbw⟩
  case round =>
   obtain ⟨i, hi, rfl, heq, hb⟩ := hrel
   clear hst hbw
   by_cases hlt : i < l.length
   ·
    have hyes : decide ((i : Int) < (l.length : Int)) = true := decide_eq_true (by omega)
    have hw1 : IntKind.i64.wrap ((i : Int) + 1) = (i : Int) + 1 := IntWalk.i64_in _ (by unfold maxLen at hvm; omega)
    have k0 : (0 : Int) ≤ (i : Int) := by omega
    have k1 : (i : Int) < (l.length : Int) := by omega
    obtain ⟨b1, o1, c1, q1, l1, x1, x2⟩ := hc1.out i hlt
    obtain ⟨b2, o2, c2, q2, l2, y1, y2⟩ := hc2.out i (by omega)
    cases q1
    cases q2
    have X1 := (hb.out.cell (p := ⟨b1, o1 + i * 2, none⟩) l1).trans x1
    have X2 := (hb.out.cell (p := ⟨b1, o1 + i * 2 + 1, none⟩) l1).trans x2
    have Y1 := (hb.out.cell (p := ⟨b2, o2 + i * 2, none⟩) l2).trans y1
    have Y2 := (hb.out.cell (p := ⟨b2, o2 + i * 2 + 1, none⟩) l2).trans y2
    have hnn := fun W => hne l[i]! m[i]! W
    have hsb := stB_iff l[i]! m[i]!
    generalize hx : l[i]! = x at *
    generalize hy : m[i]! = y at *
    obtain ⟨xk, xn⟩ := x
    obtain ⟨yk, yn⟩ := y
    dsimp only [stC] at hnn X1 X2 Y1 Y2
    clear x1 x2 y1 y2 hne hc1 hc2
    replace hx := Lib.hid hx
    replace hy := Lib.hid hy
    generalize stB ⟨xk, xn⟩ ⟨yk, yn⟩ = sb at *
    replace hsb := Lib.hid hsb
    go_wp2_with fail
    go_quiet (fail)
    have hbq := Lib.hid (hb.out.trans ((below_drewN (Below.refl wr.heap.size wr) nq).mono hb.out.size))
    cases sb with
    | true =>
     have hn : Hid (∀ j, j < i + 1 → l[j]! = m[j]!) := fun j hj => by
      by_cases e : j = i
      ·
       subst e
       rw [hx.out, hy.out]
       exact hsb.out.1 rfl
      ·
       exact heq.out j (by omega)
     go_wp2_with fail
     exact ⟨⟨i + 1, by omega, rfl, hn, hbq⟩, by simp [intOf]; omega⟩
    | false =>
     obtain rfl : R = false := by
      rw [← hR.out]
      refine decide_eq_false fun e => ?_
      have : (⟨xk, xn⟩ : Stp) = ⟨yk, yn⟩ := by rw [← hx.out, ← hy.out, e]
      exact Bool.false_ne_true (hsb.out.2 this)
     go_wp2_with fail
     go_ret
     exact ⟨rfl, hbq.out⟩
   ·
    have hno : decide ((i : Int) < (l.length : Int)) = false := decide_eq_false (by omega)
    obtain rfl : i = l.length := by omega
    obtain rfl : R = true := by
     rw [← hR.out]
     refine decide_eq_true (List.ext_getElem hl fun j h1 h2 => ?_)
     have := heq.out j h1
     rwa [getElem!_pos l j h1, getElem!_pos m j h2] at this
    go_wp2_with fail
    go_ret
    exact ⟨rfl, hb.out⟩
 ·
  have hd : ((l.length : Int) == (m.length : Int)) = false := beq_false_of_ne (by omega)
  have hd2 : decide ((l.length : Int) = (m.length : Int)) = false := decide_eq_false (by omega)
  have hd3 : decide (l.length = m.length) = false := decide_eq_false hl
  obtain rfl : R = false := by
   rw [← hR.out]
   exact decide_eq_false fun e => hl (by rw [e])
  replace hl := Lib.hid hl
  go_enter Tryz.func28, Tryz.ntmps28
  go_wp2_with fail
  go_ret
  exact ⟨rfl, Below.refl _ _⟩
end Go.Proofs.YtpeandbcdaikbaaGreatDoor
namespace Go.Proofs.YtpeandbcdaikbaaGreatDoor
open Go.RowKit Go.Shelf Go.Maps

attribute [local go_sem] Oper.semAt_some

/-- The arguments of a case. -/
structure CaseIn (w : World) (v : Value) (n : Nat) (zs ls : List Int) (fr dy hp : Int) (ev lv : Value) : Prop where
 val : v = .agg #[ev, lv, .int .i64 fr, .int .i64 dy, .int .i64 hp]
 fives : FivesAt w w.heap.size ev n zs
 life : NumsAt w w.heap.size lv ls
 zin : ∀ z ∈ zs, I64 z
 lin : ∀ z ∈ ls, I64 z
 fin : I64 fr
 din : I64 dy
 hin : I64 hp
theorem FivesAt.below {w w' : World} {v : Value} {n : Nat} {zs : List Int} (h : FivesAt w w.heap.size v n zs) (hb : Below w.heap.size w w') : FivesAt w' w'.heap.size v n zs := ⟨h.1, SliceAt.later h.2 hb⟩
theorem NumsAt.later {w w' : World} {v : Value} {l : List Int} (h : NumsAt w w.heap.size v l) (hb : Below w.heap.size w w') : NumsAt w' w'.heap.size v l := SliceAt.later h hb
theorem CaseIn.below {w w' : World} {v : Value} {n : Nat} {zs ls : List Int} {fr dy hp : Int} {ev lv : Value} (h : CaseIn w v n zs ls fr dy hp ev lv) (hb : Below w.heap.size w w') : CaseIn w' v n zs ls fr dy hp ev lv :=
 ⟨h.val, h.fives.below hb, h.life.later hb, h.zin, h.lin, h.fin, h.din, h.hin⟩
def frmC (fr : Int) : Int := 1 + (pickv fr 5 : Nat)
def dayC (dy : Int) : Int := (pickv dy 40 : Nat)
def hopsC (hp : Int) : Int := (pickv hp 7 : Nat)
theorem results_tmp5 {fn : Func} {t u v x y : Tmp} (h : fn.results = #[.tmp t, .tmp u, .tmp v, .tmp x, .tmp y]) (tmps : Array Value) (P : Program) (w : World) :
  (results fn tmps).run P w = .ok (.tuple #[tmps.getD t undef, tmps.getD u undef, tmps.getD v undef, tmps.getD x undef, tmps.getD y undef]) w := by
 simp [results, h, go_sem]
set_option maxRecDepth 100000 in
set_option maxHeartbeats 4000000 in
theorem made_any (v : Value) (n : Nat) (zs ls : List Int) (fr dy hp : Int) (ev lv : Value) (w : World) (h : CaseIn w v n zs ls fr dy hp ev lv) :
  Calls Tryz.prog 11 #[v] w fun e w' => ∃ ev' lv', e = .returned (.tuple #[ev', lv', .int .i64 (frmC fr), .int .i64 (dayC dy), .int .i64 (hopsC hp)]) ∧ EdgesT w' ev' (madeE n zs) ∧ NumsT w' lv' (lifeR ls) ∧ Below w.heap.size w w' := by
 obtain ⟨rfl, hfi, hli, hz, hl, hf, hdy, hh⟩ := h
 obtain ⟨fa, fc, rfl, _, _, _⟩ := id hfi.2
 obtain ⟨la, lc, rfl, _, _, _⟩ := id hli
 obtain ⟨W, hW⟩ : ∃ W, W = w.alloc (.cells #[.slice fa n fc, .slice la ls.length lc, .int .i64 fr, .int .i64 dy, .int .i64 hp] 25) := ⟨_, rfl⟩
 have hA : Arr W w.heap.size 25 [.slice fa n fc, .slice la ls.length lc, .int .i64 fr, .int .i64 dy, .int .i64 hp] := by rw [hW]; exact Arr.new rfl rfl
 have hbW : Below w.heap.size w W := by rw [hW]; exact (Below.refl _ _).alloc (Nat.le_refl _) _
 have hbd : Below W.heap.size W W.drew := (Below.refl _ _).drew
 have hA2 : Hid (Arr W.drew w.heap.size 25 _) := hA
 have hma := Lib.hid (Made_any _ n zs W.drew (hfi.below (hbW.trans (hbd.mono hbW.size))) hz)
 have hli2 := Lib.hid (hli.later (hbW.trans (hbd.mono hbW.size)))
 have hbw := Lib.hid (hbW.trans (hbd.mono hbW.size))
 have a0 := hA.cell (j := 0) rfl
 have a1 := hA.cell (j := 1) rfl
 have a2 := hA.cell (j := 2) rfl
 have a3 := hA.cell (j := 3) rfl
 have a4 := hA.cell (j := 4) rfl
 have hp1 := fun W => Lib.hid (pick_any fr 5 W hf (by omega) (by omega))
 have hp2 := fun W => Lib.hid (pick_any dy 40 W hdy (by omega) (by omega))
 have hp3 := fun W => Lib.hid (pick_any hp 7 W hh (by omega) (by omega))
 have b1 := pickv_lt fr 5 (by omega)
 have hw1 : IntKind.i64.wrap (1 + ((pickv fr 5 : Nat) : Int)) = 1 + ((pickv fr 5 : Nat) : Int) := IntWalk.i64_in _ (by omega)
 unfold frmC dayC hopsC
 generalize pickv fr 5 = k1 at *
 generalize pickv dy 40 = k2 at *
 generalize pickv hp 7 = k3 at *
 replace hp1 := Lib.hid hp1
 replace hp2 := Lib.hid hp2
 replace hp3 := Lib.hid hp3
 clear hA hfi hli hbW
 go_enter Tryz.func11, Tryz.ntmps11
 go_upto_region 1 with fail
 rw [← hW]
 clear hW
 refine wp_region_held_drew (S := fun w' => w'.cell? ⟨w.heap.size, 0, none⟩ = some (.slice fa n fc) ∧ w'.cell? ⟨w.heap.size, 1, none⟩ = some (.slice la ls.length lc) ∧ w'.cell? ⟨w.heap.size, 2, none⟩ = some (.int .i64 fr) ∧ w'.cell? ⟨w.heap.size, 3, none⟩ = some (.int .i64 dy) ∧ w'.cell? ⟨w.heap.size, 4, none⟩ = some (.int .i64 hp)) (by kernel_rfl) (by exact ⟨a0, a1, a2, a3, a4⟩) (fun hHeld => ?_)
 refine tk 0 ?_ rfl ?_ ?_
 rotate_left
 ·
  intro w hSw; (try dsimp only at hSw); go_simp; (try with_reducible rfl)
 (try simp only [Act.put, setIfInBounds_toArray, set_cons_zero, set_cons_succ])
 refine tk 1 ?_ rfl ?_ ?_
 rotate_left
 ·
  intro w hSw; (try dsimp only at hSw); go_simp; (try with_reducible rfl)
 (try simp only [Act.put, setIfInBounds_toArray, set_cons_zero, set_cons_succ])
 refine tk 3 ?_ rfl ?_ ?_
 rotate_left
 ·
  intro w hSw; (try dsimp only at hSw); go_simp; (try with_reducible rfl)
 (try simp only [Act.put, setIfInBounds_toArray, set_cons_zero, set_cons_succ])
 refine tk 4 ?_ rfl ?_ ?_
 rotate_left
 ·
  intro w hSw; (try dsimp only at hSw); go_simp; (try with_reducible rfl)
 (try simp only [Act.put, setIfInBounds_toArray, set_cons_zero, set_cons_succ])
 refine tk 6 ?_ rfl ?_ ?_
 rotate_left
 ·
  intro w hSw; (try dsimp only at hSw); go_simp; (try with_reducible rfl)
 (try simp only [Act.put, setIfInBounds_toArray, set_cons_zero, set_cons_succ])
 refine tk 7 ?_ rfl ?_ ?_
 rotate_left
 ·
  intro w hSw; (try dsimp only at hSw); go_simp; (try with_reducible rfl)
 (try simp only [Act.put, setIfInBounds_toArray, set_cons_zero, set_cons_succ])
 refine tk 10 ?_ rfl ?_ ?_
 rotate_left
 ·
  intro w hSw; (try dsimp only at hSw); go_simp; (try with_reducible rfl)
 (try simp only [Act.put, setIfInBounds_toArray, set_cons_zero, set_cons_succ])
 refine tk 11 ?_ rfl ?_ ?_
 rotate_left
 ·
  intro w hSw; (try dsimp only at hSw); go_simp; (try with_reducible rfl)
 (try simp only [Act.put, setIfInBounds_toArray, set_cons_zero, set_cons_succ])
 refine tk 13 ?_ rfl ?_ ?_
 rotate_left
 ·
  intro w hSw; (try dsimp only at hSw); go_simp; (try with_reducible rfl)
 (try simp only [Act.put, setIfInBounds_toArray, set_cons_zero, set_cons_succ])
 refine tk 14 ?_ rfl ?_ ?_
 rotate_left
 ·
  intro w hSw; (try dsimp only at hSw); go_simp; (try with_reducible rfl)
 (try simp only [Act.put, setIfInBounds_toArray, set_cons_zero, set_cons_succ])
 generalize W.drew = q0 at *
 clear a0 a1 a2 a3 a4 hbd
 refine wpAnyH_ready (rs := [2]) (by kernel_rfl) (by simp) ?_
 refine ready_l rfl (fun K hK => ?_) AllReadyH.nil
 go_simp
 go_at_call 34
 refine hma.out.mono ?_
 rintro e q1 ⟨v1, vs1, rfl, hE1, hb1⟩
 have hA3 := Lib.hid (hA2.out.below hb1)
 have hli3 := hli2.out.later hb1
 have hE2 := Lib.hid hE1.edges
 replace hbw := Lib.hid (hbw.out.trans (hb1.mono hbw.out.size))
 refine hK.out _ _ (by exact ⟨hA3.out.cell rfl, hA3.out.cell rfl, hA3.out.cell rfl, hA3.out.cell rfl, hA3.out.cell rfl⟩) (fun hHeld2 => ?_)
 clear hK K hHeld hma hb1 hA2 hli2 hE1
 (try simp only [Act.put, setIfInBounds_toArray, set_cons_zero, set_cons_succ])
 have hla := Lib.hid (Life_any _ ls q1 hli3 hl)
 refine wpAnyH_ready (rs := [5]) (by kernel_rfl) (by simp) ?_
 refine ready_l rfl (fun K hK => ?_) AllReadyH.nil
 go_simp
 go_at_call 35
 refine hla.out.mono ?_
 rintro e q2 ⟨v2, rfl, hN, hb2⟩
 have hA4 := Lib.hid (hA3.out.below hb2)
 have hE3 := Lib.hid (hE2.out.below hb2)
 have hN2 : Hid (NumsT q2 v2 (lifeR ls)) := RowT.of_own hN
 replace hbw := Lib.hid (hbw.out.trans (hb2.mono hbw.out.size))
 refine hK.out _ _ (by exact ⟨hA4.out.cell rfl, hA4.out.cell rfl, hA4.out.cell rfl, hA4.out.cell rfl, hA4.out.cell rfl⟩) (fun hHeld3 => ?_)
 clear hK K hHeld2 hla hb2 hA3 hli3 hE2 hN
 (try simp only [Act.put, setIfInBounds_toArray, set_cons_zero, set_cons_succ])
 have hq1 := hp1.out q2
 refine wpAnyH_ready (rs := [8]) (by kernel_rfl) (by simp) ?_
 refine ready_l rfl (fun K hK => ?_) AllReadyH.nil
 go_simp
 go_at_call 14
 refine hq1.out.mono ?_
 rintro e q3 ⟨rfl, rfl⟩
 refine hK.out _ _ (by exact ⟨hA4.out.cell rfl, hA4.out.cell rfl, hA4.out.cell rfl, hA4.out.cell rfl, hA4.out.cell rfl⟩) (fun hHeld4 => ?_)
 clear hK K hHeld3 hq1
 (try simp only [Act.put, setIfInBounds_toArray, set_cons_zero, set_cons_succ])
 have hq2 := hp2.out q3
 refine tk 9 ?_ rfl ?_ ?_
 rotate_left
 ·
  intro w hSw; (try dsimp only at hSw); go_simp; (try with_reducible rfl)
 (try simp only [Act.put, setIfInBounds_toArray, set_cons_zero, set_cons_succ])
 refine wpAnyH_ready (rs := [12]) (by kernel_rfl) (by simp) ?_
 refine ready_l rfl (fun K hK => ?_) AllReadyH.nil
 go_simp
 go_at_call 14
 refine hq2.out.mono ?_
 rintro e q4 ⟨rfl, rfl⟩
 refine hK.out _ _ (by exact ⟨hA4.out.cell rfl, hA4.out.cell rfl, hA4.out.cell rfl, hA4.out.cell rfl, hA4.out.cell rfl⟩) (fun hHeld5 => ?_)
 clear hK K hHeld4 hq2
 (try simp only [Act.put, setIfInBounds_toArray, set_cons_zero, set_cons_succ])
 have hq3 := hp3.out q4
 refine wpAnyH_ready (rs := [15]) (by kernel_rfl) (by simp) ?_
 refine ready_l rfl (fun K hK => ?_) AllReadyH.nil
 go_simp
 go_at_call 14
 refine hq3.out.mono ?_
 rintro e q5 ⟨rfl, rfl⟩
 refine hK.out _ _ (by exact ⟨hA4.out.cell rfl, hA4.out.cell rfl, hA4.out.cell rfl, hA4.out.cell rfl, hA4.out.cell rfl⟩) (fun hHeld6 => ?_)
 clear hK K hHeld5 hq3
 (try simp only [Act.put, setIfInBounds_toArray, set_cons_zero, set_cons_succ])
 refine tk 16 ?_ rfl ?_ ?_
 rotate_left
 ·
  intro w hSw; (try dsimp only at hSw); go_simp; (try with_reducible rfl)
 (try simp only [Act.put, setIfInBounds_toArray, set_cons_zero, set_cons_succ])
 refine tk 17 ?_ rfl ?_ ?_
 rotate_left
 ·
  intro w hSw; (try dsimp only at hSw); go_simp; (try with_reducible rfl)
 (try simp only [Act.put, setIfInBounds_toArray, set_cons_zero, set_cons_succ])
 refine tk 18 ?_ rfl ?_ ?_
 rotate_left
 ·
  intro w hSw; (try dsimp only at hSw); go_simp; (try with_reducible rfl)
 (try simp only [Act.put, setIfInBounds_toArray, set_cons_zero, set_cons_succ])
 refine tk 19 ?_ rfl ?_ ?_
 rotate_left
 ·
  intro w hSw; (try dsimp only at hSw); go_simp; (try with_reducible rfl)
 (try simp only [Act.put, setIfInBounds_toArray, set_cons_zero, set_cons_succ])
 refine tk 20 ?_ rfl ?_ ?_
 rotate_left
 ·
  intro w hSw; (try dsimp only at hSw); go_simp; (try with_reducible rfl)
 (try simp only [Act.put, setIfInBounds_toArray, set_cons_zero, set_cons_succ])
 refine wpAnyH_done (by kernel_rfl) ?_ _
 go_wp2_with fail
 (try simp only [Exit.inBlock, Exit.then])
 refine bodyPost_ret (results_tmp5 rfl _ _ _) rfl ?_
 exact ⟨v1, v2, rfl, hE3.out, hN2.out, hbw.out⟩
end Go.Proofs.YtpeandbcdaikbaaGreatDoor
namespace Go.Proofs.YtpeandbcdaikbaaGreatDoor
open Go.RowKit Go.Shelf Go.Maps

structure MadeP (l : List Edg) (life : List Int) (f d : Int) : Prop where
 val : validE l = true
 len : l.length ≤ 8
 llen : life.length = 6
 f1 : 1 ≤ f ∧ f ≤ 5
 d1 : 0 ≤ d ∧ d < 40
 mig : ∀ e ∈ l, MigIn e.does
 ends : ∀ k, k < l.length → (1 ≤ l[k]!.does.frm ∧ l[k]!.does.frm ≤ 5) ∧ (1 ≤ l[k]!.does.to ∧ l[k]!.does.to ≤ 5) ∧ l[k]!.does.to ≠ l[k]!.does.frm ∧ (0 ≤ l[k]!.cost ∧ l[k]!.cost ≤ 1000000) ∧ (0 ≤ l[k]!.until_ ∧ l[k]!.until_ ≤ 100000)
 lin : ∀ x ∈ life, -1 ≤ x ∧ x ≤ 100
theorem mig_in {m : Mig} (h : validM m = true) : MigIn m := by
 unfold validM at h
 simp only [Bool.and_eq_true, List.all_eq_true] at h
 obtain ⟨⟨⟨⟨⟨_, h1⟩, h2⟩, h3⟩, _⟩, hk⟩ := h
 unfold isIdM at h1 h2 h3
 rw [decide_eq_true_eq] at h1 h2 h3
 refine ⟨⟨by omega, by omega⟩, ⟨by omega, by omega⟩, ⟨by omega, by omega⟩, fun c hc => ?_⟩
 have := hk c hc
 unfold isKeepM at this
 simp only [Bool.and_eq_true, Bool.or_eq_true, beq_iff_eq] at this
 have h2 := this.1.1.1.1
 unfold Kp.prop at h2
 exact ⟨by omega, by omega⟩
theorem migs_in {l : List Edg} (h : validE l = true) : ∀ e ∈ l, MigIn e.does := fun e he => by
 have := (validE_parts h).2 e he
 exact mig_in (ok_parts this).2.2
theorem madeP (n : Nat) (zs ls : List Int) (fr dy : Int) : MadeP (madeE n zs) (lifeR ls) (frmC fr) (dayC dy) where
 val := madeE_valid n zs
 len := by rw [madeE_len]; omega
 llen := lifeR_len ls
 f1 := frmR_in fr
 d1 := by have := pickv_lt dy 40 (by omega); unfold dayC; omega
 mig := migs_in (madeE_valid n zs)
 ends k hk := by
  rw [madeE_len] at hk
  rw [madeE_at n zs hk]
  have h1 := pickv_lt (rowY zs k 3) 9 (by omega)
  have h2 := pickv_lt (rowY zs k 4) 40 (by omega)
  refine ⟨frmR_in _, toR_in _ _, toR_ne _ _, ?_, ?_⟩
  ·
   show (0 : Int) ≤ (pickv (rowY zs k 3) 9 : Nat) ∧ ((pickv (rowY zs k 3) 9 : Nat) : Int) ≤ 1000000
   omega
  ·
   show (0 : Int) ≤ (pickv (rowY zs k 4) 40 : Nat) ∧ ((pickv (rowY zs k 4) 40 : Nat) : Int) ≤ 100000
   omega
 lin := lifeR_in ls
theorem MadeP.life_at {l : List Edg} {life : List Int} {f d : Int} (h : MadeP l life f d) {i : Nat} (hi : i < 6) : -1 ≤ life[i]! ∧ life[i]! ≤ 100 := by
 have hl := h.llen
 exact h.lin _ (by rw [getElem!_pos life i (by omega)]; exact List.getElem_mem (by omega))
/-- A route with one edge. -/
theorem one_claims {l : List Edg} {life : List Int} {frm day : Int} {k : Nat} {r : Rou} (h : ofP l life frm day [(k : Int)] = some r) : r.claims = props8.map fun p => (p, normalA (claimM l[k]!.does p)) := by
 obtain ⟨_, _, h1, _⟩ := of_facts h
 rw [h1]
 refine List.map_congr_left fun p _ => ?_
 rw [goL, List.flatMap_cons, List.flatMap_nil, List.append_nil]
 rfl
theorem props_at (g : Int → List Stp) {i : Nat} (hi : i < 8) : (props8.map fun p => (p, g p))[i]! = ((i : Int) + 1, g ((i : Int) + 1)) := by
 obtain rfl | rfl | rfl | rfl | rfl | rfl | rfl | rfl : i = 0 ∨ i = 1 ∨ i = 2 ∨ i = 3 ∨ i = 4 ∨ i = 5 ∨ i = 6 ∨ i = 7 := by omega
 all_goals rfl
/-- Of in the shape that the laws' walks want. -/
theorem of_law (l : List Edg) (life : List Int) (f day : Int) (es : List Int) (o : Option Rou) (ho : ofP l life f day es = o) (ev lv xv : Value) (w : World) (hm : ∀ e ∈ l, MigIn e.does) (hE : EdgesT w ev l) (hL : NumsT w lv life) (hx : NumsT w xv es) :
  Calls Tryz.prog 17 #[ev, lv, .int .i64 f, .int .i64 day, xv] w fun e w' => ∃ ea ec ca cc r, e = .returned (.tuple #[.agg #[.slice ea r.edges.length ec, .int .i64 r.cost, .int .i64 r.life, .slice ca r.claims.length cc], .int .i64 (ofE o)]) ∧ r = o.getD zeroRou ∧ OkR ⟨r, .slice ea r.edges.length ec, .slice ca r.claims.length cc⟩ w' ∧ Below w.heap.size w w' := by
 refine (Of_any l life f day es ev lv xv w hm hE.at hL.at hx.at).mono ?_
 rintro e w' ⟨⟨r, v, u⟩, he, hr, hok, hb⟩
 dsimp only at hr
 rw [ho] at he hr
 obtain ⟨ea, ec, ca, cc, h1, h2⟩ := hok.shape
 dsimp only at h1 h2
 subst h1 h2
 exact ⟨ea, ec, ca, cc, r, he, hr, hok, hb⟩
end Go.Proofs.YtpeandbcdaikbaaGreatDoor
