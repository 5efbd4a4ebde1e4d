/-
  Routes of chapter 11: the law RouteBest.
  RouteBest is true of every input: the row, and its tied card. Conditions: the library variables that are read hold what their packages lay in them (the card ties that to the text).
-/
import Derived.Test.YtpeandbcdaikbaaGreatDoorYW
import Derived.Test.YtpeandbcdaikbaaGreatDoorCards
import Derived.Test.YtpeandbcdaikbaaGreatDoorTie
import Derived.Test.YtpeandbcdaikbaaGreatDoorYU
import Derived.SevenTiedAt
namespace Go.Proofs.YtpeandbcdaikbaaGreatDoor
open Go.RowKit Go.Shelf Go.Maps

attribute [local go_sem] Oper.semAt_some

set_option maxRecDepth 100000 in
set_option maxHeartbeats 8000000 in
theorem Best_law (v : Value) (n : Nat) (zs ls : List Int) (fr dy hp : Int) (ev lv : Value) (cv : Value) (cs : List Int) (w : World) (h : CaseIn w v n zs ls fr dy hp ev lv) (hcv : NumsAt w w.heap.size cv cs) (hcI : ∀ c ∈ cs, I64 c) :
    Calls Tryz.prog 4 #[v, cv] w fun e w' => e = .returned (.bool true) ∧ Below w.heap.size w w' := by
  have hM := Lib.hid (madeP n zs ls fr dy)
  have hops0 : 0 ≤ hopsC hp ∧ hopsC hp ≤ 6 := by have := pickv_lt hp 7 (by omega); unfold hopsC; omega
  have hmade := fun W (hb : Below w.heap.size w W) => made_any v n zs ls fr dy hp ev lv W (h.below hb)
  obtain ⟨rfl, hfi, hli, _⟩ := h
  obtain ⟨fa, fc, rfl, _, _, _⟩ := hfi.2
  obtain ⟨la, lc, rfl, _, _, _⟩ := hli
  generalize madeE n zs = l at *
  generalize lifeR ls = life at *
  generalize frmC fr = f at *
  generalize dayC dy = d at *
  generalize hopsC hp = hops at *
  obtain ⟨W, hW⟩ : ∃ W, W = w.alloc (.cells #[.slice fa n fc, .slice la ls.length lc, .int .i64 fr, .int .i64 dy, .int .i64 hp] 25) := ⟨_, rfl⟩
  have hA : Arr W w.heap.size 25 [.slice fa n fc, .slice la ls.length lc, .int .i64 fr, .int .i64 dy, .int .i64 hp] := by rw [hW]; exact Arr.new rfl rfl
  have hbW : Below w.heap.size w W := by rw [hW]; exact (Below.refl _ _).alloc (Nat.le_refl _) _
  have hsa := Lib.hid (sane_any W)
  replace hmade := Lib.hid hmade
  replace hops0 := Lib.hid hops0
  go_enter Tryz.func4, Tryz.ntmps4
  go_upto_region 1 with fail
  rw [← hW]
  clear hW
  go_wp2_with fail
  refine hsa.out.mono ?_
  rintro e w1 ⟨rfl, hb1⟩
  have hA1 := hA.below hb1
  have hbw1 := hbW.trans (hb1.mono hbW.size)
  have hmd := Lib.hid (hmade.out w1 hbw1)
  have a0 := hA1.cell (j := 0) rfl
  have a1 := hA1.cell (j := 1) rfl
  have a2 := hA1.cell (j := 2) rfl
  have a3 := hA1.cell (j := 3) rfl
  have a4 := hA1.cell (j := 4) rfl
  clear hA hA1 hbW hb1 hsa hmade
  go_wp2_with fail
  refine hmd.out.mono ?_
  rintro e w2 ⟨ev', lv', rfl, hE, hL, hb2⟩
  have hb := Lib.hid (hbw1.trans (hb2.mono hbw1.size))
  clear hbw1 hb2 hmd a0 a1 a2 a3 a4
  obtain ⟨ea, ec, rfl, _⟩ := hE.len
  obtain ⟨va, vc, rfl, _⟩ := hL.len
  replace hE := Lib.hid hE
  replace hL := Lib.hid hL
  have hcvw := Lib.hid fun W (hW : Below w.heap.size w W) => hcv.later hW
  obtain ⟨cva, cvc, rfl, _, _, _⟩ := hcv
  have hbe := Lib.hid (best_law l life f d hops _ _ w2 hM.out.mig hE.out hL.out)
  go_wp2_with fail
  refine hbe.out.mono ?_
  clear hbe
  rintro e w3 ⟨za, zc, zs, rfl, hzm, hbi, hR, hb3⟩
  replace hE := Lib.hid (hE.out.below hb3)
  replace hL := Lib.hid (hL.out.below hb3)
  replace hb := Lib.hid (hb.out.trans (hb3.mono hb.out.size))
  clear hb3
  replace hbi := Lib.hid hbi
  replace hR := Lib.hid hR
  have hb30 := Lib.hid (Below.refl w3.heap.size w3)
  go_wp2_with fail
  go_loopw [12] (fun iv wr => ∃ i : Nat, i ≤ zs.length ∧ iv = .int .i64 (i : Int) ∧ Hid (Below w3.heap.size w3 wr)) (fun iv _ => zs.length - (intOf iv).toNat)
  case atStart => exact ⟨0, Nat.zero_le _, rfl, hb30⟩
  case round =>
    obtain ⟨wo, hwo⟩ : ∃ wo, wo = wr := ⟨_, rfl⟩
    subst hwo
    obtain ⟨i, hi, rfl, hbr⟩ := hrel
    clear hb30
    by_cases hlt : i < zs.length
    · have hyes : decide ((i : Int) < (zs.length : Int)) = true := decide_eq_true (by omega)
      have hw1 : IntKind.i64.wrap ((i : Int) + 1) = (i : Int) + 1 := IntWalk.i64_in _ (by unfold maxLen at hzm; omega)
      have k0 : (0 : Int) ≤ (i : Int) := by omega
      have k1 : (i : Int) < (zs.length : Int) := by omega
      obtain ⟨b, o, xa, xc, xb, xd, rfl, hbl, x0, x1, x2, x3, hok⟩ := (hR.out.below hbr.out).row hlt
      obtain ⟨ho1, ho2, ho3⟩ := hbi.out.of hM.out.val hops0.out.1 hlt
      have hap := Lib.hid fun k (hk : k < zs.length) (hne : k ≠ i) => hbi.out.apart hM.out.val hops0.out.1 hlt hk hne
      have hst := Lib.hid fun j (hj : i = j + 1) => hbi.out.step (i := j) (by omega)
      have hsi := Lib.hid fun j (hj : i = j + 1) => (show (zs[j + 1]!).r = (zs[i]!).r by rw [hj])
      generalize (zs[i]!).r = r at x0 x1 x2 x3 hok ho1 ho2 ho3 hap hsi
      have hof := Lib.hid (of_law l life f d r.edges (some r) ho1 _ _ (.slice xa r.edges.length xc) wo hM.out.mig (hE.out.below hbr.out) (hL.out.below hbr.out) hok.1)
      replace hok := Lib.hid hok
      clear ho1
      have hlo : decide ((r.edges.length : Int) > hops) = false := decide_eq_false (by omega)
      have hlo2 : decide (hops < (r.edges.length : Int)) = false := decide_eq_false (by omega)
      replace ho2 := Lib.hid ho2
      go_wp2_with fail
      refine hof.out.mono ?_
      clear hof
      rintro e w4 ⟨ya, yc, yb, yd, r2, rfl, hr2, hok2, hb4⟩
      obtain rfl : r2 = r := hr2
      have es_ : ofE (some r2) = 0 := rfl
      rw [es_]
      clear es_
      obtain ⟨w5, hw⟩ : ∃ w5, w5 = w4.alloc (.cells #[.slice ya r2.edges.length yc, .int .i64 r2.cost, .int .i64 r2.life, .slice yb r2.claims.length yd] 33) := ⟨_, rfl⟩
      have hRy : Arr w5 w4.heap.size 33 [.slice ya r2.edges.length yc, .int .i64 r2.cost, .int .i64 r2.life, .slice yb r2.claims.length yd] := by rw [hw]; exact Arr.new rfl rfl
      have hb5 : Below w4.heap.size w4 w5 := by rw [hw]; exact (Below.refl _ _).alloc (Nat.le_refl _) _
      go_upto_region 8 with fail
      rw [← hw]
      clear hw
      have hb45 := hb4.trans (hb5.mono hb4.size)
      have hbd := hb45.drew
      have hok5 := hok2.below hb5
      have hsm := same_law r2 r2 ya xa yb xb yc xc yd xd w5.drew (hok5.below ((Below.refl _ _).drew)) (hok.out.below hbd)
      rw [decide_eq_true rfl] at hsm
      replace hsm := Lib.hid hsm
      have c0 := (hRy.drew).cell (j := 0) rfl
      have c1 := (hRy.drew).cell (j := 1) rfl
      have c2 := (hRy.drew).cell (j := 2) rfl
      have c3 := (hRy.drew).cell (j := 3) rfl
      have d0 := (hbd.cell (p := ⟨b, _, none⟩) hbl).trans x0
      have d1 := (hbd.cell (p := ⟨b, _, none⟩) hbl).trans x1
      have d2 := (hbd.cell (p := ⟨b, _, none⟩) hbl).trans x2
      have d3 := (hbd.cell (p := ⟨b, _, none⟩) hbl).trans x3
      replace hRy := Lib.hid hRy
      replace hok5 := Lib.hid hok5
      replace hbd := Lib.hid hbd
      clear hok2 hb4 hb5
      refine wp_region_held_drew (S := fun w' => w'.cell? ⟨w4.heap.size, 0, none⟩ = some (.slice ya r2.edges.length yc) ∧ w'.cell? ⟨w4.heap.size, 1, none⟩ = some (.int .i64 r2.cost) ∧ w'.cell? ⟨w4.heap.size, 2, none⟩ = some (.int .i64 r2.life) ∧ w'.cell? ⟨w4.heap.size, 3, none⟩ = some (.slice yb r2.claims.length yd) ∧ w'.cell? ⟨b, o + i * 4, none⟩ = some (.slice xa r2.edges.length xc) ∧ w'.cell? ⟨b, o + i * 4 + 1, none⟩ = some (.int .i64 r2.cost) ∧ w'.cell? ⟨b, o + i * 4 + 2, none⟩ = some (.int .i64 r2.life) ∧ w'.cell? ⟨b, o + i * 4 + 3, none⟩ = some (.slice xb r2.claims.length xd)) (by kernel_rfl) (by exact ⟨c0, c1, c2, c3, d0, d1, d2, d3⟩) (fun hHeld => ?_)
      refine take_l (i := 0) (v := ?_) rfl (by kernel_rfl) (by kernel_rfl) (by kernel_rfl) (fun _ _ _ h => h) (Or.inl ⟨by kernel_rfl, ?_⟩) (by assumption) ?_
      rotate_left
      · intro w hSw; (try dsimp only at hSw); go_simp; (try with_reducible rfl)
      (try simp only [Act.put, List.setIfInBounds_toArray, List.set_cons_zero, List.set_cons_succ])
      refine take_l (i := 1) (v := ?_) rfl (by kernel_rfl) (by kernel_rfl) (by kernel_rfl) (fun _ _ _ h => h) (Or.inl ⟨by kernel_rfl, ?_⟩) (by assumption) ?_
      rotate_left
      · intro w hSw; (try dsimp only at hSw); go_simp; (try with_reducible rfl)
      (try simp only [Act.put, List.setIfInBounds_toArray, List.set_cons_zero, List.set_cons_succ])
      refine take_l (i := 2) (v := ?_) rfl (by kernel_rfl) (by kernel_rfl) (by kernel_rfl) (fun _ _ _ h => h) (Or.inl ⟨by kernel_rfl, ?_⟩) (by assumption) ?_
      rotate_left
      · intro w hSw; (try dsimp only at hSw); go_simp; (try with_reducible rfl)
      (try simp only [Act.put, List.setIfInBounds_toArray, List.set_cons_zero, List.set_cons_succ])
      refine take_l (i := 3) (v := ?_) rfl (by kernel_rfl) (by kernel_rfl) (by kernel_rfl) (fun _ _ _ h => h) (Or.inl ⟨by kernel_rfl, ?_⟩) (by assumption) ?_
      rotate_left
      · intro w hSw; (try dsimp only at hSw); go_simp; (try with_reducible rfl)
      (try simp only [Act.put, List.setIfInBounds_toArray, List.set_cons_zero, List.set_cons_succ])
      refine take_l (i := 4) (v := ?_) rfl (by kernel_rfl) (by kernel_rfl) (by kernel_rfl) (fun _ _ _ h => h) (Or.inl ⟨by kernel_rfl, ?_⟩) (by assumption) ?_
      rotate_left
      · intro w hSw; (try dsimp only at hSw); go_simp; (try with_reducible rfl)
      (try simp only [Act.put, List.setIfInBounds_toArray, List.set_cons_zero, List.set_cons_succ])
      refine take_l (i := 5) (v := ?_) rfl (by kernel_rfl) (by kernel_rfl) (by kernel_rfl) (fun _ _ _ h => h) (Or.inl ⟨by kernel_rfl, ?_⟩) (by assumption) ?_
      rotate_left
      · intro w hSw; (try dsimp only at hSw); go_simp; (try with_reducible rfl)
      (try simp only [Act.put, List.setIfInBounds_toArray, List.set_cons_zero, List.set_cons_succ])
      refine take_l (i := 6) (v := ?_) rfl (by kernel_rfl) (by kernel_rfl) (by kernel_rfl) (fun _ _ _ h => h) (Or.inl ⟨by kernel_rfl, ?_⟩) (by assumption) ?_
      rotate_left
      · intro w hSw; (try dsimp only at hSw); go_simp; (try with_reducible rfl)
      (try simp only [Act.put, List.setIfInBounds_toArray, List.set_cons_zero, List.set_cons_succ])
      refine take_l (i := 7) (v := ?_) rfl (by kernel_rfl) (by kernel_rfl) (by kernel_rfl) (fun _ _ _ h => h) (Or.inl ⟨by kernel_rfl, ?_⟩) (by assumption) ?_
      rotate_left
      · intro w hSw; (try dsimp only at hSw); go_simp; (try with_reducible rfl)
      (try simp only [Act.put, List.setIfInBounds_toArray, List.set_cons_zero, List.set_cons_succ])
      refine wpAnyH_ready (rs := [8]) (by kernel_rfl) (by simp) ?_
      refine ready_l rfl (fun K hK => ?_) AllReadyH.nil
      go_simp
      refine hsm.out.mono ?_
      rintro e w6 ⟨rfl, hb6⟩
      have hRy6 := hRy.out.drew.below hb6
      have hb46 := hbd.out.trans (hb6.mono hbd.out.size)
      refine hK.out _ _ (by exact ⟨hRy6.cell (j := 0) rfl, hRy6.cell (j := 1) rfl, hRy6.cell (j := 2) rfl, hRy6.cell (j := 3) rfl, (hb46.cell (p := ⟨b, _, none⟩) hbl).trans x0, (hb46.cell (p := ⟨b, _, none⟩) hbl).trans x1, (hb46.cell (p := ⟨b, _, none⟩) hbl).trans x2, (hb46.cell (p := ⟨b, _, none⟩) hbl).trans x3⟩) (fun hHeld2 => ?_)
      clear hK K hHeld
      (try simp only [Act.put, List.setIfInBounds_toArray, List.set_cons_zero, List.set_cons_succ])
      refine take_l (i := 9) (v := ?_) rfl (by kernel_rfl) (by kernel_rfl) (by kernel_rfl) (fun _ _ _ h => h) (Or.inl ⟨by kernel_rfl, ?_⟩) (by assumption) ?_
      rotate_left
      · intro w hSw; (try dsimp only at hSw); go_simp; (try with_reducible rfl)
      (try simp only [Act.put, List.setIfInBounds_toArray, List.set_cons_zero, List.set_cons_succ])
      refine take_l (i := 10) (v := ?_) rfl (by kernel_rfl) (by kernel_rfl) (by kernel_rfl) (fun _ _ _ h => h) (Or.inl ⟨by kernel_rfl, ?_⟩) (by assumption) ?_
      rotate_left
      · intro w hSw; (try dsimp only at hSw); go_simp; (try with_reducible rfl)
      (try simp only [Act.put, List.setIfInBounds_toArray, List.set_cons_zero, List.set_cons_succ])
      refine take_l (i := 11) (v := ?_) rfl (by kernel_rfl) (by kernel_rfl) (by kernel_rfl) (fun _ _ _ h => h) (Or.inl ⟨by kernel_rfl, ?_⟩) (by assumption) ?_
      rotate_left
      · intro w hSw; (try dsimp only at hSw); go_simp; (try with_reducible rfl)
      (try simp only [Act.put, List.setIfInBounds_toArray, List.set_cons_zero, List.set_cons_succ])
      refine take_l (i := 12) (v := ?_) rfl (by kernel_rfl) (by kernel_rfl) (by kernel_rfl) (fun _ _ _ h => h) (Or.inl ⟨by kernel_rfl, ?_⟩) (by assumption) ?_
      rotate_left
      · intro w hSw; (try dsimp only at hSw); go_simp; (try with_reducible rfl)
      (try simp only [Act.put, List.setIfInBounds_toArray, List.set_cons_zero, List.set_cons_succ])
      refine take_l (i := 13) (v := ?_) rfl (by kernel_rfl) (by kernel_rfl) (by kernel_rfl) (fun _ _ _ h => h) (Or.inl ⟨by kernel_rfl, ?_⟩) (by assumption) ?_
      rotate_left
      · intro w hSw; (try dsimp only at hSw); go_simp; (try with_reducible rfl)
      (try simp only [Act.put, List.setIfInBounds_toArray, List.set_cons_zero, List.set_cons_succ])
      refine take_l (i := 14) (v := ?_) rfl (by kernel_rfl) (by kernel_rfl) (by kernel_rfl) (fun _ _ _ h => h) (Or.inl ⟨by kernel_rfl, ?_⟩) (by assumption) ?_
      rotate_left
      · intro w hSw; (try dsimp only at hSw); go_simp; (try with_reducible rfl)
      (try simp only [Act.put, List.setIfInBounds_toArray, List.set_cons_zero, List.set_cons_succ])
      refine take_l (i := 15) (v := ?_) rfl (by kernel_rfl) (by kernel_rfl) (by kernel_rfl) (fun _ _ _ h => h) (Or.inl ⟨by kernel_rfl, ?_⟩) (by assumption) ?_
      rotate_left
      · intro w hSw; (try dsimp only at hSw); go_simp; (try with_reducible rfl)
      (try simp only [Act.put, List.setIfInBounds_toArray, List.set_cons_zero, List.set_cons_succ])
      refine take_l (i := 16) (v := ?_) rfl (by kernel_rfl) (by kernel_rfl) (by kernel_rfl) (fun _ _ _ h => h) (Or.inl ⟨by kernel_rfl, ?_⟩) (by assumption) ?_
      rotate_left
      · intro w hSw; (try dsimp only at hSw); go_simp; (try with_reducible rfl)
      (try simp only [Act.put, List.setIfInBounds_toArray, List.set_cons_zero, List.set_cons_succ])
      refine take_l (i := 17) (v := ?_) rfl (by kernel_rfl) (by kernel_rfl) (by kernel_rfl) (fun _ _ _ h => h) (Or.inl ⟨by kernel_rfl, ?_⟩) (by assumption) ?_
      rotate_left
      · intro w hSw; (try dsimp only at hSw); go_simp; (try with_reducible rfl)
      (try simp only [Act.put, List.setIfInBounds_toArray, List.set_cons_zero, List.set_cons_succ])
      refine wpAnyH_done (by kernel_rfl) ?_ _
      clear hHeld2 hsm c0 c1 c2 c3 d0 d1 d2 d3 hRy6 hok5 hRy
      clear hlo hlo2
      have hb36 := Lib.hid (hbr.out.trans (hb46.mono hbr.out.size))
      replace x0 := (hb46.cell (p := ⟨b, _, none⟩) hbl).trans x0
      replace x1 := (hb46.cell (p := ⟨b, _, none⟩) hbl).trans x1
      replace x2 := (hb46.cell (p := ⟨b, _, none⟩) hbl).trans x2
      replace x3 := (hb46.cell (p := ⟨b, _, none⟩) hbl).trans x3
      replace hbl := Nat.lt_of_lt_of_le hbl hb46.size
      have hok6 := Lib.hid (hok.out.below hb46)
      clear hok hb45 hb46 hb6 hbd hbr
      replace hap := Lib.hid hap.out
      have hw2 : 0 < i → IntKind.i64.wrap ((i : Int) - 1) = (i : Int) - 1 := fun h => IntWalk.i64_in _ (by unfold maxLen at hzm; omega)
      go_upto_region 10 with fail
      go_cut [116] from 36 to 136 (fun c wx => c = .bool false ∧ ∃ nq, wx = w6.drewN nq)
      case first =>
        by_cases h0 : i = 0
        · have e1 : decide ((i : Int) > 0) = false := decide_eq_false (by omega)
          have e2 : decide (0 < i) = false := decide_eq_false (by omega)
          have e3 : decide ((0 : Int) < (i : Int)) = false := decide_eq_false (by omega)
          replace h0 := Lib.hid h0
          go_quiet (fail)
          go_wp2_with fail
          go_meet
          exact ⟨rfl, nq, rfl⟩
        · obtain ⟨j, hj⟩ : ∃ j, i = j + 1 := ⟨i - 1, by omega⟩
          have e1 : decide ((i : Int) > 0) = true := decide_eq_true (by omega)
          have e2 : decide (0 < i) = true := decide_eq_true (by omega)
          have e3 : decide ((0 : Int) < (i : Int)) = true := decide_eq_true (by omega)
          obtain ⟨b', o', ua, uc, ub, ud, hq, _, _, y1, y2, _, _⟩ := (hR.out.below hb36.out).row (i := j) (by omega)
          cases hq
          have hs := hst.out j hj
          rw [hsi.out j hj] at hs
          generalize (zs[j]!).r.cost = cj at *
          generalize (zs[j]!).r.life = lj at *
          have hwj : IntKind.i64.wrap ((i : Int) - 1) = (j : Int) := by rw [show (i : Int) - 1 = (j : Int) by omega]; exact IntWalk.i64_in _ (by unfold maxLen at hzm; omega)
          have q0 : (0 : Int) ≤ (j : Int) := by omega
          have q1 : (j : Int) < (zs.length : Int) := by omega
          have f1 : decide (r2.cost < cj) = false := decide_eq_false (by omega)
          clear h0
          generalize r2.cost = ci at *
          generalize r2.life = li at *
          replace hj := Lib.hid hj
          by_cases he : ci = cj
          · have f2 : (ci == cj) = true := by rw [he]; exact beq_self_eq_true _
            have f3 : decide (li > lj) = false := decide_eq_false (by have := hs.2 he; omega)
            have f4 : decide (lj < li) = false := decide_eq_false (by have := hs.2 he; omega)
            replace he := Lib.hid he
            replace hs := Lib.hid hs
            go_quiet (fail)
            go_wp2_with fail
            go_meet
            exact ⟨rfl, nq, rfl⟩
          · have f2 : (ci == cj) = false := beq_false_of_ne he
            have f3 : decide (ci = cj) = false := decide_eq_false he
            replace he := Lib.hid he
            replace hs := Lib.hid hs
            go_quiet (fail)
            go_wp2_with fail
            go_meet
            exact ⟨rfl, nq, rfl⟩
      case rest =>
        obtain ⟨rfl, nq, rfl⟩ := hcut
        clear hw2 hst hsi
        have hb37 := Lib.hid (hb36.out.trans ((below_drewN (Below.refl w6.heap.size w6) nq).mono hb36.out.size))
        have hok7 := Lib.hid (hok6.out.below (below_drewN (Below.refl w6.heap.size w6) nq))
        replace x0 := ((below_drewN (Below.refl w6.heap.size w6) nq).cell (p := ⟨b, _, none⟩) hbl).trans x0
        replace x1 := ((below_drewN (Below.refl w6.heap.size w6) nq).cell (p := ⟨b, _, none⟩) hbl).trans x1
        replace x2 := ((below_drewN (Below.refl w6.heap.size w6) nq).cell (p := ⟨b, _, none⟩) hbl).trans x2
        replace x3 := ((below_drewN (Below.refl w6.heap.size w6) nq).cell (p := ⟨b, _, none⟩) hbl).trans x3
        replace hbl := Nat.lt_of_lt_of_le hbl (below_drewN (Below.refl w6.heap.size w6) nq).size
        clear hb36 hok6
        obtain ⟨w7, hw7⟩ : ∃ w7, w7 = w6.drewN nq := ⟨_, rfl⟩
        rw [← hw7] at hb37 hok7 x0 x1 x2 x3 hbl ⊢
        clear hw7
        have hbk := Lib.hid (Below.refl w7.heap.size w7)
        go_wp2_with fail
        go_loopw [15] (fun kv wr => ∃ k : Nat, k ≤ zs.length ∧ kv = .int .i64 (k : Int) ∧ Hid (Below w7.heap.size w7 wr)) (fun kv _ => zs.length - (intOf kv).toNat)
        case atStart => exact ⟨0, Nat.zero_le _, rfl, hbk⟩
        case round =>
          obtain ⟨k, hk', rfl, hbr⟩ := hrel
          clear hbk
          by_cases hkl : k < zs.length
          · have hkyes : decide ((k : Int) < (zs.length : Int)) = true := decide_eq_true (by omega)
            have hw2 : IntKind.i64.wrap ((k : Int) + 1) = (k : Int) + 1 := IntWalk.i64_in _ (by unfold maxLen at hzm; omega)
            have q0 : (0 : Int) ≤ (k : Int) := by omega
            have q1 : (k : Int) < (zs.length : Int) := by omega
            by_cases hki : k = i
            · have e1 : ((k : Int) == (i : Int)) = true := by rw [hki]; exact beq_self_eq_true _
              have e2 : ((k : Int) != (i : Int)) = false := by rw [hki]; exact bne_self_eq_false _
              have e3 : decide (k = i) = true := decide_eq_true hki
              have e4 : decide ((k : Int) = (i : Int)) = true := decide_eq_true (by rw [hki])
              replace hki := Lib.hid hki
              go_upto_region 15 with fail
              go_quiet (fail)
              have hbn := Lib.hid (hbr.out.trans ((below_drewN (Below.refl wr.heap.size wr) nq).mono hbr.out.size))
              go_wp2_with fail
              exact ⟨⟨k + 1, by omega, rfl, hbn⟩, by simp [intOf]; omega⟩
            · have e1 : ((k : Int) == (i : Int)) = false := beq_false_of_ne (by omega)
              have e2 : ((k : Int) != (i : Int)) = true := bne_iff_ne.2 (by omega)
              have e3 : decide (k = i) = false := decide_eq_false hki
              have e4 : decide ((k : Int) = (i : Int)) = false := decide_eq_false (by omega)
              have hbd := hbr.out.drew
              obtain ⟨b', o', ua, uc, ub, ud, hq, hbl', y0, y1, y2, y3, hoky⟩ := (hR.out.below (hb37.out.trans (hbd.mono hb37.out.size))).row hkl
              cases hq
              have hbt := hap.out k hkl hki
              generalize (zs[k]!).r = s at *
              have hbt2 := better_law s r2 ua xa ub xb uc xc ud xd wr.drew hoky (hok7.out.below hbd)
              rw [hbt] at hbt2
              have d0 := (hbd.cell (p := ⟨b, _, none⟩) hbl).trans x0
              have d1 := (hbd.cell (p := ⟨b, _, none⟩) hbl).trans x1
              have d2 := (hbd.cell (p := ⟨b, _, none⟩) hbl).trans x2
              have d3 := (hbd.cell (p := ⟨b, _, none⟩) hbl).trans x3
              replace hbt2 := Lib.hid hbt2
              replace hki := Lib.hid hki
              replace hbd := Lib.hid hbd
              replace hoky := Lib.hid hoky
              clear hbt
              go_upto_region 15 with fail
              refine wp_region_held_drew (S := fun w' => w'.cell? ⟨b, o + k * 4, none⟩ = some (.slice ua s.edges.length uc) ∧ w'.cell? ⟨b, o + k * 4 + 1, none⟩ = some (.int .i64 s.cost) ∧ w'.cell? ⟨b, o + k * 4 + 2, none⟩ = some (.int .i64 s.life) ∧ w'.cell? ⟨b, o + k * 4 + 3, none⟩ = some (.slice ub s.claims.length ud) ∧ w'.cell? ⟨b, o + i * 4, none⟩ = some (.slice xa r2.edges.length xc) ∧ w'.cell? ⟨b, o + i * 4 + 1, none⟩ = some (.int .i64 r2.cost) ∧ w'.cell? ⟨b, o + i * 4 + 2, none⟩ = some (.int .i64 r2.life) ∧ w'.cell? ⟨b, o + i * 4 + 3, none⟩ = some (.slice xb r2.claims.length xd)) (by kernel_rfl) (by exact ⟨y0, y1, y2, y3, d0, d1, d2, d3⟩) (fun hHeld => ?_)
              refine take_l (i := 0) (v := ?_) rfl (by kernel_rfl) (by kernel_rfl) (by kernel_rfl) (fun _ _ _ h => h) (Or.inl ⟨by kernel_rfl, ?_⟩) (by assumption) ?_
              rotate_left
              · intro w hSw; (try dsimp only at hSw); go_simp; (try with_reducible rfl)
              (try simp only [Act.put, List.setIfInBounds_toArray, List.set_cons_zero, List.set_cons_succ])
              refine take_l (i := 1) (v := ?_) rfl (by kernel_rfl) (by kernel_rfl) (by kernel_rfl) (fun _ _ _ h => h) (Or.inl ⟨by kernel_rfl, ?_⟩) (by assumption) ?_
              rotate_left
              · intro w hSw; (try dsimp only at hSw); go_simp; (try with_reducible rfl)
              (try simp only [Act.put, List.setIfInBounds_toArray, List.set_cons_zero, List.set_cons_succ])
              refine take_l (i := 2) (v := ?_) rfl (by kernel_rfl) (by kernel_rfl) (by kernel_rfl) (fun _ _ _ h => h) (Or.inl ⟨by kernel_rfl, ?_⟩) (by assumption) ?_
              rotate_left
              · intro w hSw; (try dsimp only at hSw); go_simp; (try with_reducible rfl)
              (try simp only [Act.put, List.setIfInBounds_toArray, List.set_cons_zero, List.set_cons_succ])
              refine take_l (i := 3) (v := ?_) rfl (by kernel_rfl) (by kernel_rfl) (by kernel_rfl) (fun _ _ _ h => h) (Or.inl ⟨by kernel_rfl, ?_⟩) (by assumption) ?_
              rotate_left
              · intro w hSw; (try dsimp only at hSw); go_simp; (try with_reducible rfl)
              (try simp only [Act.put, List.setIfInBounds_toArray, List.set_cons_zero, List.set_cons_succ])
              refine take_l (i := 4) (v := ?_) rfl (by kernel_rfl) (by kernel_rfl) (by kernel_rfl) (fun _ _ _ h => h) (Or.inl ⟨by kernel_rfl, ?_⟩) (by assumption) ?_
              rotate_left
              · intro w hSw; (try dsimp only at hSw); go_simp; (try with_reducible rfl)
              (try simp only [Act.put, List.setIfInBounds_toArray, List.set_cons_zero, List.set_cons_succ])
              refine take_l (i := 5) (v := ?_) rfl (by kernel_rfl) (by kernel_rfl) (by kernel_rfl) (fun _ _ _ h => h) (Or.inl ⟨by kernel_rfl, ?_⟩) (by assumption) ?_
              rotate_left
              · intro w hSw; (try dsimp only at hSw); go_simp; (try with_reducible rfl)
              (try simp only [Act.put, List.setIfInBounds_toArray, List.set_cons_zero, List.set_cons_succ])
              refine take_l (i := 6) (v := ?_) rfl (by kernel_rfl) (by kernel_rfl) (by kernel_rfl) (fun _ _ _ h => h) (Or.inl ⟨by kernel_rfl, ?_⟩) (by assumption) ?_
              rotate_left
              · intro w hSw; (try dsimp only at hSw); go_simp; (try with_reducible rfl)
              (try simp only [Act.put, List.setIfInBounds_toArray, List.set_cons_zero, List.set_cons_succ])
              refine take_l (i := 7) (v := ?_) rfl (by kernel_rfl) (by kernel_rfl) (by kernel_rfl) (fun _ _ _ h => h) (Or.inl ⟨by kernel_rfl, ?_⟩) (by assumption) ?_
              rotate_left
              · intro w hSw; (try dsimp only at hSw); go_simp; (try with_reducible rfl)
              (try simp only [Act.put, List.setIfInBounds_toArray, List.set_cons_zero, List.set_cons_succ])
              refine take_l (i := 8) (v := ?_) rfl (by kernel_rfl) (by kernel_rfl) (by kernel_rfl) (fun _ _ _ h => h) (Or.inl ⟨by kernel_rfl, ?_⟩) (by assumption) ?_
              rotate_left
              · intro w hSw; (try dsimp only at hSw); go_simp; (try with_reducible rfl)
              (try simp only [Act.put, List.setIfInBounds_toArray, List.set_cons_zero, List.set_cons_succ])
              refine take_l (i := 9) (v := ?_) rfl (by kernel_rfl) (by kernel_rfl) (by kernel_rfl) (fun _ _ _ h => h) (Or.inl ⟨by kernel_rfl, ?_⟩) (by assumption) ?_
              rotate_left
              · intro w hSw; (try dsimp only at hSw); go_simp; (try with_reducible rfl)
              (try simp only [Act.put, List.setIfInBounds_toArray, List.set_cons_zero, List.set_cons_succ])
              refine take_l (i := 10) (v := ?_) rfl (by kernel_rfl) (by kernel_rfl) (by kernel_rfl) (fun _ _ _ h => h) (Or.inl ⟨by kernel_rfl, ?_⟩) (by assumption) ?_
              rotate_left
              · intro w hSw; (try dsimp only at hSw); go_simp; (try with_reducible rfl)
              (try simp only [Act.put, List.setIfInBounds_toArray, List.set_cons_zero, List.set_cons_succ])
              refine take_l (i := 11) (v := ?_) rfl (by kernel_rfl) (by kernel_rfl) (by kernel_rfl) (fun _ _ _ h => h) (Or.inl ⟨by kernel_rfl, ?_⟩) (by assumption) ?_
              rotate_left
              · intro w hSw; (try dsimp only at hSw); go_simp; (try with_reducible rfl)
              (try simp only [Act.put, List.setIfInBounds_toArray, List.set_cons_zero, List.set_cons_succ])
              refine wpAnyH_ready (rs := [12]) (by kernel_rfl) (by simp) ?_
              refine ready_l rfl (fun K hK => ?_) AllReadyH.nil
              go_simp
              refine hbt2.out.mono ?_
              rintro e w8 ⟨rfl, hb8⟩
              refine hK.out _ _ (by exact ⟨(hb8.cell (p := ⟨b, _, none⟩) hbl').trans y0, (hb8.cell (p := ⟨b, _, none⟩) hbl').trans y1, (hb8.cell (p := ⟨b, _, none⟩) hbl').trans y2, (hb8.cell (p := ⟨b, _, none⟩) hbl').trans y3, (hb8.cell (p := ⟨b, _, none⟩) hbl').trans d0, (hb8.cell (p := ⟨b, _, none⟩) hbl').trans d1, (hb8.cell (p := ⟨b, _, none⟩) hbl').trans d2, (hb8.cell (p := ⟨b, _, none⟩) hbl').trans d3⟩) (fun hHeld2 => ?_)
              clear hK K hHeld
              (try simp only [Act.put, List.setIfInBounds_toArray, List.set_cons_zero, List.set_cons_succ])
              refine take_l (i := 13) (v := ?_) rfl (by kernel_rfl) (by kernel_rfl) (by kernel_rfl) (fun _ _ _ h => h) (Or.inl ⟨by kernel_rfl, ?_⟩) (by assumption) ?_
              rotate_left
              · intro w hSw; (try dsimp only at hSw); go_simp; (try with_reducible rfl)
              (try simp only [Act.put, List.setIfInBounds_toArray, List.set_cons_zero, List.set_cons_succ])
              refine wpAnyH_done (by kernel_rfl) ?_ _
              clear hHeld2 hbt2 d0 d1 d2 d3 y0 y1 y2 y3
              have hbn := Lib.hid (hbd.out.trans (hb8.mono hbd.out.size))
              go_wp2_with fail
              exact ⟨⟨k + 1, by omega, rfl, hbn⟩, by simp [intOf]; omega⟩
          · have hkno : decide ((k : Int) < (zs.length : Int)) = false := decide_eq_false (by omega)
            have hbn := Lib.hid (hb37.out.trans (hbr.out.mono hb37.out.size))
            clear x0 x1 x2 x3 hap hok7
            go_wp2_with fail
            exact ⟨⟨i + 1, by omega, rfl, hbn⟩, by simp [intOf]; omega⟩
    · have hno : decide ((i : Int) < (zs.length : Int)) = false := decide_eq_false (by omega)
      have hbo := hb.out.trans (hbr.out.mono hb.out.size)
      have hwk := Lib.hid (walk_any l f cs _ _ wo (by have := hM.out.len; omega) (hE.out.below hbr.out).at (hcvw.out wo hbo) hcI)
      replace hbo := Lib.hid hbo
      go_wp2_with fail
      refine hwk.out.mono ?_
      clear hwk
      rintro e w4 ⟨wv, rfl, hN, hb4⟩
      replace hbr := Lib.hid (hbr.out.trans (hb4.mono hbr.out.size))
      clear hb4 hbo
      have hwl := walkL_len l f cs
      generalize walkL l f cs = es at *
      obtain ⟨wa, wcap, rfl, hwc, hwm, _⟩ := id hN
      obtain ⟨m, hmn⟩ : ∃ m : Nat, min (es.length : Int) hops = (m : Int) := ⟨(min (es.length : Int) hops).toNat, by have := hops0.out.1; omega⟩
      have q0 : (0 : Int) ≤ (m : Int) := by omega
      have q1 : m ≤ es.length := by omega
      have q2 : (m : Int) ≤ (es.length : Int) := by omega
      have q3 : (m : Int) ≤ (wcap : Int) := by omega
      have q4 : m ≤ wcap := by omega
      have hmh : Hid ((m : Int) ≤ hops) := (show (m : Int) ≤ hops by omega)
      obtain ⟨og, hog⟩ : ∃ og, ofP l life f d (es.take m) = og := ⟨_, rfl⟩
      have hof := Lib.hid (of_law l life f d _ og hog _ _ _ w4 hM.out.mig (hE.out.below hbr.out) (hL.out.below hbr.out) (NumsT.take hN q1))
      clear hN
      go_wp2_with fail
      refine hof.out.mono ?_
      clear hof
      rintro e w5 ⟨ya, yc, yb, yd, r2, rfl, hr2, hok2, hb5⟩
      replace hr2 := Lib.hid hr2
      obtain ⟨w6, hw⟩ : ∃ w6, w6 = w5.alloc (.cells #[.slice ya r2.edges.length yc, .int .i64 r2.cost, .int .i64 r2.life, .slice yb r2.claims.length yd] 33) := ⟨_, rfl⟩
      have hRy : Arr w6 w5.heap.size 33 [.slice ya r2.edges.length yc, .int .i64 r2.cost, .int .i64 r2.life, .slice yb r2.claims.length yd] := by rw [hw]; exact Arr.new rfl rfl
      have hb6 : Below w5.heap.size w5 w6 := by rw [hw]; exact (Below.refl _ _).alloc (Nat.le_refl _) _
      go_upto_region 19 with fail
      rw [← hw]
      clear hw
      have hb36 := Lib.hid (hbr.out.trans ((hb5.trans (hb6.mono hb5.size)).mono hbr.out.size))
      have hok6 := Lib.hid (hok2.below hb6)
      have hbF := Lib.hid (hb.out.trans (hb36.out.mono hb.out.size))
      clear hok2 hb5 hb6 hbr
      replace hRy := Lib.hid hRy
      cases og with
      | none =>
        have es_ : ofE none = 110 := rfl
        rw [es_]
        go_wp2_with fail
        go_ret
        exact ⟨rfl, hbF.out⟩
      | some rr =>
        have es_ : ofE (some rr) = 0 := rfl
        rw [es_]
        obtain rfl : r2 = rr := hr2.out
        have hov := hbi.out.over hM.out.val hops0.out.1 hog (by rw [List.length_take]; have := hmh.out; omega)
        replace hov := Lib.hid hov
        clear es_ hog
        have hfb : Hid (∀ k, k < 0 → betterP (zs[k]!).r r2 = true → false = true) := fun k hk => absurd hk (Nat.not_lt_zero k)
        have hb60 := Lib.hid (Below.refl w6.heap.size w6)
        go_wp2_with fail
        go_loopw [19, 20] (fun fv iv wr => ∃ (k : Nat) (fb : Bool), k ≤ zs.length ∧ iv = .int .i64 (k : Int) ∧ fv = .bool fb ∧ Hid (∀ j, j < k → betterP (zs[j]!).r r2 = true → fb = true) ∧ Hid (Below w6.heap.size w6 wr)) (fun _ iv _ => zs.length - (intOf iv).toNat)
        case atStart => exact ⟨0, false, Nat.zero_le _, rfl, rfl, hfb, hb60⟩
        case round =>
          obtain ⟨k, fb, hk', rfl, rfl, hf, hbr⟩ := hrel
          clear hfb hb60
          by_cases hkl : k < zs.length
          · have hkyes : decide ((k : Int) < (zs.length : Int)) = true := decide_eq_true (by omega)
            have hw2 : IntKind.i64.wrap ((k : Int) + 1) = (k : Int) + 1 := IntWalk.i64_in _ (by unfold maxLen at hzm; omega)
            have p0 : (0 : Int) ≤ (k : Int) := by omega
            have p1 : (k : Int) < (zs.length : Int) := by omega
            cases fb with
            | true =>
              have hn : Hid (∀ j, j < k + 1 → betterP (zs[j]!).r r2 = true → true = true) := fun _ _ _ => rfl
              go_upto_region 25 with fail
              go_quiet (fail)
              have hbn := Lib.hid (hbr.out.trans ((below_drewN (Below.refl wr.heap.size wr) nq).mono hbr.out.size))
              go_wp2_with fail
              exact ⟨⟨k + 1, true, by omega, rfl, rfl, hn, hbn⟩, by simp [intOf]; omega⟩
            | false =>
              have hbd := hbr.out.drew
              obtain ⟨b', o', ua, uc, ub, ud, hq, hbl', y0, y1, y2, y3, hoky⟩ := (hR.out.below (hb36.out.trans (hbd.mono hb36.out.size))).row hkl
              have hn : Hid (∀ j, j < k + 1 → betterP (zs[j]!).r r2 = true → betterP (zs[k]!).r r2 = true) := fun j hj hp => by
                by_cases e : j = k
                · rw [← e]; exact hp
                · cases hf.out j (by omega) hp
              generalize (zs[k]!).r = s at *
              have hbt2 := Lib.hid (better_law s r2 ua ya ub yb uc yc ud yd wr.drew hoky (hok6.out.below hbd))
              have hRq := hRy.out.below hbd
              have d0 := hRq.cell (j := 0) rfl
              have d1 := hRq.cell (j := 1) rfl
              have d2 := hRq.cell (j := 2) rfl
              have d3 := hRq.cell (j := 3) rfl
              generalize betterP s r2 = bb at *
              replace hbd := Lib.hid hbd
              replace hoky := Lib.hid hoky
              replace hRq := Lib.hid hRq
              replace hq := Lib.hid hq
              obtain rfl := hq.out
              go_upto_region 25 with fail
              refine wp_region_held_drew (S := fun w' => w'.cell? ⟨b', o' + k * 4, none⟩ = some (.slice ua s.edges.length uc) ∧ w'.cell? ⟨b', o' + k * 4 + 1, none⟩ = some (.int .i64 s.cost) ∧ w'.cell? ⟨b', o' + k * 4 + 2, none⟩ = some (.int .i64 s.life) ∧ w'.cell? ⟨b', o' + k * 4 + 3, none⟩ = some (.slice ub s.claims.length ud) ∧ w'.cell? ⟨w5.heap.size, 0, none⟩ = some (.slice ya r2.edges.length yc) ∧ w'.cell? ⟨w5.heap.size, 1, none⟩ = some (.int .i64 r2.cost) ∧ w'.cell? ⟨w5.heap.size, 2, none⟩ = some (.int .i64 r2.life) ∧ w'.cell? ⟨w5.heap.size, 3, none⟩ = some (.slice yb r2.claims.length yd)) (by kernel_rfl) (by exact ⟨y0, y1, y2, y3, d0, d1, d2, d3⟩) (fun hHeld => ?_)
              refine take_l (i := 0) (v := ?_) rfl (by kernel_rfl) (by kernel_rfl) (by kernel_rfl) (fun _ _ _ h => h) (Or.inl ⟨by kernel_rfl, ?_⟩) (by assumption) ?_
              rotate_left
              · intro w hSw; (try dsimp only at hSw); go_simp; (try with_reducible rfl)
              (try simp only [Act.put, List.setIfInBounds_toArray, List.set_cons_zero, List.set_cons_succ])
              refine take_l (i := 1) (v := ?_) rfl (by kernel_rfl) (by kernel_rfl) (by kernel_rfl) (fun _ _ _ h => h) (Or.inl ⟨by kernel_rfl, ?_⟩) (by assumption) ?_
              rotate_left
              · intro w hSw; (try dsimp only at hSw); go_simp; (try with_reducible rfl)
              (try simp only [Act.put, List.setIfInBounds_toArray, List.set_cons_zero, List.set_cons_succ])
              refine take_l (i := 2) (v := ?_) rfl (by kernel_rfl) (by kernel_rfl) (by kernel_rfl) (fun _ _ _ h => h) (Or.inl ⟨by kernel_rfl, ?_⟩) (by assumption) ?_
              rotate_left
              · intro w hSw; (try dsimp only at hSw); go_simp; (try with_reducible rfl)
              (try simp only [Act.put, List.setIfInBounds_toArray, List.set_cons_zero, List.set_cons_succ])
              refine take_l (i := 3) (v := ?_) rfl (by kernel_rfl) (by kernel_rfl) (by kernel_rfl) (fun _ _ _ h => h) (Or.inl ⟨by kernel_rfl, ?_⟩) (by assumption) ?_
              rotate_left
              · intro w hSw; (try dsimp only at hSw); go_simp; (try with_reducible rfl)
              (try simp only [Act.put, List.setIfInBounds_toArray, List.set_cons_zero, List.set_cons_succ])
              refine take_l (i := 4) (v := ?_) rfl (by kernel_rfl) (by kernel_rfl) (by kernel_rfl) (fun _ _ _ h => h) (Or.inl ⟨by kernel_rfl, ?_⟩) (by assumption) ?_
              rotate_left
              · intro w hSw; (try dsimp only at hSw); go_simp; (try with_reducible rfl)
              (try simp only [Act.put, List.setIfInBounds_toArray, List.set_cons_zero, List.set_cons_succ])
              refine take_l (i := 5) (v := ?_) rfl (by kernel_rfl) (by kernel_rfl) (by kernel_rfl) (fun _ _ _ h => h) (Or.inl ⟨by kernel_rfl, ?_⟩) (by assumption) ?_
              rotate_left
              · intro w hSw; (try dsimp only at hSw); go_simp; (try with_reducible rfl)
              (try simp only [Act.put, List.setIfInBounds_toArray, List.set_cons_zero, List.set_cons_succ])
              refine take_l (i := 6) (v := ?_) rfl (by kernel_rfl) (by kernel_rfl) (by kernel_rfl) (fun _ _ _ h => h) (Or.inl ⟨by kernel_rfl, ?_⟩) (by assumption) ?_
              rotate_left
              · intro w hSw; (try dsimp only at hSw); go_simp; (try with_reducible rfl)
              (try simp only [Act.put, List.setIfInBounds_toArray, List.set_cons_zero, List.set_cons_succ])
              refine wpAnyH_ready (rs := [7]) (by kernel_rfl) (by simp) ?_
              refine ready_l rfl (fun K hK => ?_) AllReadyH.nil
              go_simp
              refine hbt2.out.mono ?_
              rintro e w8 ⟨rfl, hb8⟩
              have hR8 := hRq.out.below hb8
              refine hK.out _ _ (by exact ⟨(hb8.cell (p := ⟨b', _, none⟩) hbl').trans y0, (hb8.cell (p := ⟨b', _, none⟩) hbl').trans y1, (hb8.cell (p := ⟨b', _, none⟩) hbl').trans y2, (hb8.cell (p := ⟨b', _, none⟩) hbl').trans y3, hR8.cell (j := 0) rfl, hR8.cell (j := 1) rfl, hR8.cell (j := 2) rfl, hR8.cell (j := 3) rfl⟩) (fun hHeld2 => ?_)
              clear hK K hHeld
              (try simp only [Act.put, List.setIfInBounds_toArray, List.set_cons_zero, List.set_cons_succ])
              refine take_l (i := 8) (v := ?_) rfl (by kernel_rfl) (by kernel_rfl) (by kernel_rfl) (fun _ _ _ h => h) (Or.inl ⟨by kernel_rfl, ?_⟩) (by assumption) ?_
              rotate_left
              · intro w hSw; (try dsimp only at hSw); go_simp; (try with_reducible rfl)
              (try simp only [Act.put, List.setIfInBounds_toArray, List.set_cons_zero, List.set_cons_succ])
              refine take_l (i := 9) (v := ?_) rfl (by kernel_rfl) (by kernel_rfl) (by kernel_rfl) (fun _ _ _ h => h) (Or.inl ⟨by kernel_rfl, ?_⟩) (by assumption) ?_
              rotate_left
              · intro w hSw; (try dsimp only at hSw); go_simp; (try with_reducible rfl)
              (try simp only [Act.put, List.setIfInBounds_toArray, List.set_cons_zero, List.set_cons_succ])
              refine wpAnyH_done (by kernel_rfl) ?_ _
              clear hHeld2 hbt2 d0 d1 d2 d3 y0 y1 y2 y3 hR8
              have hbn := Lib.hid (hbd.out.trans (hb8.mono hbd.out.size))
              go_wp2_with fail
              exact ⟨⟨k + 1, bb, by omega, rfl, rfl, hn, hbn⟩, by simp [intOf]; omega⟩
          · have hkno : decide ((k : Int) < (zs.length : Int)) = false := decide_eq_false (by omega)
            obtain rfl : fb = true := by
              obtain ⟨j, hj, hjb⟩ := hov.out
              exact hf.out j (by omega) hjb
            have hbn := Lib.hid (hbF.out.trans (hbr.out.mono hbF.out.size))
            go_wp2_with fail
            go_ret
            exact ⟨rfl, hbn.out⟩
end Go.Proofs.YtpeandbcdaikbaaGreatDoor
namespace Go.Proofs.YtpeandbcdaikbaaGreatDoor.routeBest
open Go.ChangeShapes Go.WideShapes Go.ChangeAt Go.RowKit
open Go.ChangeMaps (open_string)

set_option maxRecDepth 100000 in
set_option maxHeartbeats 1000000 in
theorem lifted (os : Os) (started : os.Started) (H : Type) (enc : TypeId × Value → H) :
    ReturnsInHanded {} Tryz.checked os 4 .any (fun w args => (Rows.routeBestSpec.pre enc Tryz.prog Tryz.f4 [] false w args ∧ laidMetH Tryz.prog laid11 w) ∧ sizedMet enc Tryz.prog Tryz.f4 (OpenSpec.ofChange Rows.routeBestSpec) false w args)
      (Rows.routeBestSpec.post enc Tryz.prog Tryz.f4 false true false false) := by
  refine lift_shaped (C := Tryz.checked) (X := fun w => laidMetH Tryz.prog laid11 w) (fun _ _ hh h => h.of_heap hh) own started (by kernel_rfl) Tryz.func4
    (ChangeSpec.witness_shaped (enc := enc) (C := Tryz.checked) (os := os) (X := fun w _ => laidMetH Tryz.prog laid11 w) false (World.laidAll Tryz.prog os laid11) #[.agg #[.slice none 0 0, .slice none 0 0, .int .i64 0, .int .i64 0, .int .i64 0], .slice none 0 0] 8 (World.laidAll_os _ _ _) (shape11 os) (by kernel_rfl) (by kernel_rfl) (by kernel_rfl) (door_met11 os _)) ?_
  intro W base args ds gs before hval0 hW hL hsh
  have hval : ∀ (j : Nat) t v, Tryz.f4.params[j]? = some t → args[j]? = some v → Value.okWide Tryz.prog W .any base t v := hval0
  have hW' := hW
  obtain ⟨p, q, hA0, hV, rfl, hfz, hnd⟩ := hW
  have hA : DataW.TrodAll enc Tryz.prog W 0 (fun _ => true) true Tryz.f4.params.toList args.toList ds p := hA0
  have hAk := hA
  rw [Tryz.params4] at hA hval
  obtain ⟨v0, vs0, d0, ds0, p0, q0, hargs, rfl, rfl, h0, r0⟩ := trodAll_cons hA
  obtain ⟨v1, vs1, d1, ds1, p1, q1, rfl, rfl, rfl, h1, r1⟩ := trodAll_cons r0
  obtain ⟨rfl, rfl, rfl⟩ := trodAll_nil r1
  obtain rfl : args = #[v0, v1] := by cases args; simp_all
  obtain ⟨rfl, rfl⟩ := trodVars_none hV
  obtain ⟨n0, z0, k0, f0, d0_, p0_, e0, g0, s0⟩ := open_case (hval 0 25 v0 rfl rfl) h0
  obtain ⟨l1, g1, s1⟩ := open_nums (hval 1 23 v1 rfl rfl) h1
  clear hA0 hval0
  refine (Best_law v0 n0 z0 k0 f0 d0_ p0_ e0 g0 v1 l1 W s0 s1 g1).mono fun e W' ⟨he, hg⟩ => ?_
  subst he
  have hlt := DataW.TrodAll.lt hAk
  exact ⟨_, rfl, post_of_below (pa := _) (pv := []) hW' (fun _ _ _ => (trodAll_cons_mk (shut_bool Tryz.underlying4 _) trodAll_mk0)) (fun sp hsp => trodAll_stay Tryz.kids Tryz.full (by rw [Tryz.params4]; decide) hAk (fun x hx => sameAt_below hg (hlt x hx)) (fun x hx => hsp x (List.mem_append_left _ hx))) (fun _ _ => rfl) rfl hg (ok_one (by kernel_rfl) rfl (okWide_bool_mk Tryz.underlying4 _))⟩

theorem row_holds : Rows.RouteBestSaid :=
  OpenClaim.holds_of_wide 4 Tryz.f4 rfl rfl rfl rfl rfl rfl rfl ⟨rfl, rfl, rfl, rfl, rfl⟩ rfl rfl rfl rfl rfl (by kernel_rfl) Tryz.func4 (by kernel_rfl)
    (of_decide_eq_true (by kernel_rfl)) (by unfold Func.isWrapper; first | (rw [if_pos (by decide +kernel)]; kernel_rfl) | (rw [if_neg (by decide +kernel)]; exact ⟨rfl, rfl⟩))
    (fun os started H enc _ => lifted os started H enc)

/-- THE TIED CARD. -/
theorem card_holds : Rows.RouteBestCardSaid :=
  Claim7.holds_tied_plain_at .later [] [.data, .pinned, .pinned] true Rows.routeBestCard.stood.harness false
    row_holds (fun _ h => by cases h) (by kernel_rfl) (fun _ h => by cases h) routeBest_row_tie rfl ⟨rfl, rfl⟩ (by kernel_rfl) rfl
    (fun f fn hf hfn => by
      obtain rfl : f = 4 := Option.some.inj ((show Tryz.prog.funcNamed "evergreen/evergreenlaw11.RouteBest" = some 4 by kernel_rfl).symm.trans hf) |>.symm
      obtain rfl : fn = Tryz.f4 := (Option.some.inj (Tryz.func4.symm.trans hfn)).symm
      exact ⟨by kernel_rfl, fun j t ht => by
        rw [Tryz.params4] at ht
        have hm : t ∈ [25, 23] := by simpa using Array.mem_of_getElem? ht
        have hall : ([25, 23].all fun u => !Tryz.prog.wantsStandIn u) = true := by kernel_rfl
        exact (show Tryz.prog.wantsStandIn t = false by simpa using List.all_eq_true.1 hall t hm)⟩)
    (by kernel_rfl)
#print axioms card_holds
end Go.Proofs.YtpeandbcdaikbaaGreatDoor.routeBest
