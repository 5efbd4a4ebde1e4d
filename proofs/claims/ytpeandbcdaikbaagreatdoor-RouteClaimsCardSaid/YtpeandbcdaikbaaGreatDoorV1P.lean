/-
  Routes of chapter 11: the law RouteClaims.
  RouteClaims is true of every input: the row, and its tied card. Conditions: the library variables that are read hold what their packages lay in them (the card ties that to the text).
-/
import Derived.Test.YtpeandbcdaikbaaGreatDoorYS
import Derived.Test.YtpeandbcdaikbaaGreatDoorCards
import Derived.Test.YtpeandbcdaikbaaGreatDoorTie
import Derived.Test.YtpeandbcdaikbaaGreatDoorYU
import Derived.SevenTiedAt
namespace Go.Proofs.YtpeandbcdaikbaaGreatDoor
open Go.RowKit Go.Shelf Go.Maps

attribute [local go_sem] Oper.semAt_some

theorem StepsAt.shape {w : World} {B : Nat} {v : Value} {l : List Stp} (h : StepsAt w B v l) : ∃ a c, v = .slice a l.length c := by
  obtain ⟨a, c, h, _⟩ := h
  exact ⟨a, c, h⟩
theorem stepsT_at {w : World} {v : Value} {l : List Stp} (h : StepsT w v l) : StepsAt w w.heap.size v l := RowT.at h
set_option maxRecDepth 100000 in
set_option maxHeartbeats 8000000 in
theorem Claims_law (v : Value) (n : Nat) (zs ls : List Int) (fr dy hp : Int) (ev lv : Value) (which : Int) (w : World) (h : CaseIn w v n zs ls fr dy hp ev lv) (hwI : I64 which) :
    Calls Tryz.prog 9 #[v, .int .i64 which] w fun e w' => e = .returned (.bool true) ∧ Below w.heap.size w w' := by
  have hM := Lib.hid (madeP n zs ls fr dy)
  have hmade := fun W (hb : Below w.heap.size w W) => made_any v n zs ls fr dy hp ev lv W (h.below hb)
  obtain ⟨rfl, hfi, hli, _⟩ := h
  obtain ⟨fa, fc, rfl, _, _, _⟩ := hfi.2
  obtain ⟨la, lc, rfl, _, _, _⟩ := hli
  generalize madeE n zs = l at *
  generalize lifeR ls = life at *
  generalize frmC fr = f at *
  generalize dayC dy = d at *
  generalize hopsC hp = hops at *
  obtain ⟨W, hW⟩ : ∃ W, W = w.alloc (.cells #[.slice fa n fc, .slice la ls.length lc, .int .i64 fr, .int .i64 dy, .int .i64 hp] 25) := ⟨_, rfl⟩
  have hA : Arr W w.heap.size 25 [.slice fa n fc, .slice la ls.length lc, .int .i64 fr, .int .i64 dy, .int .i64 hp] := by rw [hW]; exact Arr.new rfl rfl
  have hbW : Below w.heap.size w W := by rw [hW]; exact (Below.refl _ _).alloc (Nat.le_refl _) _
  have hsa := Lib.hid (sane_any W)
  replace hmade := Lib.hid hmade
  go_enter Tryz.func9, Tryz.ntmps9
  go_upto_region 1 with fail
  rw [← hW]
  clear hW
  go_wp2_with fail
  refine hsa.out.mono ?_
  rintro e w1 ⟨rfl, hb1⟩
  have hA1 := hA.below hb1
  have hbw1 := hbW.trans (hb1.mono hbW.size)
  have hmd := Lib.hid (hmade.out w1 hbw1)
  have a0 := hA1.cell (j := 0) rfl
  have a1 := hA1.cell (j := 1) rfl
  have a2 := hA1.cell (j := 2) rfl
  have a3 := hA1.cell (j := 3) rfl
  have a4 := hA1.cell (j := 4) rfl
  clear hA hA1 hbW hb1 hsa hmade
  go_wp2_with fail
  refine hmd.out.mono ?_
  rintro e w2 ⟨ev', lv', rfl, hE, hL, hb2⟩
  have hb := Lib.hid (hbw1.trans (hb2.mono hbw1.size))
  clear hbw1 hb2 hmd a0 a1 a2 a3 a4
  obtain ⟨ea, ec, rfl, _⟩ := hE.len
  obtain ⟨va, vc, rfl, _⟩ := hL.len
  obtain ⟨o0, ho0⟩ : ∃ o0, ofP l life f d [] = o0 := ⟨_, rfl⟩
  have hof := Lib.hid (of_law l life f d [] o0 ho0 _ _ (.slice none 0 0) w2 hM.out.mig hE hL (RowT.nil _ _ _))
  replace hE := Lib.hid hE
  replace hL := Lib.hid hL
  go_wp2_with fail
  refine hof.out.mono ?_
  rintro e w3 ⟨za, zc, ya, yc, r0, rfl, hr0, hok, hb3⟩
  replace hr0 := Lib.hid hr0
  obtain ⟨w4, hw4⟩ : ∃ w4, w4 = w3.alloc (.cells #[.slice za r0.edges.length zc, .int .i64 r0.cost, .int .i64 r0.life, .slice ya r0.claims.length yc] 33) := ⟨_, rfl⟩
  have hR : Arr w4 w3.heap.size 33 [.slice za r0.edges.length zc, .int .i64 r0.cost, .int .i64 r0.life, .slice ya r0.claims.length yc] := by rw [hw4]; exact Arr.new rfl rfl
  have hb4 : Below w3.heap.size w3 w4 := by rw [hw4]; exact (Below.refl _ _).alloc (Nat.le_refl _) _
  go_upto_region 4 with fail
  rw [← hw4]
  clear hw4 hof
  replace hE := Lib.hid ((hE.out.below hb3).below hb4)
  replace hL := Lib.hid ((hL.out.below hb3).below hb4)
  replace hb := Lib.hid (hb.out.trans ((hb3.trans (hb4.mono hb3.size)).mono hb.out.size))
  replace hok := Lib.hid (hok.below hb4)
  clear hb3 hb4
  have hcl : Hid (∀ i, i < r0.claims.length → r0.claims[i]! = ((i : Int) + 1, [])) := by
    cases o0 with
    | none => rw [hr0.out]; exact fun i hi => absurd hi (Nat.not_lt_zero i)
    | some r =>
      obtain ⟨_, _, hc⟩ := of_none ho0
      have : r0 = r := hr0.out
      rw [this, hc]
      intro i hi
      exact props_at (fun _ => []) hi
  have hcl8 : r0.claims.length ≤ 8 := by
    cases o0 with
    | none => rw [hr0.out]; exact Nat.zero_le _
    | some r =>
      obtain ⟨_, _, hc⟩ := of_none ho0
      have : r0 = r := hr0.out
      rw [this, hc]
      exact Nat.le_refl _
  have r1 := hR.cell (j := 1) rfl
  have r2 := hR.cell (j := 2) rfl
  have r3 := hR.cell (j := 3) rfl
  have hlc := NumsAt.cells hL.out.at (i := f.toNat) (by have := hM.out.llen; have := hM.out.f1; omega)
  obtain ⟨lb, lo, lcap, hq, hlb, lx⟩ := hlc
  cases hq
  replace hcl8 := Lib.hid hcl8
  replace hR := Lib.hid hR
  go_cut [61] from 62 (fun v61 wc => v61 = .bool false ∧ Hid (Below w4.heap.size w4 wc))
  case first =>
    cases o0 with
    | none =>
      have : ofE none = 110 := rfl
      rw [this]
      go_quiet (fail)
      go_wp2_with fail
      go_meet
      exact ⟨rfl, below_drewN (Below.refl _ _) _⟩
    | some r =>
      have : ofE (some r) = 0 := rfl
      rw [this]
      obtain ⟨hc1, hc2, hc3⟩ := of_none ho0
      have hrr : r0 = r := hr0.out
      rw [← hrr] at hc1 hc2 hc3
      have hc4 : r0.claims.length = 8 := by rw [hc3]; rfl
      rw [hc1] at r1
      rw [hc2] at r2
      rw [hc4] at r3
      have k0 : 0 ≤ f := by have := hM.out.f1; omega
      have k1 : f < (life.length : Int) := by have := hM.out.f1; have := hM.out.llen; omega
      clear hc1 hc2 hc3 hc4 hrr hr0 ho0
      generalize life[f.toNat]! = x at lx r2
      go_quiet (fail)
      go_wp2_with fail
      go_meet
      exact ⟨rfl, below_drewN (Below.refl _ _) _⟩
  case rest =>
    obtain ⟨rfl, hbc⟩ := hcut
    clear r1 r2 r3 lx
    go_wp2_with fail
    go_loopw [13] (fun iv wr => ∃ i : Nat, i ≤ r0.claims.length ∧ iv = .int .i64 (i : Int) ∧ Hid (Below w4.heap.size w4 wr)) (fun iv _ => r0.claims.length - (intOf iv).toNat)
    case atStart => exact ⟨0, Nat.zero_le _, rfl, hbc⟩
    case round =>
      obtain ⟨i, hi, rfl, hbr⟩ := hrel
      have r3 := (hR.out.below hbr.out).cell (j := 3) rfl
      by_cases hlt : i < r0.claims.length
      · have hyes : decide ((i : Int) < (r0.claims.length : Int)) = true := decide_eq_true (by omega)
        have hw1 : IntKind.i64.wrap ((i : Int) + 1) = (i : Int) + 1 := IntWalk.i64_in _ (by have := hcl8.out; omega)
        have k0 : (0 : Int) ≤ (i : Int) := by omega
        have k1 : (i : Int) < (r0.claims.length : Int) := by omega
        obtain ⟨b, o, cap, u, hq, hbl, x0, x1, hu⟩ := ((hok.out.below hbr.out).2.at).cells hlt
        cases hq
        rw [hcl.out i hlt] at x0 hu
        obtain ⟨ua, uc, rfl⟩ := hu.shape
        dsimp only [List.length_nil] at x0 x1
        go_wp2_with fail
        exact ⟨⟨i + 1, by omega, rfl, hbr⟩, by simp [intOf]; omega⟩
      · have hno : decide ((i : Int) < (r0.claims.length : Int)) = false := decide_eq_false (by omega)
        clear hi
        replace hE := Lib.hid (hE.out.below hbr.out)
        replace hL := Lib.hid (hL.out.below hbr.out)
        replace hb := Lib.hid (hb.out.trans (hbr.out.mono hb.out.size))
        clear hR hok hcl hcl8 hbr hbc ho0 hr0 hlb
        go_upto_region 11 with fail
        clear hno hlt r3
        generalize wr = w6 at *
        generalize ofE o0 = err0 at *
        generalize r0.edges.length = zn at *
        generalize r0.claims.length = yn at *
        generalize r0.cost = rc0 at *
        generalize r0.life = rl0 at *
        by_cases h0 : l.length = 0
        · have e1 : ((l.length : Int) == 0) = true := by rw [h0]; rfl
          have e2 : decide (l.length = 0) = true := by simp [h0]
          go_wp2_with fail
          go_ret
          exact ⟨rfl, hb.out⟩
        · have e1 : ((l.length : Int) == 0) = false := beq_false_of_ne (by omega)
          have e2 : decide (l.length = 0) = false := decide_eq_false h0
          have hlen8 := hM.out.len
          have hpk := Lib.hid (pick_any which l.length w6 hwI (by omega) (by omega))
          have hkl := pickv_lt which l.length (by omega)
          generalize pickv which l.length = k at hpk hkl
          replace h0 := Lib.hid h0
          go_upto_region 14 with (refine hpk.out.mono ?_; clear hpk; rintro e w7 ⟨rfl, rfl⟩)
          have hval := (ok_parts ((validE_parts hM.out.val).2 l[k]! (by rw [getElem!_pos l k hkl]; exact List.getElem_mem hkl))).2.2
          have hmig := mig_in hval
          obtain ⟨⟨f1, f2⟩, ⟨t1, t2⟩, tne, ⟨c1, c2⟩, ⟨u1, u2⟩⟩ := hM.out.ends k hkl
          have hll := hM.out.llen
          have hone := of_one (life := life) (day := d) hM.out.val hkl tne (by omega) (by omega)
          obtain ⟨o1, ho1⟩ : ∃ o1, ofP l life l[k]!.does.frm d [(k : Int)] = o1 := ⟨_, rfl⟩
          have heq : ∀ r, o1 = some r → r.cost = l[k]!.cost ∧ r.life = life[l[k]!.does.to.toNat]! ∧ r.claims = props8.map fun p => (p, normalA (claimM l[k]!.does p)) := fun r hr => by
            have h1 := of_one_eq (ho1.trans hr)
            exact ⟨h1.1, h1.2.1, one_claims (ho1.trans hr)⟩
          obtain ⟨b, o, ecap, eu, hq, hbl, x0, x1, x2, x3, x4, x5, x6, hcl⟩ := hE.out.at.cells hkl
          cases hq
          obtain ⟨eb, eo, ecap2, hq, hel, ly⟩ := NumsAt.cells hL.out.at (i := l[k]!.does.to.toNat) (by omega)
          cases hq
          have hof := fun W (hE : EdgesT W (.slice (some ⟨b, o, none⟩) l.length ec) l) (hL : NumsT W (.slice (some ⟨lb, lo, none⟩) life.length vc) life) hX => of_law l life l[k]!.does.frm d [(k : Int)] o1 ho1 (.slice (some ⟨b, o, none⟩) l.length ec) (.slice (some ⟨lb, lo, none⟩) life.length vc) (.slice (some ⟨w7.heap.size, 0, none⟩) 1 1) W hM.out.mig hE hL hX
          rw [ho1] at hone
          clear ho1
          generalize l[k]! = E at *
          obtain ⟨ecost, euntil, ⟨eid, efrm, eto, eback, ekeep⟩⟩ := E
          dsimp only at *
          replace x2 : w7.cell? ⟨b, o + k * 7 + 2, none⟩ = some (.int .i64 eid) := x2
          replace x3 : w7.cell? ⟨b, o + k * 7 + 2 + 1, none⟩ = some (.int .i64 efrm) := x3
          replace x4 : w7.cell? ⟨b, o + k * 7 + 2 + 2, none⟩ = some (.int .i64 eto) := x4
          replace x5 : w7.cell? ⟨b, o + k * 7 + 2 + 3, none⟩ = some (.bool eback) := x5
          replace x6 : w7.cell? ⟨b, o + k * 7 + 2 + 4, none⟩ = some eu := x6
          have k0 : (0 : Int) ≤ (k : Int) := by omega
          have k1 : (k : Int) < (l.length : Int) := by omega
          have hba : Below w7.heap.size w7 (w7.alloc (.cells #[.int .i64 (k : Int)] 3)) := (Below.refl _ _).alloc (Nat.le_refl _) _
          have hof2 := Lib.hid (hof _ (hE.out.below hba) (hL.out.below hba) (RowT.of_arr (Arr.new rfl rfl) 1 1 (Nat.le_refl _) (by unfold maxLen; omega)))
          replace hone := Lib.hid hone
          replace heq := Lib.hid heq
          replace hcl := Lib.hid (hcl.later hba)
          replace hE := Lib.hid (hE.out.below hba)
          replace hL := Lib.hid (hL.out.below hba)
          replace hb := Lib.hid (hb.out.trans (hba.mono hb.out.size))
          replace hmig := Lib.hid hmig
          replace hval := Lib.hid hval
          clear hof hll
          go_wp2_with fail
          refine hof2.out.mono ?_
          clear hof2
          rintro e w8 ⟨pa, pc, qa, qc, r1, rfl, hr1, hok, hb8⟩
          replace hr1 := Lib.hid hr1
          obtain ⟨w9, hw9⟩ : ∃ w9, w9 = w8.alloc (.cells #[.slice pa r1.edges.length pc, .int .i64 r1.cost, .int .i64 r1.life, .slice qa r1.claims.length qc] 33) := ⟨_, rfl⟩
          have hR : Arr w9 w8.heap.size 33 [.slice pa r1.edges.length pc, .int .i64 r1.cost, .int .i64 r1.life, .slice qa r1.claims.length qc] := by rw [hw9]; exact Arr.new rfl rfl
          have hb9 : Below w8.heap.size w8 w9 := by rw [hw9]; exact (Below.refl _ _).alloc (Nat.le_refl _) _
          go_upto_region 15 with fail
          rw [← hw9]
          clear hw9
          have hb79 := hba.trans ((hb8.trans (hb9.mono hb8.size)).mono hba.size)
          replace hE := Lib.hid ((hE.out.below hb8).below hb9)
          replace hL := Lib.hid ((hL.out.below hb8).below hb9)
          replace hb := Lib.hid (hb.out.trans ((hb8.trans (hb9.mono hb8.size)).mono hb.out.size))
          replace hok := Lib.hid (hok.below hb9)
          replace hcl := Lib.hid ((hcl.out.later hb8).later hb9)
          replace x0 := (hb79.cell (p := ⟨b, _, none⟩) hbl).trans x0
          replace x1 := (hb79.cell (p := ⟨b, _, none⟩) hbl).trans x1
          replace x2 := (hb79.cell (p := ⟨b, _, none⟩) hbl).trans x2
          replace x3 := (hb79.cell (p := ⟨b, _, none⟩) hbl).trans x3
          replace x4 := (hb79.cell (p := ⟨b, _, none⟩) hbl).trans x4
          replace x5 := (hb79.cell (p := ⟨b, _, none⟩) hbl).trans x5
          replace x6 := (hb79.cell (p := ⟨b, _, none⟩) hbl).trans x6
          replace ly := (hb79.cell (p := ⟨lb, _, none⟩) hel).trans ly
          replace hbl := Nat.lt_of_lt_of_le hbl hb79.size
          replace hel := Nat.lt_of_lt_of_le hel hb79.size
          clear hba hb8 hb9 hb79
          obtain ⟨ku, ⟨ka, kc, rfl, _⟩⟩ : ∃ ku : Unit, ∃ ka kc, eu = .slice ka ekeep.length kc ∧ True := by
            obtain ⟨_, _, ⟨a, c, h, _⟩, _⟩ := hcl.out
            exact ⟨(), a, c, h, trivial⟩
          have hcm := Claims_any ⟨eid, efrm, eto, eback, ekeep⟩ (.slice ka ekeep.length kc) w9 hmig.out hcl.out
          have herr : errM true = 0 := rfl
          rw [hval.out, if_pos rfl, herr] at hcm
          replace hcm := Lib.hid hcm
          go_wp2_with fail
          refine hcm.out.mono ?_
          clear hcm
          rintro e w10 ⟨mv, rfl, hmc, hb10⟩
          obtain ⟨ma, mc, rfl⟩ : ∃ a c, mv = .slice a 8 c := by
            obtain ⟨_, _, ⟨a, c, h, _⟩, _⟩ := hmc
            rw [claimsM_len] at h
            exact ⟨a, c, h⟩
          replace hb := Lib.hid (hb.out.trans (hb10.mono hb.out.size))
          replace hok := Lib.hid (hok.out.below hb10)
          replace hR := Lib.hid (hR.below hb10)
          replace hmc := Lib.hid hmc
          replace x0 := (hb10.cell (p := ⟨b, _, none⟩) hbl).trans x0
          replace x1 := (hb10.cell (p := ⟨b, _, none⟩) hbl).trans x1
          replace x4 := (hb10.cell (p := ⟨b, _, none⟩) hbl).trans x4
          replace ly := (hb10.cell (p := ⟨lb, _, none⟩) hel).trans ly
          replace hbl := Nat.lt_of_lt_of_le hbl hb10.size
          replace hel := Nat.lt_of_lt_of_le hel hb10.size
          clear x2 x3 x5 x6 hb10 hcl hE hL
          have kt0 : 0 ≤ eto := by omega
          have kt1 : eto < (life.length : Int) := by have := hM.out.llen; omega
          cases o1 with
          | none =>
            have he1 : ofE none = 110 := rfl
            rw [he1]
            generalize life[eto.toNat]! = lt at *
            by_cases hu : euntil < d
            · have hd1 : decide (euntil < d) = true := decide_eq_true hu
              go_wp2_with fail
              go_ret
              exact ⟨rfl, hb.out⟩
            · have hd1 : decide (euntil < d) = false := decide_eq_false hu
              have hd2 : decide (lt < d) = true := decide_eq_true ((hone.out.1 rfl).resolve_left hu)
              go_wp2_with fail
              go_ret
              exact ⟨rfl, hb.out⟩
          | some r =>
            have he1 : ofE (some r) = 0 := rfl
            rw [he1]
            obtain ⟨q1, q2, q3⟩ := heq.out r rfl
            have hrr : r1 = r := hr1.out
            rw [← hrr] at q1 q2 q3
            clear heq hone hrr hr1
            have hl8 : r1.claims.length = 8 := by rw [q3]; rfl
            have hbz := Lib.hid (Below.refl w10.heap.size w10)
            replace hl8 := Lib.hid hl8
            replace q1 := Lib.hid q1
            replace q2 := Lib.hid q2
            replace q3 := Lib.hid q3
            go_wp2_with fail
            go_loopw [19] (fun iv wr => ∃ i : Nat, i ≤ 8 ∧ iv = .int .i64 (i : Int) ∧ Hid (Below w10.heap.size w10 wr)) (fun iv _ => 8 - (intOf iv).toNat)
            case atStart => exact ⟨0, Nat.zero_le _, rfl, hbz⟩
            case round =>
              obtain ⟨i, hi, rfl, hbr⟩ := hrel
              clear hbz
              have hRr := hR.out.below hbr.out
              have r1c := hRr.cell (j := 1) rfl
              have r2c := hRr.cell (j := 2) rfl
              have r3c := hRr.cell (j := 3) rfl
              by_cases hlt : i < 8
              · have hyes : decide ((i : Int) < 8) = true := decide_eq_true (by omega)
                have hw1 : IntKind.i64.wrap ((i : Int) + 1) = (i : Int) + 1 := IntWalk.i64_in _ (by omega)
                have hw2 : IntKind.i64.wrap ((i : Int) + 1 - 1) = (i : Int) := by rw [show (i : Int) + 1 - 1 = (i : Int) by omega]; exact IntWalk.i64_in _ (by omega)
                have hw3 : IntKind.i64.wrap (i : Int) = (i : Int) := IntWalk.i64_in _ (by omega)
                obtain ⟨b1, o1, cp1, u1', hq, hbl1, z0, z1, hu⟩ := ((hmc.out.below hbr.out).at).cells (i := i) (by rw [claimsM_len]; exact hlt)
                rw [claimsM_len] at hq
                cases hq
                rw [claimsM_at _ hlt] at z0 hu
                obtain ⟨b2, o2, cp2, u2', hq, hbl2, y0, y1, hu2⟩ := ((hok.out.below hbr.out).2.at).cells (i := i) (by rw [hl8.out]; exact hlt)
                rw [hl8.out] at hq
                cases hq
                rw [q3.out, props_at _ hlt] at hu2
                clear y0
                dsimp only at z0 hu hu2
                have hva := claim_valid hval.out (p := (i : Int) + 1) (by omega)
                obtain ⟨ua, uc, rfl⟩ := hu.shape
                obtain ⟨va2, vc2, rfl⟩ := hu2.shape
                have hnf := NormalF_any ((i : Int) + 1) _ _ wr hu
                rw [hva, if_pos rfl] at hnf
                have her : errA true = 0 := rfl
                rw [her] at hnf
                replace hnf := Lib.hid hnf
                replace hu2 := Lib.hid hu2
                clear hva hu
                rw [hl8.out] at r3c
                go_wp2_with fail
                refine hnf.out.mono ?_
                clear hnf
                rintro e w11 ⟨nv, rfl, hnS, hb11⟩
                obtain ⟨na, nc, rfl⟩ := (stepsT_at hnS).shape
                replace r3c := ((hRr.below hb11).cell (j := 3) rfl).trans (by rw [hl8.out])
                replace y1 := (hb11.cell (p := ⟨b2, _, none⟩) hbl2).trans y1
                have hsm := Same7_any _ _ _ _ w11 (hu2.out.later hb11) (stepsT_at hnS)
                rw [decide_eq_true rfl] at hsm
                have hbn := Lib.hid (hbr.out.trans (hb11.mono hbr.out.size))
                have k0 : (0 : Int) ≤ (i : Int) := by omega
                have k1 : (i : Int) < 8 := by omega
                have k2 : decide ((i : Int) + 1 < 1) = false := decide_eq_false (by omega)
                have k3 : decide ((i : Int) + 1 > 8) = false := decide_eq_false (by omega)
                have k4 : decide (8 < (i : Int) + 1) = false := decide_eq_false (by omega)
                have k5 : ¬((i : Int) + 1 < 1) := by omega
                have k6 : ¬((8 : Int) < (i : Int) + 1) := by omega
                replace hsm := Lib.hid hsm
                clear hnS hb11 hu2
                go_wp2_with fail
                refine hsm.out.mono ?_
                clear hsm
                rintro e w12 ⟨rfl, hb12⟩
                replace hbn := Lib.hid (hbn.out.trans (hb12.mono hbn.out.size))
                go_wp2_with fail
                exact ⟨⟨i + 1, by omega, rfl, hbn⟩, by simp [intOf]; omega⟩
              · have hno : decide ((i : Int) < 8) = false := decide_eq_false (by omega)
                replace x0 := (hbr.out.cell (p := ⟨b, _, none⟩) hbl).trans x0
                replace x4 := (hbr.out.cell (p := ⟨b, _, none⟩) hbl).trans x4
                replace ly := (hbr.out.cell (p := ⟨lb, _, none⟩) hel).trans ly
                rw [q1.out] at r1c
                rw [q2.out] at r2c
                have hbf := Lib.hid (hb.out.trans (hbr.out.mono hb.out.size))
                clear r3c x1 hRr hR hok hmc q1 q2 q3 hl8
                generalize life[eto.toNat]! = lt at *
                go_upto_region 27 with fail
                clear hno hlt hi
                go_quiet (fail)
                have hbq := Lib.hid (hbf.out.trans ((below_drewN (Below.refl wr.heap.size wr) nq).mono hbf.out.size))
                go_wp2_with fail
                go_ret
                exact ⟨rfl, hbq.out⟩
end Go.Proofs.YtpeandbcdaikbaaGreatDoor
namespace Go.Proofs.YtpeandbcdaikbaaGreatDoor.routeClaims
open Go.ChangeShapes Go.WideShapes Go.ChangeAt Go.RowKit
open Go.ChangeMaps (open_string)

set_option maxRecDepth 100000 in
set_option maxHeartbeats 1000000 in
theorem lifted (os : Os) (started : os.Started) (H : Type) (enc : TypeId × Value → H) :
    ReturnsInHanded {} Tryz.checked os 9 .any (fun w args => (Rows.routeClaimsSpec.pre enc Tryz.prog Tryz.f9 [] false w args ∧ laidMetH Tryz.prog laid11 w) ∧ sizedMet enc Tryz.prog Tryz.f9 (OpenSpec.ofChange Rows.routeClaimsSpec) false w args)
      (Rows.routeClaimsSpec.post enc Tryz.prog Tryz.f9 false true false false) := by
  refine lift_shaped (C := Tryz.checked) (X := fun w => laidMetH Tryz.prog laid11 w) (fun _ _ hh h => h.of_heap hh) own started (by kernel_rfl) Tryz.func9
    (ChangeSpec.witness_shaped (enc := enc) (C := Tryz.checked) (os := os) (X := fun w _ => laidMetH Tryz.prog laid11 w) false (World.laidAll Tryz.prog os laid11) #[.agg #[.slice none 0 0, .slice none 0 0, .int .i64 0, .int .i64 0, .int .i64 0], .int .i64 0] 8 (World.laidAll_os _ _ _) (shape11 os) (by kernel_rfl) (by kernel_rfl) (by kernel_rfl) (door_met11 os _)) ?_
  intro W base args ds gs before hval0 hW hL hsh
  have hval : ∀ (j : Nat) t v, Tryz.f9.params[j]? = some t → args[j]? = some v → Value.okWide Tryz.prog W .any base t v := hval0
  have hW' := hW
  obtain ⟨p, q, hA0, hV, rfl, hfz, hnd⟩ := hW
  have hA : DataW.TrodAll enc Tryz.prog W 0 (fun _ => true) true Tryz.f9.params.toList args.toList ds p := hA0
  have hAk := hA
  rw [Tryz.params9] at hA hval
  obtain ⟨v0, vs0, d0, ds0, p0, q0, hargs, rfl, rfl, h0, r0⟩ := trodAll_cons hA
  obtain ⟨v1, vs1, d1, ds1, p1, q1, rfl, rfl, rfl, h1, r1⟩ := trodAll_cons r0
  obtain ⟨rfl, rfl, rfl⟩ := trodAll_nil r1
  obtain rfl : args = #[v0, v1] := by cases args; simp_all
  obtain ⟨rfl, rfl⟩ := trodVars_none hV
  obtain ⟨n0, z0, k0, f0, d0_, p0_, e0, g0, s0⟩ := open_case (hval 0 25 v0 rfl rfl) h0
  obtain ⟨a1, rfl, rfl, _, w1⟩ := open_int Tryz.underlying3 (hval 1 3 v1 rfl rfl) h1
  clear hA0 hval0
  refine (Claims_law v0 n0 z0 k0 f0 d0_ p0_ e0 g0 a1 W s0 (I64.of_wf w1)).mono fun e W' ⟨he, hg⟩ => ?_
  subst he
  have hlt := DataW.TrodAll.lt hAk
  exact ⟨_, rfl, post_of_below (pa := _) (pv := []) hW' (fun _ _ _ => (trodAll_cons_mk (shut_bool Tryz.underlying4 _) trodAll_mk0)) (fun sp hsp => trodAll_stay Tryz.kids Tryz.full (by rw [Tryz.params9]; decide) hAk (fun x hx => sameAt_below hg (hlt x hx)) (fun x hx => hsp x (List.mem_append_left _ hx))) (fun _ _ => rfl) rfl hg (ok_one (by kernel_rfl) rfl (okWide_bool_mk Tryz.underlying4 _))⟩

theorem row_holds : Rows.RouteClaimsSaid :=
  OpenClaim.holds_of_wide 9 Tryz.f9 rfl rfl rfl rfl rfl rfl rfl ⟨rfl, rfl, rfl, rfl, rfl⟩ rfl rfl rfl rfl rfl (by kernel_rfl) Tryz.func9 (by kernel_rfl)
    (of_decide_eq_true (by kernel_rfl)) (by unfold Func.isWrapper; first | (rw [if_pos (by decide +kernel)]; kernel_rfl) | (rw [if_neg (by decide +kernel)]; exact ⟨rfl, rfl⟩))
    (fun os started H enc _ => lifted os started H enc)

/-- THE TIED CARD. -/
theorem card_holds : Rows.RouteClaimsCardSaid :=
  Claim7.holds_tied_plain_at .later [] [.data, .pinned, .pinned] true Rows.routeClaimsCard.stood.harness false
    row_holds (fun _ h => by cases h) (by kernel_rfl) (fun _ h => by cases h) routeClaims_row_tie rfl ⟨rfl, rfl⟩ (by kernel_rfl) rfl
    (fun f fn hf hfn => by
      obtain rfl : f = 9 := Option.some.inj ((show Tryz.prog.funcNamed "evergreen/evergreenlaw11.RouteClaims" = some 9 by kernel_rfl).symm.trans hf) |>.symm
      obtain rfl : fn = Tryz.f9 := (Option.some.inj (Tryz.func9.symm.trans hfn)).symm
      exact ⟨by kernel_rfl, fun j t ht => by
        rw [Tryz.params9] at ht
        have hm : t ∈ [25, 3] := by simpa using Array.mem_of_getElem? ht
        have hall : ([25, 3].all fun u => !Tryz.prog.wantsStandIn u) = true := by kernel_rfl
        exact (show Tryz.prog.wantsStandIn t = false by simpa using List.all_eq_true.1 hall t hm)⟩)
    (by kernel_rfl)
#print axioms card_holds
end Go.Proofs.YtpeandbcdaikbaaGreatDoor.routeClaims
