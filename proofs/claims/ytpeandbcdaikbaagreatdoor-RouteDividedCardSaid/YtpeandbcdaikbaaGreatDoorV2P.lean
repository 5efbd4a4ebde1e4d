/-
  Routes of chapter 11: the law RouteDivided.
  RouteDivided is true of every input: the row, and its tied card. Conditions: the library variables that are read hold what their packages lay in them (the card ties that to the text).
-/
import Derived.Test.YtpeandbcdaikbaaGreatDoorYV
import Derived.Test.YtpeandbcdaikbaaGreatDoorCards
import Derived.Test.YtpeandbcdaikbaaGreatDoorTie
import Derived.Test.YtpeandbcdaikbaaGreatDoorYU
import Derived.SevenTiedAt
namespace Go.Proofs.YtpeandbcdaikbaaGreatDoor
open Go.RowKit Go.Shelf Go.Maps

attribute [local go_sem] Oper.semAt_some

set_option maxRecDepth 100000 in
set_option maxHeartbeats 8000000 in
theorem Divided_law (v : Value) (n : Nat) (zs ls : List Int) (fr dy hp : Int) (ev lv : Value) (cv : Value) (cs : List Int) (at_ : Int) (w : World) (h : CaseIn w v n zs ls fr dy hp ev lv) (hcv : NumsAt w w.heap.size cv cs) (hcI : ∀ c ∈ cs, I64 c) (haI : I64 at_) :
    Calls Tryz.prog 5 #[v, cv, .int .i64 at_] w fun e w' => e = .returned (.bool true) ∧ Below w.heap.size w w' := by
  have hM := Lib.hid (madeP n zs ls fr dy)
  have hops0 : 0 ≤ hopsC hp ∧ hopsC hp ≤ 6 := by have := pickv_lt hp 7 (by omega); unfold hopsC; omega
  have hmade := fun W (hb : Below w.heap.size w W) => made_any v n zs ls fr dy hp ev lv W (h.below hb)
  obtain ⟨rfl, hfi, hli, _⟩ := h
  obtain ⟨fa, fc, rfl, _, _, _⟩ := hfi.2
  obtain ⟨la, lc, rfl, _, _, _⟩ := hli
  generalize madeE n zs = l at *
  generalize lifeR ls = life at *
  generalize frmC fr = f at *
  generalize dayC dy = d at *
  generalize hopsC hp = hops at *
  obtain ⟨W, hW⟩ : ∃ W, W = w.alloc (.cells #[.slice fa n fc, .slice la ls.length lc, .int .i64 fr, .int .i64 dy, .int .i64 hp] 25) := ⟨_, rfl⟩
  have hA : Arr W w.heap.size 25 [.slice fa n fc, .slice la ls.length lc, .int .i64 fr, .int .i64 dy, .int .i64 hp] := by rw [hW]; exact Arr.new rfl rfl
  have hbW : Below w.heap.size w W := by rw [hW]; exact (Below.refl _ _).alloc (Nat.le_refl _) _
  have hsa := Lib.hid (sane_any W)
  replace hmade := Lib.hid hmade
  replace hops0 := Lib.hid hops0
  go_enter Tryz.func5, Tryz.ntmps5
  go_upto_region 1 with fail
  rw [← hW]
  clear hW
  go_wp2_with fail
  refine hsa.out.mono ?_
  rintro e w1 ⟨rfl, hb1⟩
  have hA1 := hA.below hb1
  have hbw1 := hbW.trans (hb1.mono hbW.size)
  have hmd := Lib.hid (hmade.out w1 hbw1)
  have a0 := hA1.cell (j := 0) rfl
  have a1 := hA1.cell (j := 1) rfl
  have a2 := hA1.cell (j := 2) rfl
  have a3 := hA1.cell (j := 3) rfl
  have a4 := hA1.cell (j := 4) rfl
  clear hA hA1 hbW hb1 hsa hmade
  go_wp2_with fail
  refine hmd.out.mono ?_
  rintro e w2 ⟨ev', lv', rfl, hE, hL, hb2⟩
  have hb := Lib.hid (hbw1.trans (hb2.mono hbw1.size))
  clear hbw1 hb2 hmd a0 a1 a2 a3 a4
  obtain ⟨ea, ec, rfl, _⟩ := hE.len
  obtain ⟨va, vc, rfl, _⟩ := hL.len
  replace hE := Lib.hid hE
  replace hL := Lib.hid hL
  have hcv2 := hcv.later hb.out
  obtain ⟨cva, cvc, rfl, _, _, _⟩ := hcv
  have hwk := Lib.hid (walk_any l f cs _ _ w2 (by have := hM.out.len; omega) hE.out.at hcv2 hcI)
  clear hcv2
  go_wp2_with fail
  refine hwk.out.mono ?_
  clear hwk
  rintro e w3 ⟨wv, rfl, hN, hb3⟩
  replace hE := Lib.hid (hE.out.below hb3)
  replace hL := Lib.hid (hL.out.below hb3)
  replace hb := Lib.hid (hb.out.trans (hb3.mono hb.out.size))
  clear hb3
  have hwl := walkL_len l f cs
  have hwi := Lib.hid (walkL_in (l := l) (f := f) (cs := cs))
  generalize walkL l f cs = es at *
  obtain ⟨wa, wcap, rfl, hwc, hwm, _⟩ := id hN
  have hpk := pick_any at_ (es.length + 1) w3 haI (by omega) (by omega)
  rw [show ((es.length + 1 : Nat) : Int) = (es.length : Int) + 1 from rfl] at hpk
  have hkl := pickv_lt at_ (es.length + 1) (by omega)
  generalize pickv at_ (es.length + 1) = k at hpk hkl
  have hwa : IntKind.i64.wrap ((es.length : Int) + 1) = (es.length : Int) + 1 := IntWalk.i64_in _ (by omega)
  replace hpk := Lib.hid hpk
  replace hN := Lib.hid hN
  go_upto_region 5 with (refine hpk.out.mono ?_; clear hpk; rintro e w4 ⟨rfl, rfl⟩)
  go_upto_if 45 with fail
  go_cut [15] from 46 (fun v15 wx => v15 = .int .i64 (midP l f es k) ∧ wx = w4)
  case first =>
    by_cases hk0 : k = 0
    · subst hk0
      have hm : midP l f es 0 = f := by unfold midP; rw [if_pos rfl]
      replace hm := Lib.hid hm
      go_wp2_with fail
      go_meet
      exact ⟨by rw [hm.out], rfl⟩
    · have e1 : decide ((k : Int) > 0) = true := decide_eq_true (by omega)
      have e2 : decide (0 < k) = true := decide_eq_true (by omega)
      obtain ⟨k', rfl⟩ : ∃ k', k = k' + 1 := ⟨k - 1, by omega⟩
      have hm : midP l f es (k' + 1) = l[es[k']!.toNat]!.does.to := by unfold midP; rw [if_neg hk0]; rfl
      obtain ⟨j, hj, hej⟩ := hwi.out es[k']! (by rw [getElem!_pos es k' (by omega)]; exact List.getElem_mem (by omega))
      rw [hej, Int.toNat_natCast] at hm
      obtain ⟨b1, o1, c1, hq, hb1, x1⟩ := NumsAt.cells hN.out.at (i := k') (by omega)
      cases hq
      rw [hej] at x1
      obtain ⟨b2, o2, c2, u2, hq, hbl2, _, _, _, _, z4, _, _, _⟩ := hE.out.at.cells hj
      cases hq
      replace z4 : w4.cell? ⟨b2, o2 + j * 7 + 2 + 2, none⟩ = some (.int .i64 l[j]!.does.to) := z4
      generalize l[j]!.does.to = g at z4 hm
      have hwb : IntKind.i64.wrap (((k' + 1 : Nat) : Int) - 1) = (k' : Int) := by rw [show ((k' + 1 : Nat) : Int) - 1 = (k' : Int) by omega]; exact IntWalk.i64_in _ (by omega)
      have hwb2 : IntKind.i64.wrap ((k' : Int) + 1 - 1) = (k' : Int) := by rw [show (k' : Int) + 1 - 1 = (k' : Int) by omega]; exact IntWalk.i64_in _ (by omega)
      have hwb3 : IntKind.i64.wrap (k' : Int) = (k' : Int) := IntWalk.i64_in _ (by omega)
      have q0 : (0 : Int) ≤ (k' : Int) := by omega
      have q1 : (k' : Int) < (es.length : Int) := by omega
      have q2 : (0 : Int) ≤ (j : Int) := by omega
      have q3 : (j : Int) < (l.length : Int) := by omega
      clear hej hk0
      replace hm := Lib.hid hm
      go_wp2_with fail
      go_meet
      exact ⟨by rw [hm.out], rfl⟩
  case rest =>
    obtain ⟨rfl, rfl⟩ := hcut
    obtain ⟨oa, hoa⟩ : ∃ oa, ofP l life f d (es.take k) = oa := ⟨_, rfl⟩
    obtain ⟨ob, hob⟩ : ∃ ob, ofP l life (midP l f es k) d (es.drop k) = ob := ⟨_, rfl⟩
    obtain ⟨oc, hoc⟩ : ∃ oc, ofP l life f d es = oc := ⟨_, rfl⟩
    obtain ⟨mid, hmid⟩ : ∃ mid, midP l f es k = mid := ⟨_, rfl⟩
    rw [hmid] at hob ⊢
    replace hmid := Lib.hid hmid
    have hkc : (k : Int) ≤ (wcap : Int) := by omega
    have k0 : (0 : Int) ≤ (k : Int) := by omega
    have hkn : (k : Int) ≤ (es.length : Int) := by omega
    have hof := Lib.hid (of_law l life f d _ oa hoa _ _ _ wc hM.out.mig hE.out hL.out (NumsT.take hN.out (by omega)))
    go_wp2_with fail
    refine hof.out.mono ?_
    clear hof
    rintro e w5 ⟨zaa, zca, yaa, yca, ra, rfl, hra, hoka, hbx⟩
    replace hra := Lib.hid hra
    replace hoka := Lib.hid hoka
    obtain ⟨w6, hw⟩ : ∃ w6, w6 = w5.alloc (.cells #[.slice zaa ra.edges.length zca, .int .i64 ra.cost, .int .i64 ra.life, .slice yaa ra.claims.length yca] 33) := ⟨_, rfl⟩
    have hRa : Hid (Arr w6 w5.heap.size 33 [.slice zaa ra.edges.length zca, .int .i64 ra.cost, .int .i64 ra.life, .slice yaa ra.claims.length yca]) := by rw [hw]; exact Arr.new rfl rfl
    have hby : Below w5.heap.size w5 w6 := by rw [hw]; exact (Below.refl _ _).alloc (Nat.le_refl _) _
    go_upto_region 9 with fail
    rw [← hw]
    clear hw
    replace hE := Lib.hid ((hE.out.below hbx).below hby)
    replace hL := Lib.hid ((hL.out.below hbx).below hby)
    replace hN := Lib.hid ((hN.out.below hbx).below hby)
    replace hb := Lib.hid (hb.out.trans ((hbx.trans (hby.mono hbx.size)).mono hb.out.size))
    replace hoka := Lib.hid (hoka.out.below hby)
    clear hbx hby
    have hdr := NumsT.drop hN.out (k := k) (by omega)
    go_cut [18, 19] from 67 (fun p v wx => ∃ (B : Nat) (za : Option Addr) (zc : Nat) (ya : Option Addr) (yc : Nat) (r : Rou), p = .pointer (some ⟨B, 0, none⟩) ∧ v = .int .i64 (ofE ob) ∧ Hid (r = ob.getD zeroRou ∧ OkR ⟨r, .slice za r.edges.length zc, .slice ya r.claims.length yc⟩ wx ∧ Arr wx B 33 [.slice za r.edges.length zc, .int .i64 r.cost, .int .i64 r.life, .slice ya r.claims.length yc] ∧ Below w6.heap.size w6 wx))
    case first =>
      by_cases hck : wcap = k
      · have e0 : es.length - k = 0 := by omega
        rw [if_pos hck, e0] at hdr
        clear e0
        subst hck
        rw [Nat.sub_self] at hdr
        have hof := Lib.hid (of_law l life mid d _ ob hob _ _ _ w6 hM.out.mig hE.out hL.out hdr)
        clear hdr
        go_wp2_with fail
        refine hof.out.mono ?_
        clear hof
        rintro e w7 ⟨zab, zcb, yab, ycb, rb, rfl, hrb, hokb, hbx⟩
        replace hrb := Lib.hid hrb
        replace hokb := Lib.hid hokb
        replace hbx := Lib.hid hbx
        go_wp2_with fail
        go_meet
        have hby : Below w7.heap.size w7 (w7.alloc (.cells #[.slice zab rb.edges.length zcb, .int .i64 rb.cost, .int .i64 rb.life, .slice yab rb.claims.length ycb] 33)) := (Below.refl _ _).alloc (Nat.le_refl _) _
        exact ⟨w7.heap.size, zab, zcb, yab, ycb, rb, rfl, rfl, hrb.out, hokb.out.below hby, Arr.new rfl rfl, hbx.out.trans (hby.mono hbx.out.size)⟩
      · rw [if_neg hck] at hdr
        have hof := Lib.hid (of_law l life mid d _ ob hob _ _ _ w6 hM.out.mig hE.out hL.out hdr)
        clear hdr
        go_wp2_with fail
        refine hof.out.mono ?_
        clear hof
        rintro e w7 ⟨zab, zcb, yab, ycb, rb, rfl, hrb, hokb, hbx⟩
        replace hrb := Lib.hid hrb
        replace hokb := Lib.hid hokb
        replace hbx := Lib.hid hbx
        go_wp2_with fail
        go_meet
        have hby : Below w7.heap.size w7 (w7.alloc (.cells #[.slice zab rb.edges.length zcb, .int .i64 rb.cost, .int .i64 rb.life, .slice yab rb.claims.length ycb] 33)) := (Below.refl _ _).alloc (Nat.le_refl _) _
        exact ⟨w7.heap.size, zab, zcb, yab, ycb, rb, rfl, rfl, hrb.out, hokb.out.below hby, Arr.new rfl rfl, hbx.out.trans (hby.mono hbx.out.size)⟩
    case rest =>
      obtain ⟨Bb, zab, zcb, yab, ycb, rb, rfl, rfl, hbb⟩ := hcut
      obtain ⟨hrb, hokb, hRb, hbx⟩ := hbb.out
      clear hbb hdr
      replace hrb := Lib.hid hrb
      replace hokb := Lib.hid hokb
      replace hRb := Lib.hid hRb
      replace hE := Lib.hid (hE.out.below hbx)
      replace hL := Lib.hid (hL.out.below hbx)
      replace hN := Lib.hid (hN.out.below hbx)
      replace hRa := Lib.hid (hRa.out.below hbx)
      replace hoka := Lib.hid (hoka.out.below hbx)
      replace hb := Lib.hid (hb.out.trans (hbx.mono hb.out.size))
      clear hbx
      have hof := Lib.hid (of_law l life f d _ oc hoc _ _ _ wc hM.out.mig hE.out hL.out hN.out)
      go_wp2_with fail
      refine hof.out.mono ?_
      clear hof
      rintro e w9 ⟨zac, zcc, yac, ycc, rc, rfl, hrc, hokc, hbx⟩
      replace hrc := Lib.hid hrc
      replace hokc := Lib.hid hokc
      obtain ⟨w10, hw⟩ : ∃ w10, w10 = w9.alloc (.cells #[.slice zac rc.edges.length zcc, .int .i64 rc.cost, .int .i64 rc.life, .slice yac rc.claims.length ycc] 33) := ⟨_, rfl⟩
      have hRc : Hid (Arr w10 w9.heap.size 33 [.slice zac rc.edges.length zcc, .int .i64 rc.cost, .int .i64 rc.life, .slice yac rc.claims.length ycc]) := by rw [hw]; exact Arr.new rfl rfl
      have hby : Below w9.heap.size w9 w10 := by rw [hw]; exact (Below.refl _ _).alloc (Nat.le_refl _) _
      go_upto_region 11 with fail
      rw [← hw]
      clear hw
      replace hE := Lib.hid ((hE.out.below hbx).below hby)
      replace hL := Lib.hid ((hL.out.below hbx).below hby)
      replace hN := Lib.hid ((hN.out.below hbx).below hby)
      replace hRa := Lib.hid ((hRa.out.below hbx).below hby)
      replace hoka := Lib.hid ((hoka.out.below hbx).below hby)
      replace hRb := Lib.hid ((hRb.out.below hbx).below hby)
      replace hokb := Lib.hid ((hokb.out.below hbx).below hby)
      replace hb := Lib.hid (hb.out.trans ((hbx.trans (hby.mono hbx.size)).mono hb.out.size))
      replace hokc := Lib.hid (hokc.out.below hby)
      clear hbx hby
      replace hoa := Lib.hid hoa
      replace hob := Lib.hid hob
      replace hoc := Lib.hid hoc
      have hdv : Hid (∀ c, oc = some c → ∃ b, ob = some b) := Lib.hid fun c hc => by
        obtain ⟨b, hbb⟩ := divided_ok (k := k) (by omega) (hoc.out.trans hc)
        exact ⟨b, by rw [← hob.out, ← hmid.out]; exact hbb⟩
      have en : ofE none = 110 := rfl
      have es_ : ∀ r, ofE (some r) = 0 := fun _ => rfl
      by_cases hall : ∃ a b c, oa = some a ∧ ob = some b ∧ oc = some c
      · obtain ⟨a, b, c, rfl, rfl, rfl⟩ := hall
        rw [es_ a, es_ b, es_ c]
        obtain rfl : ra = a := hra.out
        obtain rfl : rb = b := hrb.out
        obtain rfl : rc = c := hrc.out
        have hda := divided_eq (k := k) (by omega) hoa.out (by rw [hmid.out]; exact hob.out) hoc.out
        obtain ⟨hdq, hdc, hdl⟩ := hda
        have hwc2 : IntKind.i64.wrap (ra.cost + rb.cost) = rc.cost := by have := ofP_cost hoc.out; rw [← hdc]; exact IntWalk.i64_in _ (by omega)
        obtain ⟨ga, qa, pva, la8, _⟩ := claims_shape hoa.out
        obtain ⟨gb, qb, pvb, lb8, _⟩ := claims_shape hob.out
        obtain ⟨gc, qc, _, lc8, _⟩ := claims_shape hoc.out
        replace hdq := Lib.hid hdq
        replace hdl := Lib.hid hdl
        replace hdc := Lib.hid hdc
        replace hwc2 := Lib.hid hwc2
        replace la8 := Lib.hid la8
        replace lb8 := Lib.hid lb8
        replace lc8 := Lib.hid lc8
        replace qa := Lib.hid qa
        replace qb := Lib.hid qb
        replace qc := Lib.hid qc
        have hbz := Lib.hid (Below.refl w10.heap.size w10)
        clear hra hrb hrc hdv en es_ hoa hob hoc
        have r3a := hRa.out.cell (j := 3) rfl
        have r3b := hRb.out.cell (j := 3) rfl
        have r3c := hRc.out.cell (j := 3) rfl
        rw [la8.out] at r3a
        rw [lb8.out] at r3b
        rw [lc8.out] at r3c
        go_upto_region 15 with fail
        clear r3a r3b r3c
        go_wp2_with fail
        go_loopw [22] (fun iv wr => ∃ i : Nat, i ≤ 8 ∧ iv = .int .i64 ((i : Int) + 1) ∧ Hid (Below w10.heap.size w10 wr)) (fun iv _ => 9 - (intOf iv).toNat)
        case atStart => exact ⟨0, Nat.zero_le _, rfl, hbz⟩
        case round =>
          obtain ⟨i, hi, rfl, hbr⟩ := hrel
          clear hbz
          by_cases hlt : i < 8
          · have hyes : decide ((i : Int) + 1 ≤ 8) = true := decide_eq_true (by omega)
            have hw1 : IntKind.i64.wrap ((i : Int) + 1 + 1) = (i : Int) + 1 + 1 := IntWalk.i64_in _ (by omega)
            have hw2 : IntKind.i64.wrap ((i : Int) + 1 - 1) = (i : Int) := by rw [show (i : Int) + 1 - 1 = (i : Int) by omega]; exact IntWalk.i64_in _ (by omega)
            have hw3 : IntKind.i64.wrap (i : Int) = (i : Int) := IntWalk.i64_in _ (by omega)
            have k0 : (0 : Int) ≤ (i : Int) := by omega
            have k1 : (i : Int) < 8 := by omega
            have hbd := hbr.out.drew
            have hA1 := hRa.out.below hbd
            have hB1 := hRb.out.below hbd
            obtain ⟨b1, o1, cp1, u1, hq, hbl1, _, z1, hu1⟩ := (hoka.out.below hbd).claim (i := i) (by show i < ra.claims.length; rw [la8.out]; exact hlt)
            cases hq
            obtain ⟨b2, o2, cp2, u2, hq, hbl2, _, z2, hu2⟩ := (hokb.out.below hbd).claim (i := i) (by show i < rb.claims.length; rw [lb8.out]; exact hlt)
            cases hq
            obtain ⟨b3, o3, cp3, u3, hq, hbl3, z0, z3, hu3⟩ := (hokc.out.below hbd).claim (i := i) (by show i < rc.claims.length; rw [lc8.out]; exact hlt)
            cases hq
            dsimp only at z1 hu1 z2 hu2 z0 z3 hu3
            rw [qa.out, props_at _ hlt] at hu1
            rw [qb.out, props_at _ hlt] at hu2
            rw [qc.out, props_at _ hlt] at z0 hu3
            dsimp only at hu1 hu2 hu3 z0
            obtain ⟨ua1, uc1, rfl⟩ := hu1.shaped
            obtain ⟨ua2, uc2, rfl⟩ := hu2.shaped
            obtain ⟨ua3, uc3, rfl⟩ := hu3.shaped
            have d3 := hA1.cell (j := 3) rfl
            have e3 := hB1.cell (j := 3) rfl
            rw [la8.out] at d3
            rw [lb8.out] at e3
            have va := pva ((i : Int) + 1) (by omega) (by omega)
            have vb := pvb ((i : Int) + 1) (by omega) (by omega)
            have hcm := Compose_any ((i : Int) + 1) _ _ _ _ wr.drew hu1 hu2
            rw [(valid_compose va vb).1, va, vb] at hcm
            have her : errA (true && true) = 0 := rfl
            rw [her] at hcm
            have heq : normalA (ga ((i : Int) + 1) ++ gb ((i : Int) + 1)) = gc ((i : Int) + 1) := by
              have := hdq.out ((i : Int) + 1) (mem_props.2 (by omega))
              rw [qa.out, qb.out, qc.out, stepsC_map _ (mem_props.2 (by omega)), stepsC_map _ (mem_props.2 (by omega)), stepsC_map _ (mem_props.2 (by omega))] at this
              exact this
            rw [heq] at hcm
            clear her heq va vb hu1 hu2
            replace hcm := Lib.hid hcm
            go_wp2_with fail
            refine wp_region_held_drew (S := fun w' => w'.cell? ⟨w5.heap.size, 3, none⟩ = some (.slice (some ⟨b1, o1, none⟩) 8 yca) ∧ w'.cell? ⟨Bb, 3, none⟩ = some (.slice (some ⟨b2, o2, none⟩) 8 ycb) ∧ w'.cell? ⟨b1, o1 + i * 2 + 1, none⟩ = some (.slice ua1 (ga ((i : Int) + 1)).length uc1) ∧ w'.cell? ⟨b2, o2 + i * 2 + 1, none⟩ = some (.slice ua2 (gb ((i : Int) + 1)).length uc2)) (by kernel_rfl) (by exact ⟨d3, e3, z1, z2⟩) (fun hHeld => ?_)
            refine take_l (i := 0) (v := ?_) rfl (by kernel_rfl) (by kernel_rfl) (by kernel_rfl) (fun _ _ _ h => h) (Or.inl ⟨by kernel_rfl, ?_⟩) (by assumption) ?_
            rotate_left
            · intro w hSw; (try dsimp only at hSw); go_simp; (try with_reducible rfl)
            (try simp only [Act.put, List.setIfInBounds_toArray, List.set_cons_zero, List.set_cons_succ])
            refine take_l (i := 1) (v := ?_) rfl (by kernel_rfl) (by kernel_rfl) (by kernel_rfl) (fun _ _ _ h => h) (Or.inl ⟨by kernel_rfl, ?_⟩) (by assumption) ?_
            rotate_left
            · intro w hSw; (try dsimp only at hSw); go_simp; (try with_reducible rfl)
            (try simp only [Act.put, List.setIfInBounds_toArray, List.set_cons_zero, List.set_cons_succ])
            refine take_l (i := 2) (v := ?_) rfl (by kernel_rfl) (by kernel_rfl) (by kernel_rfl) (fun _ _ _ h => h) (Or.inl ⟨by kernel_rfl, ?_⟩) (by assumption) ?_
            rotate_left
            · intro w hSw; (try dsimp only at hSw); go_simp; (try with_reducible rfl)
            (try simp only [Act.put, List.setIfInBounds_toArray, List.set_cons_zero, List.set_cons_succ])
            refine take_l (i := 3) (v := ?_) rfl (by kernel_rfl) (by kernel_rfl) (by kernel_rfl) (fun _ _ _ h => h) (Or.inl ⟨by kernel_rfl, ?_⟩) (by assumption) ?_
            rotate_left
            · intro w hSw; (try dsimp only at hSw); go_simp; (try with_reducible rfl)
            (try simp only [Act.put, List.setIfInBounds_toArray, List.set_cons_zero, List.set_cons_succ])
            refine take_l (i := 4) (v := ?_) rfl (by kernel_rfl) (by kernel_rfl) (by kernel_rfl) (fun _ _ _ h => h) (Or.inl ⟨by kernel_rfl, ?_⟩) (by assumption) ?_
            rotate_left
            · intro w hSw; (try dsimp only at hSw); go_simp; (try with_reducible rfl)
            (try simp only [Act.put, List.setIfInBounds_toArray, List.set_cons_zero, List.set_cons_succ])
            refine take_l (i := 5) (v := ?_) rfl (by kernel_rfl) (by kernel_rfl) (by kernel_rfl) (fun _ _ _ h => h) (Or.inl ⟨by kernel_rfl, ?_⟩) (by assumption) ?_
            rotate_left
            · intro w hSw; (try dsimp only at hSw); go_simp; (try with_reducible rfl)
            (try simp only [Act.put, List.setIfInBounds_toArray, List.set_cons_zero, List.set_cons_succ])
            refine take_l (i := 6) (v := ?_) rfl (by kernel_rfl) (by kernel_rfl) (by kernel_rfl) (fun _ _ _ h => h) (Or.inl ⟨by kernel_rfl, ?_⟩) (by assumption) ?_
            rotate_left
            · intro w hSw; (try dsimp only at hSw); go_simp; (try with_reducible rfl)
            (try simp only [Act.put, List.setIfInBounds_toArray, List.set_cons_zero, List.set_cons_succ])
            refine take_l (i := 7) (v := ?_) rfl (by kernel_rfl) (by kernel_rfl) (by kernel_rfl) (fun _ _ _ h => h) (Or.inl ⟨by kernel_rfl, ?_⟩) (by assumption) ?_
            rotate_left
            · intro w hSw; (try dsimp only at hSw); go_simp; (try with_reducible rfl)
            (try simp only [Act.put, List.setIfInBounds_toArray, List.set_cons_zero, List.set_cons_succ])
            refine take_l (i := 8) (v := ?_) rfl (by kernel_rfl) (by kernel_rfl) (by kernel_rfl) (fun _ _ _ h => h) (Or.inl ⟨by kernel_rfl, ?_⟩) (by assumption) ?_
            rotate_left
            · intro w hSw; (try dsimp only at hSw); go_simp; (try with_reducible rfl)
            (try simp only [Act.put, List.setIfInBounds_toArray, List.set_cons_zero, List.set_cons_succ])
            refine take_l (i := 9) (v := ?_) rfl (by kernel_rfl) (by kernel_rfl) (by kernel_rfl) (fun _ _ _ h => h) (Or.inl ⟨by kernel_rfl, ?_⟩) (by assumption) ?_
            rotate_left
            · intro w hSw; (try dsimp only at hSw); go_simp; (try with_reducible rfl)
            (try simp only [Act.put, List.setIfInBounds_toArray, List.set_cons_zero, List.set_cons_succ])
            refine take_l (i := 10) (v := ?_) rfl (by kernel_rfl) (by kernel_rfl) (by kernel_rfl) (fun _ _ _ h => h) (Or.inl ⟨by kernel_rfl, ?_⟩) (by assumption) ?_
            rotate_left
            · intro w hSw; (try dsimp only at hSw); go_simp; (try with_reducible rfl)
            (try simp only [Act.put, List.setIfInBounds_toArray, List.set_cons_zero, List.set_cons_succ])
            refine take_l (i := 11) (v := ?_) rfl (by kernel_rfl) (by kernel_rfl) (by kernel_rfl) (fun _ _ _ h => h) (Or.inl ⟨by kernel_rfl, ?_⟩) (by assumption) ?_
            rotate_left
            · intro w hSw; (try dsimp only at hSw); go_simp; (try with_reducible rfl)
            (try simp only [Act.put, List.setIfInBounds_toArray, List.set_cons_zero, List.set_cons_succ])
            refine take_l (i := 12) (v := ?_) rfl (by kernel_rfl) (by kernel_rfl) (by kernel_rfl) (fun _ _ _ h => h) (Or.inl ⟨by kernel_rfl, ?_⟩) (by assumption) ?_
            rotate_left
            · intro w hSw; (try dsimp only at hSw); go_simp; (try with_reducible rfl)
            (try simp only [Act.put, List.setIfInBounds_toArray, List.set_cons_zero, List.set_cons_succ])
            refine take_l (i := 13) (v := ?_) rfl (by kernel_rfl) (by kernel_rfl) (by kernel_rfl) (fun _ _ _ h => h) (Or.inl ⟨by kernel_rfl, ?_⟩) (by assumption) ?_
            rotate_left
            · intro w hSw; (try dsimp only at hSw); go_simp; (try with_reducible rfl)
            (try simp only [Act.put, List.setIfInBounds_toArray, List.set_cons_zero, List.set_cons_succ])
            refine take_l (i := 14) (v := ?_) rfl (by kernel_rfl) (by kernel_rfl) (by kernel_rfl) (fun _ _ _ h => h) (Or.inl ⟨by kernel_rfl, ?_⟩) (by assumption) ?_
            rotate_left
            · intro w hSw; (try dsimp only at hSw); go_simp; (try with_reducible rfl)
            (try simp only [Act.put, List.setIfInBounds_toArray, List.set_cons_zero, List.set_cons_succ])
            refine wpAnyH_ready (rs := [15]) (by kernel_rfl) (by simp) ?_
            refine ready_l rfl (fun K hK => ?_) AllReadyH.nil
            go_simp
            refine hcm.out.mono ?_
            rintro e w11 ⟨v2, rfl, hS, hb11⟩
            refine hK.out _ _ (by exact ⟨(hA1.below hb11).cell rfl |>.trans (by rw [la8.out]), (hB1.below hb11).cell rfl |>.trans (by rw [lb8.out]), (hb11.cell (p := ⟨b1, _, none⟩) hbl1).trans z1, (hb11.cell (p := ⟨b2, _, none⟩) hbl2).trans z2⟩) (fun hHeld2 => ?_)
            clear hK K hHeld
            (try simp only [Act.put, List.setIfInBounds_toArray, List.set_cons_zero, List.set_cons_succ])
            refine take_l (i := 16) (v := ?_) rfl (by kernel_rfl) (by kernel_rfl) (by kernel_rfl) (fun _ _ _ h => h) (Or.inl ⟨by kernel_rfl, ?_⟩) (by assumption) ?_
            rotate_left
            · intro w hSw; (try dsimp only at hSw); go_simp; (try with_reducible rfl)
            (try simp only [Act.put, List.setIfInBounds_toArray, List.set_cons_zero, List.set_cons_succ])
            refine take_l (i := 17) (v := ?_) rfl (by kernel_rfl) (by kernel_rfl) (by kernel_rfl) (fun _ _ _ h => h) (Or.inl ⟨by kernel_rfl, ?_⟩) (by assumption) ?_
            rotate_left
            · intro w hSw; (try dsimp only at hSw); go_simp; (try with_reducible rfl)
            (try simp only [Act.put, List.setIfInBounds_toArray, List.set_cons_zero, List.set_cons_succ])
            refine take_l (i := 18) (v := ?_) rfl (by kernel_rfl) (by kernel_rfl) (by kernel_rfl) (fun _ _ _ h => h) (Or.inl ⟨by kernel_rfl, ?_⟩) (by assumption) ?_
            rotate_left
            · intro w hSw; (try dsimp only at hSw); go_simp; (try with_reducible rfl)
            (try simp only [Act.put, List.setIfInBounds_toArray, List.set_cons_zero, List.set_cons_succ])
            refine take_l (i := 19) (v := ?_) rfl (by kernel_rfl) (by kernel_rfl) (by kernel_rfl) (fun _ _ _ h => h) (Or.inl ⟨by kernel_rfl, ?_⟩) (by assumption) ?_
            rotate_left
            · intro w hSw; (try dsimp only at hSw); go_simp; (try with_reducible rfl)
            (try simp only [Act.put, List.setIfInBounds_toArray, List.set_cons_zero, List.set_cons_succ])
            refine take_l (i := 20) (v := ?_) rfl (by kernel_rfl) (by kernel_rfl) (by kernel_rfl) (fun _ _ _ h => h) (Or.inl ⟨by kernel_rfl, ?_⟩) (by assumption) ?_
            rotate_left
            · intro w hSw; (try dsimp only at hSw); go_simp; (try with_reducible rfl)
            (try simp only [Act.put, List.setIfInBounds_toArray, List.set_cons_zero, List.set_cons_succ])
            refine wpAnyH_done (by kernel_rfl) ?_ _
            have hbn := Lib.hid (hbd.trans (hb11.mono hbd.size))
            have r3c := ((hRc.out.below hbd).below hb11).cell (j := 3) rfl
            rw [lc8.out] at r3c
            have hsm := Same7_any _ _ _ _ w11 (stepsT_at2 hS) (hu3.later hb11)
            rw [decide_eq_true rfl] at hsm
            obtain ⟨na, nc, rfl⟩ := (stepsT_at2 hS).shaped
            replace z0 := (hb11.cell (p := ⟨b3, _, none⟩) hbl3).trans z0
            replace z3 := (hb11.cell (p := ⟨b3, _, none⟩) hbl3).trans z3
            replace hsm := Lib.hid hsm
            clear hcm hu3 hS d3 e3 z1 z2 hA1 hB1 hbd hb11 hHeld2
            go_wp2_with fail
            refine hsm.out.mono ?_
            clear hsm
            rintro e w12 ⟨rfl, hb12⟩
            replace hbn := Lib.hid (hbn.out.trans (hb12.mono hbn.out.size))
            clear hb12
            go_wp2_with fail
            exact ⟨⟨i + 1, by omega, rfl, hbn⟩, by simp [intOf]; omega⟩
          · have hno : decide ((i : Int) + 1 ≤ 8) = false := decide_eq_false (by omega)
            have r1c := (hRc.out.below hbr.out).cell (j := 1) rfl
            have r2c := (hRc.out.below hbr.out).cell (j := 2) rfl
            have r1a := (hRa.out.below hbr.out).cell (j := 1) rfl
            have r1b := (hRb.out.below hbr.out).cell (j := 1) rfl
            have r2b := (hRb.out.below hbr.out).cell (j := 2) rfl
            rw [hdl.out] at r2c
            have hbf := Lib.hid (hb.out.trans (hbr.out.mono hb.out.size))
            have hw := hwc2.out
            generalize ra.cost = ca at *
            generalize rb.cost = cb at *
            generalize rc.cost = cc at *
            go_upto_region 21 with fail
            clear hno hlt hi
            go_wp2_with fail
            go_ret
            exact ⟨rfl, hbf.out⟩
      · have hcase : (oa = none ∧ oc = none) ∨ (oa = none ∧ ∃ b c, ob = some b ∧ oc = some c) ∨ (∃ a, oa = some a ∧ ob = none ∧ oc = none) ∨ (∃ a b, oa = some a ∧ ob = some b ∧ oc = none) := by
          cases oa with
          | none =>
            cases oc with
            | none => exact .inl ⟨rfl, rfl⟩
            | some c =>
              obtain ⟨b, hb⟩ := hdv.out c rfl
              exact .inr (.inl ⟨rfl, b, c, hb, rfl⟩)
          | some a =>
            cases ob with
            | none =>
              cases oc with
              | none => exact .inr (.inr (.inl ⟨a, rfl, rfl, rfl⟩))
              | some c =>
                obtain ⟨b, hb⟩ := hdv.out c rfl
                cases hb
            | some b =>
              cases oc with
              | none => exact .inr (.inr (.inr ⟨a, b, rfl, rfl, rfl⟩))
              | some c => exact absurd ⟨a, b, c, rfl, rfl, rfl⟩ hall
        clear hall hdv hoa hob hoc hra hrb hrc
        rcases hcase with ⟨rfl, rfl⟩ | ⟨rfl, b, c, rfl, rfl⟩ | ⟨a, rfl, rfl, rfl⟩ | ⟨a, b, rfl, rfl, rfl⟩
        · rw [en]
          generalize ofE ob = eb at *
          by_cases h0 : eb = 0
          · subst h0
            go_wp2_with fail
            go_ret
            exact ⟨rfl, hb.out⟩
          · have e1 : (eb == 0) = false := beq_false_of_ne h0
            have e2 : decide (eb = 0) = false := decide_eq_false h0
            go_wp2_with fail
            go_ret
            exact ⟨rfl, hb.out⟩
        · rw [en, es_ b, es_ c]
          go_wp2_with fail
          go_ret
          exact ⟨rfl, hb.out⟩
        · rw [en, es_ a]
          go_wp2_with fail
          go_ret
          exact ⟨rfl, hb.out⟩
        · rw [en, es_ a, es_ b]
          go_wp2_with fail
          go_ret
          exact ⟨rfl, hb.out⟩
end Go.Proofs.YtpeandbcdaikbaaGreatDoor
namespace Go.Proofs.YtpeandbcdaikbaaGreatDoor.routeDivided
open Go.ChangeShapes Go.WideShapes Go.ChangeAt Go.RowKit
open Go.ChangeMaps (open_string)

set_option maxRecDepth 100000 in
set_option maxHeartbeats 1000000 in
theorem lifted (os : Os) (started : os.Started) (H : Type) (enc : TypeId × Value → H) :
    ReturnsInHanded {} Tryz.checked os 5 .any (fun w args => (Rows.routeDividedSpec.pre enc Tryz.prog Tryz.f5 [] false w args ∧ laidMetH Tryz.prog laid11 w) ∧ sizedMet enc Tryz.prog Tryz.f5 (OpenSpec.ofChange Rows.routeDividedSpec) false w args)
      (Rows.routeDividedSpec.post enc Tryz.prog Tryz.f5 false true false false) := by
  refine lift_shaped (C := Tryz.checked) (X := fun w => laidMetH Tryz.prog laid11 w) (fun _ _ hh h => h.of_heap hh) own started (by kernel_rfl) Tryz.func5
    (ChangeSpec.witness_shaped (enc := enc) (C := Tryz.checked) (os := os) (X := fun w _ => laidMetH Tryz.prog laid11 w) false (World.laidAll Tryz.prog os laid11) #[.agg #[.slice none 0 0, .slice none 0 0, .int .i64 0, .int .i64 0, .int .i64 0], .slice none 0 0, .int .i64 0] 8 (World.laidAll_os _ _ _) (shape11 os) (by kernel_rfl) (by kernel_rfl) (by kernel_rfl) (door_met11 os _)) ?_
  intro W base args ds gs before hval0 hW hL hsh
  have hval : ∀ (j : Nat) t v, Tryz.f5.params[j]? = some t → args[j]? = some v → Value.okWide Tryz.prog W .any base t v := hval0
  have hW' := hW
  obtain ⟨p, q, hA0, hV, rfl, hfz, hnd⟩ := hW
  have hA : DataW.TrodAll enc Tryz.prog W 0 (fun _ => true) true Tryz.f5.params.toList args.toList ds p := hA0
  have hAk := hA
  rw [Tryz.params5] at hA hval
  obtain ⟨v0, vs0, d0, ds0, p0, q0, hargs, rfl, rfl, h0, r0⟩ := trodAll_cons hA
  obtain ⟨v1, vs1, d1, ds1, p1, q1, rfl, rfl, rfl, h1, r1⟩ := trodAll_cons r0
  obtain ⟨v2, vs2, d2, ds2, p2, q2, rfl, rfl, rfl, h2, r2⟩ := trodAll_cons r1
  obtain ⟨rfl, rfl, rfl⟩ := trodAll_nil r2
  obtain rfl : args = #[v0, v1, v2] := by cases args; simp_all
  obtain ⟨rfl, rfl⟩ := trodVars_none hV
  obtain ⟨n0, z0, k0, f0, d0_, p0_, e0, g0, s0⟩ := open_case (hval 0 25 v0 rfl rfl) h0
  obtain ⟨l1, g1, s1⟩ := open_nums (hval 1 23 v1 rfl rfl) h1
  obtain ⟨a2, rfl, rfl, _, w2⟩ := open_int Tryz.underlying3 (hval 2 3 v2 rfl rfl) h2
  clear hA0 hval0
  refine (Divided_law v0 n0 z0 k0 f0 d0_ p0_ e0 g0 v1 l1 a2 W s0 s1 g1 (I64.of_wf w2)).mono fun e W' ⟨he, hg⟩ => ?_
  subst he
  have hlt := DataW.TrodAll.lt hAk
  exact ⟨_, rfl, post_of_below (pa := _) (pv := []) hW' (fun _ _ _ => (trodAll_cons_mk (shut_bool Tryz.underlying4 _) trodAll_mk0)) (fun sp hsp => trodAll_stay Tryz.kids Tryz.full (by rw [Tryz.params5]; decide) hAk (fun x hx => sameAt_below hg (hlt x hx)) (fun x hx => hsp x (List.mem_append_left _ hx))) (fun _ _ => rfl) rfl hg (ok_one (by kernel_rfl) rfl (okWide_bool_mk Tryz.underlying4 _))⟩

theorem row_holds : Rows.RouteDividedSaid :=
  OpenClaim.holds_of_wide 5 Tryz.f5 rfl rfl rfl rfl rfl rfl rfl ⟨rfl, rfl, rfl, rfl, rfl⟩ rfl rfl rfl rfl rfl (by kernel_rfl) Tryz.func5 (by kernel_rfl)
    (of_decide_eq_true (by kernel_rfl)) (by unfold Func.isWrapper; first | (rw [if_pos (by decide +kernel)]; kernel_rfl) | (rw [if_neg (by decide +kernel)]; exact ⟨rfl, rfl⟩))
    (fun os started H enc _ => lifted os started H enc)

/-- THE TIED CARD. -/
theorem card_holds : Rows.RouteDividedCardSaid :=
  Claim7.holds_tied_plain_at .later [] [.data, .pinned, .pinned] true Rows.routeDividedCard.stood.harness false
    row_holds (fun _ h => by cases h) (by kernel_rfl) (fun _ h => by cases h) routeDivided_row_tie rfl ⟨rfl, rfl⟩ (by kernel_rfl) rfl
    (fun f fn hf hfn => by
      obtain rfl : f = 5 := Option.some.inj ((show Tryz.prog.funcNamed "evergreen/evergreenlaw11.RouteDivided" = some 5 by kernel_rfl).symm.trans hf) |>.symm
      obtain rfl : fn = Tryz.f5 := (Option.some.inj (Tryz.func5.symm.trans hfn)).symm
      exact ⟨by kernel_rfl, fun j t ht => by
        rw [Tryz.params5] at ht
        have hm : t ∈ [25, 23, 3] := by simpa using Array.mem_of_getElem? ht
        have hall : ([25, 23, 3].all fun u => !Tryz.prog.wantsStandIn u) = true := by kernel_rfl
        exact (show Tryz.prog.wantsStandIn t = false by simpa using List.all_eq_true.1 hall t hm)⟩)
    (by kernel_rfl)
#print axioms card_holds
end Go.Proofs.YtpeandbcdaikbaaGreatDoor.routeDivided
