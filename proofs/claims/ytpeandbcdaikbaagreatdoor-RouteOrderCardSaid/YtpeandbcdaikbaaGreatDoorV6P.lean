/-
  Routes of chapter 11: the law RouteOrder.
  RouteOrder is true of every input: the row, and its tied card. Conditions: the library variables that are read hold what their packages lay in them (the card ties that to the text).
-/
import Derived.Test.YtpeandbcdaikbaaGreatDoorYZ
import Derived.Test.YtpeandbcdaikbaaGreatDoorCards
import Derived.Test.YtpeandbcdaikbaaGreatDoorTie
import Derived.Test.YtpeandbcdaikbaaGreatDoorYU
import Derived.SevenTiedAt
namespace Go.Proofs.YtpeandbcdaikbaaGreatDoor
open Go.RowKit Go.Shelf Go.Maps

attribute [local go_sem] Oper.semAt_some

set_option maxRecDepth 100000 in
set_option maxHeartbeats 8000000 in
theorem Order_law (v : Value) (n : Nat) (zs ls : List Int) (fr dy hp : Int) (ev lv : Value) (c1 : Value) (l1 : List Int) (c2 : Value) (l2 : List Int) (c3 : Value) (l3 : List Int) (edge less : Int) (w : World) (h : CaseIn w v n zs ls fr dy hp ev lv) (h1 : NumsAt w w.heap.size c1 l1) (i1 : ∀ c ∈ l1, I64 c) (h2 : NumsAt w w.heap.size c2 l2) (i2 : ∀ c ∈ l2, I64 c) (h3 : NumsAt w w.heap.size c3 l3) (i3 : ∀ c ∈ l3, I64 c) (hedge : I64 edge) (hless : I64 less) :
    Calls Tryz.prog 8 #[v, c1, c2, c3, .int .i64 edge, .int .i64 less] w fun e w' => e = .returned (.bool true) ∧ Below w.heap.size w w' := by
  have hM := Lib.hid (madeP n zs ls fr dy)
  have hops0 : 0 ≤ hopsC hp ∧ hopsC hp ≤ 6 := by have := pickv_lt hp 7 (by omega); unfold hopsC; omega
  have hmade := fun W (hb : Below w.heap.size w W) => made_any v n zs ls fr dy hp ev lv W (h.below hb)
  obtain ⟨rfl, hfi, hli, _⟩ := h
  obtain ⟨fa, fc, rfl, _, _, _⟩ := hfi.2
  obtain ⟨la, lc, rfl, _, _, _⟩ := hli
  generalize madeE n zs = l at *
  generalize lifeR ls = life at *
  generalize frmC fr = f at *
  generalize dayC dy = d at *
  generalize hopsC hp = hops at *
  obtain ⟨W, hW⟩ : ∃ W, W = w.alloc (.cells #[.slice fa n fc, .slice la ls.length lc, .int .i64 fr, .int .i64 dy, .int .i64 hp] 25) := ⟨_, rfl⟩
  have hA : Arr W w.heap.size 25 [.slice fa n fc, .slice la ls.length lc, .int .i64 fr, .int .i64 dy, .int .i64 hp] := by rw [hW]; exact Arr.new rfl rfl
  have hbW : Below w.heap.size w W := by rw [hW]; exact (Below.refl _ _).alloc (Nat.le_refl _) _
  have hsa := Lib.hid (sane_any W)
  replace hmade := Lib.hid hmade
  replace hops0 := Lib.hid hops0
  go_enter Tryz.func8, Tryz.ntmps8
  go_upto_region 1 with fail
  rw [← hW]
  clear hW
  go_wp2_with fail
  refine hsa.out.mono ?_
  rintro e w1 ⟨rfl, hb1⟩
  have hA1 := hA.below hb1
  have hbw1 := hbW.trans (hb1.mono hbW.size)
  have hmd := Lib.hid (hmade.out w1 hbw1)
  have a0 := hA1.cell (j := 0) rfl
  have a1 := hA1.cell (j := 1) rfl
  have a2 := hA1.cell (j := 2) rfl
  have a3 := hA1.cell (j := 3) rfl
  have a4 := hA1.cell (j := 4) rfl
  clear hA hA1 hbW hb1 hsa hmade
  go_wp2_with fail
  refine hmd.out.mono ?_
  rintro e w2 ⟨ev', lv', rfl, hE, hL, hb2⟩
  have hb := Lib.hid (hbw1.trans (hb2.mono hbw1.size))
  clear hbw1 hb2 hmd a0 a1 a2 a3 a4
  obtain ⟨ea, ec, rfl, _⟩ := hE.len
  obtain ⟨va, vc, rfl, _⟩ := hL.len
  replace hE := Lib.hid hE
  replace hL := Lib.hid hL
  have hc1 := Lib.hid fun W (hW : Below w.heap.size w W) => h1.later hW
  obtain ⟨ca1, cc1, rfl, _, _, _⟩ := h1
  have hc2 := Lib.hid fun W (hW : Below w.heap.size w W) => h2.later hW
  obtain ⟨ca2, cc2, rfl, _, _, _⟩ := h2
  have hc3 := Lib.hid fun W (hW : Below w.heap.size w W) => h3.later hW
  obtain ⟨ca3, cc3, rfl, _, _, _⟩ := h3
  have hwk := Lib.hid (walk_any l f l1 _ _ w2 (by have := hM.out.len; omega) hE.out.at (hc1.out w2 hb.out) i1)
  go_wp2_with fail
  refine hwk.out.mono ?_
  clear hwk
  rintro e w3 ⟨wv, rfl, hN, hbx⟩
  replace hE := Lib.hid (hE.out.below hbx)
  replace hL := Lib.hid (hL.out.below hbx)
  replace hb := Lib.hid (hb.out.trans (hbx.mono hb.out.size))
  clear hbx
  have hwla := walkL_len l f l1
  generalize walkL l f l1 = esa at *
  obtain ⟨waa, wcapa, rfl, _⟩ := id hN
  obtain ⟨oa, hoa⟩ : ∃ o, ofP l life f d esa = o := ⟨_, rfl⟩
  have hof := Lib.hid (of_law l life f d _ oa hoa _ _ _ w3 hM.out.mig hE.out hL.out hN)
  clear hN hc1
  replace hoa := Lib.hid hoa
  go_wp2_with fail
  refine hof.out.mono ?_
  clear hof
  rintro e w4 ⟨zaa, zca, yaa, yca, ra, rfl, hra, hoka, hbx⟩
  replace hra := Lib.hid hra
  obtain ⟨w5, hw⟩ : ∃ w5, w5 = w4.alloc (.cells #[.slice zaa ra.edges.length zca, .int .i64 ra.cost, .int .i64 ra.life, .slice yaa ra.claims.length yca] 33) := ⟨_, rfl⟩
  have hRa : Arr w5 w4.heap.size 33 [.slice zaa ra.edges.length zca, .int .i64 ra.cost, .int .i64 ra.life, .slice yaa ra.claims.length yca] := by rw [hw]; exact Arr.new rfl rfl
  have hby : Below w4.heap.size w4 w5 := by rw [hw]; exact (Below.refl _ _).alloc (Nat.le_refl _) _
  go_upto_region 4 with fail
  rw [← hw]
  clear hw
  have hbz := hbx.trans (hby.mono hbx.size)
  replace hoka := Lib.hid (hoka.below hby)
  replace hRa := Lib.hid hRa
  clear hbx hby
  replace hE := Lib.hid (hE.out.below hbz)
  replace hL := Lib.hid (hL.out.below hbz)
  replace hb := Lib.hid (hb.out.trans (hbz.mono hb.out.size))
  clear hbz
  have hwk := Lib.hid (walk_any l f l2 _ _ w5 (by have := hM.out.len; omega) hE.out.at (hc2.out w5 hb.out) i2)
  go_wp2_with fail
  refine hwk.out.mono ?_
  clear hwk
  rintro e w6 ⟨wv, rfl, hN, hbx⟩
  replace hE := Lib.hid (hE.out.below hbx)
  replace hL := Lib.hid (hL.out.below hbx)
  replace hoka := Lib.hid (hoka.out.below hbx)
  replace hRa := Lib.hid (hRa.out.below hbx)
  replace hb := Lib.hid (hb.out.trans (hbx.mono hb.out.size))
  clear hbx
  have hwlb := walkL_len l f l2
  generalize walkL l f l2 = esb at *
  obtain ⟨wab, wcapb, rfl, _⟩ := id hN
  obtain ⟨ob, hob⟩ : ∃ o, ofP l life f d esb = o := ⟨_, rfl⟩
  have hof := Lib.hid (of_law l life f d _ ob hob _ _ _ w6 hM.out.mig hE.out hL.out hN)
  clear hN hc2
  replace hob := Lib.hid hob
  go_wp2_with fail
  refine hof.out.mono ?_
  clear hof
  rintro e w7 ⟨zab, zcb, yab, ycb, rb, rfl, hrb, hokb, hbx⟩
  replace hrb := Lib.hid hrb
  obtain ⟨w8, hw⟩ : ∃ w8, w8 = w7.alloc (.cells #[.slice zab rb.edges.length zcb, .int .i64 rb.cost, .int .i64 rb.life, .slice yab rb.claims.length ycb] 33) := ⟨_, rfl⟩
  have hRb : Arr w8 w7.heap.size 33 [.slice zab rb.edges.length zcb, .int .i64 rb.cost, .int .i64 rb.life, .slice yab rb.claims.length ycb] := by rw [hw]; exact Arr.new rfl rfl
  have hby : Below w7.heap.size w7 w8 := by rw [hw]; exact (Below.refl _ _).alloc (Nat.le_refl _) _
  go_upto_region 5 with fail
  rw [← hw]
  clear hw
  have hbz := hbx.trans (hby.mono hbx.size)
  replace hokb := Lib.hid (hokb.below hby)
  replace hRb := Lib.hid hRb
  clear hbx hby
  replace hE := Lib.hid (hE.out.below hbz)
  replace hL := Lib.hid (hL.out.below hbz)
  replace hoka := Lib.hid (hoka.out.below hbz)
  replace hRa := Lib.hid (hRa.out.below hbz)
  replace hb := Lib.hid (hb.out.trans (hbz.mono hb.out.size))
  clear hbz
  have hwk := Lib.hid (walk_any l f l3 _ _ w8 (by have := hM.out.len; omega) hE.out.at (hc3.out w8 hb.out) i3)
  go_wp2_with fail
  refine hwk.out.mono ?_
  clear hwk
  rintro e w9 ⟨wv, rfl, hN, hbx⟩
  replace hE := Lib.hid (hE.out.below hbx)
  replace hL := Lib.hid (hL.out.below hbx)
  replace hoka := Lib.hid (hoka.out.below hbx)
  replace hRa := Lib.hid (hRa.out.below hbx)
  replace hokb := Lib.hid (hokb.out.below hbx)
  replace hRb := Lib.hid (hRb.out.below hbx)
  replace hb := Lib.hid (hb.out.trans (hbx.mono hb.out.size))
  clear hbx
  have hwlc := walkL_len l f l3
  generalize walkL l f l3 = esc at *
  obtain ⟨wac, wcapc, rfl, _⟩ := id hN
  obtain ⟨oc, hoc⟩ : ∃ o, ofP l life f d esc = o := ⟨_, rfl⟩
  have hof := Lib.hid (of_law l life f d _ oc hoc _ _ _ w9 hM.out.mig hE.out hL.out hN)
  clear hN hc3
  replace hoc := Lib.hid hoc
  go_wp2_with fail
  refine hof.out.mono ?_
  clear hof
  rintro e w10 ⟨zac, zcc, yac, ycc, rc, rfl, hrc, hokc, hbx⟩
  replace hrc := Lib.hid hrc
  obtain ⟨w11, hw⟩ : ∃ w11, w11 = w10.alloc (.cells #[.slice zac rc.edges.length zcc, .int .i64 rc.cost, .int .i64 rc.life, .slice yac rc.claims.length ycc] 33) := ⟨_, rfl⟩
  have hRc : Arr w11 w10.heap.size 33 [.slice zac rc.edges.length zcc, .int .i64 rc.cost, .int .i64 rc.life, .slice yac rc.claims.length ycc] := by rw [hw]; exact Arr.new rfl rfl
  have hby : Below w10.heap.size w10 w11 := by rw [hw]; exact (Below.refl _ _).alloc (Nat.le_refl _) _
  go_upto_region 6 with fail
  rw [← hw]
  clear hw
  have hbz := hbx.trans (hby.mono hbx.size)
  replace hokc := Lib.hid (hokc.below hby)
  replace hRc := Lib.hid hRc
  clear hbx hby
  replace hE := Lib.hid (hE.out.below hbz)
  replace hL := Lib.hid (hL.out.below hbz)
  replace hoka := Lib.hid (hoka.out.below hbz)
  replace hRa := Lib.hid (hRa.out.below hbz)
  replace hokb := Lib.hid (hokb.out.below hbz)
  replace hRb := Lib.hid (hRb.out.below hbz)
  replace hb := Lib.hid (hb.out.trans (hbz.mono hb.out.size))
  clear hbz
  go_cut [111] from 76 (fun c wx => c = .bool false ∧ Hid (Below w11.heap.size w11 wx))
  case first =>
    cases oa with
    | none =>
      have es_ : ofE none = 110 := rfl
      rw [es_]
      clear es_
      go_wp2_with fail
      go_meet
      exact ⟨rfl, Lib.hid (Below.refl _ _)⟩
    | some rr =>
      have es_ : ofE (some rr) = 0 := rfl
      rw [es_]
      clear es_
      obtain rfl : ra = rr := hra.out
      have hga := better_refl (of_good hoa.out)
      have hRa_ := hRa.out
      have a_0 := hRa_.cell (j := 0) rfl
      have a_1 := hRa_.cell (j := 1) rfl
      have a_2 := hRa_.cell (j := 2) rfl
      have a_3 := hRa_.cell (j := 3) rfl
      have hbt := better_law ra ra zaa zaa yaa yaa zca zca yca yca w11 (hoka.out) (hoka.out)
      rw [hga] at hbt
      replace hRa_ := Lib.hid hRa_
      replace hbt := Lib.hid hbt
      clear hga
      go_wp2_with fail
      refine hbt.out.mono ?_
      clear hbt
      rintro e w12 ⟨rfl, hbx⟩
      have hb12 := Lib.hid (hbx)
      clear hbx hRa_ a_0 a_1 a_2 a_3
      cases ob with
      | none =>
        have es_ : ofE none = 110 := rfl
        rw [es_]
        clear es_
        go_wp2_with fail
        go_meet
        exact ⟨rfl, hb12⟩
      | some rr =>
        have es_ : ofE (some rr) = 0 := rfl
        rw [es_]
        clear es_
        obtain rfl : rb = rr := hrb.out
        cases oc with
        | none =>
          have es_ : ofE none = 110 := rfl
          rw [es_]
          clear es_
          go_wp2_with fail
          go_meet
          exact ⟨rfl, hb12⟩
        | some rr =>
          have es_ : ofE (some rr) = 0 := rfl
          rw [es_]
          clear es_
          obtain rfl : rc = rr := hrc.out
          have htr := Lib.hid (@better_trans ra rb rc)
          have hRa_ := hRa.out.below hb12.out
          have a_0 := hRa_.cell (j := 0) rfl
          have a_1 := hRa_.cell (j := 1) rfl
          have a_2 := hRa_.cell (j := 2) rfl
          have a_3 := hRa_.cell (j := 3) rfl
          have hRb_ := hRb.out.below hb12.out
          have b_0 := hRb_.cell (j := 0) rfl
          have b_1 := hRb_.cell (j := 1) rfl
          have b_2 := hRb_.cell (j := 2) rfl
          have b_3 := hRb_.cell (j := 3) rfl
          have hbt := better_law ra rb zaa zab yaa yab zca zcb yca ycb w12 (hoka.out.below hb12.out) (hokb.out.below hb12.out)
          generalize betterP ra rb = q1 at *
          replace hRa_ := Lib.hid hRa_
          replace hRb_ := Lib.hid hRb_
          replace hbt := Lib.hid hbt
          go_wp2_with fail
          refine hbt.out.mono ?_
          clear hbt
          rintro e w13 ⟨rfl, hbx⟩
          have hb13 := Lib.hid (hb12.out.trans (hbx.mono hb12.out.size))
          clear hbx hRa_ a_0 a_1 a_2 a_3 hRb_ b_0 b_1 b_2 b_3
          cases q1 with
          | false =>
            go_wp2_with fail
            go_meet
            exact ⟨rfl, hb13⟩
          | true =>
            have hRb_ := hRb.out.below hb13.out
            have b_0 := hRb_.cell (j := 0) rfl
            have b_1 := hRb_.cell (j := 1) rfl
            have b_2 := hRb_.cell (j := 2) rfl
            have b_3 := hRb_.cell (j := 3) rfl
            have hRc_ := hRc.out.below hb13.out
            have c_0 := hRc_.cell (j := 0) rfl
            have c_1 := hRc_.cell (j := 1) rfl
            have c_2 := hRc_.cell (j := 2) rfl
            have c_3 := hRc_.cell (j := 3) rfl
            have hbt := better_law rb rc zab zac yab yac zcb zcc ycb ycc w13 (hokb.out.below hb13.out) (hokc.out.below hb13.out)
            generalize betterP rb rc = q2 at *
            replace hRb_ := Lib.hid hRb_
            replace hRc_ := Lib.hid hRc_
            replace hbt := Lib.hid hbt
            go_wp2_with fail
            refine hbt.out.mono ?_
            clear hbt
            rintro e w14 ⟨rfl, hbx⟩
            have hb14 := Lib.hid (hb13.out.trans (hbx.mono hb13.out.size))
            clear hbx hRb_ b_0 b_1 b_2 b_3 hRc_ c_0 c_1 c_2 c_3
            cases q2 with
            | false =>
              go_wp2_with fail
              go_meet
              exact ⟨rfl, hb14⟩
            | true =>
              have hRa_ := hRa.out.below hb14.out
              have a_0 := hRa_.cell (j := 0) rfl
              have a_1 := hRa_.cell (j := 1) rfl
              have a_2 := hRa_.cell (j := 2) rfl
              have a_3 := hRa_.cell (j := 3) rfl
              have hRc_ := hRc.out.below hb14.out
              have c_0 := hRc_.cell (j := 0) rfl
              have c_1 := hRc_.cell (j := 1) rfl
              have c_2 := hRc_.cell (j := 2) rfl
              have c_3 := hRc_.cell (j := 3) rfl
              have hbt := better_law ra rc zaa zac yaa yac zca zcc yca ycc w14 (hoka.out.below hb14.out) (hokc.out.below hb14.out)
              rw [htr.out (by trivial) (by trivial)] at hbt
              replace hRa_ := Lib.hid hRa_
              replace hRc_ := Lib.hid hRc_
              replace hbt := Lib.hid hbt
              clear htr
              go_wp2_with fail
              refine hbt.out.mono ?_
              clear hbt
              rintro e w15 ⟨rfl, hbx⟩
              have hb15 := Lib.hid (hb14.out.trans (hbx.mono hb14.out.size))
              clear hbx hRa_ a_0 a_1 a_2 a_3 hRc_ c_0 c_1 c_2 c_3
              go_wp2_with fail
              go_meet
              exact ⟨rfl, hb15⟩
  case rest =>
    obtain ⟨rfl, hb12⟩ := hcut
    obtain ⟨wk, hwk⟩ : ∃ wk, wk = wc := ⟨_, rfl⟩
    subst hwk
    have hbx := hb12.out
    clear hb12 hokb hRb hokc hRc hrb hrc hob hoc hwlb hwlc
    replace hE := Lib.hid (hE.out.below hbx)
    replace hL := Lib.hid (hL.out.below hbx)
    replace hoka := Lib.hid (hoka.out.below hbx)
    replace hRa := Lib.hid (hRa.out.below hbx)
    replace hb := Lib.hid (hb.out.trans (hbx.mono hb.out.size))
    clear hbx
    cases oa with
    | none =>
      have es_ : ofE none = 110 := rfl
      rw [es_]
      clear es_
      go_wp2_with fail
      go_ret
      exact ⟨rfl, hb.out⟩
    | some rr =>
      have es_ : ofE (some rr) = 0 := rfl
      rw [es_]
      clear es_
      obtain rfl : ra = rr := hra.out
      by_cases h0 : l.length = 0
      · have e1 : decide (l.length = 0) = true := decide_eq_true h0
        have e2 : ((l.length : Int) == 0) = true := by rw [h0]; rfl
        replace h0 := Lib.hid h0
        go_wp2_with fail
        go_ret
        exact ⟨rfl, hb.out⟩
      · have e1 : decide (l.length = 0) = false := decide_eq_false h0
        have e2 : ((l.length : Int) == 0) = false := beq_false_of_ne (by omega)
        obtain ⟨e0, he, he0, he1, he2⟩ := info_parts Tryz.info_edge
        obtain ⟨i0, hi_, hz0, hz1, hz2⟩ := info_parts Tryz.info_int
        replace he := Lib.hid he
        replace hi_ := Lib.hid hi_
        have hll := hM.out.len
        obtain ⟨us, hu1, hsrc, hu3, hu4, hu5⟩ := hE.out.src
        have hba : Below wk.heap.size wk (wk.alloc (.cells #[] 30)) := (Below.refl _ _).alloc (Nat.le_refl _) _
        have hsrc2 := Lib.hid (SliceAt.later hsrc hba)
        replace hu3 := Lib.hid hu3
        replace hu4 := Lib.hid hu4
        clear hsrc
        generalize hln : l.length = n at *
        replace hln := Lib.hid hln
        replace h0 : Hid (n ≠ 0) := h0
        go_upto_region 11 with (at_builtin; refine wpList_append_src rfl _ _ 35 rfl wk.heap.size 30 e0 (.agg #[.int .i64 0, .int .i64 0, .int .i64 0, .int .i64 0, .int .i64 0, .bool false, .slice none 0 0]) 7 72 Tryz.underlying35 he.out he0 he1 he2 rfl (by decide) _ _ _ rfl (World.ownsRow_made wk #[] 0 (Nat.le_refl _) (Nat.zero_le _) (by simp)) _ n _ (edC l us) rfl hsrc2.out hu3.out hu4.out ?qa ?qb ?qc ?_)
        case qa => unfold maxLen; omega
        case qb => omega
        case qc => simp
        intro cv w13 hown hgrow
        replace hown : w13.ownsRow wk.heap.size 30 7 cv n (edC l us) := by simpa using hown
        have hbx : Below wk.heap.size wk w13 := hba.grown hgrow (by simp) (by intro k hk; simp [Value.ownBlock] at hk; omega)
        have hpos : 0 < n := by have := h0.out; omega
        obtain ⟨g, cap, rfl⟩ := own_slice hown hpos
        have hC : Hid (EdOwn wk.heap.size w13 (.slice (some ⟨g, 0, none⟩) l.length cap) l us) := ⟨hu1.trans hln.out.symm, by rw [hln.out]; exact hown, fun i hi => (hu5 i (by rw [← hln.out]; exact hi)).below hbx⟩
        clear hown hgrow hsrc2 hu1 hu3 hu4 hu5 hba he
        have hpk := Lib.hid (pick_any edge n w13 hedge (by omega) (by omega))
        have hkl := pickv_lt edge n hpos
        generalize pickv edge n = k at *
        go_upto_region 12 with (refine hpk.out.mono ?_; clear hpk; rintro e wz ⟨rfl, rfl⟩)
        have hmem : okE l[k]! = true := (validE_parts hM.out.val).2 _ (by rw [getElem!_pos l k (by rw [hln.out]; exact hkl)]; exact List.getElem_mem _)
        have hcst := (ok_parts hmem).1
        clear hmem
        have hxc : wz.cell? ⟨g, k * 7, none⟩ = some (.int .i64 l[k]!.cost) := by rw [hC.out.own.cellAt _ (by rw [hln.out]; omega)]; exact edC_at l us hC.out.len k (by rw [hln.out]; exact hkl) 0 _ rfl
        have hxf := hC.out.own.frozenAt (k * 7)
        have hset := fun c => hC.out.setCost (k := k) (by rw [hln.out]; exact hkl) c
        have hcok := fun c h0 hc => order_law hM.out.val hoa.out (k := k) (by rw [hln.out]; exact hkl) (c := c) (m := (pickv less 3 : Nat)) h0 hc (Int.natCast_nonneg _)
        generalize hcc : l[k]!.cost = c0 at *
        obtain ⟨n0, hn0⟩ : ∃ n0 : Nat, c0 = (n0 : Int) := ⟨c0.toNat, by omega⟩
        subst hn0
        have hpk := fun W => pick_any less (n0 + 1) W hless (by omega) (by omega)
        have hp0 := pickv_lt less (n0 + 1) (by omega)
        generalize pickv less (n0 + 1) = p0 at *
        have hcst2 : IntKind.i64.wrap ((n0 : Int) + 1) = (n0 : Int) + 1 := IntWalk.i64_in _ (by omega)
        have hcst3 : IntKind.i64.wrap ((n0 : Int) - (p0 : Int)) = (n0 : Int) - (p0 : Int) := IntWalk.i64_in _ (by omega)
        have hc1 := hcok ((n0 : Int) - (p0 : Int)) (by omega) (by omega)
        have hcs : Hid (EdOwn wk.heap.size (wz.setCell ⟨g, k * 7, none⟩ (.int .i64 ((n0 : Int) - (p0 : Int)))) (.slice (some ⟨g, 0, none⟩) l.length cap) (cheapE l k ((n0 : Int) - (p0 : Int))) us ∧ wz.grownBy (wz.setCell ⟨g, k * 7, none⟩ (.int .i64 ((n0 : Int) - (p0 : Int)))) (some g)) := hset _
        have k0 : (0 : Int) ≤ (k : Int) := by omega
        have k1 : (k : Int) < (n : Int) := by omega
        replace hpk := Lib.hid hpk
        replace hc1 := Lib.hid hc1
        replace hcc := Lib.hid hcc
        clear hset hcok hcst
        generalize hcq : (n0 : Int) - (p0 : Int) = c1 at *
        replace hcst3 : IntKind.i64.wrap ((n0 : Int) - (p0 : Int)) = c1 := by rw [hcq]; exact hcst3
        replace hcq := Lib.hid hcq
        have hgB : wk.heap.size ≤ g := (own_block hC.out.own (g := g) (by simp [Value.ownBlock])).2.1
        go_cut [26] from 127 (fun v26 wx => v26 = .int .i64 (k : Int) ∧ Hid (EdOwn wk.heap.size wx (.slice (some ⟨g, 0, none⟩) l.length cap) (cheapE l k c1) us ∧ Below wk.heap.size wk wx))
        case first =>
          have hbd := Lib.hid hbx.drew
          refine wp_region_held_drew (S := fun w' => True) (by kernel_rfl) (by exact trivial) (fun hHeld => ?_)
          refine take_l (i := 0) (v := ?_) rfl (by kernel_rfl) (by kernel_rfl) (by kernel_rfl) (fun _ _ _ h => h) (Or.inl ⟨by kernel_rfl, ?_⟩) (by assumption) ?_
          rotate_left
          · intro w hSw; (try dsimp only at hSw); go_simp; (try with_reducible rfl)
          (try simp only [Act.put, List.setIfInBounds_toArray, List.set_cons_zero, List.set_cons_succ])
          refine take_l (i := 1) (v := ?_) rfl (by kernel_rfl) (by kernel_rfl) (by kernel_rfl) (fun _ _ _ h => h) (Or.inl ⟨by kernel_rfl, ?_⟩) (by assumption) ?_
          rotate_left
          · intro w hSw; (try dsimp only at hSw); go_simp; (try with_reducible rfl)
          (try simp only [Act.put, List.setIfInBounds_toArray, List.set_cons_zero, List.set_cons_succ])
          refine take_l (i := 2) (v := ?_) rfl (by kernel_rfl) (by kernel_rfl) (by kernel_rfl) (fun _ _ _ h => h) (Or.inl ⟨by kernel_rfl, ?_⟩) (by assumption) ?_
          rotate_left
          · intro w hSw; (try dsimp only at hSw); go_simp; (try with_reducible rfl)
          (try simp only [Act.put, List.setIfInBounds_toArray, List.set_cons_zero, List.set_cons_succ])
          refine take_l (i := 3) (v := ?_) rfl (by kernel_rfl) (by kernel_rfl) (by kernel_rfl) (fun _ _ _ h => h) (Or.inl ⟨by kernel_rfl, ?_⟩) (by assumption) ?_
          rotate_left
          · intro w hSw; (try dsimp only at hSw); go_simp; (try with_reducible rfl)
          (try simp only [Act.put, List.setIfInBounds_toArray, List.set_cons_zero, List.set_cons_succ])
          refine take_l (i := 4) (v := ?_) rfl (by kernel_rfl) (by kernel_rfl) (by kernel_rfl) (fun _ _ _ h => h) (Or.inl ⟨by kernel_rfl, ?_⟩) (by assumption) ?_
          rotate_left
          · intro w hSw; (try dsimp only at hSw); go_simp; (try with_reducible rfl)
          (try simp only [Act.put, List.setIfInBounds_toArray, List.set_cons_zero, List.set_cons_succ])
          refine take_l (i := 5) (v := ?_) rfl (by kernel_rfl) (by kernel_rfl) (by kernel_rfl) (fun _ _ _ h => h) (Or.inl ⟨by kernel_rfl, ?_⟩) (by assumption) ?_
          rotate_left
          · intro w hSw; (try dsimp only at hSw); go_simp; (try with_reducible rfl)
          (try simp only [Act.put, List.setIfInBounds_toArray, List.set_cons_zero, List.set_cons_succ])
          refine take_l (i := 7) (v := ?_) rfl (by kernel_rfl) (by kernel_rfl) (by kernel_rfl) (fun _ _ _ h => h) (Or.inl ⟨by kernel_rfl, ?_⟩) (by assumption) ?_
          rotate_left
          · intro w hSw; (try dsimp only at hSw); go_simp; (try with_reducible rfl)
          (try simp only [Act.put, List.setIfInBounds_toArray, List.set_cons_zero, List.set_cons_succ])
          refine take_l (i := 8) (v := ?_) rfl (by kernel_rfl) (by kernel_rfl) (by kernel_rfl) (fun _ _ _ h => h) (Or.inl ⟨by kernel_rfl, ?_⟩) (by assumption) ?_
          rotate_left
          · intro w hSw; (try dsimp only at hSw); go_simp; (try with_reducible rfl)
          (try simp only [Act.put, List.setIfInBounds_toArray, List.set_cons_zero, List.set_cons_succ])
          refine take_l (i := 9) (v := ?_) rfl (by kernel_rfl) (by kernel_rfl) (by kernel_rfl) (fun _ _ _ h => h) (Or.inl ⟨by kernel_rfl, ?_⟩) (by assumption) ?_
          rotate_left
          · intro w hSw; (try dsimp only at hSw); go_simp; (try with_reducible rfl)
          (try simp only [Act.put, List.setIfInBounds_toArray, List.set_cons_zero, List.set_cons_succ])
          refine take_l (i := 10) (v := ?_) rfl (by kernel_rfl) (by kernel_rfl) (by kernel_rfl) (fun _ _ _ h => h) (Or.inl ⟨by kernel_rfl, ?_⟩) (by assumption) ?_
          rotate_left
          · intro w hSw; (try dsimp only at hSw); go_simp; (try with_reducible rfl)
          (try simp only [Act.put, List.setIfInBounds_toArray, List.set_cons_zero, List.set_cons_succ])
          refine take_l (i := 11) (v := ?_) rfl (by kernel_rfl) (by kernel_rfl) (by kernel_rfl) (fun _ _ _ h => h) (Or.inl ⟨by kernel_rfl, ?_⟩) (by assumption) ?_
          rotate_left
          · intro w hSw; (try dsimp only at hSw); go_simp; (try with_reducible rfl)
          (try simp only [Act.put, List.setIfInBounds_toArray, List.set_cons_zero, List.set_cons_succ])
          refine wpAnyH_ready (rs := [6, 12]) (by kernel_rfl) (by simp) ?_
          refine ready_l rfl (fun K hK => ?_) (ready_l rfl (fun K hK => ?_) AllReadyH.nil)
          · skip
            go_simp
            refine hK.out _ _ trivial (fun hHeld1 => ?_)
            clear hK K
            (try simp only [Act.put, List.setIfInBounds_toArray, List.set_cons_zero, List.set_cons_succ])
            refine wpAnyH_ready (rs := [12]) (by kernel_rfl) (by simp) ?_
            refine ready_l rfl (fun K hK => ?_) AllReadyH.nil
            go_simp
            refine hK.out _ _ trivial (fun hHeld1 => ?_)
            clear hK K
            (try simp only [Act.put, List.setIfInBounds_toArray, List.set_cons_zero, List.set_cons_succ])
            refine take_l (i := 13) (v := ?_) rfl (by kernel_rfl) (by kernel_rfl) (by kernel_rfl) (fun _ _ _ h => h) (Or.inl ⟨by kernel_rfl, ?_⟩) (by assumption) ?_
            rotate_left
            · intro w hSw; (try dsimp only at hSw); go_simp; (try with_reducible rfl)
            (try simp only [Act.put, List.setIfInBounds_toArray, List.set_cons_zero, List.set_cons_succ])
            refine wpAnyH_ready (rs := [14]) (by kernel_rfl) (by simp) ?_
            refine ready_l rfl (fun K hK => ?_) AllReadyH.nil
            go_simp
            refine (hpk.out _).mono ?_
            rintro e wy ⟨rfl, rfl⟩
            refine hK.out _ _ trivial (fun hHeld1 => ?_)
            clear hK K
            (try simp only [Act.put, List.setIfInBounds_toArray, List.set_cons_zero, List.set_cons_succ])
            refine take_l (i := 15) (v := ?_) rfl (by kernel_rfl) (by kernel_rfl) (by kernel_rfl) (fun _ _ _ h => h) (Or.inl ⟨by kernel_rfl, ?_⟩) (by assumption) ?_
            rotate_left
            · intro w hSw; (try dsimp only at hSw); go_simp; (try with_reducible rfl)
            (try simp only [Act.put, List.setIfInBounds_toArray, List.set_cons_zero, List.set_cons_succ])
            refine take_l (i := 16) (v := ?_) rfl (by kernel_rfl) (by kernel_rfl) (by kernel_rfl) (fun _ _ _ h => h) (Or.inl ⟨by kernel_rfl, ?_⟩) (by assumption) ?_
            rotate_left
            · intro w hSw; (try dsimp only at hSw); go_simp; (try with_reducible rfl)
            (try simp only [Act.put, List.setIfInBounds_toArray, List.set_cons_zero, List.set_cons_succ])
            refine take_l (i := 17) (v := ?_) rfl (by kernel_rfl) (by kernel_rfl) (by kernel_rfl) (fun _ _ _ h => h) (Or.inl ⟨by kernel_rfl, ?_⟩) (by assumption) ?_
            rotate_left
            · intro w hSw; (try dsimp only at hSw); go_simp; (try with_reducible rfl)
            (try simp only [Act.put, List.setIfInBounds_toArray, List.set_cons_zero, List.set_cons_succ])
            refine wpAnyH_ready (rs := [18]) (by kernel_rfl) (by simp) ?_
            refine ready_l rfl (fun K hK => ?_) AllReadyH.nil
            go_simp
            refine hK.out _ _ trivial (fun hHeld1 => ?_)
            clear hK K
            (try simp only [Act.put, List.setIfInBounds_toArray, List.set_cons_zero, List.set_cons_succ])
            refine wpAnyH_done (by kernel_rfl) ?_ _
            go_wp2_with fail
            go_meet
            exact ⟨rfl, hcs.out.1.below (Below.refl _ _).drew, (hbx.grown hcs.out.2 hbx.size (fun q hq => by injection hq with hq; omega)).drew⟩
          · skip
            go_simp
            refine hK.out _ _ trivial (fun hHeld1 => ?_)
            clear hK K
            (try simp only [Act.put, List.setIfInBounds_toArray, List.set_cons_zero, List.set_cons_succ])
            refine take_l (i := 13) (v := ?_) rfl (by kernel_rfl) (by kernel_rfl) (by kernel_rfl) (fun _ _ _ h => h) (Or.inl ⟨by kernel_rfl, ?_⟩) (by assumption) ?_
            rotate_left
            · intro w hSw; (try dsimp only at hSw); go_simp; (try with_reducible rfl)
            (try simp only [Act.put, List.setIfInBounds_toArray, List.set_cons_zero, List.set_cons_succ])
            refine wpAnyH_ready (rs := [6, 14]) (by kernel_rfl) (by simp) ?_
            refine ready_l rfl (fun K hK => ?_) (ready_l rfl (fun K hK => ?_) AllReadyH.nil)
            · skip
              go_simp
              refine hK.out _ _ trivial (fun hHeld1 => ?_)
              clear hK K
              (try simp only [Act.put, List.setIfInBounds_toArray, List.set_cons_zero, List.set_cons_succ])
              refine wpAnyH_ready (rs := [14]) (by kernel_rfl) (by simp) ?_
              refine ready_l rfl (fun K hK => ?_) AllReadyH.nil
              go_simp
              refine (hpk.out _).mono ?_
              rintro e wy ⟨rfl, rfl⟩
              refine hK.out _ _ trivial (fun hHeld1 => ?_)
              clear hK K
              (try simp only [Act.put, List.setIfInBounds_toArray, List.set_cons_zero, List.set_cons_succ])
              refine take_l (i := 15) (v := ?_) rfl (by kernel_rfl) (by kernel_rfl) (by kernel_rfl) (fun _ _ _ h => h) (Or.inl ⟨by kernel_rfl, ?_⟩) (by assumption) ?_
              rotate_left
              · intro w hSw; (try dsimp only at hSw); go_simp; (try with_reducible rfl)
              (try simp only [Act.put, List.setIfInBounds_toArray, List.set_cons_zero, List.set_cons_succ])
              refine take_l (i := 16) (v := ?_) rfl (by kernel_rfl) (by kernel_rfl) (by kernel_rfl) (fun _ _ _ h => h) (Or.inl ⟨by kernel_rfl, ?_⟩) (by assumption) ?_
              rotate_left
              · intro w hSw; (try dsimp only at hSw); go_simp; (try with_reducible rfl)
              (try simp only [Act.put, List.setIfInBounds_toArray, List.set_cons_zero, List.set_cons_succ])
              refine take_l (i := 17) (v := ?_) rfl (by kernel_rfl) (by kernel_rfl) (by kernel_rfl) (fun _ _ _ h => h) (Or.inl ⟨by kernel_rfl, ?_⟩) (by assumption) ?_
              rotate_left
              · intro w hSw; (try dsimp only at hSw); go_simp; (try with_reducible rfl)
              (try simp only [Act.put, List.setIfInBounds_toArray, List.set_cons_zero, List.set_cons_succ])
              refine wpAnyH_ready (rs := [18]) (by kernel_rfl) (by simp) ?_
              refine ready_l rfl (fun K hK => ?_) AllReadyH.nil
              go_simp
              refine hK.out _ _ trivial (fun hHeld1 => ?_)
              clear hK K
              (try simp only [Act.put, List.setIfInBounds_toArray, List.set_cons_zero, List.set_cons_succ])
              refine wpAnyH_done (by kernel_rfl) ?_ _
              go_wp2_with fail
              go_meet
              exact ⟨rfl, hcs.out.1.below (Below.refl _ _).drew, (hbx.grown hcs.out.2 hbx.size (fun q hq => by injection hq with hq; omega)).drew⟩
            · skip
              go_simp
              refine (hpk.out _).mono ?_
              rintro e wy ⟨rfl, rfl⟩
              refine hK.out _ _ trivial (fun hHeld1 => ?_)
              clear hK K
              (try simp only [Act.put, List.setIfInBounds_toArray, List.set_cons_zero, List.set_cons_succ])
              refine wpAnyH_ready (rs := [6]) (by kernel_rfl) (by simp) ?_
              refine ready_l rfl (fun K hK => ?_) AllReadyH.nil
              go_simp
              refine hK.out _ _ trivial (fun hHeld1 => ?_)
              clear hK K
              (try simp only [Act.put, List.setIfInBounds_toArray, List.set_cons_zero, List.set_cons_succ])
              refine take_l (i := 15) (v := ?_) rfl (by kernel_rfl) (by kernel_rfl) (by kernel_rfl) (fun _ _ _ h => h) (Or.inl ⟨by kernel_rfl, ?_⟩) (by assumption) ?_
              rotate_left
              · intro w hSw; (try dsimp only at hSw); go_simp; (try with_reducible rfl)
              (try simp only [Act.put, List.setIfInBounds_toArray, List.set_cons_zero, List.set_cons_succ])
              refine take_l (i := 16) (v := ?_) rfl (by kernel_rfl) (by kernel_rfl) (by kernel_rfl) (fun _ _ _ h => h) (Or.inl ⟨by kernel_rfl, ?_⟩) (by assumption) ?_
              rotate_left
              · intro w hSw; (try dsimp only at hSw); go_simp; (try with_reducible rfl)
              (try simp only [Act.put, List.setIfInBounds_toArray, List.set_cons_zero, List.set_cons_succ])
              refine take_l (i := 17) (v := ?_) rfl (by kernel_rfl) (by kernel_rfl) (by kernel_rfl) (fun _ _ _ h => h) (Or.inl ⟨by kernel_rfl, ?_⟩) (by assumption) ?_
              rotate_left
              · intro w hSw; (try dsimp only at hSw); go_simp; (try with_reducible rfl)
              (try simp only [Act.put, List.setIfInBounds_toArray, List.set_cons_zero, List.set_cons_succ])
              refine wpAnyH_ready (rs := [18]) (by kernel_rfl) (by simp) ?_
              refine ready_l rfl (fun K hK => ?_) AllReadyH.nil
              go_simp
              refine hK.out _ _ trivial (fun hHeld1 => ?_)
              clear hK K
              (try simp only [Act.put, List.setIfInBounds_toArray, List.set_cons_zero, List.set_cons_succ])
              refine wpAnyH_done (by kernel_rfl) ?_ _
              go_wp2_with fail
              go_meet
              exact ⟨rfl, hcs.out.1.below (Below.refl _ _).drew, (hbx.grown hcs.out.2 hbx.size (fun q hq => by injection hq with hq; omega)).drew⟩
        case rest =>
          obtain ⟨rfl, hcu⟩ := hcut
          obtain ⟨hC2, hbc⟩ := hcu.out
          obtain ⟨wm, hwm⟩ : ∃ wm, wm = wc := ⟨_, rfl⟩
          subst hwm
          have hCE := Lib.hid hC2.edges
          clear hcu hC2 hC hxc hxf hpk hcs hcst2 hcst3 hbx
          replace hL := Lib.hid (hL.out.below hbc)
          replace hoka := Lib.hid (hoka.out.below hbc)
          replace hRa := Lib.hid (hRa.out.below hbc)
          replace hb := Lib.hid (hb.out.trans (hbc.mono hb.out.size))
          clear hbc hE
          have hCm := Lib.hid (cheap_mig hM.out.mig k c1)
          have hlin := Lib.hid hM.out.lin
          have hll6 := hM.out.llen
          have hba : Below wm.heap.size wm (wm.alloc (.cells #[] 3)) := (Below.refl _ _).alloc (Nat.le_refl _) _
          have hsrc : Hid (SliceAt (wm.alloc (.cells #[] 3)) (wm.alloc (.cells #[] 3)).heap.size (.slice va life.length vc) life.length (ints life)) := SliceAt.later (NumsT.at hL.out) hba
          have hone := Lib.hid (ints_one life)
          have hilen : Hid ((ints life).length = life.length * 1) := (show (ints life).length = life.length * 1 by rw [ints_len]; omega)
          generalize hm : life.length = m at *
          replace hm := Lib.hid hm
          have hm0 : 0 < m := by omega
          have hm6 : m ≤ 6 := by omega
          replace hll6 := Lib.hid hll6
          skip
          go_upto_region 14 with (at_builtin; refine wpList_append_src rfl _ _ 23 rfl wm.heap.size 3 i0 (.int .i64 0) 1 8 Tryz.underlying23 hi_.out hz0 hz1 hz2 rfl (by decide) _ _ _ rfl (World.ownsRow_made wm #[] 0 (Nat.le_refl _) (Nat.zero_le _) (by simp)) _ m _ (ints life) rfl hsrc.out hilen.out hone.out ?qa ?qb ?qc ?_)
          case qa => unfold maxLen; omega
          case qb => omega
          case qc => simp
          intro lv w14 hown hgrow
          replace hown : w14.ownsRow wm.heap.size 3 1 lv m (ints life) := by simpa using hown
          have hbx : Below wm.heap.size wm w14 := hba.grown hgrow (by simp) (by intro k hk; simp [Value.ownBlock] at hk; omega)
          obtain ⟨g2, cap2, rfl⟩ := own_slice hown (by omega)
          have hgB2 : wm.heap.size ≤ g2 := (own_block hown (g := g2) (by simp [Value.ownBlock])).2.1
          have hst : Hid (w14.ownsRow wm.heap.size 3 1 (.slice (some ⟨g2, 0, none⟩) m cap2) m (ints (longTo life (pickv less 3 : Nat) 0)) ∧ Below wm.heap.size wm w14) := ⟨by rw [longTo_zero]; exact hown, hbx⟩
          have hpk := fun W => pick_any less 3 W hless (by omega) (by omega)
          have hp3 := pickv_lt less 3 (by omega)
          generalize pickv less 3 = m3 at *
          replace hpk := Lib.hid hpk
          clear hown hgrow hsrc hone hilen hba hbx
          go_wp2_with fail
          go_loopw [28] (fun iv wr => ∃ i : Nat, i ≤ m ∧ iv = .int .i64 (i : Int) ∧ Hid (wr.ownsRow wm.heap.size 3 1 (.slice (some ⟨g2, 0, none⟩) m cap2) m (ints (longTo life (m3 : Nat) i)) ∧ Below wm.heap.size wm wr)) (fun iv _ => m - (intOf iv).toNat)
          case atStart => exact ⟨0, Nat.zero_le _, rfl, hst⟩
          case round =>
            obtain ⟨wo, hwo⟩ : ∃ wo, wo = wr := ⟨_, rfl⟩
            subst hwo
            obtain ⟨i, hi, rfl, hall⟩ := hrel
            clear hst
            obtain ⟨hown, hbr⟩ := hall.out
            clear hall
            by_cases hlt : i < m
            · have hyes : decide ((i : Int) < (m : Int)) = true := decide_eq_true (by omega)
              have hw1 : IntKind.i64.wrap ((i : Int) + 1) = (i : Int) + 1 := IntWalk.i64_in _ (by omega)
              have q0 : (0 : Int) ≤ (i : Int) := by omega
              have q1 : (i : Int) < (m : Int) := by omega
              have hxi : wo.cell? ⟨g2, i, none⟩ = some (.int .i64 life[i]!) := by rw [hown.cellAt i (by omega)]; exact longTo_at life _ (by rw [hm.out]; exact hlt)
              have hxf := hown.frozenAt i
              have hsr := hown.stored i (.int .i64 (life[i]! + (m3 : Int)))
              rw [longTo_set life _ (by rw [hm.out]; exact hlt)] at hsr
              have hli := hlin.out life[i]! (by rw [getElem!_pos life i (by rw [hm.out]; exact hlt)]; exact List.getElem_mem _)
              generalize life[i]! = x at *
              have hw2 : IntKind.i64.wrap (x + (m3 : Int)) = x + (m3 : Int) := IntWalk.i64_in _ (by omega)
              have hend : Hid ((wo.setCell ⟨g2, i, none⟩ (.int .i64 (x + (m3 : Int)))).drew.ownsRow wm.heap.size 3 1 (.slice (some ⟨g2, 0, none⟩) m cap2) m (ints (longTo life (m3 : Nat) (i + 1))) ∧ Below wm.heap.size wm (wo.setCell ⟨g2, i, none⟩ (.int .i64 (x + (m3 : Int)))).drew) := ⟨own_below hsr.1 (Below.refl _ _).drew, (hbr.grown hsr.2 hbr.size (fun q hq => by injection hq with hq; omega)).drew⟩
              replace hown := Lib.hid hown
              replace hbr := Lib.hid hbr
              clear hsr hli
              go_upto_region 17 with fail
              refine wp_region_held_drew (S := fun w' => True) (by kernel_rfl) (by exact trivial) (fun hHeld => ?_)
              refine take_l (i := 0) (v := ?_) rfl (by kernel_rfl) (by kernel_rfl) (by kernel_rfl) (fun _ _ _ h => h) (Or.inl ⟨by kernel_rfl, ?_⟩) (by assumption) ?_
              rotate_left
              · intro w hSw; (try dsimp only at hSw); go_simp; (try with_reducible rfl)
              (try simp only [Act.put, List.setIfInBounds_toArray, List.set_cons_zero, List.set_cons_succ])
              refine take_l (i := 1) (v := ?_) rfl (by kernel_rfl) (by kernel_rfl) (by kernel_rfl) (fun _ _ _ h => h) (Or.inl ⟨by kernel_rfl, ?_⟩) (by assumption) ?_
              rotate_left
              · intro w hSw; (try dsimp only at hSw); go_simp; (try with_reducible rfl)
              (try simp only [Act.put, List.setIfInBounds_toArray, List.set_cons_zero, List.set_cons_succ])
              refine take_l (i := 2) (v := ?_) rfl (by kernel_rfl) (by kernel_rfl) (by kernel_rfl) (fun _ _ _ h => h) (Or.inl ⟨by kernel_rfl, ?_⟩) (by assumption) ?_
              rotate_left
              · intro w hSw; (try dsimp only at hSw); go_simp; (try with_reducible rfl)
              (try simp only [Act.put, List.setIfInBounds_toArray, List.set_cons_zero, List.set_cons_succ])
              refine take_l (i := 3) (v := ?_) rfl (by kernel_rfl) (by kernel_rfl) (by kernel_rfl) (fun _ _ _ h => h) (Or.inl ⟨by kernel_rfl, ?_⟩) (by assumption) ?_
              rotate_left
              · intro w hSw; (try dsimp only at hSw); go_simp; (try with_reducible rfl)
              (try simp only [Act.put, List.setIfInBounds_toArray, List.set_cons_zero, List.set_cons_succ])
              refine take_l (i := 4) (v := ?_) rfl (by kernel_rfl) (by kernel_rfl) (by kernel_rfl) (fun _ _ _ h => h) (Or.inl ⟨by kernel_rfl, ?_⟩) (by assumption) ?_
              rotate_left
              · intro w hSw; (try dsimp only at hSw); go_simp; (try with_reducible rfl)
              (try simp only [Act.put, List.setIfInBounds_toArray, List.set_cons_zero, List.set_cons_succ])
              refine take_l (i := 6) (v := ?_) rfl (by kernel_rfl) (by kernel_rfl) (by kernel_rfl) (fun _ _ _ h => h) (Or.inl ⟨by kernel_rfl, ?_⟩) (by assumption) ?_
              rotate_left
              · intro w hSw; (try dsimp only at hSw); go_simp; (try with_reducible rfl)
              (try simp only [Act.put, List.setIfInBounds_toArray, List.set_cons_zero, List.set_cons_succ])
              refine wpAnyH_ready (rs := [5, 7]) (by kernel_rfl) (by simp) ?_
              refine ready_l rfl (fun K hK => ?_) (ready_l rfl (fun K hK => ?_) AllReadyH.nil)
              · skip
                go_simp
                refine hK.out _ _ trivial (fun hHeld1 => ?_)
                clear hK K
                (try simp only [Act.put, List.setIfInBounds_toArray, List.set_cons_zero, List.set_cons_succ])
                refine wpAnyH_ready (rs := [7]) (by kernel_rfl) (by simp) ?_
                refine ready_l rfl (fun K hK => ?_) AllReadyH.nil
                go_simp
                refine (hpk.out _).mono ?_
                rintro e wy ⟨rfl, rfl⟩
                refine hK.out _ _ trivial (fun hHeld1 => ?_)
                clear hK K
                (try simp only [Act.put, List.setIfInBounds_toArray, List.set_cons_zero, List.set_cons_succ])
                refine take_l (i := 8) (v := ?_) rfl (by kernel_rfl) (by kernel_rfl) (by kernel_rfl) (fun _ _ _ h => h) (Or.inl ⟨by kernel_rfl, ?_⟩) (by assumption) ?_
                rotate_left
                · intro w hSw; (try dsimp only at hSw); go_simp; (try with_reducible rfl)
                (try simp only [Act.put, List.setIfInBounds_toArray, List.set_cons_zero, List.set_cons_succ])
                refine take_l (i := 9) (v := ?_) rfl (by kernel_rfl) (by kernel_rfl) (by kernel_rfl) (fun _ _ _ h => h) (Or.inl ⟨by kernel_rfl, ?_⟩) (by assumption) ?_
                rotate_left
                · intro w hSw; (try dsimp only at hSw); go_simp; (try with_reducible rfl)
                (try simp only [Act.put, List.setIfInBounds_toArray, List.set_cons_zero, List.set_cons_succ])
                refine wpAnyH_ready (rs := [10]) (by kernel_rfl) (by simp) ?_
                refine ready_l rfl (fun K hK => ?_) AllReadyH.nil
                go_simp
                refine hK.out _ _ trivial (fun hHeld1 => ?_)
                clear hK K
                (try simp only [Act.put, List.setIfInBounds_toArray, List.set_cons_zero, List.set_cons_succ])
                refine wpAnyH_done (by kernel_rfl) ?_ _
                go_wp2_with fail
                exact ⟨⟨i + 1, by omega, rfl, hend⟩, by simp [intOf]; omega⟩
              · skip
                go_simp
                refine (hpk.out _).mono ?_
                rintro e wy ⟨rfl, rfl⟩
                refine hK.out _ _ trivial (fun hHeld1 => ?_)
                clear hK K
                (try simp only [Act.put, List.setIfInBounds_toArray, List.set_cons_zero, List.set_cons_succ])
                refine wpAnyH_ready (rs := [5]) (by kernel_rfl) (by simp) ?_
                refine ready_l rfl (fun K hK => ?_) AllReadyH.nil
                go_simp
                refine hK.out _ _ trivial (fun hHeld1 => ?_)
                clear hK K
                (try simp only [Act.put, List.setIfInBounds_toArray, List.set_cons_zero, List.set_cons_succ])
                refine take_l (i := 8) (v := ?_) rfl (by kernel_rfl) (by kernel_rfl) (by kernel_rfl) (fun _ _ _ h => h) (Or.inl ⟨by kernel_rfl, ?_⟩) (by assumption) ?_
                rotate_left
                · intro w hSw; (try dsimp only at hSw); go_simp; (try with_reducible rfl)
                (try simp only [Act.put, List.setIfInBounds_toArray, List.set_cons_zero, List.set_cons_succ])
                refine take_l (i := 9) (v := ?_) rfl (by kernel_rfl) (by kernel_rfl) (by kernel_rfl) (fun _ _ _ h => h) (Or.inl ⟨by kernel_rfl, ?_⟩) (by assumption) ?_
                rotate_left
                · intro w hSw; (try dsimp only at hSw); go_simp; (try with_reducible rfl)
                (try simp only [Act.put, List.setIfInBounds_toArray, List.set_cons_zero, List.set_cons_succ])
                refine wpAnyH_ready (rs := [10]) (by kernel_rfl) (by simp) ?_
                refine ready_l rfl (fun K hK => ?_) AllReadyH.nil
                go_simp
                refine hK.out _ _ trivial (fun hHeld1 => ?_)
                clear hK K
                (try simp only [Act.put, List.setIfInBounds_toArray, List.set_cons_zero, List.set_cons_succ])
                refine wpAnyH_done (by kernel_rfl) ?_ _
                go_wp2_with fail
                exact ⟨⟨i + 1, by omega, rfl, hend⟩, by simp [intOf]; omega⟩
            · have hno : decide ((i : Int) < (m : Int)) = false := decide_eq_false (by omega)
              obtain rfl : i = m := by omega
              rw [← hm.out, longTo_all] at hown
              have hLN : Hid (NumsT wo (.slice (some ⟨g2, 0, none⟩) (life.map fun x => x + (m3 : Int)).length cap2) (life.map fun x => x + (m3 : Int))) := RowT.of_own (by rw [List.length_map]; exact hown)
              rw [List.length_map, hm.out] at hLN
              replace hCE := Lib.hid (hCE.out.below hbr)
              replace hoka := Lib.hid (hoka.out.below hbr)
              replace hRa := Lib.hid (hRa.out.below hbr)
              replace hb := Lib.hid (hb.out.trans (hbr.mono hb.out.size))
              clear hown hbr hL hpk
              obtain ⟨rd, hrd, hbd⟩ := hc1.out
              have hae : ra.edges = esa := (of_facts hoa.out).2.1
              have hmlen : (life.map fun x => x + (m3 : Int)).length = i := by rw [List.length_map]; exact hm.out
              have hof := of_law (cheapE l k c1) (life.map fun x => x + (m3 : Int)) f d ra.edges (some rd) (by rw [hae]; exact hrd) (.slice (some ⟨g, 0, none⟩) (cheapE l k c1).length cap) (.slice (some ⟨g2, 0, none⟩) (life.map fun x => x + (m3 : Int)).length cap2) (.slice zaa ra.edges.length zca) wo hCm.out (by rw [cheapE_len]; exact hCE.out) (by rw [hmlen]; exact hLN.out) hoka.out.1
              rw [cheapE_len, hmlen, hln.out] at hof
              replace hof := Lib.hid hof
              replace hae := Lib.hid hae
              replace hmlen := Lib.hid hmlen
              replace hrd := Lib.hid hrd
              have r0 := hRa.out.cell (j := 0) rfl
              clear hCE hLN hCm
              go_wp2_with fail
              refine hof.out.mono ?_
              clear hof r0
              rintro e w15 ⟨zd, zdc, yd, ydc, r2, rfl, hr2, hok2, hbx⟩
              obtain rfl : r2 = rd := hr2
              have es_ : ofE (some r2) = 0 := rfl
              rw [es_]
              clear es_
              obtain ⟨w16, hw⟩ : ∃ w16, w16 = w15.alloc (.cells #[.slice zd r2.edges.length zdc, .int .i64 r2.cost, .int .i64 r2.life, .slice yd r2.claims.length ydc] 33) := ⟨_, rfl⟩
              have hRd : Arr w16 w15.heap.size 33 [.slice zd r2.edges.length zdc, .int .i64 r2.cost, .int .i64 r2.life, .slice yd r2.claims.length ydc] := by rw [hw]; exact Arr.new rfl rfl
              have hby : Below w15.heap.size w15 w16 := by rw [hw]; exact (Below.refl _ _).alloc (Nat.le_refl _) _
              go_upto_region 19 with fail
              rw [← hw]
              clear hw
              have hbz := hbx.trans (hby.mono hbx.size)
              have hbt := better_law r2 ra zd zaa yd yaa zdc zca ydc yca w16 (hok2.below hby) (hoka.out.below hbz)
              rw [hbd] at hbt
              replace hbt := Lib.hid hbt
              have hRa2 := hRa.out.below hbz
              have d0 := hRd.cell (j := 0) rfl
              have d1 := hRd.cell (j := 1) rfl
              have d2 := hRd.cell (j := 2) rfl
              have d3 := hRd.cell (j := 3) rfl
              have r0 := hRa2.cell (j := 0) rfl
              have r1 := hRa2.cell (j := 1) rfl
              have r2_ := hRa2.cell (j := 2) rfl
              have r3 := hRa2.cell (j := 3) rfl
              replace hb := Lib.hid (hb.out.trans (hbz.mono hb.out.size))
              replace hRd := Lib.hid hRd
              replace hRa2 := Lib.hid hRa2
              clear hbx hby hbz hok2 hbd
              go_wp2_with fail
              refine hbt.out.mono ?_
              rintro e w17 ⟨rfl, hb17⟩
              have hbf := Lib.hid (hb.out.trans (hb17.mono hb.out.size))
              clear hbt d0 d1 d2 d3 r0 r1 r2_ r3
              go_wp2_with fail
              go_ret
              exact ⟨rfl, hbf.out⟩
end Go.Proofs.YtpeandbcdaikbaaGreatDoor
namespace Go.Proofs.YtpeandbcdaikbaaGreatDoor.routeOrder
open Go.ChangeShapes Go.WideShapes Go.ChangeAt Go.RowKit
open Go.ChangeMaps (open_string)

set_option maxRecDepth 100000 in
set_option maxHeartbeats 1000000 in
theorem lifted (os : Os) (started : os.Started) (H : Type) (enc : TypeId × Value → H) :
    ReturnsInHanded {} Tryz.checked os 8 .any (fun w args => (Rows.routeOrderSpec.pre enc Tryz.prog Tryz.f8 [] false w args ∧ laidMetH Tryz.prog laid11 w) ∧ sizedMet enc Tryz.prog Tryz.f8 (OpenSpec.ofChange Rows.routeOrderSpec) false w args)
      (Rows.routeOrderSpec.post enc Tryz.prog Tryz.f8 false true false false) := by
  refine lift_shaped (C := Tryz.checked) (X := fun w => laidMetH Tryz.prog laid11 w) (fun _ _ hh h => h.of_heap hh) own started (by kernel_rfl) Tryz.func8
    (ChangeSpec.witness_shaped (enc := enc) (C := Tryz.checked) (os := os) (X := fun w _ => laidMetH Tryz.prog laid11 w) false (World.laidAll Tryz.prog os laid11) #[.agg #[.slice none 0 0, .slice none 0 0, .int .i64 0, .int .i64 0, .int .i64 0], .slice none 0 0, .slice none 0 0, .slice none 0 0, .int .i64 0, .int .i64 0] 8 (World.laidAll_os _ _ _) (shape11 os) (by kernel_rfl) (by kernel_rfl) (by kernel_rfl) (door_met11 os _)) ?_
  intro W base args ds gs before hval0 hW hL hsh
  have hval : ∀ (j : Nat) t v, Tryz.f8.params[j]? = some t → args[j]? = some v → Value.okWide Tryz.prog W .any base t v := hval0
  have hW' := hW
  obtain ⟨p, q, hA0, hV, rfl, hfz, hnd⟩ := hW
  have hA : DataW.TrodAll enc Tryz.prog W 0 (fun _ => true) true Tryz.f8.params.toList args.toList ds p := hA0
  have hAk := hA
  rw [Tryz.params8] at hA hval
  obtain ⟨v0, vs0, d0, ds0, p0, q0, hargs, rfl, rfl, h0, r0⟩ := trodAll_cons hA
  obtain ⟨v1, vs1, d1, ds1, p1, q1, rfl, rfl, rfl, h1, r1⟩ := trodAll_cons r0
  obtain ⟨v2, vs2, d2, ds2, p2, q2, rfl, rfl, rfl, h2, r2⟩ := trodAll_cons r1
  obtain ⟨v3, vs3, d3, ds3, p3, q3, rfl, rfl, rfl, h3, r3⟩ := trodAll_cons r2
  obtain ⟨v4, vs4, d4, ds4, p4, q4, rfl, rfl, rfl, h4, r4⟩ := trodAll_cons r3
  obtain ⟨v5, vs5, d5, ds5, p5, q5, rfl, rfl, rfl, h5, r5⟩ := trodAll_cons r4
  obtain ⟨rfl, rfl, rfl⟩ := trodAll_nil r5
  obtain rfl : args = #[v0, v1, v2, v3, v4, v5] := by cases args; simp_all
  obtain ⟨rfl, rfl⟩ := trodVars_none hV
  obtain ⟨n0, z0, k0, f0, d0_, p0_, e0, g0, s0⟩ := open_case (hval 0 25 v0 rfl rfl) h0
  obtain ⟨l1, g1, s1⟩ := open_nums (hval 1 23 v1 rfl rfl) h1
  obtain ⟨l2, g2, s2⟩ := open_nums (hval 2 23 v2 rfl rfl) h2
  obtain ⟨l3, g3, s3⟩ := open_nums (hval 3 23 v3 rfl rfl) h3
  obtain ⟨a4, rfl, rfl, _, w4⟩ := open_int Tryz.underlying3 (hval 4 3 v4 rfl rfl) h4
  obtain ⟨a5, rfl, rfl, _, w5⟩ := open_int Tryz.underlying3 (hval 5 3 v5 rfl rfl) h5
  clear hA0 hval0
  refine (Order_law v0 n0 z0 k0 f0 d0_ p0_ e0 g0 v1 l1 v2 l2 v3 l3 a4 a5 W s0 s1 g1 s2 g2 s3 g3 (I64.of_wf w4) (I64.of_wf w5)).mono fun e W' ⟨he, hg⟩ => ?_
  subst he
  have hlt := DataW.TrodAll.lt hAk
  exact ⟨_, rfl, post_of_below (pa := _) (pv := []) hW' (fun _ _ _ => (trodAll_cons_mk (shut_bool Tryz.underlying4 _) trodAll_mk0)) (fun sp hsp => trodAll_stay Tryz.kids Tryz.full (by rw [Tryz.params8]; decide) hAk (fun x hx => sameAt_below hg (hlt x hx)) (fun x hx => hsp x (List.mem_append_left _ hx))) (fun _ _ => rfl) rfl hg (ok_one (by kernel_rfl) rfl (okWide_bool_mk Tryz.underlying4 _))⟩

theorem row_holds : Rows.RouteOrderSaid :=
  OpenClaim.holds_of_wide 8 Tryz.f8 rfl rfl rfl rfl rfl rfl rfl ⟨rfl, rfl, rfl, rfl, rfl⟩ rfl rfl rfl rfl rfl (by kernel_rfl) Tryz.func8 (by kernel_rfl)
    (of_decide_eq_true (by kernel_rfl)) (by unfold Func.isWrapper; first | (rw [if_pos (by decide +kernel)]; kernel_rfl) | (rw [if_neg (by decide +kernel)]; exact ⟨rfl, rfl⟩))
    (fun os started H enc _ => lifted os started H enc)

/-- THE TIED CARD. -/
theorem card_holds : Rows.RouteOrderCardSaid :=
  Claim7.holds_tied_plain_at .later [] [.data, .pinned, .pinned] true Rows.routeOrderCard.stood.harness false
    row_holds (fun _ h => by cases h) (by kernel_rfl) (fun _ h => by cases h) routeOrder_row_tie rfl ⟨rfl, rfl⟩ (by kernel_rfl) rfl
    (fun f fn hf hfn => by
      obtain rfl : f = 8 := Option.some.inj ((show Tryz.prog.funcNamed "evergreen/evergreenlaw11.RouteOrder" = some 8 by kernel_rfl).symm.trans hf) |>.symm
      obtain rfl : fn = Tryz.f8 := (Option.some.inj (Tryz.func8.symm.trans hfn)).symm
      exact ⟨by kernel_rfl, fun j t ht => by
        rw [Tryz.params8] at ht
        have hm : t ∈ [25, 23, 23, 23, 3, 3] := by simpa using Array.mem_of_getElem? ht
        have hall : ([25, 23, 23, 23, 3, 3].all fun u => !Tryz.prog.wantsStandIn u) = true := by kernel_rfl
        exact (show Tryz.prog.wantsStandIn t = false by simpa using List.all_eq_true.1 hall t hm)⟩)
    (by kernel_rfl)
#print axioms card_holds
end Go.Proofs.YtpeandbcdaikbaaGreatDoor.routeOrder
