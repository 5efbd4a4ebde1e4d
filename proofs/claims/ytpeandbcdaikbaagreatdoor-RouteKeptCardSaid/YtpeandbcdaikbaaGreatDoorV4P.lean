/-
  Routes of chapter 11: the law RouteKept.
  RouteKept is true of every input: the row, and its tied card. Conditions: the library variables that are read hold what their packages lay in them (the card ties that to the text).
-/
import Derived.Test.YtpeandbcdaikbaaGreatDoorYX
import Derived.Test.YtpeandbcdaikbaaGreatDoorCards
import Derived.Test.YtpeandbcdaikbaaGreatDoorTie
import Derived.SevenTiedAt
namespace Go.Proofs.YtpeandbcdaikbaaGreatDoor
open Go.RowKit Go.Shelf Go.Maps

attribute [local go_sem] Oper.semAt_some

set_option maxRecDepth 100000 in
set_option maxHeartbeats 8000000 in
theorem Kept_law (v : Value) (n : Nat) (zs ls : List Int) (fr dy hp : Int) (ev lv : Value) (cv : Value) (cs : List Int) (kv : Value) (ss : List (List Int)) (w : World) (h : CaseIn w v n zs ls fr dy hp ev lv) (hcv : NumsAt w w.heap.size cv cs) (hcI : ∀ c ∈ cs, I64 c) (hkv : EightIn w kv ss) :
    Calls Tryz.prog 6 #[v, cv, kv] w fun e w' => e = .returned (.bool true) ∧ Below w.heap.size w w' := by
  have hM := Lib.hid (madeP n zs ls fr dy)
  have hops0 : 0 ≤ hopsC hp ∧ hopsC hp ≤ 6 := by have := pickv_lt hp 7 (by omega); unfold hopsC; omega
  have hmade := fun W (hb : Below w.heap.size w W) => made_any v n zs ls fr dy hp ev lv W (h.below hb)
  obtain ⟨rfl, hfi, hli, _⟩ := h
  obtain ⟨fa, fc, rfl, _, _, _⟩ := hfi.2
  obtain ⟨la, lc, rfl, _, _, _⟩ := hli
  obtain ⟨v0, v1, v2, v3, v4, v5, v6, v7, rfl, hss⟩ := hkv
  replace hss := Lib.hid hss
  generalize madeE n zs = l at *
  generalize lifeR ls = life at *
  generalize frmC fr = f at *
  generalize dayC dy = d at *
  generalize hopsC hp = hops at *
  obtain ⟨W, hW⟩ : ∃ W, W = w.alloc (.cells #[.slice fa n fc, .slice la ls.length lc, .int .i64 fr, .int .i64 dy, .int .i64 hp] 25) := ⟨_, rfl⟩
  have hA : Arr W w.heap.size 25 [.slice fa n fc, .slice la ls.length lc, .int .i64 fr, .int .i64 dy, .int .i64 hp] := by rw [hW]; exact Arr.new rfl rfl
  have hbW : Below w.heap.size w W := by rw [hW]; exact (Below.refl _ _).alloc (Nat.le_refl _) _
  replace hmade := Lib.hid hmade
  replace hops0 := Lib.hid hops0
  go_enter Tryz.func6, Tryz.ntmps6
  go_upto_region 1 with fail
  rw [← hW]
  have hWs : W.heap.size = w.heap.size + 1 := by rw [hW]; simp
  clear hW
  obtain ⟨V, hV⟩ : ∃ V, V = W.alloc (.cells #[v0, v1, v2, v3, v4, v5, v6, v7] 62) := ⟨_, rfl⟩
  have hK : Arr V (w.heap.size + 1) 62 [v0, v1, v2, v3, v4, v5, v6, v7] := by rw [hV, ← hWs]; exact Arr.new rfl rfl
  have hbV : Below W.heap.size W V := by rw [hV]; exact (Below.refl _ _).alloc (Nat.le_refl _) _
  rw [← hV]
  clear hV hWs
  replace hA := hA.below hbV
  replace hbW := hbW.trans (hbV.mono hbW.size)
  have hsa := Lib.hid (sane_any V)
  go_wp2_with fail
  refine hsa.out.mono ?_
  rintro e w1 ⟨rfl, hb1⟩
  have hA1 := hA.below hb1
  have hK1 := hK.below hb1
  clear hK
  have hbw1 := hbW.trans (hb1.mono hbW.size)
  have hmd := Lib.hid (hmade.out w1 hbw1)
  have a0 := hA1.cell (j := 0) rfl
  have a1 := hA1.cell (j := 1) rfl
  have a2 := hA1.cell (j := 2) rfl
  have a3 := hA1.cell (j := 3) rfl
  have a4 := hA1.cell (j := 4) rfl
  clear hA hA1 hbW hb1 hsa hmade
  go_wp2_with fail
  refine hmd.out.mono ?_
  rintro e w2 ⟨ev', lv', rfl, hE, hL, hb2⟩
  have hb := Lib.hid (hbw1.trans (hb2.mono hbw1.size))
  have hK2 := Lib.hid (hK1.below hb2)
  clear hK1 hbV
  clear hbw1 hb2 hmd a0 a1 a2 a3 a4
  obtain ⟨ea, ec, rfl, _⟩ := hE.len
  obtain ⟨va, vc, rfl, _⟩ := hL.len
  replace hE := Lib.hid hE
  replace hL := Lib.hid hL
  have hcvw := Lib.hid fun W (hW : Below w.heap.size w W) => hcv.later hW
  obtain ⟨cva, cvc, rfl, _, _, _⟩ := hcv
  obtain ⟨i0, hi, hz0, hz1, hz2⟩ := info_parts Tryz.info_claim
  replace hi := Lib.hid hi
  go_wp2_with fail
  go_loopw [13, 14] (fun pv iv wr => ∃ i : Nat, i ≤ 8 ∧ iv = .int .i64 ((i : Int) + 1) ∧ Hid (Below w2.heap.size w2 wr ∧ ∃ us, ClOwn w2.heap.size wr pv (polTo ss i) us)) (fun _ iv _ => 9 - (intOf iv).toNat)
  case atStart => exact ⟨0, by omega, rfl, (show Hid _ from ⟨Below.refl _ _, [], ⟨rfl, World.ownsRow_nil _ _ _ _, fun i hi => absurd hi (by simp [polTo])⟩⟩)⟩
  case round =>
    obtain ⟨i, hi8, rfl, hall⟩ := hrel
    obtain ⟨hbr, us, hO⟩ := hall.out
    clear hall
    by_cases hlt : i < 8
    · have hyes : decide ((i : Int) + 1 ≤ 8) = true := decide_eq_true (by omega)
      have hw1 : IntKind.i64.wrap ((i : Int) + 1 + 1) = (i : Int) + 1 + 1 := IntWalk.i64_in _ (by omega)
      have hw2 : IntKind.i64.wrap ((i : Int) + 1 - 1) = (i : Int) := by rw [show (i : Int) + 1 - 1 = (i : Int) by omega]; exact IntWalk.i64_in _ (by omega)
      have hw3 : IntKind.i64.wrap (i : Int) = (i : Int) := IntWalk.i64_in _ (by omega)
      have k0 : (0 : Int) ≤ (i : Int) := by omega
      have k1 : (i : Int) < 8 := by omega
      have c0 := (hK2.out.below hbr).cell (j := i) (eight_at v0 v1 v2 v3 v4 v5 v6 v7 hlt)
      obtain ⟨hnum, hnI⟩ := hss.out i hlt
      generalize [v0, v1, v2, v3, v4, v5, v6, v7][i]! = u at *
      have hbo := hb.out.trans (hbr.mono hb.out.size)
      have hnl := hnum.later hbo
      obtain ⟨sa, sc, rfl, hsl, hsm, _⟩ := id hnum
      have hpol : polTo ss (i + 1) = polTo ss i ++ (if 0 < (ss[i]!).length then [((i : Int) + 1, stepsR ((i : Int) + 1) ss[i]!)] else []) := rfl
      have hstp := Steps_any ((i : Int) + 1) _ _ wr (by constructor <;> omega) hnl hnI
      generalize ss[i]! = xs at *
      replace hstp := Lib.hid hstp
      replace hpol := Lib.hid hpol
      clear hnum hnl
      have hpl := polTo_len ss i
      by_cases hpos : 0 < xs.length
      · have e1 : decide (0 < xs.length) = true := decide_eq_true hpos
        have e2 : decide ((xs.length : Int) > 0) = true := decide_eq_true (by omega)
        have e3 : decide ((0 : Int) < (xs.length : Int)) = true := decide_eq_true (by omega)
        have hp2 := hpol.out
        rw [if_pos hpos] at hp2
        replace hp2 := Lib.hid hp2
        replace hpos := Lib.hid hpos
        replace hbo := Lib.hid hbo
        replace hO := Lib.hid hO
        replace hbr := Lib.hid hbr
        go_wp2_with fail
        refine hstp.out.mono ?_
        rintro e w4 ⟨sv, rfl, hsv, hb4⟩
        have hu : StepsT w4 sv (stepsR ((i : Int) + 1) xs) := RowT.of_own hsv
        generalize stepsR ((i : Int) + 1) xs = X at *
        obtain ⟨ua, uc, rfl, _, _, _⟩ := _root_.id hu
        have hO2 := hO.out.below hb4
        have hb12 := hbr.out.trans (hb4.mono hbr.out.size)
        have hbA : Below w4.heap.size w4 (w4.alloc (.cells #[.int .i64 ((i : Int) + 1), .slice ua X.length uc] 59)) := (Below.refl _ _).alloc (Nat.le_refl _) _
        have hO3 := hO2.below hbA
        have hu3 := hu.below hbA
        have hb13 := hb12.trans (hbA.mono hb12.size)
        have hown3 := Lib.hid hO3.own
        have hnews : ∀ j x, [Value.int .i64 ((i : Int) + 1), .slice ua X.length uc][j]? = some x → (w4.alloc (.cells #[.int .i64 ((i : Int) + 1), .slice ua X.length uc] 59)).cell? ((⟨w4.heap.size, 0, none⟩ : Addr).add j) = some x := fun j x hx => cells_new w4 [.int .i64 ((i : Int) + 1), .slice ua X.length uc] 59 j x hx
        have hst : Hid (w2.heap.size ≤ w4.heap.size) := by show _ ≤ _; have := hb12.size; omega
        generalize hNn : (polTo ss i).length = nn at *
        replace hNn := Lib.hid hNn
        replace hu3 := Lib.hid hu3
        replace hO3 := Lib.hid hO3
        replace hb13 := Lib.hid hb13
        clear hO hO2 hbr hb4 hu hsv hstp c0 hb12 hbA
        go_wp2_with (at_builtin; refine wpList_append_own _ rfl _ _ 31 rfl w2.heap.size 59 i0 (.agg #[.int .i64 0, .slice none 0 0]) 2 32 Tryz.underlying31 hi.out hz0 hz1 hz2 rfl (by decide) _ nn _ rfl hown3.out ⟨w4.heap.size, 0, none⟩ 1 1 [.int .i64 ((i : Int) + 1), .slice ua X.length uc] rfl rfl hnews (by simp [Value.oneCell']) ?qa ?qb ?qc ?_)
        case qa => unfold maxLen; omega
        case qb => omega
        case qc => have := hst.out; simp only [World.size_alloc]; omega
        intro v' w5 hown4 hgrow hnil
        have hOn := hO3.out.snoc ((i : Int) + 1) X _ hu3.out (by rw [hNn.out]; exact hown4) hgrow
        rw [← hp2.out] at hOn
        have hb4 : Below w2.heap.size w2 w5 := hb13.out.grown hgrow hb13.out.size (fun g hg => by have := (own_block hO3.out.own hg).2.1; omega)
        have hkk : Hid (Below w2.heap.size w2 w5 ∧ ∃ us, ClOwn w2.heap.size w5 v' (polTo ss (i + 1)) us) := ⟨hb4, _, hOn⟩
        clear hgrow hown4 hnil hown3 hO3 hnews hOn hb13
        go_wp2_with fail
        exact ⟨⟨i + 1, by omega, by first | rfl | go_num, hkk⟩, by simp [intOf]; omega⟩
      · have e1 : decide (0 < xs.length) = false := decide_eq_false hpos
        have e2 : decide ((xs.length : Int) > 0) = false := decide_eq_false (by omega)
        have e3 : decide ((0 : Int) < (xs.length : Int)) = false := decide_eq_false (by omega)
        have hp2 := hpol.out
        rw [if_neg hpos, List.append_nil] at hp2
        rw [← hp2] at hO
        have hkk : Hid (Below w2.heap.size w2 wr ∧ ∃ us, ClOwn w2.heap.size wr u13 (polTo ss (i + 1)) us) := ⟨hbr, _, hO⟩
        replace hp2 := Lib.hid hp2
        replace hpos := Lib.hid hpos
        replace hbo := Lib.hid hbo
        clear hO hbr
        go_wp2_with fail
        exact ⟨⟨i + 1, by omega, by first | rfl | go_num, hkk⟩, by simp [intOf]; omega⟩
    · have hno : decide ((i : Int) + 1 ≤ 8) = false := decide_eq_false (by omega)
      obtain rfl : i = 8 := by omega
      have hPol : Hid (ClaimsT 59 wr u13 (polTo ss 8)) := hO.claims
      have hpI : Hid (∀ c ∈ polTo ss 8, 1 ≤ c.1 ∧ c.1 ≤ ((8 : Nat) : Int)) := polTo_props ss 8
      generalize polTo ss 8 = pol at *
      obtain ⟨pa, pc, rfl⟩ : ∃ a c, u13 = .slice a pol.length c := by
        obtain ⟨_, _, ⟨a, c, h, _⟩, _⟩ := hPol.out
        exact ⟨a, c, h⟩
      replace hE := Lib.hid (hE.out.below hbr)
      replace hL := Lib.hid (hL.out.below hbr)
      replace hb := Lib.hid (hb.out.trans (hbr.mono hb.out.size))
      obtain ⟨wp, hwp⟩ : ∃ wp, wp = wr := ⟨_, rfl⟩
      subst hwp
      have hbe := Lib.hid (best_law l life f d hops _ _ wp hM.out.mig hE.out hL.out)
      clear hO hbr hK2 hss hi hi8 hlt
      go_wp2_with fail
      refine hbe.out.mono ?_
      clear hbe
      rintro e w3 ⟨za, zc, zs, rfl, hzm, hbi, hR, hb3⟩
      replace hE := Lib.hid (hE.out.below hb3)
      replace hL := Lib.hid (hL.out.below hb3)
      replace hPol := Lib.hid (hPol.out.below hb3)
      have hbo := hb.out.trans (hb3.mono hb.out.size)
      replace hb := Lib.hid hbo
      clear hb3
      replace hbi := Lib.hid hbi
      replace hR := Lib.hid hR
      have hwk := Lib.hid (walk_any l f cs _ _ w3 (by have := hM.out.len; omega) hE.out.at (hcvw.out w3 hbo) hcI)
      clear hbo
      go_wp2_with fail
      refine hwk.out.mono ?_
      clear hwk
      rintro e w4 ⟨wv, rfl, hN, hb4⟩
      replace hE := Lib.hid (hE.out.below hb4)
      replace hL := Lib.hid (hL.out.below hb4)
      replace hPol := Lib.hid (hPol.out.below hb4)
      replace hR := Lib.hid (hR.out.below hb4)
      replace hb := Lib.hid (hb.out.trans (hb4.mono hb.out.size))
      clear hb4
      have hwl := walkL_len l f cs
      generalize walkL l f cs = es at *
      obtain ⟨wa, wcap, rfl, hwc, hwm, _⟩ := id hN
      obtain ⟨m, hmn⟩ : ∃ m : Nat, min (es.length : Int) hops = (m : Int) := ⟨(min (es.length : Int) hops).toNat, by have := hops0.out.1; omega⟩
      have q0 : (0 : Int) ≤ (m : Int) := by omega
      have q1 : m ≤ es.length := by omega
      have q2 : (m : Int) ≤ (es.length : Int) := by omega
      have q3 : (m : Int) ≤ (wcap : Int) := by omega
      have q4 : m ≤ wcap := by omega
      have hmh : Hid ((m : Int) ≤ hops) := (show (m : Int) ≤ hops by omega)
      obtain ⟨og, hog⟩ : ∃ og, ofP l life f d (es.take m) = og := ⟨_, rfl⟩
      have hof := Lib.hid (of_law l life f d _ og hog _ _ _ w4 hM.out.mig hE.out hL.out (NumsT.take hN q1))
      clear hN
      go_wp2_with fail
      refine hof.out.mono ?_
      clear hof
      rintro e w5 ⟨ya, yc, yb, yd, r2, rfl, hr2, hok2, hb5⟩
      replace hr2 := Lib.hid hr2
      obtain ⟨w6, hw⟩ : ∃ w6, w6 = w5.alloc (.cells #[.slice ya r2.edges.length yc, .int .i64 r2.cost, .int .i64 r2.life, .slice yb r2.claims.length yd] 33) := ⟨_, rfl⟩
      have hRy : Arr w6 w5.heap.size 33 [.slice ya r2.edges.length yc, .int .i64 r2.cost, .int .i64 r2.life, .slice yb r2.claims.length yd] := by rw [hw]; exact Arr.new rfl rfl
      have hb6 : Below w5.heap.size w5 w6 := by rw [hw]; exact (Below.refl _ _).alloc (Nat.le_refl _) _
      go_upto_region 12 with fail
      rw [← hw]
      clear hw
      have hb46 := hb5.trans (hb6.mono hb5.size)
      replace hok2 := Lib.hid (hok2.below hb6)
      replace hPol := Lib.hid (hPol.out.below hb46)
      replace hR := Lib.hid (hR.out.below hb46)
      replace hb := Lib.hid (hb.out.trans (hb46.mono hb.out.size))
      clear hb5 hb6 hb46 hE hL
      replace hRy := Lib.hid hRy
      have hov : Hid (∀ r, og = some r → ∃ k, k < zs.length ∧ betterP (zs[k]!).r r = true) := fun r hr => hbi.out.over hM.out.val hops0.out.1 (hog.trans hr) (by rw [List.length_take]; have := hmh.out; omega)
      have hkp := fun W (hW : Below w6.heap.size w6 W) => keeps_law r2 ya yb yc yd (.slice pa pol.length pc) pol W (hok2.out.below hW) (hPol.out.below hW).at (fun c hc => by have := hpI.out c hc; constructor <;> omega)
      replace hkp := Lib.hid hkp
      clear hog hmn q0 q1 q2 q3 q4
      have hfb : Hid (∀ k, k < 0 → keepsP (zs[k]!).r pol = true → false = true) := fun k hk => absurd hk (Nat.not_lt_zero k)
      have hb60 := Lib.hid (Below.refl w6.heap.size w6)
      go_wp2_with fail
      go_loopw [19, 20] (fun fv iv wr => ∃ (k : Nat) (fb : Bool), k ≤ zs.length ∧ iv = .int .i64 (k : Int) ∧ fv = .bool fb ∧ Hid (∀ j, j < k → keepsP (zs[j]!).r pol = true → fb = true) ∧ Hid (Below w6.heap.size w6 wr)) (fun _ iv _ => zs.length - (intOf iv).toNat)
      case atStart => exact ⟨0, false, Nat.zero_le _, rfl, rfl, hfb, hb60⟩
      case round =>
        obtain ⟨k, fb, hk', rfl, rfl, hf, hbr⟩ := hrel
        clear hfb hb60
        by_cases hkl : k < zs.length
        · have hkyes : decide ((k : Int) < (zs.length : Int)) = true := decide_eq_true (by omega)
          have hw2 : IntKind.i64.wrap ((k : Int) + 1) = (k : Int) + 1 := IntWalk.i64_in _ (by unfold maxLen at hzm; omega)
          have p0 : (0 : Int) ≤ (k : Int) := by omega
          have p1 : (k : Int) < (zs.length : Int) := by omega
          obtain ⟨b', o', ua, uc, ub, ud, hq, hbl', y0, y1, y2, y3, hoky⟩ := (hR.out.below hbr.out).row hkl
          generalize hs : (zs[k]!).r = s at *
          have hks := Lib.hid (keeps_law s ua ub uc ud (.slice pa pol.length pc) pol wr hoky (hPol.out.below hbr.out).at (fun c hc => by have := hpI.out c hc; constructor <;> omega))
          have hkb : Hid (betterP s r2 = true → keepsP r2 pol = true → keepsP s pol = true) := fun h1 h2 => keeps_better (fun c hc => by have := hpI.out c hc; exact ⟨this.1, by omega⟩) h1 h2
          replace hoky := Lib.hid hoky
          replace hq := Lib.hid hq
          obtain rfl := hq.out
          replace hs := Lib.hid hs
          go_wp2_with fail
          refine hks.out.mono ?_
          clear hks
          rintro e w7 ⟨rfl, hb7⟩
          replace y0 := (hb7.cell (p := ⟨b', _, none⟩) hbl').trans y0
          replace y1 := (hb7.cell (p := ⟨b', _, none⟩) hbl').trans y1
          replace y2 := (hb7.cell (p := ⟨b', _, none⟩) hbl').trans y2
          replace y3 := (hb7.cell (p := ⟨b', _, none⟩) hbl').trans y3
          replace hbl' := Nat.lt_of_lt_of_le hbl' hb7.size
          replace hoky := Lib.hid (hoky.out.below hb7)
          have hb67 := hbr.out.trans (hb7.mono hbr.out.size)
          have hn : Hid (∀ j, j < k + 1 → keepsP (zs[j]!).r pol = true → (fb || keepsP s pol) = true) := fun j hj hp => by
            by_cases e : j = k
            · rw [e, hs.out] at hp
              rw [hp, Bool.or_true]
            · rw [hf.out j (by omega) hp, Bool.true_or]
          generalize keepsP s pol = kb at *
          have hRq := hRy.out.below hb67
          have hn1 : Hid (∀ j, j < k + 1 → keepsP (zs[j]!).r pol = true → (fb || kb) = true) := hn
          clear hn hf hbr hb7
          replace hRq := Lib.hid hRq
          replace hb67 := Lib.hid hb67
          go_upto_region 17 with fail
          go_cut [19] from 76 to 110 (fun fv wx => fv = .bool (fb || kb) ∧ wx = w7)
          case first =>
            cases fb with
            | true =>
              go_wp2_with fail
              go_meet
              exact ⟨rfl, rfl⟩
            | false =>
              go_wp2_with fail
              go_meet
              exact ⟨rfl, rfl⟩
          case rest =>
            obtain ⟨rfl, hwx⟩ := hcut
            obtain rfl : w7 = wc := hwx.symm
            generalize (fb || kb) = fk at *
            have hfin : Value.bool fk = Value.bool false ∧ Hid (∀ (j : Nat), j < k + 1 → keepsP (zs[j]?.getD default).r pol = false) ∨ Value.bool fk = Value.bool true := by
              cases fk with
              | true => exact .inr rfl
              | false =>
                refine .inl ⟨rfl, (show Hid _ from fun j hj => ?_)⟩
                cases h : keepsP (zs[j]?.getD default).r pol with
                | false => rfl
                | true => exact (hn1.out j hj (by simpa using h)).symm
            cases og with
            | none =>
              have es_ : ofE none = 110 := rfl
              rw [es_]
              go_upto_region 18 with fail
              go_quiet (fail)
              have hbn := Lib.hid (hb67.out.trans ((below_drewN (Below.refl w7.heap.size w7) nq).mono hb67.out.size))
              go_wp2_with fail
              refine ⟨⟨_, _, _, ⟨k + 1, by omega, rfl, ?_⟩, by (repeat' apply And.intro) <;> rfl⟩, by simp [intOf]; omega⟩
              exact hfin
            | some rr =>
              have es_ : ofE (some rr) = 0 := rfl
              rw [es_]
              clear es_
              have hbd := hb67.out.drew
              have hbt := Lib.hid (better_law s r2 ua ya ub yb uc yc ud yd w7.drew (hoky.out.below (Below.refl _ _).drew) (hok2.out.below hbd))
              have hRd := hRq.out.drew
              have z0 := ((Below.refl w7.heap.size w7).drew.cell (p := ⟨b', _, none⟩) hbl').trans y0
              have z1 := ((Below.refl w7.heap.size w7).drew.cell (p := ⟨b', _, none⟩) hbl').trans y1
              have z2 := ((Below.refl w7.heap.size w7).drew.cell (p := ⟨b', _, none⟩) hbl').trans y2
              have z3 := ((Below.refl w7.heap.size w7).drew.cell (p := ⟨b', _, none⟩) hbl').trans y3
              have d0 := hRd.cell (j := 0) rfl
              have d1 := hRd.cell (j := 1) rfl
              have d2 := hRd.cell (j := 2) rfl
              have d3 := hRd.cell (j := 3) rfl
              replace hRd := Lib.hid hRd
              replace hbd := Lib.hid hbd
              go_upto_region 18 with fail
              generalize betterP s r2 = bb at *
              generalize keepsP r2 pol = kr at *
              cases bb with
              | false =>
                refine wp_region_held_drew (S := fun w' => w'.cell? ⟨b', o' + k * 4, none⟩ = some (.slice ua s.edges.length uc) ∧ w'.cell? ⟨b', o' + k * 4 + 1, none⟩ = some (.int .i64 s.cost) ∧ w'.cell? ⟨b', o' + k * 4 + 2, none⟩ = some (.int .i64 s.life) ∧ w'.cell? ⟨b', o' + k * 4 + 3, none⟩ = some (.slice ub s.claims.length ud) ∧ w'.cell? ⟨w5.heap.size, 0, none⟩ = some (.slice ya r2.edges.length yc) ∧ w'.cell? ⟨w5.heap.size, 1, none⟩ = some (.int .i64 r2.cost) ∧ w'.cell? ⟨w5.heap.size, 2, none⟩ = some (.int .i64 r2.life) ∧ w'.cell? ⟨w5.heap.size, 3, none⟩ = some (.slice yb r2.claims.length yd)) (by kernel_rfl) (by exact ⟨z0, z1, z2, z3, d0, d1, d2, d3⟩) (fun hHeld => ?_)
                refine take_l (i := 0) (v := ?_) rfl (by kernel_rfl) (by kernel_rfl) (by kernel_rfl) (fun _ _ _ h => h) (Or.inl ⟨by kernel_rfl, ?_⟩) (by assumption) ?_
                rotate_left
                · intro w hSw; (try dsimp only at hSw); go_simp; (try with_reducible rfl)
                (try simp only [Act.put, List.setIfInBounds_toArray, List.set_cons_zero, List.set_cons_succ])
                refine take_l (i := 1) (v := ?_) rfl (by kernel_rfl) (by kernel_rfl) (by kernel_rfl) (fun _ _ _ h => h) (Or.inl ⟨by kernel_rfl, ?_⟩) (by assumption) ?_
                rotate_left
                · intro w hSw; (try dsimp only at hSw); go_simp; (try with_reducible rfl)
                (try simp only [Act.put, List.setIfInBounds_toArray, List.set_cons_zero, List.set_cons_succ])
                refine take_l (i := 2) (v := ?_) rfl (by kernel_rfl) (by kernel_rfl) (by kernel_rfl) (fun _ _ _ h => h) (Or.inl ⟨by kernel_rfl, ?_⟩) (by assumption) ?_
                rotate_left
                · intro w hSw; (try dsimp only at hSw); go_simp; (try with_reducible rfl)
                (try simp only [Act.put, List.setIfInBounds_toArray, List.set_cons_zero, List.set_cons_succ])
                refine take_l (i := 3) (v := ?_) rfl (by kernel_rfl) (by kernel_rfl) (by kernel_rfl) (fun _ _ _ h => h) (Or.inl ⟨by kernel_rfl, ?_⟩) (by assumption) ?_
                rotate_left
                · intro w hSw; (try dsimp only at hSw); go_simp; (try with_reducible rfl)
                (try simp only [Act.put, List.setIfInBounds_toArray, List.set_cons_zero, List.set_cons_succ])
                refine take_l (i := 4) (v := ?_) rfl (by kernel_rfl) (by kernel_rfl) (by kernel_rfl) (fun _ _ _ h => h) (Or.inl ⟨by kernel_rfl, ?_⟩) (by assumption) ?_
                rotate_left
                · intro w hSw; (try dsimp only at hSw); go_simp; (try with_reducible rfl)
                (try simp only [Act.put, List.setIfInBounds_toArray, List.set_cons_zero, List.set_cons_succ])
                refine take_l (i := 5) (v := ?_) rfl (by kernel_rfl) (by kernel_rfl) (by kernel_rfl) (fun _ _ _ h => h) (Or.inl ⟨by kernel_rfl, ?_⟩) (by assumption) ?_
                rotate_left
                · intro w hSw; (try dsimp only at hSw); go_simp; (try with_reducible rfl)
                (try simp only [Act.put, List.setIfInBounds_toArray, List.set_cons_zero, List.set_cons_succ])
                refine take_l (i := 6) (v := ?_) rfl (by kernel_rfl) (by kernel_rfl) (by kernel_rfl) (fun _ _ _ h => h) (Or.inl ⟨by kernel_rfl, ?_⟩) (by assumption) ?_
                rotate_left
                · intro w hSw; (try dsimp only at hSw); go_simp; (try with_reducible rfl)
                (try simp only [Act.put, List.setIfInBounds_toArray, List.set_cons_zero, List.set_cons_succ])
                refine take_l (i := 7) (v := ?_) rfl (by kernel_rfl) (by kernel_rfl) (by kernel_rfl) (fun _ _ _ h => h) (Or.inl ⟨by kernel_rfl, ?_⟩) (by assumption) ?_
                rotate_left
                · intro w hSw; (try dsimp only at hSw); go_simp; (try with_reducible rfl)
                (try simp only [Act.put, List.setIfInBounds_toArray, List.set_cons_zero, List.set_cons_succ])
                refine wpAnyH_ready (rs := [8]) (by kernel_rfl) (by simp) ?_
                refine ready_l rfl (fun K hK => ?_) AllReadyH.nil
                go_simp
                go_at_call 24
                refine hbt.out.mono ?_
                rintro e w8 ⟨rfl, hb8⟩
                have hR8 := hRd.out.below hb8
                have z0 := (hb8.cell (p := ⟨b', _, none⟩) hbl').trans z0
                have z1 := (hb8.cell (p := ⟨b', _, none⟩) hbl').trans z1
                have z2 := (hb8.cell (p := ⟨b', _, none⟩) hbl').trans z2
                have z3 := (hb8.cell (p := ⟨b', _, none⟩) hbl').trans z3
                have hb68 := hbd.out.trans (hb8.mono hbd.out.size)
                refine hK.out _ _ (by exact ⟨z0, z1, z2, z3, hR8.cell (j := 0) rfl, hR8.cell (j := 1) rfl, hR8.cell (j := 2) rfl, hR8.cell (j := 3) rfl⟩) (fun hHeld2 => ?_)
                clear hK K hHeld
                (try simp only [Act.put, List.setIfInBounds_toArray, List.set_cons_zero, List.set_cons_succ])
                refine take_l (i := 9) (v := ?_) rfl (by kernel_rfl) (by kernel_rfl) (by kernel_rfl) (fun _ _ _ h => h) (Or.inl ⟨by kernel_rfl, ?_⟩) (by assumption) ?_
                rotate_left
                · intro w hSw; (try dsimp only at hSw); go_simp; (try with_reducible rfl)
                (try simp only [Act.put, List.setIfInBounds_toArray, List.set_cons_zero, List.set_cons_succ])
                refine take_l (i := 10) (v := ?_) rfl (by kernel_rfl) (by kernel_rfl) (by kernel_rfl) (fun _ _ _ h => h) (Or.inl ⟨by kernel_rfl, ?_⟩) (by assumption) ?_
                rotate_left
                · intro w hSw; (try dsimp only at hSw); go_simp; (try with_reducible rfl)
                (try simp only [Act.put, List.setIfInBounds_toArray, List.set_cons_zero, List.set_cons_succ])
                refine take_l (i := 11) (v := undef) rfl (by kernel_rfl) (by kernel_rfl) (by kernel_rfl) (fun _ _ _ h => h) (Or.inr ⟨by kernel_rfl, rfl⟩) (by assumption) ?_
                (try simp only [Act.put, List.setIfInBounds_toArray, List.set_cons_zero, List.set_cons_succ])
                refine take_l (i := 12) (v := undef) rfl (by kernel_rfl) (by kernel_rfl) (by kernel_rfl) (fun _ _ _ h => h) (Or.inr ⟨by kernel_rfl, rfl⟩) (by assumption) ?_
                (try simp only [Act.put, List.setIfInBounds_toArray, List.set_cons_zero, List.set_cons_succ])
                refine take_l (i := 13) (v := undef) rfl (by kernel_rfl) (by kernel_rfl) (by kernel_rfl) (fun _ _ _ h => h) (Or.inr ⟨by kernel_rfl, rfl⟩) (by assumption) ?_
                (try simp only [Act.put, List.setIfInBounds_toArray, List.set_cons_zero, List.set_cons_succ])
                refine take_l (i := 14) (v := ?_) rfl (by kernel_rfl) (by kernel_rfl) (by kernel_rfl) (fun _ _ _ h => h) (Or.inl ⟨by kernel_rfl, ?_⟩) (by assumption) ?_
                rotate_left
                · intro w hSw; (try dsimp only at hSw); go_simp; (try with_reducible rfl)
                (try simp only [Act.put, List.setIfInBounds_toArray, List.set_cons_zero, List.set_cons_succ])
                refine take_l (i := 15) (v := ?_) rfl (by kernel_rfl) (by kernel_rfl) (by kernel_rfl) (fun _ _ _ h => h) (Or.inl ⟨by kernel_rfl, ?_⟩) (by assumption) ?_
                rotate_left
                · intro w hSw; (try dsimp only at hSw); go_simp; (try with_reducible rfl)
                (try simp only [Act.put, List.setIfInBounds_toArray, List.set_cons_zero, List.set_cons_succ])
                refine take_l (i := 16) (v := undef) rfl (by kernel_rfl) (by kernel_rfl) (by kernel_rfl) (fun _ _ _ h => h) (Or.inr ⟨by kernel_rfl, rfl⟩) (by assumption) ?_
                (try simp only [Act.put, List.setIfInBounds_toArray, List.set_cons_zero, List.set_cons_succ])
                refine take_l (i := 17) (v := undef) rfl (by kernel_rfl) (by kernel_rfl) (by kernel_rfl) (fun _ _ _ h => h) (Or.inr ⟨by kernel_rfl, rfl⟩) (by assumption) ?_
                (try simp only [Act.put, List.setIfInBounds_toArray, List.set_cons_zero, List.set_cons_succ])
                refine take_l (i := 18) (v := ?_) rfl (by kernel_rfl) (by kernel_rfl) (by kernel_rfl) (fun _ _ _ h => h) (Or.inl ⟨by kernel_rfl, ?_⟩) (by assumption) ?_
                rotate_left
                · intro w hSw; (try dsimp only at hSw); go_simp; (try with_reducible rfl)
                (try simp only [Act.put, List.setIfInBounds_toArray, List.set_cons_zero, List.set_cons_succ])
                refine wpAnyH_done (by kernel_rfl) ?_ _
                have hbn := Lib.hid hb68
                go_wp2_with fail
                refine ⟨⟨_, _, _, ⟨k + 1, by omega, rfl, ?_⟩, by (repeat' apply And.intro) <;> rfl⟩, by simp [intOf]; omega⟩
                exact hfin
              | true =>
                cases kr with
                | false =>
                  refine wp_region_held_drew (S := fun w' => w'.cell? ⟨b', o' + k * 4, none⟩ = some (.slice ua s.edges.length uc) ∧ w'.cell? ⟨b', o' + k * 4 + 1, none⟩ = some (.int .i64 s.cost) ∧ w'.cell? ⟨b', o' + k * 4 + 2, none⟩ = some (.int .i64 s.life) ∧ w'.cell? ⟨b', o' + k * 4 + 3, none⟩ = some (.slice ub s.claims.length ud) ∧ w'.cell? ⟨w5.heap.size, 0, none⟩ = some (.slice ya r2.edges.length yc) ∧ w'.cell? ⟨w5.heap.size, 1, none⟩ = some (.int .i64 r2.cost) ∧ w'.cell? ⟨w5.heap.size, 2, none⟩ = some (.int .i64 r2.life) ∧ w'.cell? ⟨w5.heap.size, 3, none⟩ = some (.slice yb r2.claims.length yd)) (by kernel_rfl) (by exact ⟨z0, z1, z2, z3, d0, d1, d2, d3⟩) (fun hHeld => ?_)
                  refine take_l (i := 0) (v := ?_) rfl (by kernel_rfl) (by kernel_rfl) (by kernel_rfl) (fun _ _ _ h => h) (Or.inl ⟨by kernel_rfl, ?_⟩) (by assumption) ?_
                  rotate_left
                  · intro w hSw; (try dsimp only at hSw); go_simp; (try with_reducible rfl)
                  (try simp only [Act.put, List.setIfInBounds_toArray, List.set_cons_zero, List.set_cons_succ])
                  refine take_l (i := 1) (v := ?_) rfl (by kernel_rfl) (by kernel_rfl) (by kernel_rfl) (fun _ _ _ h => h) (Or.inl ⟨by kernel_rfl, ?_⟩) (by assumption) ?_
                  rotate_left
                  · intro w hSw; (try dsimp only at hSw); go_simp; (try with_reducible rfl)
                  (try simp only [Act.put, List.setIfInBounds_toArray, List.set_cons_zero, List.set_cons_succ])
                  refine take_l (i := 2) (v := ?_) rfl (by kernel_rfl) (by kernel_rfl) (by kernel_rfl) (fun _ _ _ h => h) (Or.inl ⟨by kernel_rfl, ?_⟩) (by assumption) ?_
                  rotate_left
                  · intro w hSw; (try dsimp only at hSw); go_simp; (try with_reducible rfl)
                  (try simp only [Act.put, List.setIfInBounds_toArray, List.set_cons_zero, List.set_cons_succ])
                  refine take_l (i := 3) (v := ?_) rfl (by kernel_rfl) (by kernel_rfl) (by kernel_rfl) (fun _ _ _ h => h) (Or.inl ⟨by kernel_rfl, ?_⟩) (by assumption) ?_
                  rotate_left
                  · intro w hSw; (try dsimp only at hSw); go_simp; (try with_reducible rfl)
                  (try simp only [Act.put, List.setIfInBounds_toArray, List.set_cons_zero, List.set_cons_succ])
                  refine take_l (i := 4) (v := ?_) rfl (by kernel_rfl) (by kernel_rfl) (by kernel_rfl) (fun _ _ _ h => h) (Or.inl ⟨by kernel_rfl, ?_⟩) (by assumption) ?_
                  rotate_left
                  · intro w hSw; (try dsimp only at hSw); go_simp; (try with_reducible rfl)
                  (try simp only [Act.put, List.setIfInBounds_toArray, List.set_cons_zero, List.set_cons_succ])
                  refine take_l (i := 5) (v := ?_) rfl (by kernel_rfl) (by kernel_rfl) (by kernel_rfl) (fun _ _ _ h => h) (Or.inl ⟨by kernel_rfl, ?_⟩) (by assumption) ?_
                  rotate_left
                  · intro w hSw; (try dsimp only at hSw); go_simp; (try with_reducible rfl)
                  (try simp only [Act.put, List.setIfInBounds_toArray, List.set_cons_zero, List.set_cons_succ])
                  refine take_l (i := 6) (v := ?_) rfl (by kernel_rfl) (by kernel_rfl) (by kernel_rfl) (fun _ _ _ h => h) (Or.inl ⟨by kernel_rfl, ?_⟩) (by assumption) ?_
                  rotate_left
                  · intro w hSw; (try dsimp only at hSw); go_simp; (try with_reducible rfl)
                  (try simp only [Act.put, List.setIfInBounds_toArray, List.set_cons_zero, List.set_cons_succ])
                  refine take_l (i := 7) (v := ?_) rfl (by kernel_rfl) (by kernel_rfl) (by kernel_rfl) (fun _ _ _ h => h) (Or.inl ⟨by kernel_rfl, ?_⟩) (by assumption) ?_
                  rotate_left
                  · intro w hSw; (try dsimp only at hSw); go_simp; (try with_reducible rfl)
                  (try simp only [Act.put, List.setIfInBounds_toArray, List.set_cons_zero, List.set_cons_succ])
                  refine wpAnyH_ready (rs := [8]) (by kernel_rfl) (by simp) ?_
                  refine ready_l rfl (fun K hK => ?_) AllReadyH.nil
                  go_simp
                  go_at_call 24
                  refine hbt.out.mono ?_
                  rintro e w8 ⟨rfl, hb8⟩
                  have hR8 := hRd.out.below hb8
                  have z0 := (hb8.cell (p := ⟨b', _, none⟩) hbl').trans z0
                  have z1 := (hb8.cell (p := ⟨b', _, none⟩) hbl').trans z1
                  have z2 := (hb8.cell (p := ⟨b', _, none⟩) hbl').trans z2
                  have z3 := (hb8.cell (p := ⟨b', _, none⟩) hbl').trans z3
                  have hb68 := hbd.out.trans (hb8.mono hbd.out.size)
                  refine hK.out _ _ (by exact ⟨z0, z1, z2, z3, hR8.cell (j := 0) rfl, hR8.cell (j := 1) rfl, hR8.cell (j := 2) rfl, hR8.cell (j := 3) rfl⟩) (fun hHeld2 => ?_)
                  clear hK K hHeld
                  (try simp only [Act.put, List.setIfInBounds_toArray, List.set_cons_zero, List.set_cons_succ])
                  refine take_l (i := 9) (v := ?_) rfl (by kernel_rfl) (by kernel_rfl) (by kernel_rfl) (fun _ _ _ h => h) (Or.inl ⟨by kernel_rfl, ?_⟩) (by assumption) ?_
                  rotate_left
                  · intro w hSw; (try dsimp only at hSw); go_simp; (try with_reducible rfl)
                  (try simp only [Act.put, List.setIfInBounds_toArray, List.set_cons_zero, List.set_cons_succ])
                  refine take_l (i := 10) (v := ?_) rfl (by kernel_rfl) (by kernel_rfl) (by kernel_rfl) (fun _ _ _ h => h) (Or.inl ⟨by kernel_rfl, ?_⟩) (by assumption) ?_
                  rotate_left
                  · intro w hSw; (try dsimp only at hSw); go_simp; (try with_reducible rfl)
                  (try simp only [Act.put, List.setIfInBounds_toArray, List.set_cons_zero, List.set_cons_succ])
                  refine take_l (i := 11) (v := ?_) rfl (by kernel_rfl) (by kernel_rfl) (by kernel_rfl) (fun _ _ _ h => h) (Or.inl ⟨by kernel_rfl, ?_⟩) (by assumption) ?_
                  rotate_left
                  · intro w hSw; (try dsimp only at hSw); go_simp; (try with_reducible rfl)
                  (try simp only [Act.put, List.setIfInBounds_toArray, List.set_cons_zero, List.set_cons_succ])
                  refine take_l (i := 12) (v := ?_) rfl (by kernel_rfl) (by kernel_rfl) (by kernel_rfl) (fun _ _ _ h => h) (Or.inl ⟨by kernel_rfl, ?_⟩) (by assumption) ?_
                  rotate_left
                  · intro w hSw; (try dsimp only at hSw); go_simp; (try with_reducible rfl)
                  (try simp only [Act.put, List.setIfInBounds_toArray, List.set_cons_zero, List.set_cons_succ])
                  refine wpAnyH_ready (rs := [13]) (by kernel_rfl) (by simp) ?_
                  refine ready_l rfl (fun K hK => ?_) AllReadyH.nil
                  go_simp
                  go_at_call 22
                  refine (hkp.out w8 hb68).mono ?_
                  rintro e w9 ⟨rfl, hb9⟩
                  have hR9 := hR8.below hb9
                  have hbl9 := Nat.lt_of_lt_of_le hbl' hb8.size
                  have hb69 := hb68.trans (hb9.mono hb68.size)
                  refine hK.out _ _ (by exact ⟨(hb9.cell (p := ⟨b', _, none⟩) hbl9).trans z0, (hb9.cell (p := ⟨b', _, none⟩) hbl9).trans z1, (hb9.cell (p := ⟨b', _, none⟩) hbl9).trans z2, (hb9.cell (p := ⟨b', _, none⟩) hbl9).trans z3, hR9.cell (j := 0) rfl, hR9.cell (j := 1) rfl, hR9.cell (j := 2) rfl, hR9.cell (j := 3) rfl⟩) (fun hHeld => ?_)
                  clear hK K hHeld2
                  (try simp only [Act.put, List.setIfInBounds_toArray, List.set_cons_zero, List.set_cons_succ])
                  refine take_l (i := 14) (v := ?_) rfl (by kernel_rfl) (by kernel_rfl) (by kernel_rfl) (fun _ _ _ h => h) (Or.inl ⟨by kernel_rfl, ?_⟩) (by assumption) ?_
                  rotate_left
                  · intro w hSw; (try dsimp only at hSw); go_simp; (try with_reducible rfl)
                  (try simp only [Act.put, List.setIfInBounds_toArray, List.set_cons_zero, List.set_cons_succ])
                  refine take_l (i := 15) (v := ?_) rfl (by kernel_rfl) (by kernel_rfl) (by kernel_rfl) (fun _ _ _ h => h) (Or.inl ⟨by kernel_rfl, ?_⟩) (by assumption) ?_
                  rotate_left
                  · intro w hSw; (try dsimp only at hSw); go_simp; (try with_reducible rfl)
                  (try simp only [Act.put, List.setIfInBounds_toArray, List.set_cons_zero, List.set_cons_succ])
                  refine take_l (i := 16) (v := undef) rfl (by kernel_rfl) (by kernel_rfl) (by kernel_rfl) (fun _ _ _ h => h) (Or.inr ⟨by kernel_rfl, rfl⟩) (by assumption) ?_
                  (try simp only [Act.put, List.setIfInBounds_toArray, List.set_cons_zero, List.set_cons_succ])
                  refine take_l (i := 17) (v := undef) rfl (by kernel_rfl) (by kernel_rfl) (by kernel_rfl) (fun _ _ _ h => h) (Or.inr ⟨by kernel_rfl, rfl⟩) (by assumption) ?_
                  (try simp only [Act.put, List.setIfInBounds_toArray, List.set_cons_zero, List.set_cons_succ])
                  refine take_l (i := 18) (v := ?_) rfl (by kernel_rfl) (by kernel_rfl) (by kernel_rfl) (fun _ _ _ h => h) (Or.inl ⟨by kernel_rfl, ?_⟩) (by assumption) ?_
                  rotate_left
                  · intro w hSw; (try dsimp only at hSw); go_simp; (try with_reducible rfl)
                  (try simp only [Act.put, List.setIfInBounds_toArray, List.set_cons_zero, List.set_cons_succ])
                  refine wpAnyH_done (by kernel_rfl) ?_ _
                  have hbn := Lib.hid hb69
                  go_wp2_with fail
                  refine ⟨⟨_, _, _, ⟨k + 1, by omega, rfl, ?_⟩, by (repeat' apply And.intro) <;> rfl⟩, by simp [intOf]; omega⟩
                  exact hfin
                | true =>
                  obtain rfl : kb = true := hkb.out rfl rfl
                  refine wp_region_held_drew (S := fun w' => w'.cell? ⟨b', o' + k * 4, none⟩ = some (.slice ua s.edges.length uc) ∧ w'.cell? ⟨b', o' + k * 4 + 1, none⟩ = some (.int .i64 s.cost) ∧ w'.cell? ⟨b', o' + k * 4 + 2, none⟩ = some (.int .i64 s.life) ∧ w'.cell? ⟨b', o' + k * 4 + 3, none⟩ = some (.slice ub s.claims.length ud) ∧ w'.cell? ⟨w5.heap.size, 0, none⟩ = some (.slice ya r2.edges.length yc) ∧ w'.cell? ⟨w5.heap.size, 1, none⟩ = some (.int .i64 r2.cost) ∧ w'.cell? ⟨w5.heap.size, 2, none⟩ = some (.int .i64 r2.life) ∧ w'.cell? ⟨w5.heap.size, 3, none⟩ = some (.slice yb r2.claims.length yd)) (by kernel_rfl) (by exact ⟨z0, z1, z2, z3, d0, d1, d2, d3⟩) (fun hHeld => ?_)
                  refine take_l (i := 0) (v := ?_) rfl (by kernel_rfl) (by kernel_rfl) (by kernel_rfl) (fun _ _ _ h => h) (Or.inl ⟨by kernel_rfl, ?_⟩) (by assumption) ?_
                  rotate_left
                  · intro w hSw; (try dsimp only at hSw); go_simp; (try with_reducible rfl)
                  (try simp only [Act.put, List.setIfInBounds_toArray, List.set_cons_zero, List.set_cons_succ])
                  refine take_l (i := 1) (v := ?_) rfl (by kernel_rfl) (by kernel_rfl) (by kernel_rfl) (fun _ _ _ h => h) (Or.inl ⟨by kernel_rfl, ?_⟩) (by assumption) ?_
                  rotate_left
                  · intro w hSw; (try dsimp only at hSw); go_simp; (try with_reducible rfl)
                  (try simp only [Act.put, List.setIfInBounds_toArray, List.set_cons_zero, List.set_cons_succ])
                  refine take_l (i := 2) (v := ?_) rfl (by kernel_rfl) (by kernel_rfl) (by kernel_rfl) (fun _ _ _ h => h) (Or.inl ⟨by kernel_rfl, ?_⟩) (by assumption) ?_
                  rotate_left
                  · intro w hSw; (try dsimp only at hSw); go_simp; (try with_reducible rfl)
                  (try simp only [Act.put, List.setIfInBounds_toArray, List.set_cons_zero, List.set_cons_succ])
                  refine take_l (i := 3) (v := ?_) rfl (by kernel_rfl) (by kernel_rfl) (by kernel_rfl) (fun _ _ _ h => h) (Or.inl ⟨by kernel_rfl, ?_⟩) (by assumption) ?_
                  rotate_left
                  · intro w hSw; (try dsimp only at hSw); go_simp; (try with_reducible rfl)
                  (try simp only [Act.put, List.setIfInBounds_toArray, List.set_cons_zero, List.set_cons_succ])
                  refine take_l (i := 4) (v := ?_) rfl (by kernel_rfl) (by kernel_rfl) (by kernel_rfl) (fun _ _ _ h => h) (Or.inl ⟨by kernel_rfl, ?_⟩) (by assumption) ?_
                  rotate_left
                  · intro w hSw; (try dsimp only at hSw); go_simp; (try with_reducible rfl)
                  (try simp only [Act.put, List.setIfInBounds_toArray, List.set_cons_zero, List.set_cons_succ])
                  refine take_l (i := 5) (v := ?_) rfl (by kernel_rfl) (by kernel_rfl) (by kernel_rfl) (fun _ _ _ h => h) (Or.inl ⟨by kernel_rfl, ?_⟩) (by assumption) ?_
                  rotate_left
                  · intro w hSw; (try dsimp only at hSw); go_simp; (try with_reducible rfl)
                  (try simp only [Act.put, List.setIfInBounds_toArray, List.set_cons_zero, List.set_cons_succ])
                  refine take_l (i := 6) (v := ?_) rfl (by kernel_rfl) (by kernel_rfl) (by kernel_rfl) (fun _ _ _ h => h) (Or.inl ⟨by kernel_rfl, ?_⟩) (by assumption) ?_
                  rotate_left
                  · intro w hSw; (try dsimp only at hSw); go_simp; (try with_reducible rfl)
                  (try simp only [Act.put, List.setIfInBounds_toArray, List.set_cons_zero, List.set_cons_succ])
                  refine take_l (i := 7) (v := ?_) rfl (by kernel_rfl) (by kernel_rfl) (by kernel_rfl) (fun _ _ _ h => h) (Or.inl ⟨by kernel_rfl, ?_⟩) (by assumption) ?_
                  rotate_left
                  · intro w hSw; (try dsimp only at hSw); go_simp; (try with_reducible rfl)
                  (try simp only [Act.put, List.setIfInBounds_toArray, List.set_cons_zero, List.set_cons_succ])
                  refine wpAnyH_ready (rs := [8]) (by kernel_rfl) (by simp) ?_
                  refine ready_l rfl (fun K hK => ?_) AllReadyH.nil
                  go_simp
                  go_at_call 24
                  refine hbt.out.mono ?_
                  rintro e w8 ⟨rfl, hb8⟩
                  have hR8 := hRd.out.below hb8
                  have z0 := (hb8.cell (p := ⟨b', _, none⟩) hbl').trans z0
                  have z1 := (hb8.cell (p := ⟨b', _, none⟩) hbl').trans z1
                  have z2 := (hb8.cell (p := ⟨b', _, none⟩) hbl').trans z2
                  have z3 := (hb8.cell (p := ⟨b', _, none⟩) hbl').trans z3
                  have hb68 := hbd.out.trans (hb8.mono hbd.out.size)
                  refine hK.out _ _ (by exact ⟨z0, z1, z2, z3, hR8.cell (j := 0) rfl, hR8.cell (j := 1) rfl, hR8.cell (j := 2) rfl, hR8.cell (j := 3) rfl⟩) (fun hHeld2 => ?_)
                  clear hK K hHeld
                  (try simp only [Act.put, List.setIfInBounds_toArray, List.set_cons_zero, List.set_cons_succ])
                  refine take_l (i := 9) (v := ?_) rfl (by kernel_rfl) (by kernel_rfl) (by kernel_rfl) (fun _ _ _ h => h) (Or.inl ⟨by kernel_rfl, ?_⟩) (by assumption) ?_
                  rotate_left
                  · intro w hSw; (try dsimp only at hSw); go_simp; (try with_reducible rfl)
                  (try simp only [Act.put, List.setIfInBounds_toArray, List.set_cons_zero, List.set_cons_succ])
                  refine take_l (i := 10) (v := ?_) rfl (by kernel_rfl) (by kernel_rfl) (by kernel_rfl) (fun _ _ _ h => h) (Or.inl ⟨by kernel_rfl, ?_⟩) (by assumption) ?_
                  rotate_left
                  · intro w hSw; (try dsimp only at hSw); go_simp; (try with_reducible rfl)
                  (try simp only [Act.put, List.setIfInBounds_toArray, List.set_cons_zero, List.set_cons_succ])
                  refine take_l (i := 11) (v := ?_) rfl (by kernel_rfl) (by kernel_rfl) (by kernel_rfl) (fun _ _ _ h => h) (Or.inl ⟨by kernel_rfl, ?_⟩) (by assumption) ?_
                  rotate_left
                  · intro w hSw; (try dsimp only at hSw); go_simp; (try with_reducible rfl)
                  (try simp only [Act.put, List.setIfInBounds_toArray, List.set_cons_zero, List.set_cons_succ])
                  refine take_l (i := 12) (v := ?_) rfl (by kernel_rfl) (by kernel_rfl) (by kernel_rfl) (fun _ _ _ h => h) (Or.inl ⟨by kernel_rfl, ?_⟩) (by assumption) ?_
                  rotate_left
                  · intro w hSw; (try dsimp only at hSw); go_simp; (try with_reducible rfl)
                  (try simp only [Act.put, List.setIfInBounds_toArray, List.set_cons_zero, List.set_cons_succ])
                  refine wpAnyH_ready (rs := [13]) (by kernel_rfl) (by simp) ?_
                  refine ready_l rfl (fun K hK => ?_) AllReadyH.nil
                  go_simp
                  go_at_call 22
                  refine (hkp.out w8 hb68).mono ?_
                  rintro e w9 ⟨rfl, hb9⟩
                  have hR9 := hR8.below hb9
                  have hbl9 := Nat.lt_of_lt_of_le hbl' hb8.size
                  have hb69 := hb68.trans (hb9.mono hb68.size)
                  refine hK.out _ _ (by exact ⟨(hb9.cell (p := ⟨b', _, none⟩) hbl9).trans z0, (hb9.cell (p := ⟨b', _, none⟩) hbl9).trans z1, (hb9.cell (p := ⟨b', _, none⟩) hbl9).trans z2, (hb9.cell (p := ⟨b', _, none⟩) hbl9).trans z3, hR9.cell (j := 0) rfl, hR9.cell (j := 1) rfl, hR9.cell (j := 2) rfl, hR9.cell (j := 3) rfl⟩) (fun hHeld => ?_)
                  clear hK K hHeld2
                  (try simp only [Act.put, List.setIfInBounds_toArray, List.set_cons_zero, List.set_cons_succ])
                  refine take_l (i := 14) (v := ?_) rfl (by kernel_rfl) (by kernel_rfl) (by kernel_rfl) (fun _ _ _ h => h) (Or.inl ⟨by kernel_rfl, ?_⟩) (by assumption) ?_
                  rotate_left
                  · intro w hSw; (try dsimp only at hSw); go_simp; (try with_reducible rfl)
                  (try simp only [Act.put, List.setIfInBounds_toArray, List.set_cons_zero, List.set_cons_succ])
                  refine take_l (i := 15) (v := ?_) rfl (by kernel_rfl) (by kernel_rfl) (by kernel_rfl) (fun _ _ _ h => h) (Or.inl ⟨by kernel_rfl, ?_⟩) (by assumption) ?_
                  rotate_left
                  · intro w hSw; (try dsimp only at hSw); go_simp; (try with_reducible rfl)
                  (try simp only [Act.put, List.setIfInBounds_toArray, List.set_cons_zero, List.set_cons_succ])
                  refine take_l (i := 16) (v := ?_) rfl (by kernel_rfl) (by kernel_rfl) (by kernel_rfl) (fun _ _ _ h => h) (Or.inl ⟨by kernel_rfl, ?_⟩) (by assumption) ?_
                  rotate_left
                  · intro w hSw; (try dsimp only at hSw); go_simp; (try with_reducible rfl)
                  (try simp only [Act.put, List.setIfInBounds_toArray, List.set_cons_zero, List.set_cons_succ])
                  refine take_l (i := 17) (v := ?_) rfl (by kernel_rfl) (by kernel_rfl) (by kernel_rfl) (fun _ _ _ h => h) (Or.inl ⟨by kernel_rfl, ?_⟩) (by assumption) ?_
                  rotate_left
                  · intro w hSw; (try dsimp only at hSw); go_simp; (try with_reducible rfl)
                  (try simp only [Act.put, List.setIfInBounds_toArray, List.set_cons_zero, List.set_cons_succ])
                  refine take_l (i := 18) (v := ?_) rfl (by kernel_rfl) (by kernel_rfl) (by kernel_rfl) (fun _ _ _ h => h) (Or.inl ⟨by kernel_rfl, ?_⟩) (by assumption) ?_
                  rotate_left
                  · intro w hSw; (try dsimp only at hSw); go_simp; (try with_reducible rfl)
                  (try simp only [Act.put, List.setIfInBounds_toArray, List.set_cons_zero, List.set_cons_succ])
                  refine wpAnyH_done (by kernel_rfl) ?_ _
                  have hbn := Lib.hid hb69
                  go_wp2_with fail
                  refine ⟨⟨_, _, _, ⟨k + 1, by omega, rfl, ?_⟩, by (repeat' apply And.intro) <;> rfl⟩, by simp [intOf]; omega⟩
                  exact hfin
        · have hkno : decide ((k : Int) < (zs.length : Int)) = false := decide_eq_false (by omega)
          have hbn := Lib.hid (hb.out.trans (hbr.out.mono hb.out.size))
          have hRq := hRy.out.below hbr.out
          have d0 := hRq.cell (j := 0) rfl
          have d1 := hRq.cell (j := 1) rfl
          have d2 := hRq.cell (j := 2) rfl
          have d3 := hRq.cell (j := 3) rfl
          cases og with
          | none =>
            have es_ : ofE none = 110 := rfl
            rw [es_]
            go_wp2_with fail
            go_ret
            exact ⟨rfl, hbn.out⟩
          | some rr =>
            have es_ : ofE (some rr) = 0 := rfl
            rw [es_]
            clear es_
            obtain rfl : r2 = rr := hr2.out
            have hfin : Hid (keepsP r2 pol = true → fb = true) := fun hk => by
              obtain ⟨j, hj, hjb⟩ := hov.out r2 rfl
              exact hf.out j (by omega) (keeps_better (fun c hc => by have := hpI.out c hc; exact ⟨this.1, by omega⟩) hjb hk)
            have hkq := Lib.hid (hkp.out wr hbr.out)
            clear hkp hov
            generalize keepsP r2 pol = kr at *
            clear hf
            go_wp2_with fail
            refine hkq.out.mono ?_
            clear hkq
            rintro e w8 ⟨rfl, hb8⟩
            have hbm := Lib.hid (hbn.out.trans (hb8.mono hbn.out.size))
            cases kr with
            | false =>
              go_wp2_with fail
              go_ret
              exact ⟨rfl, hbm.out⟩
            | true =>
              obtain rfl : fb = true := hfin.out rfl
              go_wp2_with fail
              go_ret
              exact ⟨rfl, hbm.out⟩
end Go.Proofs.YtpeandbcdaikbaaGreatDoor
namespace Go.Proofs.YtpeandbcdaikbaaGreatDoor.routeKept
open Go.ChangeShapes Go.WideShapes Go.ChangeAt Go.RowKit
open Go.ChangeMaps (open_string)

set_option maxRecDepth 100000 in
set_option maxHeartbeats 1000000 in
theorem lifted (os : Os) (started : os.Started) (H : Type) (enc : TypeId × Value → H) :
    ReturnsInHanded {} Tryz.checked os 6 .any (fun w args => (Rows.routeKeptSpec.pre enc Tryz.prog Tryz.f6 [] false w args ∧ laidMetH Tryz.prog laid11 w) ∧ sizedMet enc Tryz.prog Tryz.f6 (OpenSpec.ofChange Rows.routeKeptSpec) false w args)
      (Rows.routeKeptSpec.post enc Tryz.prog Tryz.f6 false true false false) := by
  refine lift_shaped (C := Tryz.checked) (X := fun w => laidMetH Tryz.prog laid11 w) (fun _ _ hh h => h.of_heap hh) own started (by kernel_rfl) Tryz.func6
    (ChangeSpec.witness_shaped (enc := enc) (C := Tryz.checked) (os := os) (X := fun w _ => laidMetH Tryz.prog laid11 w) false (World.laidAll Tryz.prog os laid11) #[.agg #[.slice none 0 0, .slice none 0 0, .int .i64 0, .int .i64 0, .int .i64 0], .slice none 0 0, .agg #[.slice none 0 0, .slice none 0 0, .slice none 0 0, .slice none 0 0, .slice none 0 0, .slice none 0 0, .slice none 0 0, .slice none 0 0]] 8 (World.laidAll_os _ _ _) (shape11 os) (by kernel_rfl) (by kernel_rfl) (by kernel_rfl) (door_met11 os _)) ?_
  intro W base args ds gs before hval0 hW hL hsh
  have hval : ∀ (j : Nat) t v, Tryz.f6.params[j]? = some t → args[j]? = some v → Value.okWide Tryz.prog W .any base t v := hval0
  have hW' := hW
  obtain ⟨p, q, hA0, hV, rfl, hfz, hnd⟩ := hW
  have hA : DataW.TrodAll enc Tryz.prog W 0 (fun _ => true) true Tryz.f6.params.toList args.toList ds p := hA0
  have hAk := hA
  rw [Tryz.params6] at hA hval
  obtain ⟨v0, vs0, d0, ds0, p0, q0, hargs, rfl, rfl, h0, r0⟩ := trodAll_cons hA
  obtain ⟨v1, vs1, d1, ds1, p1, q1, rfl, rfl, rfl, h1, r1⟩ := trodAll_cons r0
  obtain ⟨v2, vs2, d2, ds2, p2, q2, rfl, rfl, rfl, h2, r2⟩ := trodAll_cons r1
  obtain ⟨rfl, rfl, rfl⟩ := trodAll_nil r2
  obtain rfl : args = #[v0, v1, v2] := by cases args; simp_all
  obtain ⟨rfl, rfl⟩ := trodVars_none hV
  obtain ⟨n0, z0, k0, f0, d0_, p0_, e0, g0, s0⟩ := open_case (hval 0 25 v0 rfl rfl) h0
  obtain ⟨l1, g1, s1⟩ := open_nums (hval 1 23 v1 rfl rfl) h1
  obtain ⟨l2, s2⟩ := open_eight (hval 2 62 v2 rfl rfl) h2
  clear hA0 hval0
  refine (Kept_law v0 n0 z0 k0 f0 d0_ p0_ e0 g0 v1 l1 v2 l2 W s0 s1 g1 s2).mono fun e W' ⟨he, hg⟩ => ?_
  subst he
  have hlt := DataW.TrodAll.lt hAk
  exact ⟨_, rfl, post_of_below (pa := _) (pv := []) hW' (fun _ _ _ => (trodAll_cons_mk (shut_bool Tryz.underlying4 _) trodAll_mk0)) (fun sp hsp => trodAll_stay Tryz.kids Tryz.full (by rw [Tryz.params6]; decide) hAk (fun x hx => sameAt_below hg (hlt x hx)) (fun x hx => hsp x (List.mem_append_left _ hx))) (fun _ _ => rfl) rfl hg (ok_one (by kernel_rfl) rfl (okWide_bool_mk Tryz.underlying4 _))⟩

theorem row_holds : Rows.RouteKeptSaid :=
  OpenClaim.holds_of_wide 6 Tryz.f6 rfl rfl rfl rfl rfl rfl rfl ⟨rfl, rfl, rfl, rfl, rfl⟩ rfl rfl rfl rfl rfl (by kernel_rfl) Tryz.func6 (by kernel_rfl)
    (of_decide_eq_true (by kernel_rfl)) (by unfold Func.isWrapper; first | (rw [if_pos (by decide +kernel)]; kernel_rfl) | (rw [if_neg (by decide +kernel)]; exact ⟨rfl, rfl⟩))
    (fun os started H enc _ => lifted os started H enc)

/-- THE TIED CARD. -/
theorem card_holds : Rows.RouteKeptCardSaid :=
  Claim7.holds_tied_plain_at .later [] [.data, .pinned, .pinned] true Rows.routeKeptCard.stood.harness false
    row_holds (fun _ h => by cases h) (by kernel_rfl) (fun _ h => by cases h) routeKept_row_tie rfl ⟨rfl, rfl⟩ (by kernel_rfl) rfl
    (fun f fn hf hfn => by
      obtain rfl : f = 6 := Option.some.inj ((show Tryz.prog.funcNamed "evergreen/evergreenlaw11.RouteKept" = some 6 by kernel_rfl).symm.trans hf) |>.symm
      obtain rfl : fn = Tryz.f6 := (Option.some.inj (Tryz.func6.symm.trans hfn)).symm
      exact ⟨by kernel_rfl, fun j t ht => by
        rw [Tryz.params6] at ht
        have hm : t ∈ [25, 23, 62] := by simpa using Array.mem_of_getElem? ht
        have hall : ([25, 23, 62].all fun u => !Tryz.prog.wantsStandIn u) = true := by kernel_rfl
        exact (show Tryz.prog.wantsStandIn t = false by simpa using List.all_eq_true.1 hall t hm)⟩)
    (by kernel_rfl)
#print axioms card_holds
end Go.Proofs.YtpeandbcdaikbaaGreatDoor.routeKept
