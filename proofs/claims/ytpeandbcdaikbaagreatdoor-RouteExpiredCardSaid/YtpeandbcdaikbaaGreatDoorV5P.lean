/-
  Routes of chapter 11: the law RouteExpired.
  RouteExpired is true of every input: the row, and its tied card. Conditions: the library variables that are read hold what their packages lay in them (the card ties that to the text).
-/
import Derived.Test.YtpeandbcdaikbaaGreatDoorYY
import Derived.Test.YtpeandbcdaikbaaGreatDoorCards
import Derived.Test.YtpeandbcdaikbaaGreatDoorTie
import Derived.Test.YtpeandbcdaikbaaGreatDoorYU
import Derived.SevenTiedAt
namespace Go.Proofs.YtpeandbcdaikbaaGreatDoor
open Go.RowKit Go.Shelf Go.Maps

attribute [local go_sem] Oper.semAt_some

set_option maxRecDepth 100000 in
set_option maxHeartbeats 8000000 in
theorem Expired_law (v : Value) (n : Nat) (zs ls : List Int) (fr dy hp : Int) (ev lv : Value) (more : Int) (w : World) (h : CaseIn w v n zs ls fr dy hp ev lv) (hmore : I64 more) :
    Calls Tryz.prog 7 #[v, .int .i64 more] w fun e w' => e = .returned (.bool true) ∧ Below w.heap.size w w' := by
  have hM := Lib.hid (madeP n zs ls fr dy)
  have hops0 : 0 ≤ hopsC hp ∧ hopsC hp ≤ 6 := by have := pickv_lt hp 7 (by omega); unfold hopsC; omega
  have hmade := fun W (hb : Below w.heap.size w W) => made_any v n zs ls fr dy hp ev lv W (h.below hb)
  obtain ⟨rfl, hfi, hli, _⟩ := h
  obtain ⟨fa, fc, rfl, _, _, _⟩ := hfi.2
  obtain ⟨la, lc, rfl, _, _, _⟩ := hli
  generalize madeE n zs = l at *
  generalize lifeR ls = life at *
  generalize frmC fr = f at *
  generalize dayC dy = d at *
  generalize hopsC hp = hops at *
  obtain ⟨W, hW⟩ : ∃ W, W = w.alloc (.cells #[.slice fa n fc, .slice la ls.length lc, .int .i64 fr, .int .i64 dy, .int .i64 hp] 25) := ⟨_, rfl⟩
  have hA : Arr W w.heap.size 25 [.slice fa n fc, .slice la ls.length lc, .int .i64 fr, .int .i64 dy, .int .i64 hp] := by rw [hW]; exact Arr.new rfl rfl
  have hbW : Below w.heap.size w W := by rw [hW]; exact (Below.refl _ _).alloc (Nat.le_refl _) _
  have hsa := Lib.hid (sane_any W)
  replace hmade := Lib.hid hmade
  replace hops0 := Lib.hid hops0
  go_enter Tryz.func7, Tryz.ntmps7
  go_upto_region 1 with fail
  rw [← hW]
  clear hW
  go_wp2_with fail
  refine hsa.out.mono ?_
  rintro e w1 ⟨rfl, hb1⟩
  have hA1 := hA.below hb1
  have hbw1 := hbW.trans (hb1.mono hbW.size)
  have hmd := Lib.hid (hmade.out w1 hbw1)
  have a0 := hA1.cell (j := 0) rfl
  have a1 := hA1.cell (j := 1) rfl
  have a2 := hA1.cell (j := 2) rfl
  have a3 := hA1.cell (j := 3) rfl
  have a4 := hA1.cell (j := 4) rfl
  clear hA hA1 hbW hb1 hsa hmade
  go_wp2_with fail
  refine hmd.out.mono ?_
  rintro e w2 ⟨ev', lv', rfl, hE, hL, hb2⟩
  have hb := Lib.hid (hbw1.trans (hb2.mono hbw1.size))
  clear hbw1 hb2 hmd a0 a1 a2 a3 a4
  obtain ⟨ea, ec, rfl, _⟩ := hE.len
  obtain ⟨va, vc, rfl, _⟩ := hL.len
  replace hE := Lib.hid hE
  replace hL := Lib.hid hL
  obtain ⟨e0, he, he0, he1, he2⟩ := info_parts Tryz.info_edge
  obtain ⟨i0, hi_, hz0, hz1, hz2⟩ := info_parts Tryz.info_int
  replace he := Lib.hid he
  replace hi_ := Lib.hid hi_
  have hst := Lib.hid (TwoOwn.nil w2)
  go_wp2_with fail
  go_loopw [11, 12, 13] (fun kv ov iv wr => ∃ i : Nat, i ≤ l.length ∧ iv = .int .i64 (i : Int) ∧ Hid (TwoOwn w2 wr kv ov (leftTo l d i) (oldTo l d i))) (fun _ _ iv _ => l.length - (intOf iv).toNat)
  case atStart => exact ⟨0, Nat.zero_le _, rfl, hst⟩
  case round =>
    obtain ⟨wo, hwo⟩ : ∃ wo, wo = wr := ⟨_, rfl⟩
    subst hwo
    obtain ⟨i, hi, rfl, hT⟩ := hrel
    clear hst
    have hll := hM.out.len
    by_cases hlt : i < l.length
    · have hyes : decide ((i : Int) < (l.length : Int)) = true := decide_eq_true (by omega)
      have hw1 : IntKind.i64.wrap ((i : Int) + 1) = (i : Int) + 1 := IntWalk.i64_in _ (by omega)
      have k0 : (0 : Int) ≤ (i : Int) := by omega
      have k1 : (i : Int) < (l.length : Int) := by omega
      obtain ⟨b, o, cap, u, hq, hbl, z0, z1, z2, z3, z4, z5, z6, hkp⟩ := (hE.out.below hT.out.below).cells hlt
      cases hq
      obtain ⟨ka, kn, kc, rfl⟩ : ∃ a n c, u = .slice a n c := by
        obtain ⟨_, _, hr, _⟩ := hkp
        obtain ⟨a, c, e, _⟩ := hr.len
        exact ⟨a, _, c, e⟩
      have hn1 := leftTo_len l d i
      have hn2 := oldTo_len l d i
      have hY := fun h => leftTo_yes (l := l) (day := d) (i := i) h
      have hYo := fun h => oldTo_yes (l := l) (day := d) (i := i) h
      have hN := fun h => leftTo_no (l := l) (day := d) (i := i) h
      have hNo := fun h => oldTo_no (l := l) (day := d) (i := i) h
      generalize l[i]! = x at *
      by_cases hd : d ≤ x.until_
      · have e1 : decide (x.until_ ≥ d) = true := decide_eq_true hd
        have e2 : decide (d ≤ x.until_) = true := decide_eq_true hd
        replace hY := hY hd
        replace hYo := hYo hd
        replace hd := Lib.hid hd
        clear hN hNo
        obtain ⟨wa, hwa⟩ : ∃ wa, wa = wo.alloc (.cells #[.int .i64 x.cost, .int .i64 x.until_, .int .i64 x.does.id, .int .i64 x.does.frm, .int .i64 x.does.to, .bool x.does.back, .slice ka kn kc] 30) := ⟨_, rfl⟩
        have hba : Below wo.heap.size wo wa := by rw [hwa]; exact (Below.refl _ _).alloc (Nat.le_refl _) _
        have hnews : ∀ q y, ([.int .i64 x.cost, .int .i64 x.until_, .int .i64 x.does.id, .int .i64 x.does.frm, .int .i64 x.does.to, .bool x.does.back, .slice ka kn kc] : List Value)[q]? = some y → wa.cell? ((⟨wo.heap.size, 0, none⟩ : Addr).add q) = some y := fun q y hy => by rw [hwa]; exact cells_new wo [.int .i64 x.cost, .int .i64 x.until_, .int .i64 x.does.id, .int .i64 x.does.frm, .int .i64 x.does.to, .bool x.does.back, .slice ka kn kc] 30 q y hy
        have hTa := hT.out.later hba
        obtain ⟨us, hO⟩ := hTa.edges
        have hkpa := hkp.below hba
        have hsz := hTa.below.size
        generalize hNn : (leftTo l d i).length = nn at *
        generalize hNo : (oldTo l d i).length = no at *
        have hown := hO.own
        rw [hNn] at hown
        replace hNn := Lib.hid hNn
        replace hNo := Lib.hid hNo
        replace hown := Lib.hid hown
        replace hO := Lib.hid hO
        replace hTa := Lib.hid hTa
        replace hkpa := Lib.hid hkpa
        replace hY := Lib.hid hY
        replace hYo := Lib.hid hYo
        replace hsz := Lib.hid hsz
        clear hT hkp hba
        go_upto_region 10 with (rw [← hwa]; clear hwa; at_builtin; refine wpList_append_own _ rfl _ _ 35 rfl w2.heap.size 30 e0 (.agg #[.int .i64 0, .int .i64 0, .int .i64 0, .int .i64 0, .int .i64 0, .bool false, .slice none 0 0]) 7 72 Tryz.underlying35 he.out he0 he1 he2 rfl (by decide) _ nn _ rfl hown.out ⟨wo.heap.size, 0, none⟩ 1 1 [.int .i64 x.cost, .int .i64 x.until_, .int .i64 x.does.id, .int .i64 x.does.frm, .int .i64 x.does.to, .bool x.does.back, .slice ka kn kc] rfl rfl hnews (by simp [Value.oneCell']) ?qa ?qb ?qc ?_)
        case qa => unfold maxLen; omega
        case qb => omega
        case qc => exact hsz.out
        intro v' wn hown4 hgrow hnil
        have hT2 := hTa.out.addE hO.out x (.slice ka kn kc) hkpa.out (by rw [hNn.out]; exact hown4) hgrow
        rw [← hY.out] at hT2
        clear hTa hO hown hown4 hgrow hnil hnews hkpa hsz
        obtain ⟨wb, hwb⟩ : ∃ wb, wb = wn.alloc (.cells #[.int .i64 (i : Int)] 3) := ⟨_, rfl⟩
        have hbb : Below wn.heap.size wn wb := by rw [hwb]; exact (Below.refl _ _).alloc (Nat.le_refl _) _
        have hnews : ∀ q y, [Value.int .i64 (i : Int)][q]? = some y → wb.cell? ((⟨wn.heap.size, 0, none⟩ : Addr).add q) = some y := fun q y hy => by rw [hwb]; exact cells_new wn [.int .i64 (i : Int)] 3 q y hy
        have hT3 := hT2.later hbb
        have hown := hT3.old
        rw [hNo.out] at hown
        have hsz := hT3.below.size
        replace hown := Lib.hid hown
        replace hT3 := Lib.hid hT3
        replace hsz := Lib.hid hsz
        clear hT2 hbb
        go_wp2_with (rw [← hwb]; clear hwb; at_builtin; refine wpList_append_own _ rfl _ _ 23 rfl w2.heap.size 3 i0 (.int .i64 0) 1 8 Tryz.underlying23 hi_.out hz0 hz1 hz2 rfl (by decide) _ no _ rfl hown.out ⟨wn.heap.size, 0, none⟩ 1 1 [.int .i64 (i : Int)] rfl rfl hnews (by simp [Value.oneCell']) ?qa ?qb ?qc ?_)
        case qa => unfold maxLen; omega
        case qb => omega
        case qc => exact hsz.out
        intro v2 wm hown4 hgrow hnil
        have hT4 := hT3.out.addO (i : Int) (by rw [hNo.out]; exact hown4) hgrow
        rw [← hYo.out] at hT4
        replace hT4 := Lib.hid hT4
        clear hT3 hown hown4 hgrow hnil hnews hsz
        go_wp2_with fail
        exact ⟨⟨i + 1, by omega, rfl, hT4⟩, by simp [intOf]; omega⟩
      · have e1 : decide (x.until_ ≥ d) = false := decide_eq_false hd
        have e2 : decide (d ≤ x.until_) = false := decide_eq_false hd
        have hT4 := hT.out
        rw [← hN hd, ← hNo hd] at hT4
        replace hT4 := Lib.hid hT4
        replace hd := Lib.hid hd
        clear hY hYo hN hNo hT
        go_wp2_with fail
        exact ⟨⟨i + 1, by omega, rfl, hT4⟩, by simp [intOf]; omega⟩
    · have hno : decide ((i : Int) < (l.length : Int)) = false := decide_eq_false (by omega)
      obtain rfl : i = l.length := by omega
      have hT1 := hT.out
      rw [leftTo_all] at hT1
      change TwoOwn w2 wo u11 u12 (leftP l d) (oldL l d) at hT1
      obtain ⟨us, hO⟩ := hT1.edges
      have hEl := Lib.hid hO.edges
      have hOld : Hid (NumsT wo u12 (oldL l d)) := (show NumsT wo u12 (oldL l d) from RowT.of_own hT1.old)
      have hbx := hT1.below
      replace hE := Lib.hid (hE.out.below hbx)
      replace hL := Lib.hid (hL.out.below hbx)
      replace hb := Lib.hid (hb.out.trans (hbx.mono hb.out.size))
      clear hbx hO hT1 hT hi_ he
      obtain ⟨ba, bc, rfl⟩ : ∃ a c, u11 = .slice a (leftP l d).length c := by
        obtain ⟨a, c, h, _⟩ := hEl.out.len
        exact ⟨a, c, h⟩
      obtain ⟨oa, oc, rfl⟩ : ∃ a c, u12 = .slice a (oldL l d).length c := by
        obtain ⟨a, c, h, _⟩ := (show RowT _ _ _ _ _ from hOld.out).len
        exact ⟨a, c, h⟩
      have hml := left_mig (day := d) hM.out.mig
      replace hml := Lib.hid hml
      have hbe := Lib.hid (best_law l life f d hops _ _ wo hM.out.mig hE.out hL.out)
      go_wp2_with fail
      refine hbe.out.mono ?_
      clear hbe
      rintro e wa ⟨aa, ca, za, rfl, hma, hBa, hRa, hbx⟩
      replace hBa := Lib.hid hBa
      replace hRa := Lib.hid hRa
      replace hE := Lib.hid (hE.out.below hbx)
      replace hL := Lib.hid (hL.out.below hbx)
      replace hEl := Lib.hid (hEl.out.below hbx)
      replace hOld := Lib.hid (hOld.out.below hbx)
      replace hb := Lib.hid (hb.out.trans (hbx.mono hb.out.size))
      clear hbx
      have hbe := Lib.hid (best_law (leftP l d) life f d hops _ _ wa hml.out hEl.out hL.out)
      go_wp2_with fail
      refine hbe.out.mono ?_
      clear hbe
      rintro e wb ⟨ab, cb, zb, rfl, hmb, hBb, hRb, hbx⟩
      replace hBb := Lib.hid hBb
      replace hRb := Lib.hid hRb
      replace hE := Lib.hid (hE.out.below hbx)
      replace hL := Lib.hid (hL.out.below hbx)
      replace hEl := Lib.hid (hEl.out.below hbx)
      replace hOld := Lib.hid (hOld.out.below hbx)
      replace hRa := Lib.hid (hRa.out.below hbx)
      replace hb := Lib.hid (hb.out.trans (hbx.mono hb.out.size))
      clear hbx
      have hpk := Lib.hid (pick_any more 4 wb hmore (by omega) (by omega))
      have hmo := pickv_lt more 4 (by omega)
      generalize pickv more 4 = mo at *
      have hw1 : IntKind.i64.wrap (hops + (mo : Int)) = hops + (mo : Int) := IntWalk.i64_in _ (by have := hops0.out; omega)
      go_wp2_with fail
      refine hpk.out.mono ?_
      clear hpk
      rintro e wz ⟨rfl, rfl⟩
      have hbe := Lib.hid (best_law l life f d (hops + (mo : Int)) _ _ wz hM.out.mig hE.out hL.out)
      go_wp2_with fail
      refine hbe.out.mono ?_
      clear hbe
      rintro e wc ⟨ac, cc, zc, rfl, hmc, hBc, hRc, hbx⟩
      replace hBc := Lib.hid hBc
      replace hRc := Lib.hid hRc
      replace hE := Lib.hid (hE.out.below hbx)
      replace hL := Lib.hid (hL.out.below hbx)
      replace hEl := Lib.hid (hEl.out.below hbx)
      replace hOld := Lib.hid (hOld.out.below hbx)
      replace hRa := Lib.hid (hRa.out.below hbx)
      replace hRb := Lib.hid (hRb.out.below hbx)
      replace hb := Lib.hid (hb.out.trans (hbx.mono hb.out.size))
      clear hbx
      have hlen := expired_len hM.out.val hBa.out hBb.out
      have hat := Lib.hid fun i (hi : i < za.length) => expired_at hM.out.val hops0.out.1 hBa.out hBb.out hi
      have hov := Lib.hid fun i (hi : i < za.length) => expired_over hM.out.val hops0.out.1 (Int.natCast_nonneg mo) hBa.out hBc.out hi
      have f0 : ((za.length : Int) != (zb.length : Int)) = false := by rw [hlen]; exact bne_self_eq_false _
      have f1 : (za.length != zb.length) = false := by rw [hlen]; exact bne_self_eq_false _
      have f2 : decide (za.length = zb.length) = true := decide_eq_true hlen
      have f3 : ((za.length : Int) == (zb.length : Int)) = true := by rw [hlen]; exact beq_self_eq_true _
      replace hlen := Lib.hid hlen
      clear hBa hBb hBc hE hL hEl hw1 hM hml hops0
      have hbk := Lib.hid (Below.refl wc.heap.size wc)
      go_wp2_with fail
      go_loopw [17] (fun iv wr => ∃ i : Nat, i ≤ za.length ∧ iv = .int .i64 (i : Int) ∧ Hid (Below wc.heap.size wc wr)) (fun iv _ => za.length - (intOf iv).toNat)
      case atStart => exact ⟨0, Nat.zero_le _, rfl, hbk⟩
      case round =>
        obtain ⟨wi, hwi⟩ : ∃ wi, wi = wr := ⟨_, rfl⟩
        subst hwi
        obtain ⟨i, hi, rfl, hbr⟩ := hrel
        clear hbk f0 f1 f2 f3
        by_cases hlt : i < za.length
        · have hyes : decide ((i : Int) < (za.length : Int)) = true := decide_eq_true (by omega)
          have hw1 : IntKind.i64.wrap ((i : Int) + 1) = (i : Int) + 1 := IntWalk.i64_in _ (by unfold maxLen at hma; omega)
          have k0 : (0 : Int) ≤ (i : Int) := by omega
          have k1 : (i : Int) < (za.length : Int) := by omega
          have hlb : i < zb.length := by have := hlen.out; omega
          have k2 : (i : Int) < (zb.length : Int) := by omega
          have hbd := hbr.out.drew
          obtain ⟨bx, ox, xa, xc, xb, xd, hqx, hlx, x0, x1, x2, x3, hokx⟩ := (hRa.out.below hbd).row hlt
          obtain ⟨by_, oy, ya, yc, yb, yd, hqy, hly, y0, y1, y2, y3, hoky⟩ := (hRb.out.below hbd).row hlb
          have hS := hat.out i hlt
          have hvi := hov.out i hlt
          generalize (za[i]!).r = r at *
          generalize (zb[i]!).r = s at *
          have hcl := SameC_any (.slice xb r.claims.length xd) (.slice yb s.claims.length yd) r.claims s.claims wi.drew hokx.2.at hoky.2.at
          rw [← hS.claims] at y3 hcl
          rw [← hS.len] at y0
          rw [← hS.cost] at y1
          rw [← hS.life] at y2
          rw [decide_eq_true rfl] at hcl
          have hsl := hS.at_
          have hee := hoky.1
          change NumsT _ (.slice ya s.edges.length yc) s.edges at hee
          rw [← hS.len] at hee
          have g0 : ((r.edges.length : Int) != (r.edges.length : Int)) = false := bne_self_eq_false _
          have g1 : (r.cost != r.cost) = false := bne_self_eq_false _
          have g2 : (r.life != r.life) = false := bne_self_eq_false _
          have g3 : (r.edges.length != r.edges.length) = false := bne_self_eq_false _
          have hlen2 := hS.len
          replace hlen2 := Lib.hid hlen2
          replace hcl := Lib.hid hcl
          replace hS := Lib.hid hS
          replace hsl := Lib.hid hsl
          replace hvi := Lib.hid hvi
          replace hbd := Lib.hid hbd
          replace hokx := Lib.hid hokx
          replace hee := Lib.hid hee
          replace hqx := Lib.hid hqx
          replace hqy := Lib.hid hqy
          obtain rfl := hqx.out
          obtain rfl := hqy.out
          clear hoky hlb hS
          go_upto_region 19 with fail
          refine wp_region_held_drew (S := fun w' => w'.cell? ⟨bx, ox + i * 4, none⟩ = some (.slice xa r.edges.length xc) ∧ w'.cell? ⟨bx, ox + i * 4 + 1, none⟩ = some (.int .i64 r.cost) ∧ w'.cell? ⟨bx, ox + i * 4 + 2, none⟩ = some (.int .i64 r.life) ∧ w'.cell? ⟨bx, ox + i * 4 + 3, none⟩ = some (.slice xb r.claims.length xd) ∧ w'.cell? ⟨by_, oy + i * 4, none⟩ = some (.slice ya r.edges.length yc) ∧ w'.cell? ⟨by_, oy + i * 4 + 1, none⟩ = some (.int .i64 r.cost) ∧ w'.cell? ⟨by_, oy + i * 4 + 2, none⟩ = some (.int .i64 r.life) ∧ w'.cell? ⟨by_, oy + i * 4 + 3, none⟩ = some (.slice yb r.claims.length yd)) (by kernel_rfl) (by exact ⟨x0, x1, x2, x3, y0, y1, y2, y3⟩) (fun hHeld => ?_)
          refine take_l (i := 0) (v := ?_) rfl (by kernel_rfl) (by kernel_rfl) (by kernel_rfl) (fun _ _ _ h => h) (Or.inl ⟨by kernel_rfl, ?_⟩) (by assumption) ?_
          rotate_left
          · intro w hSw; (try dsimp only at hSw); go_simp; (try with_reducible rfl)
          (try simp only [Act.put, List.setIfInBounds_toArray, List.set_cons_zero, List.set_cons_succ])
          refine take_l (i := 1) (v := ?_) rfl (by kernel_rfl) (by kernel_rfl) (by kernel_rfl) (fun _ _ _ h => h) (Or.inl ⟨by kernel_rfl, ?_⟩) (by assumption) ?_
          rotate_left
          · intro w hSw; (try dsimp only at hSw); go_simp; (try with_reducible rfl)
          (try simp only [Act.put, List.setIfInBounds_toArray, List.set_cons_zero, List.set_cons_succ])
          refine take_l (i := 2) (v := ?_) rfl (by kernel_rfl) (by kernel_rfl) (by kernel_rfl) (fun _ _ _ h => h) (Or.inl ⟨by kernel_rfl, ?_⟩) (by assumption) ?_
          rotate_left
          · intro w hSw; (try dsimp only at hSw); go_simp; (try with_reducible rfl)
          (try simp only [Act.put, List.setIfInBounds_toArray, List.set_cons_zero, List.set_cons_succ])
          refine take_l (i := 3) (v := ?_) rfl (by kernel_rfl) (by kernel_rfl) (by kernel_rfl) (fun _ _ _ h => h) (Or.inl ⟨by kernel_rfl, ?_⟩) (by assumption) ?_
          rotate_left
          · intro w hSw; (try dsimp only at hSw); go_simp; (try with_reducible rfl)
          (try simp only [Act.put, List.setIfInBounds_toArray, List.set_cons_zero, List.set_cons_succ])
          refine take_l (i := 4) (v := ?_) rfl (by kernel_rfl) (by kernel_rfl) (by kernel_rfl) (fun _ _ _ h => h) (Or.inl ⟨by kernel_rfl, ?_⟩) (by assumption) ?_
          rotate_left
          · intro w hSw; (try dsimp only at hSw); go_simp; (try with_reducible rfl)
          (try simp only [Act.put, List.setIfInBounds_toArray, List.set_cons_zero, List.set_cons_succ])
          refine take_l (i := 5) (v := ?_) rfl (by kernel_rfl) (by kernel_rfl) (by kernel_rfl) (fun _ _ _ h => h) (Or.inl ⟨by kernel_rfl, ?_⟩) (by assumption) ?_
          rotate_left
          · intro w hSw; (try dsimp only at hSw); go_simp; (try with_reducible rfl)
          (try simp only [Act.put, List.setIfInBounds_toArray, List.set_cons_zero, List.set_cons_succ])
          refine take_l (i := 6) (v := ?_) rfl (by kernel_rfl) (by kernel_rfl) (by kernel_rfl) (fun _ _ _ h => h) (Or.inl ⟨by kernel_rfl, ?_⟩) (by assumption) ?_
          rotate_left
          · intro w hSw; (try dsimp only at hSw); go_simp; (try with_reducible rfl)
          (try simp only [Act.put, List.setIfInBounds_toArray, List.set_cons_zero, List.set_cons_succ])
          refine take_l (i := 7) (v := ?_) rfl (by kernel_rfl) (by kernel_rfl) (by kernel_rfl) (fun _ _ _ h => h) (Or.inl ⟨by kernel_rfl, ?_⟩) (by assumption) ?_
          rotate_left
          · intro w hSw; (try dsimp only at hSw); go_simp; (try with_reducible rfl)
          (try simp only [Act.put, List.setIfInBounds_toArray, List.set_cons_zero, List.set_cons_succ])
          refine take_l (i := 8) (v := ?_) rfl (by kernel_rfl) (by kernel_rfl) (by kernel_rfl) (fun _ _ _ h => h) (Or.inl ⟨by kernel_rfl, ?_⟩) (by assumption) ?_
          rotate_left
          · intro w hSw; (try dsimp only at hSw); go_simp; (try with_reducible rfl)
          (try simp only [Act.put, List.setIfInBounds_toArray, List.set_cons_zero, List.set_cons_succ])
          refine take_l (i := 9) (v := ?_) rfl (by kernel_rfl) (by kernel_rfl) (by kernel_rfl) (fun _ _ _ h => h) (Or.inl ⟨by kernel_rfl, ?_⟩) (by assumption) ?_
          rotate_left
          · intro w hSw; (try dsimp only at hSw); go_simp; (try with_reducible rfl)
          (try simp only [Act.put, List.setIfInBounds_toArray, List.set_cons_zero, List.set_cons_succ])
          refine take_l (i := 10) (v := ?_) rfl (by kernel_rfl) (by kernel_rfl) (by kernel_rfl) (fun _ _ _ h => h) (Or.inl ⟨by kernel_rfl, ?_⟩) (by assumption) ?_
          rotate_left
          · intro w hSw; (try dsimp only at hSw); go_simp; (try with_reducible rfl)
          (try simp only [Act.put, List.setIfInBounds_toArray, List.set_cons_zero, List.set_cons_succ])
          refine take_l (i := 11) (v := ?_) rfl (by kernel_rfl) (by kernel_rfl) (by kernel_rfl) (fun _ _ _ h => h) (Or.inl ⟨by kernel_rfl, ?_⟩) (by assumption) ?_
          rotate_left
          · intro w hSw; (try dsimp only at hSw); go_simp; (try with_reducible rfl)
          (try simp only [Act.put, List.setIfInBounds_toArray, List.set_cons_zero, List.set_cons_succ])
          refine take_l (i := 12) (v := ?_) rfl (by kernel_rfl) (by kernel_rfl) (by kernel_rfl) (fun _ _ _ h => h) (Or.inl ⟨by kernel_rfl, ?_⟩) (by assumption) ?_
          rotate_left
          · intro w hSw; (try dsimp only at hSw); go_simp; (try with_reducible rfl)
          (try simp only [Act.put, List.setIfInBounds_toArray, List.set_cons_zero, List.set_cons_succ])
          refine take_l (i := 13) (v := ?_) rfl (by kernel_rfl) (by kernel_rfl) (by kernel_rfl) (fun _ _ _ h => h) (Or.inl ⟨by kernel_rfl, ?_⟩) (by assumption) ?_
          rotate_left
          · intro w hSw; (try dsimp only at hSw); go_simp; (try with_reducible rfl)
          (try simp only [Act.put, List.setIfInBounds_toArray, List.set_cons_zero, List.set_cons_succ])
          refine take_l (i := 14) (v := ?_) rfl (by kernel_rfl) (by kernel_rfl) (by kernel_rfl) (fun _ _ _ h => h) (Or.inl ⟨by kernel_rfl, ?_⟩) (by assumption) ?_
          rotate_left
          · intro w hSw; (try dsimp only at hSw); go_simp; (try with_reducible rfl)
          (try simp only [Act.put, List.setIfInBounds_toArray, List.set_cons_zero, List.set_cons_succ])
          refine take_l (i := 15) (v := ?_) rfl (by kernel_rfl) (by kernel_rfl) (by kernel_rfl) (fun _ _ _ h => h) (Or.inl ⟨by kernel_rfl, ?_⟩) (by assumption) ?_
          rotate_left
          · intro w hSw; (try dsimp only at hSw); go_simp; (try with_reducible rfl)
          (try simp only [Act.put, List.setIfInBounds_toArray, List.set_cons_zero, List.set_cons_succ])
          refine take_l (i := 16) (v := ?_) rfl (by kernel_rfl) (by kernel_rfl) (by kernel_rfl) (fun _ _ _ h => h) (Or.inl ⟨by kernel_rfl, ?_⟩) (by assumption) ?_
          rotate_left
          · intro w hSw; (try dsimp only at hSw); go_simp; (try with_reducible rfl)
          (try simp only [Act.put, List.setIfInBounds_toArray, List.set_cons_zero, List.set_cons_succ])
          refine take_l (i := 17) (v := ?_) rfl (by kernel_rfl) (by kernel_rfl) (by kernel_rfl) (fun _ _ _ h => h) (Or.inl ⟨by kernel_rfl, ?_⟩) (by assumption) ?_
          rotate_left
          · intro w hSw; (try dsimp only at hSw); go_simp; (try with_reducible rfl)
          (try simp only [Act.put, List.setIfInBounds_toArray, List.set_cons_zero, List.set_cons_succ])
          refine take_l (i := 18) (v := ?_) rfl (by kernel_rfl) (by kernel_rfl) (by kernel_rfl) (fun _ _ _ h => h) (Or.inl ⟨by kernel_rfl, ?_⟩) (by assumption) ?_
          rotate_left
          · intro w hSw; (try dsimp only at hSw); go_simp; (try with_reducible rfl)
          (try simp only [Act.put, List.setIfInBounds_toArray, List.set_cons_zero, List.set_cons_succ])
          refine take_l (i := 19) (v := ?_) rfl (by kernel_rfl) (by kernel_rfl) (by kernel_rfl) (fun _ _ _ h => h) (Or.inl ⟨by kernel_rfl, ?_⟩) (by assumption) ?_
          rotate_left
          · intro w hSw; (try dsimp only at hSw); go_simp; (try with_reducible rfl)
          (try simp only [Act.put, List.setIfInBounds_toArray, List.set_cons_zero, List.set_cons_succ])
          refine take_l (i := 20) (v := ?_) rfl (by kernel_rfl) (by kernel_rfl) (by kernel_rfl) (fun _ _ _ h => h) (Or.inl ⟨by kernel_rfl, ?_⟩) (by assumption) ?_
          rotate_left
          · intro w hSw; (try dsimp only at hSw); go_simp; (try with_reducible rfl)
          (try simp only [Act.put, List.setIfInBounds_toArray, List.set_cons_zero, List.set_cons_succ])
          refine take_l (i := 21) (v := ?_) rfl (by kernel_rfl) (by kernel_rfl) (by kernel_rfl) (fun _ _ _ h => h) (Or.inl ⟨by kernel_rfl, ?_⟩) (by assumption) ?_
          rotate_left
          · intro w hSw; (try dsimp only at hSw); go_simp; (try with_reducible rfl)
          (try simp only [Act.put, List.setIfInBounds_toArray, List.set_cons_zero, List.set_cons_succ])
          refine take_l (i := 22) (v := ?_) rfl (by kernel_rfl) (by kernel_rfl) (by kernel_rfl) (fun _ _ _ h => h) (Or.inl ⟨by kernel_rfl, ?_⟩) (by assumption) ?_
          rotate_left
          · intro w hSw; (try dsimp only at hSw); go_simp; (try with_reducible rfl)
          (try simp only [Act.put, List.setIfInBounds_toArray, List.set_cons_zero, List.set_cons_succ])
          refine take_l (i := 23) (v := ?_) rfl (by kernel_rfl) (by kernel_rfl) (by kernel_rfl) (fun _ _ _ h => h) (Or.inl ⟨by kernel_rfl, ?_⟩) (by assumption) ?_
          rotate_left
          · intro w hSw; (try dsimp only at hSw); go_simp; (try with_reducible rfl)
          (try simp only [Act.put, List.setIfInBounds_toArray, List.set_cons_zero, List.set_cons_succ])
          refine take_l (i := 24) (v := ?_) rfl (by kernel_rfl) (by kernel_rfl) (by kernel_rfl) (fun _ _ _ h => h) (Or.inl ⟨by kernel_rfl, ?_⟩) (by assumption) ?_
          rotate_left
          · intro w hSw; (try dsimp only at hSw); go_simp; (try with_reducible rfl)
          (try simp only [Act.put, List.setIfInBounds_toArray, List.set_cons_zero, List.set_cons_succ])
          refine take_l (i := 25) (v := ?_) rfl (by kernel_rfl) (by kernel_rfl) (by kernel_rfl) (fun _ _ _ h => h) (Or.inl ⟨by kernel_rfl, ?_⟩) (by assumption) ?_
          rotate_left
          · intro w hSw; (try dsimp only at hSw); go_simp; (try with_reducible rfl)
          (try simp only [Act.put, List.setIfInBounds_toArray, List.set_cons_zero, List.set_cons_succ])
          refine take_l (i := 26) (v := ?_) rfl (by kernel_rfl) (by kernel_rfl) (by kernel_rfl) (fun _ _ _ h => h) (Or.inl ⟨by kernel_rfl, ?_⟩) (by assumption) ?_
          rotate_left
          · intro w hSw; (try dsimp only at hSw); go_simp; (try with_reducible rfl)
          (try simp only [Act.put, List.setIfInBounds_toArray, List.set_cons_zero, List.set_cons_succ])
          refine take_l (i := 27) (v := ?_) rfl (by kernel_rfl) (by kernel_rfl) (by kernel_rfl) (fun _ _ _ h => h) (Or.inl ⟨by kernel_rfl, ?_⟩) (by assumption) ?_
          rotate_left
          · intro w hSw; (try dsimp only at hSw); go_simp; (try with_reducible rfl)
          (try simp only [Act.put, List.setIfInBounds_toArray, List.set_cons_zero, List.set_cons_succ])
          refine take_l (i := 28) (v := ?_) rfl (by kernel_rfl) (by kernel_rfl) (by kernel_rfl) (fun _ _ _ h => h) (Or.inl ⟨by kernel_rfl, ?_⟩) (by assumption) ?_
          rotate_left
          · intro w hSw; (try dsimp only at hSw); go_simp; (try with_reducible rfl)
          (try simp only [Act.put, List.setIfInBounds_toArray, List.set_cons_zero, List.set_cons_succ])
          refine take_l (i := 29) (v := ?_) rfl (by kernel_rfl) (by kernel_rfl) (by kernel_rfl) (fun _ _ _ h => h) (Or.inl ⟨by kernel_rfl, ?_⟩) (by assumption) ?_
          rotate_left
          · intro w hSw; (try dsimp only at hSw); go_simp; (try with_reducible rfl)
          (try simp only [Act.put, List.setIfInBounds_toArray, List.set_cons_zero, List.set_cons_succ])
          refine take_l (i := 30) (v := ?_) rfl (by kernel_rfl) (by kernel_rfl) (by kernel_rfl) (fun _ _ _ h => h) (Or.inl ⟨by kernel_rfl, ?_⟩) (by assumption) ?_
          rotate_left
          · intro w hSw; (try dsimp only at hSw); go_simp; (try with_reducible rfl)
          (try simp only [Act.put, List.setIfInBounds_toArray, List.set_cons_zero, List.set_cons_succ])
          refine take_l (i := 31) (v := ?_) rfl (by kernel_rfl) (by kernel_rfl) (by kernel_rfl) (fun _ _ _ h => h) (Or.inl ⟨by kernel_rfl, ?_⟩) (by assumption) ?_
          rotate_left
          · intro w hSw; (try dsimp only at hSw); go_simp; (try with_reducible rfl)
          (try simp only [Act.put, List.setIfInBounds_toArray, List.set_cons_zero, List.set_cons_succ])
          refine take_l (i := 32) (v := ?_) rfl (by kernel_rfl) (by kernel_rfl) (by kernel_rfl) (fun _ _ _ h => h) (Or.inl ⟨by kernel_rfl, ?_⟩) (by assumption) ?_
          rotate_left
          · intro w hSw; (try dsimp only at hSw); go_simp; (try with_reducible rfl)
          (try simp only [Act.put, List.setIfInBounds_toArray, List.set_cons_zero, List.set_cons_succ])
          refine take_l (i := 33) (v := ?_) rfl (by kernel_rfl) (by kernel_rfl) (by kernel_rfl) (fun _ _ _ h => h) (Or.inl ⟨by kernel_rfl, ?_⟩) (by assumption) ?_
          rotate_left
          · intro w hSw; (try dsimp only at hSw); go_simp; (try with_reducible rfl)
          (try simp only [Act.put, List.setIfInBounds_toArray, List.set_cons_zero, List.set_cons_succ])
          refine take_l (i := 34) (v := ?_) rfl (by kernel_rfl) (by kernel_rfl) (by kernel_rfl) (fun _ _ _ h => h) (Or.inl ⟨by kernel_rfl, ?_⟩) (by assumption) ?_
          rotate_left
          · intro w hSw; (try dsimp only at hSw); go_simp; (try with_reducible rfl)
          (try simp only [Act.put, List.setIfInBounds_toArray, List.set_cons_zero, List.set_cons_succ])
          refine take_l (i := 35) (v := ?_) rfl (by kernel_rfl) (by kernel_rfl) (by kernel_rfl) (fun _ _ _ h => h) (Or.inl ⟨by kernel_rfl, ?_⟩) (by assumption) ?_
          rotate_left
          · intro w hSw; (try dsimp only at hSw); go_simp; (try with_reducible rfl)
          (try simp only [Act.put, List.setIfInBounds_toArray, List.set_cons_zero, List.set_cons_succ])
          refine take_l (i := 36) (v := ?_) rfl (by kernel_rfl) (by kernel_rfl) (by kernel_rfl) (fun _ _ _ h => h) (Or.inl ⟨by kernel_rfl, ?_⟩) (by assumption) ?_
          rotate_left
          · intro w hSw; (try dsimp only at hSw); go_simp; (try with_reducible rfl)
          (try simp only [Act.put, List.setIfInBounds_toArray, List.set_cons_zero, List.set_cons_succ])
          refine take_l (i := 37) (v := ?_) rfl (by kernel_rfl) (by kernel_rfl) (by kernel_rfl) (fun _ _ _ h => h) (Or.inl ⟨by kernel_rfl, ?_⟩) (by assumption) ?_
          rotate_left
          · intro w hSw; (try dsimp only at hSw); go_simp; (try with_reducible rfl)
          (try simp only [Act.put, List.setIfInBounds_toArray, List.set_cons_zero, List.set_cons_succ])
          refine take_l (i := 38) (v := ?_) rfl (by kernel_rfl) (by kernel_rfl) (by kernel_rfl) (fun _ _ _ h => h) (Or.inl ⟨by kernel_rfl, ?_⟩) (by assumption) ?_
          rotate_left
          · intro w hSw; (try dsimp only at hSw); go_simp; (try with_reducible rfl)
          (try simp only [Act.put, List.setIfInBounds_toArray, List.set_cons_zero, List.set_cons_succ])
          refine take_l (i := 39) (v := ?_) rfl (by kernel_rfl) (by kernel_rfl) (by kernel_rfl) (fun _ _ _ h => h) (Or.inl ⟨by kernel_rfl, ?_⟩) (by assumption) ?_
          rotate_left
          · intro w hSw; (try dsimp only at hSw); go_simp; (try with_reducible rfl)
          (try simp only [Act.put, List.setIfInBounds_toArray, List.set_cons_zero, List.set_cons_succ])
          refine take_l (i := 40) (v := ?_) rfl (by kernel_rfl) (by kernel_rfl) (by kernel_rfl) (fun _ _ _ h => h) (Or.inl ⟨by kernel_rfl, ?_⟩) (by assumption) ?_
          rotate_left
          · intro w hSw; (try dsimp only at hSw); go_simp; (try with_reducible rfl)
          (try simp only [Act.put, List.setIfInBounds_toArray, List.set_cons_zero, List.set_cons_succ])
          refine take_l (i := 41) (v := ?_) rfl (by kernel_rfl) (by kernel_rfl) (by kernel_rfl) (fun _ _ _ h => h) (Or.inl ⟨by kernel_rfl, ?_⟩) (by assumption) ?_
          rotate_left
          · intro w hSw; (try dsimp only at hSw); go_simp; (try with_reducible rfl)
          (try simp only [Act.put, List.setIfInBounds_toArray, List.set_cons_zero, List.set_cons_succ])
          refine take_l (i := 42) (v := ?_) rfl (by kernel_rfl) (by kernel_rfl) (by kernel_rfl) (fun _ _ _ h => h) (Or.inl ⟨by kernel_rfl, ?_⟩) (by assumption) ?_
          rotate_left
          · intro w hSw; (try dsimp only at hSw); go_simp; (try with_reducible rfl)
          (try simp only [Act.put, List.setIfInBounds_toArray, List.set_cons_zero, List.set_cons_succ])
          refine take_l (i := 43) (v := ?_) rfl (by kernel_rfl) (by kernel_rfl) (by kernel_rfl) (fun _ _ _ h => h) (Or.inl ⟨by kernel_rfl, ?_⟩) (by assumption) ?_
          rotate_left
          · intro w hSw; (try dsimp only at hSw); go_simp; (try with_reducible rfl)
          (try simp only [Act.put, List.setIfInBounds_toArray, List.set_cons_zero, List.set_cons_succ])
          refine take_l (i := 44) (v := ?_) rfl (by kernel_rfl) (by kernel_rfl) (by kernel_rfl) (fun _ _ _ h => h) (Or.inl ⟨by kernel_rfl, ?_⟩) (by assumption) ?_
          rotate_left
          · intro w hSw; (try dsimp only at hSw); go_simp; (try with_reducible rfl)
          (try simp only [Act.put, List.setIfInBounds_toArray, List.set_cons_zero, List.set_cons_succ])
          refine take_l (i := 45) (v := ?_) rfl (by kernel_rfl) (by kernel_rfl) (by kernel_rfl) (fun _ _ _ h => h) (Or.inl ⟨by kernel_rfl, ?_⟩) (by assumption) ?_
          rotate_left
          · intro w hSw; (try dsimp only at hSw); go_simp; (try with_reducible rfl)
          (try simp only [Act.put, List.setIfInBounds_toArray, List.set_cons_zero, List.set_cons_succ])
          refine take_l (i := 46) (v := ?_) rfl (by kernel_rfl) (by kernel_rfl) (by kernel_rfl) (fun _ _ _ h => h) (Or.inl ⟨by kernel_rfl, ?_⟩) (by assumption) ?_
          rotate_left
          · intro w hSw; (try dsimp only at hSw); go_simp; (try with_reducible rfl)
          (try simp only [Act.put, List.setIfInBounds_toArray, List.set_cons_zero, List.set_cons_succ])
          refine take_l (i := 47) (v := ?_) rfl (by kernel_rfl) (by kernel_rfl) (by kernel_rfl) (fun _ _ _ h => h) (Or.inl ⟨by kernel_rfl, ?_⟩) (by assumption) ?_
          rotate_left
          · intro w hSw; (try dsimp only at hSw); go_simp; (try with_reducible rfl)
          (try simp only [Act.put, List.setIfInBounds_toArray, List.set_cons_zero, List.set_cons_succ])
          refine take_l (i := 48) (v := ?_) rfl (by kernel_rfl) (by kernel_rfl) (by kernel_rfl) (fun _ _ _ h => h) (Or.inl ⟨by kernel_rfl, ?_⟩) (by assumption) ?_
          rotate_left
          · intro w hSw; (try dsimp only at hSw); go_simp; (try with_reducible rfl)
          (try simp only [Act.put, List.setIfInBounds_toArray, List.set_cons_zero, List.set_cons_succ])
          refine take_l (i := 49) (v := ?_) rfl (by kernel_rfl) (by kernel_rfl) (by kernel_rfl) (fun _ _ _ h => h) (Or.inl ⟨by kernel_rfl, ?_⟩) (by assumption) ?_
          rotate_left
          · intro w hSw; (try dsimp only at hSw); go_simp; (try with_reducible rfl)
          (try simp only [Act.put, List.setIfInBounds_toArray, List.set_cons_zero, List.set_cons_succ])
          refine wpAnyH_ready (rs := [50]) (by kernel_rfl) (by simp) ?_
          refine ready_l rfl (fun K hK => ?_) AllReadyH.nil
          go_simp
          refine hcl.out.mono ?_
          rintro e w4 ⟨rfl, hb4⟩
          replace x0 := (hb4.cell (p := ⟨bx, _, none⟩) hlx).trans x0
          replace x1 := (hb4.cell (p := ⟨bx, _, none⟩) hlx).trans x1
          replace x2 := (hb4.cell (p := ⟨bx, _, none⟩) hlx).trans x2
          replace x3 := (hb4.cell (p := ⟨bx, _, none⟩) hlx).trans x3
          replace y0 := (hb4.cell (p := ⟨by_, _, none⟩) hly).trans y0
          replace y1 := (hb4.cell (p := ⟨by_, _, none⟩) hly).trans y1
          replace y2 := (hb4.cell (p := ⟨by_, _, none⟩) hly).trans y2
          replace y3 := (hb4.cell (p := ⟨by_, _, none⟩) hly).trans y3
          refine hK.out _ _ (by exact ⟨x0, x1, x2, x3, y0, y1, y2, y3⟩) (fun hHeld2 => ?_)
          clear hK K hHeld
          (try simp only [Act.put, List.setIfInBounds_toArray, List.set_cons_zero, List.set_cons_succ])
          refine take_l (i := 51) (v := ?_) rfl (by kernel_rfl) (by kernel_rfl) (by kernel_rfl) (fun _ _ _ h => h) (Or.inl ⟨by kernel_rfl, ?_⟩) (by assumption) ?_
          rotate_left
          · intro w hSw; (try dsimp only at hSw); go_simp; (try with_reducible rfl)
          (try simp only [Act.put, List.setIfInBounds_toArray, List.set_cons_zero, List.set_cons_succ])
          refine take_l (i := 52) (v := ?_) rfl (by kernel_rfl) (by kernel_rfl) (by kernel_rfl) (fun _ _ _ h => h) (Or.inl ⟨by kernel_rfl, ?_⟩) (by assumption) ?_
          rotate_left
          · intro w hSw; (try dsimp only at hSw); go_simp; (try with_reducible rfl)
          (try simp only [Act.put, List.setIfInBounds_toArray, List.set_cons_zero, List.set_cons_succ])
          refine wpAnyH_done (by kernel_rfl) ?_ _
          clear hHeld2 hcl g0 g1 g2 g3
          have hb14 := Lib.hid (hbd.out.trans (hb4.mono hbd.out.size))
          have hokx4 := Lib.hid (hokx.out.below hb4)
          have hee4 := Lib.hid (hee.out.below hb4)
          have hOld4 := Lib.hid (hOld.out.below hb14.out)
          replace hlx := Nat.lt_of_lt_of_le hlx hb4.size
          replace hly := Nat.lt_of_lt_of_le hly hb4.size
          clear hb4 hokx hee hbr hbd y1 y2 y3
          have hbk := Lib.hid (Below.refl w4.heap.size w4)
          go_wp2_with fail
          go_loopw [18] (fun kv wr => ∃ k : Nat, k ≤ r.edges.length ∧ kv = .int .i64 (k : Int) ∧ Hid (Below w4.heap.size w4 wr)) (fun kv _ => r.edges.length - (intOf kv).toNat)
          case atStart => exact ⟨0, Nat.zero_le _, rfl, hbk⟩
          case round =>
            obtain ⟨k, hk, rfl, hbr⟩ := hrel
            clear hbk
            replace x0 := (hbr.out.cell (p := ⟨bx, _, none⟩) hlx).trans x0
            replace x1 := (hbr.out.cell (p := ⟨bx, _, none⟩) hlx).trans x1
            replace x2 := (hbr.out.cell (p := ⟨bx, _, none⟩) hlx).trans x2
            replace x3 := (hbr.out.cell (p := ⟨bx, _, none⟩) hlx).trans x3
            replace y0 := (hbr.out.cell (p := ⟨by_, _, none⟩) hly).trans y0
            have hrl : r.edges.length ≤ maxLen := by
              obtain ⟨_, _, _, h⟩ := (show RowT _ _ _ _ _ from hokx4.out.1).len
              exact h
            by_cases hkl : k < r.edges.length
            · have hkyes : decide ((k : Int) < (r.edges.length : Int)) = true := decide_eq_true (by omega)
              have hw2 : IntKind.i64.wrap ((k : Int) + 1) = (k : Int) + 1 := IntWalk.i64_in _ (by unfold maxLen at hrl; omega)
              have q0 : (0 : Int) ≤ (k : Int) := by omega
              have q1 : (k : Int) < (r.edges.length : Int) := by omega
              obtain ⟨h1, h2, h3⟩ := hsl.out k hkl
              obtain ⟨b1, o1, c1, hq1, hl1, m1⟩ := NumsAt.cells (NumsT.at (hokx4.out.1.below hbr.out)) hkl
              have hee5 := NumsT.at (hee4.out.below hbr.out)
              obtain ⟨b2, o2, c2, hq2, hl2, m2⟩ := NumsAt.cells (show NumsAt wr wr.heap.size (.slice ya s.edges.length yc) s.edges by rw [← hlen2.out]; exact hee5) (show k < s.edges.length by rw [← hlen2.out]; exact hkl)
              obtain ⟨n, hn⟩ : ∃ n : Nat, s.edges[k]! = (n : Int) := ⟨(s.edges[k]!).toNat, by omega⟩
              rw [hn] at h1 h2 h3 m2
              rw [Int.toNat_natCast] at h3
              obtain ⟨b3, o3, c3, hq3, hl3, m3⟩ := NumsAt.cells (NumsT.at (hOld4.out.below hbr.out)) (show n < (oldL l d).length by omega)
              rw [← h3] at m3
              generalize (oldL l d).length = ol at *
              generalize r.edges[k]! = x at *
              have t0 : decide ((n : Int) < 0) = false := decide_eq_false (by omega)
              have t1 : decide ((n : Int) ≥ (ol : Int)) = false := decide_eq_false (by omega)
              have t2 : decide ((ol : Int) ≤ (n : Int)) = false := decide_eq_false (by omega)
              have t3 : decide (ol ≤ n) = false := decide_eq_false (by omega)
              have t4 : (0 : Int) ≤ (n : Int) := by omega
              have t5 : (n : Int) < (ol : Int) := by omega
              have t6 : (x != x) = false := bne_self_eq_false _
              replace hq1 := Lib.hid hq1
              replace hq2 := Lib.hid hq2
              replace hq3 := Lib.hid hq3
              obtain rfl : xa = some ⟨b1, o1, none⟩ := by injection hq1.out with q _ _
              obtain rfl : ya = some ⟨b2, o2, none⟩ := by injection hq2.out with q _ _
              obtain rfl : oa = some ⟨b3, o3, none⟩ := by injection hq3.out with q _ _
              go_upto_region 25 with fail
              go_quiet (fail)
              have hbn := Lib.hid (hbr.out.trans ((below_drewN (Below.refl wr.heap.size wr) nq).mono hbr.out.size))
              go_wp2_with fail
              exact ⟨⟨k + 1, by omega, rfl, hbn⟩, by simp [intOf]; omega⟩
            · have hkno : decide ((k : Int) < (r.edges.length : Int)) = false := decide_eq_false (by omega)
              obtain ⟨w5, hw5⟩ : ∃ w5, w5 = wr := ⟨_, rfl⟩
              subst hw5
              have hb15 := Lib.hid (hb14.out.trans (hbr.out.mono hb14.out.size))
              have hokx5 := Lib.hid (hokx4.out.below hbr.out)
              replace hlx := Nat.lt_of_lt_of_le hlx hbr.out.size
              clear hbr hokx4 hee4 hOld4 hly y0 hb14 hsl
              have hfb : Hid (∀ k, k < 0 → betterP (zc[k]!).r r = true → false = true) := fun k hk => absurd hk (Nat.not_lt_zero k)
              have hb50 := Lib.hid (Below.refl w5.heap.size w5)
              go_wp2_with fail
              go_loopw [20, 21] (fun fv iv wr => ∃ (k : Nat) (fb : Bool), k ≤ zc.length ∧ iv = .int .i64 (k : Int) ∧ fv = .bool fb ∧ Hid (∀ j, j < k → betterP (zc[j]!).r r = true → fb = true) ∧ Hid (Below w5.heap.size w5 wr)) (fun _ iv _ => zc.length - (intOf iv).toNat)
              case atStart => exact ⟨0, false, Nat.zero_le _, rfl, rfl, hfb, hb50⟩
              case round =>
                obtain ⟨k, fb, hk', rfl, rfl, hf, hbr⟩ := hrel
                clear hfb hb50
                by_cases hkl : k < zc.length
                · have hkyes : decide ((k : Int) < (zc.length : Int)) = true := decide_eq_true (by omega)
                  have hw2 : IntKind.i64.wrap ((k : Int) + 1) = (k : Int) + 1 := IntWalk.i64_in _ (by unfold maxLen at hmc; omega)
                  have p0 : (0 : Int) ≤ (k : Int) := by omega
                  have p1 : (k : Int) < (zc.length : Int) := by omega
                  cases fb with
                  | true =>
                    have hn : Hid (∀ j, j < k + 1 → betterP (zc[j]!).r r = true → true = true) := fun _ _ _ => rfl
                    go_upto_region 31 with fail
                    go_quiet (fail)
                    have hbn := Lib.hid (hbr.out.trans ((below_drewN (Below.refl wr.heap.size wr) nq).mono hbr.out.size))
                    go_wp2_with fail
                    exact ⟨⟨k + 1, true, by omega, rfl, rfl, hn, hbn⟩, by simp [intOf]; omega⟩
                  | false =>
                    have hbd := hbr.out.drew
                    obtain ⟨b', o', ua, uc, ub, ud, hq, hbl', v0, v1, v2, v3, hoky⟩ := (hRc.out.below (hb15.out.trans (hbd.mono hb15.out.size))).row hkl
                    have hn : Hid (∀ j, j < k + 1 → betterP (zc[j]!).r r = true → betterP (zc[k]!).r r = true) := fun j hj hp => by
                      by_cases e : j = k
                      · rw [← e]; exact hp
                      · cases hf.out j (by omega) hp
                    generalize (zc[k]!).r = s2 at *
                    have hbt2 := Lib.hid (better_law s2 r ua xa ub xb uc xc ud xd wr.drew hoky (hokx5.out.below hbd))
                    have d0 := (hbd.cell (p := ⟨bx, _, none⟩) hlx).trans x0
                    have d1 := (hbd.cell (p := ⟨bx, _, none⟩) hlx).trans x1
                    have d2 := (hbd.cell (p := ⟨bx, _, none⟩) hlx).trans x2
                    have d3 := (hbd.cell (p := ⟨bx, _, none⟩) hlx).trans x3
                    have hlxd := Nat.lt_of_lt_of_le hlx hbd.size
                    generalize betterP s2 r = bb at *
                    replace hbd := Lib.hid hbd
                    replace hoky := Lib.hid hoky
                    replace hq := Lib.hid hq
                    obtain rfl := hq.out
                    go_upto_region 31 with fail
                    refine wp_region_held_drew (S := fun w' => w'.cell? ⟨b', o' + k * 4, none⟩ = some (.slice ua s2.edges.length uc) ∧ w'.cell? ⟨b', o' + k * 4 + 1, none⟩ = some (.int .i64 s2.cost) ∧ w'.cell? ⟨b', o' + k * 4 + 2, none⟩ = some (.int .i64 s2.life) ∧ w'.cell? ⟨b', o' + k * 4 + 3, none⟩ = some (.slice ub s2.claims.length ud) ∧ w'.cell? ⟨bx, ox + i * 4, none⟩ = some (.slice xa r.edges.length xc) ∧ w'.cell? ⟨bx, ox + i * 4 + 1, none⟩ = some (.int .i64 r.cost) ∧ w'.cell? ⟨bx, ox + i * 4 + 2, none⟩ = some (.int .i64 r.life) ∧ w'.cell? ⟨bx, ox + i * 4 + 3, none⟩ = some (.slice xb r.claims.length xd)) (by kernel_rfl) (by exact ⟨v0, v1, v2, v3, d0, d1, d2, d3⟩) (fun hHeld => ?_)
                    refine take_l (i := 0) (v := ?_) rfl (by kernel_rfl) (by kernel_rfl) (by kernel_rfl) (fun _ _ _ h => h) (Or.inl ⟨by kernel_rfl, ?_⟩) (by assumption) ?_
                    rotate_left
                    · intro w hSw; (try dsimp only at hSw); go_simp; (try with_reducible rfl)
                    (try simp only [Act.put, List.setIfInBounds_toArray, List.set_cons_zero, List.set_cons_succ])
                    refine take_l (i := 1) (v := ?_) rfl (by kernel_rfl) (by kernel_rfl) (by kernel_rfl) (fun _ _ _ h => h) (Or.inl ⟨by kernel_rfl, ?_⟩) (by assumption) ?_
                    rotate_left
                    · intro w hSw; (try dsimp only at hSw); go_simp; (try with_reducible rfl)
                    (try simp only [Act.put, List.setIfInBounds_toArray, List.set_cons_zero, List.set_cons_succ])
                    refine take_l (i := 2) (v := ?_) rfl (by kernel_rfl) (by kernel_rfl) (by kernel_rfl) (fun _ _ _ h => h) (Or.inl ⟨by kernel_rfl, ?_⟩) (by assumption) ?_
                    rotate_left
                    · intro w hSw; (try dsimp only at hSw); go_simp; (try with_reducible rfl)
                    (try simp only [Act.put, List.setIfInBounds_toArray, List.set_cons_zero, List.set_cons_succ])
                    refine take_l (i := 3) (v := ?_) rfl (by kernel_rfl) (by kernel_rfl) (by kernel_rfl) (fun _ _ _ h => h) (Or.inl ⟨by kernel_rfl, ?_⟩) (by assumption) ?_
                    rotate_left
                    · intro w hSw; (try dsimp only at hSw); go_simp; (try with_reducible rfl)
                    (try simp only [Act.put, List.setIfInBounds_toArray, List.set_cons_zero, List.set_cons_succ])
                    refine take_l (i := 4) (v := ?_) rfl (by kernel_rfl) (by kernel_rfl) (by kernel_rfl) (fun _ _ _ h => h) (Or.inl ⟨by kernel_rfl, ?_⟩) (by assumption) ?_
                    rotate_left
                    · intro w hSw; (try dsimp only at hSw); go_simp; (try with_reducible rfl)
                    (try simp only [Act.put, List.setIfInBounds_toArray, List.set_cons_zero, List.set_cons_succ])
                    refine take_l (i := 5) (v := ?_) rfl (by kernel_rfl) (by kernel_rfl) (by kernel_rfl) (fun _ _ _ h => h) (Or.inl ⟨by kernel_rfl, ?_⟩) (by assumption) ?_
                    rotate_left
                    · intro w hSw; (try dsimp only at hSw); go_simp; (try with_reducible rfl)
                    (try simp only [Act.put, List.setIfInBounds_toArray, List.set_cons_zero, List.set_cons_succ])
                    refine take_l (i := 6) (v := ?_) rfl (by kernel_rfl) (by kernel_rfl) (by kernel_rfl) (fun _ _ _ h => h) (Or.inl ⟨by kernel_rfl, ?_⟩) (by assumption) ?_
                    rotate_left
                    · intro w hSw; (try dsimp only at hSw); go_simp; (try with_reducible rfl)
                    (try simp only [Act.put, List.setIfInBounds_toArray, List.set_cons_zero, List.set_cons_succ])
                    refine take_l (i := 7) (v := ?_) rfl (by kernel_rfl) (by kernel_rfl) (by kernel_rfl) (fun _ _ _ h => h) (Or.inl ⟨by kernel_rfl, ?_⟩) (by assumption) ?_
                    rotate_left
                    · intro w hSw; (try dsimp only at hSw); go_simp; (try with_reducible rfl)
                    (try simp only [Act.put, List.setIfInBounds_toArray, List.set_cons_zero, List.set_cons_succ])
                    refine take_l (i := 8) (v := ?_) rfl (by kernel_rfl) (by kernel_rfl) (by kernel_rfl) (fun _ _ _ h => h) (Or.inl ⟨by kernel_rfl, ?_⟩) (by assumption) ?_
                    rotate_left
                    · intro w hSw; (try dsimp only at hSw); go_simp; (try with_reducible rfl)
                    (try simp only [Act.put, List.setIfInBounds_toArray, List.set_cons_zero, List.set_cons_succ])
                    refine take_l (i := 9) (v := ?_) rfl (by kernel_rfl) (by kernel_rfl) (by kernel_rfl) (fun _ _ _ h => h) (Or.inl ⟨by kernel_rfl, ?_⟩) (by assumption) ?_
                    rotate_left
                    · intro w hSw; (try dsimp only at hSw); go_simp; (try with_reducible rfl)
                    (try simp only [Act.put, List.setIfInBounds_toArray, List.set_cons_zero, List.set_cons_succ])
                    refine wpAnyH_ready (rs := [10]) (by kernel_rfl) (by simp) ?_
                    refine ready_l rfl (fun K hK => ?_) AllReadyH.nil
                    go_simp
                    refine hbt2.out.mono ?_
                    rintro e w8 ⟨rfl, hb8⟩
                    refine hK.out _ _ (by exact ⟨(hb8.cell (p := ⟨b', _, none⟩) hbl').trans v0, (hb8.cell (p := ⟨b', _, none⟩) hbl').trans v1, (hb8.cell (p := ⟨b', _, none⟩) hbl').trans v2, (hb8.cell (p := ⟨b', _, none⟩) hbl').trans v3, (hb8.cell (p := ⟨bx, _, none⟩) hlxd).trans d0, (hb8.cell (p := ⟨bx, _, none⟩) hlxd).trans d1, (hb8.cell (p := ⟨bx, _, none⟩) hlxd).trans d2, (hb8.cell (p := ⟨bx, _, none⟩) hlxd).trans d3⟩) (fun hHeld2 => ?_)
                    clear hK K hHeld
                    (try simp only [Act.put, List.setIfInBounds_toArray, List.set_cons_zero, List.set_cons_succ])
                    refine take_l (i := 11) (v := ?_) rfl (by kernel_rfl) (by kernel_rfl) (by kernel_rfl) (fun _ _ _ h => h) (Or.inl ⟨by kernel_rfl, ?_⟩) (by assumption) ?_
                    rotate_left
                    · intro w hSw; (try dsimp only at hSw); go_simp; (try with_reducible rfl)
                    (try simp only [Act.put, List.setIfInBounds_toArray, List.set_cons_zero, List.set_cons_succ])
                    refine take_l (i := 12) (v := ?_) rfl (by kernel_rfl) (by kernel_rfl) (by kernel_rfl) (fun _ _ _ h => h) (Or.inl ⟨by kernel_rfl, ?_⟩) (by assumption) ?_
                    rotate_left
                    · intro w hSw; (try dsimp only at hSw); go_simp; (try with_reducible rfl)
                    (try simp only [Act.put, List.setIfInBounds_toArray, List.set_cons_zero, List.set_cons_succ])
                    refine wpAnyH_done (by kernel_rfl) ?_ _
                    clear hHeld2 hbt2 d0 d1 d2 d3 v0 v1 v2 v3
                    have hbn := Lib.hid (hbd.out.trans (hb8.mono hbd.out.size))
                    go_wp2_with fail
                    exact ⟨⟨k + 1, bb, by omega, rfl, rfl, hn, hbn⟩, by simp [intOf]; omega⟩
                · have hkno : decide ((k : Int) < (zc.length : Int)) = false := decide_eq_false (by omega)
                  obtain rfl : fb = true := by
                    obtain ⟨j, hj, hjb⟩ := hvi.out
                    exact hf.out j (by omega) hjb
                  have hbn := Lib.hid (hb15.out.trans (hbr.out.mono hb15.out.size))
                  clear x0 x1 x2 x3
                  go_wp2_with fail
                  exact ⟨⟨i + 1, by omega, rfl, hbn⟩, by simp [intOf]; omega⟩
        · have hno : decide ((i : Int) < (za.length : Int)) = false := decide_eq_false (by omega)
          have hbn := Lib.hid (hb.out.trans (hbr.out.mono hb.out.size))
          go_wp2_with fail
          go_ret
          exact ⟨rfl, hbn.out⟩
end Go.Proofs.YtpeandbcdaikbaaGreatDoor
namespace Go.Proofs.YtpeandbcdaikbaaGreatDoor.routeExpired
open Go.ChangeShapes Go.WideShapes Go.ChangeAt Go.RowKit
open Go.ChangeMaps (open_string)

set_option maxRecDepth 100000 in
set_option maxHeartbeats 1000000 in
theorem lifted (os : Os) (started : os.Started) (H : Type) (enc : TypeId × Value → H) :
    ReturnsInHanded {} Tryz.checked os 7 .any (fun w args => (Rows.routeExpiredSpec.pre enc Tryz.prog Tryz.f7 [] false w args ∧ laidMetH Tryz.prog laid11 w) ∧ sizedMet enc Tryz.prog Tryz.f7 (OpenSpec.ofChange Rows.routeExpiredSpec) false w args)
      (Rows.routeExpiredSpec.post enc Tryz.prog Tryz.f7 false true false false) := by
  refine lift_shaped (C := Tryz.checked) (X := fun w => laidMetH Tryz.prog laid11 w) (fun _ _ hh h => h.of_heap hh) own started (by kernel_rfl) Tryz.func7
    (ChangeSpec.witness_shaped (enc := enc) (C := Tryz.checked) (os := os) (X := fun w _ => laidMetH Tryz.prog laid11 w) false (World.laidAll Tryz.prog os laid11) #[.agg #[.slice none 0 0, .slice none 0 0, .int .i64 0, .int .i64 0, .int .i64 0], .int .i64 0] 8 (World.laidAll_os _ _ _) (shape11 os) (by kernel_rfl) (by kernel_rfl) (by kernel_rfl) (door_met11 os _)) ?_
  intro W base args ds gs before hval0 hW hL hsh
  have hval : ∀ (j : Nat) t v, Tryz.f7.params[j]? = some t → args[j]? = some v → Value.okWide Tryz.prog W .any base t v := hval0
  have hW' := hW
  obtain ⟨p, q, hA0, hV, rfl, hfz, hnd⟩ := hW
  have hA : DataW.TrodAll enc Tryz.prog W 0 (fun _ => true) true Tryz.f7.params.toList args.toList ds p := hA0
  have hAk := hA
  rw [Tryz.params7] at hA hval
  obtain ⟨v0, vs0, d0, ds0, p0, q0, hargs, rfl, rfl, h0, r0⟩ := trodAll_cons hA
  obtain ⟨v1, vs1, d1, ds1, p1, q1, rfl, rfl, rfl, h1, r1⟩ := trodAll_cons r0
  obtain ⟨rfl, rfl, rfl⟩ := trodAll_nil r1
  obtain rfl : args = #[v0, v1] := by cases args; simp_all
  obtain ⟨rfl, rfl⟩ := trodVars_none hV
  obtain ⟨n0, z0, k0, f0, d0_, p0_, e0, g0, s0⟩ := open_case (hval 0 25 v0 rfl rfl) h0
  obtain ⟨a1, rfl, rfl, _, w1⟩ := open_int Tryz.underlying3 (hval 1 3 v1 rfl rfl) h1
  clear hA0 hval0
  refine (Expired_law v0 n0 z0 k0 f0 d0_ p0_ e0 g0 a1 W s0 (I64.of_wf w1)).mono fun e W' ⟨he, hg⟩ => ?_
  subst he
  have hlt := DataW.TrodAll.lt hAk
  exact ⟨_, rfl, post_of_below (pa := _) (pv := []) hW' (fun _ _ _ => (trodAll_cons_mk (shut_bool Tryz.underlying4 _) trodAll_mk0)) (fun sp hsp => trodAll_stay Tryz.kids Tryz.full (by rw [Tryz.params7]; decide) hAk (fun x hx => sameAt_below hg (hlt x hx)) (fun x hx => hsp x (List.mem_append_left _ hx))) (fun _ _ => rfl) rfl hg (ok_one (by kernel_rfl) rfl (okWide_bool_mk Tryz.underlying4 _))⟩

theorem row_holds : Rows.RouteExpiredSaid :=
  OpenClaim.holds_of_wide 7 Tryz.f7 rfl rfl rfl rfl rfl rfl rfl ⟨rfl, rfl, rfl, rfl, rfl⟩ rfl rfl rfl rfl rfl (by kernel_rfl) Tryz.func7 (by kernel_rfl)
    (of_decide_eq_true (by kernel_rfl)) (by unfold Func.isWrapper; first | (rw [if_pos (by decide +kernel)]; kernel_rfl) | (rw [if_neg (by decide +kernel)]; exact ⟨rfl, rfl⟩))
    (fun os started H enc _ => lifted os started H enc)

/-- THE TIED CARD. -/
theorem card_holds : Rows.RouteExpiredCardSaid :=
  Claim7.holds_tied_plain_at .later [] [.data, .pinned, .pinned] true Rows.routeExpiredCard.stood.harness false
    row_holds (fun _ h => by cases h) (by kernel_rfl) (fun _ h => by cases h) routeExpired_row_tie rfl ⟨rfl, rfl⟩ (by kernel_rfl) rfl
    (fun f fn hf hfn => by
      obtain rfl : f = 7 := Option.some.inj ((show Tryz.prog.funcNamed "evergreen/evergreenlaw11.RouteExpired" = some 7 by kernel_rfl).symm.trans hf) |>.symm
      obtain rfl : fn = Tryz.f7 := (Option.some.inj (Tryz.func7.symm.trans hfn)).symm
      exact ⟨by kernel_rfl, fun j t ht => by
        rw [Tryz.params7] at ht
        have hm : t ∈ [25, 3] := by simpa using Array.mem_of_getElem? ht
        have hall : ([25, 3].all fun u => !Tryz.prog.wantsStandIn u) = true := by kernel_rfl
        exact (show Tryz.prog.wantsStandIn t = false by simpa using List.all_eq_true.1 hall t hm)⟩)
    (by kernel_rfl)
#print axioms card_holds
end Go.Proofs.YtpeandbcdaikbaaGreatDoor.routeExpired
