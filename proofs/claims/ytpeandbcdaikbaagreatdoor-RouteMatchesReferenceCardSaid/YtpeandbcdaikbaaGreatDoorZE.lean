/-
 Routes of chapter 11: the reference's Of.
-/
import Derived.Test.YtpeandbcdaikbaaGreatDoorZD
import Derived.Test.YtpeandbcdaikbaaGreatDoorYV
open List (setIfInBounds_toArray set_cons_zero set_cons_succ)
namespace Go.Proofs.YtpeandbcdaikbaaGreatDoor
open Go.RowKit Go.Shelf Go.Maps

attribute [local go_sem] Oper.semAt_some

/-- Claims that lie apart from a block. -/
structure ClX (g : Nat) (w : World) (v : Value) (l : Clms) (vs : List Value) : Prop where
 len : vs.length = l.length
 row : RowT w 59 v l.length (clC l vs)
 apart : ∀ b o n c, v = .slice (some ⟨b, o, none⟩) n c → b ≠ g
 steps : ∀ i, i < l.length → StepsT w vs[i]! l[i]!.2
theorem ClX.later {g : Nat} {w w' : World} {v : Value} {l : Clms} {vs : List Value} (h : ClX g w v l vs) (hb : Below w.heap.size w w') : ClX g w' v l vs :=
 ⟨h.len, h.row.below hb, h.apart, fun i hi => StepsT.belowR (h.steps i hi) hb⟩
theorem ClX.at {g : Nat} {w : World} {v : Value} {l : Clms} {vs : List Value} (h : ClX g w v l vs) : ClaimsAt w w.heap.size v l := ClaimsT.at (T := 59) ⟨vs, h.len, h.row, h.steps⟩
theorem ClX.set {g : Nat} {w : World} {v : Value} {l : Clms} {vs : List Value} (h : ClX g w v l vs) {L : List Value} (hA : Arr w g 59 L ∨ ∃ B n cap xs, w.ownsRow B 59 2 (.slice (some ⟨g, 0, none⟩) n cap) n xs) (o : Nat) (u : Value) : ClX g (w.setCell ⟨g, o, none⟩ u) v l vs := by
 have hk : KeepTy [59] w (w.setCell ⟨g, o, none⟩ u) := by
  rcases hA with hA | ⟨B, n, cap, xs, hO⟩
  ·
   exact KeepTy.setArr hA (by decide)
  ·
   exact KeepTy.grown hO (hO.stored o u).2 (by decide)
 refine ⟨h.len, ?_, h.apart, fun i hi => RowT.keepTy (h.steps i hi) (by decide) hk⟩
 obtain ⟨a, cap, e, h1, h2, hc⟩ := h.row
 refine ⟨a, cap, e, h1, h2, fun hp => ?_⟩
 obtain ⟨b, o', cur, fz, rfl, hb, hx⟩ := hc hp
 exact ⟨b, o', cur, fz, rfl, (Below.heap_setCell w ⟨g, o, none⟩ u b (h.apart b o' _ _ e)).trans hb, hx⟩
theorem of_long {l : List Edg} {life : List Int} {frm day : Int} {es : List Int} (h : ¬es.length ≤ 6) : ofP l life frm day es = none := by
 cases ho : ofP l life frm day es with
 | none => rfl
 | some r => exact absurd (of_facts ho).2.2.2.2.2.2.1 h
theorem ons_cost {l : List Edg} (hv : validE l = true) {day frm : Int} {es : List Int} {x : Way} (h : onsP l day (beginP frm) es = some x) : 0 ≤ x.rou.cost ∧ x.rou.cost ≤ 1000000 * (es.length : Int) := by
 obtain ⟨_, _, h3, h4, _⟩ := ons_facts es h
 rw [h3]
 have := sum_bound (fun e => l[e.toNat]!.cost) es fun e hx => by
  have he := h4 e hx
  exact (ok_parts ((validE_parts hv).2 l[e.toNat]! (by rw [getElem!_pos l e.toNat (by omega)]; exact List.getElem_mem _))).1
 show 0 ≤ (0 : Int) + _ ∧ (0 : Int) + _ ≤ _
 omega
set_option maxRecDepth 100000 in
set_option maxHeartbeats 16000000 in
theorem Of11_any (l : List Edg) (life : List Int) (frm day : Int) (es : List Int) (ev lv xv : Value) (w : World) (hE : EdgesAt w w.heap.size ev l) (hL : NumsAt w w.heap.size lv life) (hx : NumsAt w w.heap.size xv es) :
  Calls Tryz.prog 18 #[ev, lv, .int .i64 frm, .int .i64 day, xv] w fun e w' => ∃ ea ec ca cc r, e = .returned (.tuple #[.agg #[.slice ea r.edges.length ec, .int .i64 r.cost, .int .i64 r.life, .slice ca r.claims.length cc], .int .i64 (ofE (ofP l life frm day es))]) ∧ r = (ofP l life frm day es).getD zeroRou ∧ OkR ⟨r, .slice ea r.edges.length ec, .slice ca r.claims.length cc⟩ w' ∧ Below w.heap.size w w' := by
 obtain ⟨i0, hi_, hz0, hz1, hz2⟩ := info_parts Tryz.info_int
 obtain ⟨c0, hc_, hy0, hy1, hy2⟩ := info_parts Tryz.info_claim
 replace hi_ := Lib.hid hi_
 replace hc_ := Lib.hid hc_
 have hcell := Lib.hid fun i (hi : i < l.length) => EdgesAt.cells hE hi
 have hnum := Lib.hid fun i (hi : i < es.length) => NumsAt.cells hx hi
 have hLw := Lib.hid fun W (hW : Below w.heap.size w W) => NumsAt.later hL hW
 have hxw := Lib.hid fun W (hW : Below w.heap.size w W) => NumsAt.later hx hW
 obtain ⟨W, hW⟩ : ∃ W, W = w.alloc (.cells #[.slice none 0 0, .int .i64 0, .int .i64 0, .slice none 0 0] 33) := ⟨_, rfl⟩
 have hA : Arr W w.heap.size 33 [.slice none 0 0, .int .i64 0, .int .i64 0, .slice none 0 0] := by rw [hW]; exact Arr.new rfl rfl
 have hbW : Below w.heap.size w W := by rw [hW]; exact (Below.refl _ _).alloc (Nat.le_refl _) _
 have hva := Lib.hid (Valid11_any _ l W (hE.later hbW))
 obtain ⟨_, _, ⟨pa, pc, rfl, _, hpm, _⟩, _⟩ := hE
 obtain ⟨la, lc, rfl, _, _, _⟩ := hL
 obtain ⟨xa, xc, rfl, _, hem, _⟩ := hx
 obtain ⟨R, hR⟩ : ∃ R, ofP l life frm day es = R := ⟨_, rfl⟩
 have hofP : R = if validE l then (onsP l day (beginP frm) es).bind (arrivedP life day) else none := by rw [← hR]; rfl
 have hlong := Lib.hid fun h => hR.symm.trans (of_long (l := l) (life := life) (frm := frm) (day := day) (es := es) h)
 rw [hR]
 clear hR
 go_enter Tryz.func18, Tryz.ntmps18
 go_upto_region 1 with fail
 rw [← hW]
 clear hW
 go_wp2_with fail
 refine hva.out.mono ?_
 clear hva
 rintro e w1 ⟨rfl, hb1⟩
 have hbw1 := hbW.trans (hb1.mono hbW.size)
 have hA1 := Lib.hid (hA.below hb1)
 clear hA hbW hb1
 cases hv : validE l with
 | false =>
  obtain rfl : R = none := by rw [hofP, hv]; rfl
  clear hofP hlong
  replace hbw1 := Lib.hid hbw1
  replace hv := Lib.hid hv
  go_wp2_with (refine arr_store rfl 33 _ _ rfl w.heap.size rfl (vs := [.slice none 0 0, .int .i64 0, .int .i64 0, .slice none 0 0]) rfl hA1.out (n := 4) (by kernel_rfl) rfl rfl rfl ?_)
  refine bodyPost_ret (arr_result2 (p := 10) (ty := 33) (u := 11) (n := 4) (by kernel_rfl) _ (hA1.out.setAll (vs := [.slice none 0 0, .int .i64 0, .int .i64 0, .slice none 0 0]) rfl) rfl Tryz.underlying33 rfl (by kernel_rfl) rfl) rfl ?_
  exact ⟨none, 0, none, 0, zeroRou, rfl, rfl, zeroM_ok _, Below.setCells _ _ _ _ hbw1.out (Nat.le_refl _)⟩
 | true =>
  rw [hv, if_pos rfl] at hofP
  replace hofP := Lib.hid hofP
  by_cases h6 : es.length ≤ 6
  rotate_left
  ·
   have d1 : decide ((es.length : Int) > 6) = true := decide_eq_true (by omega)
   have d2 : decide ((6 : Int) < (es.length : Int)) = true := decide_eq_true (by omega)
   have d3 : decide (6 < es.length) = true := decide_eq_true (by omega)
   obtain rfl : R = none := hlong.out h6
   replace hbw1 := Lib.hid hbw1
   replace h6 := Lib.hid h6
   replace hv := Lib.hid hv
   go_wp2_with (refine arr_store rfl 33 _ _ rfl w.heap.size rfl (vs := [.slice none 0 0, .int .i64 0, .int .i64 0, .slice none 0 0]) rfl hA1.out (n := 4) (by kernel_rfl) rfl rfl rfl ?_)
   refine bodyPost_ret (arr_result2 (p := 10) (ty := 33) (u := 11) (n := 4) (by kernel_rfl) _ (hA1.out.setAll (vs := [.slice none 0 0, .int .i64 0, .int .i64 0, .slice none 0 0]) rfl) rfl Tryz.underlying33 rfl (by kernel_rfl) rfl) rfl ?_
   exact ⟨none, 0, none, 0, zeroRou, rfl, rfl, zeroM_ok _, Below.setCells _ _ _ _ hbw1.out (Nat.le_refl _)⟩
  ·
   have d1 : decide ((es.length : Int) > 6) = false := decide_eq_false (by omega)
   have d2 : decide ((6 : Int) < (es.length : Int)) = false := decide_eq_false (by omega)
   have d3 : decide (6 < es.length) = false := decide_eq_false (by omega)
   clear hlong
   have hba : Below w1.heap.size w1 (w1.alloc (.cells #[] 3)) := (Below.refl _ _).alloc (Nat.le_refl _) _
   have hsrc : Hid (SliceAt (w1.alloc (.cells #[] 3)) (w1.alloc (.cells #[] 3)).heap.size (.slice xa es.length xc) es.length (ints es)) := SliceAt.later (hxw.out w1 hbw1) hba
   have hone := Lib.hid (ints_one es)
   have hil : Hid ((ints es).length = es.length * 1) := (show (ints es).length = es.length * 1 by rw [ints_len]; omega)
   replace hba := Lib.hid hba
   replace hv := Lib.hid hv
   replace hbw1 := Lib.hid hbw1
   go_upto_region 4 with (at_builtin; refine wpList_append_src rfl _ _ 23 rfl w1.heap.size 3 i0 (.int .i64 0) 1 8 Tryz.underlying23 hi_.out hz0 hz1 hz2 rfl (by decide) _ _ _ rfl (World.ownsRow_made w1 #[] 0 (Nat.le_refl _) (Nat.zero_le _) (by simp)) _ es.length _ (ints es) rfl hsrc.out hil.out hone.out ?qa ?qb ?qc ?_)
   case qa => unfold maxLen; omega
   case qb => omega
   all_goals (try (case qc => simp))
   intro ev2 wE hown hgrow
   replace hown : wE.ownsRow w1.heap.size 3 1 ev2 es.length (ints es) := by simpa using hown
   have hbx : Below w1.heap.size w1 wE := hba.out.grown hgrow (by simp) (by intro k hk; simp [Value.ownBlock] at hk; omega)
   have hes : Hid (NumsT wE ev2 es) := RowT.of_own hown
   obtain ⟨ea, ec, rfl⟩ := own_val hown
   have hAE := Lib.hid (hA1.out.below hbx)
   have hbE := Lib.hid (hbw1.out.trans (hbx.mono hbw1.out.size))
   clear hown hgrow hbx hba hsrc hone hil hA1 hbw1 d1 d2 d3
   obtain ⟨w4, hw4⟩ : ∃ w4, w4 = wE.alloc (.cells #[.slice ea es.length ec, .int .i64 0, .int .i64 0, .slice none 0 0] 33) := ⟨_, rfl⟩
   have hB4 : Arr w4 wE.heap.size 33 [.slice ea es.length ec, .int .i64 0, .int .i64 0, .slice none 0 0] := by rw [hw4]; exact Arr.new rfl rfl
   have hb4 : Below wE.heap.size wE w4 := by rw [hw4]; exact lit_below _ _
   have hs4 : w4.heap.size = wE.heap.size + 1 := by rw [hw4]; simp
   obtain ⟨w5, hw5⟩ : ∃ w5, w5 = w4.alloc (.cells #[.int .i64 frm] 3) := ⟨_, rfl⟩
   have hb5 : Below w4.heap.size w4 w5 := by rw [hw5]; exact lit_below _ _
   have hF5 : w5.ownsRow (wE.heap.size + 1) 3 1 (.slice (some ⟨wE.heap.size + 1, 0, none⟩) 1 1) 1 (ints [frm]) := by
    rw [hw5, ← hs4]
    exact World.ownsRow_lit w4 #[.int .i64 frm] 1 (Nat.le_refl _) (by unfold maxLen; omega) rfl
   have hst : Hid (∃ cv us, OfI wE w5 ea es.length ec 0 (.slice (some ⟨wE.heap.size + 1, 0, none⟩) 1 1) cv [frm] (zeroC.take 0) us) := ⟨.slice none 0 0, [], hb4.trans (hb5.mono hb4.size), hB4.below hb5, hF5, ⟨rfl, World.ownsRow_nil _ _ _ _, fun i hi => absurd hi (by simp)⟩⟩
   clear hB4 hb4 hb5 hF5
   go_upto_region 4 with fail
   rw [← hw4]
   rw [← hs4] at hst
   replace hs4 := Lib.hid hs4
   clear hw4
   go_upto_region 5 with fail
   rw [← hw5]
   clear hw5
   try rw [hs4.out]
   try rw [hs4.out] at hst
   go_wp2_with fail
   go_loopw [14] (fun iv wr => ∃ i : Nat, i ≤ 8 ∧ iv = .int .i64 ((i : Int) + 1) ∧ Hid (∃ cv us, OfI wE wr ea es.length ec 0 (.slice (some ⟨wE.heap.size + 1, 0, none⟩) 1 1) cv [frm] (zeroC.take i) us)) (fun iv _ => 9 - (intOf iv).toNat)
   case atStart => exact ⟨0, by omega, by first | rfl | go_num, hst⟩
   case round =>
    obtain ⟨i, hi8, rfl, hall⟩ := hrel
    clear hst
    obtain ⟨cv, us, hI⟩ := hall.out
    clear hall
    by_cases hlt : i < 8
    ·
     have htk := zeroC_at hlt
     have hlen : (zeroC.take i).length = i := by rw [List.length_take]; show min i 8 = i; omega
     have c3 := hI.box.cell (j := 3) rfl
     have hw1 : IntKind.i64.wrap ((i : Int) + 1 + 1) = (i : Int) + 1 + 1 := IntWalk.i64_in _ (by omega)
     have hle : decide ((i : Int) + 1 ≤ 8) = true := decide_eq_true (by omega)
     have hba := lit_below wr (.cells #[.int .i64 ((i : Int) + 1), .slice none 0 0] 59)
     have hI3 := hI.later hba
     have hown3 := hI3.cl.own
     rw [hlen] at hown3
     have hnews : ∀ j x, [Value.int .i64 ((i : Int) + 1), .slice none 0 0][j]? = some x → (wr.alloc (.cells #[.int .i64 ((i : Int) + 1), .slice none 0 0] 59)).cell? ((⟨wr.heap.size, 0, none⟩ : Addr).add j) = some x := fun j x hx => cells_new wr [.int .i64 ((i : Int) + 1), .slice none 0 0] 59 j x hx
     have hsz : Hid (wE.heap.size + 1 ≤ wr.heap.size) := hI.box.lt
     obtain ⟨cx, cn, cc, rfl⟩ : ∃ x n c, cv = .slice x n c := by
      obtain ⟨x, c, h⟩ := own_val hI.cl.own
      exact ⟨x, _, c, h⟩
     replace hown3 := Lib.hid hown3
     replace hI3 := Lib.hid hI3
     replace htk := Lib.hid htk
     replace hlen := Lib.hid hlen
     clear hba hI
     go_wp2_with (at_builtin; refine wpList_append_own _ rfl _ _ 31 rfl (wE.heap.size + 1) 59 c0 (.agg #[.int .i64 0, .slice none 0 0]) 2 32 Tryz.underlying31 hc_.out hy0 hy1 hy2 rfl (by decide) _ i _ rfl hown3.out ⟨wr.heap.size, 0, none⟩ 1 1 [.int .i64 ((i : Int) + 1), .slice none 0 0] rfl rfl hnews (by simp [Value.oneCell']) ?qa ?qb ?qc ?_)
     case qa => unfold maxLen; omega
     case qb => omega
     case qc => have := hsz.out; (try simp only [World.size_alloc]); omega
     intro cv2 w6 hown4 hgrow hnil
     obtain ⟨hbx, hI6⟩ := hI3.out.addC ((i : Int) + 1) [] (.slice none 0 0) (StepsT.nil _ none 0 (Nat.zero_le _)) (by rw [hlen.out]; exact hown4) hgrow
     rw [← htk.out] at hI6
     obtain ⟨g', cap', rfl⟩ := ownsRow_succ hown4
     have c3n := hbx.cell (j := 3) rfl
     have f3n := hbx.free 3
     have hkk : Hid (∃ cv us, OfI wE (w6.setCell ⟨wE.heap.size, 3, none⟩ (.slice (some ⟨g', 0, none⟩) (i + 1) cap')) ea es.length ec 0 (.slice (some ⟨wE.heap.size + 1, 0, none⟩) 1 1) cv [frm] (zeroC.take (i + 1)) us) := ⟨_, _, hI6⟩
     clear hown4 hgrow hnil hown3 hI3 hI6 hnews hsz c3
     replace hbx := Lib.hid hbx
     go_wp2_with fail
     exact ⟨⟨i + 1, by omega, by first | rfl | go_num, hkk⟩, by simp [intOf]; omega⟩
    ·
     obtain rfl : i = 8 := by omega
     have hle : decide (((8 : Nat) : Int) + 1 ≤ 8) = false := by decide
     have h8 : zeroC.take 8 = zeroC := rfl
     rw [h8] at hI
     have hst : Hid (∃ x, onsP l day (beginP frm) (es.take 0) = some x ∧ ∃ cv us, OfI wE wr ea es.length ec x.rou.cost (.slice (some ⟨wE.heap.size + 1, 0, none⟩) 1 1) cv x.formats x.rou.claims us) := ⟨beginP frm, rfl, cv, us, hI⟩
     clear hI h8
     go_wp2_with fail
     (try rw [show ((8 : Nat) : Int) + 1 = 9 from rfl])
     go_loopw [13, 15] (fun fv iv wr => ∃ i : Nat, i ≤ es.length ∧ iv = .int .i64 (i : Int) ∧ Hid (∃ x, onsP l day (beginP frm) (es.take i) = some x ∧ ∃ cv us, OfI wE wr ea es.length ec x.rou.cost fv cv x.formats x.rou.claims us)) (fun _ iv _ => es.length - (intOf iv).toNat)
     case atStart => exact ⟨0, Nat.zero_le _, rfl, hst⟩
     case round =>
      obtain ⟨wo, hwo⟩ : ∃ wo, wo = wr := ⟨_, rfl⟩
      subst hwo
      obtain ⟨i, hi, rfl, hall⟩ := hrel
      clear hst
      obtain ⟨x, hons, cv, us, hI⟩ := hall.out
      clear hall
      obtain ⟨hfl, hlast⟩ := ons_last hons
      have htl : (es.take i).length = i := by rw [List.length_take]; omega
      rw [htl] at hfl hlast
      obtain ⟨hcl8, hkey⟩ := begin_keys hons
      have hcost := ons_cost hv.out hons
      rw [htl] at hcost
      obtain ⟨gf, fcap, rfl⟩ := own_slice hI.fmt (by omega)
      obtain ⟨gc, ccap, rfl⟩ := own_slice hI.cl.own (by omega)
      have hxlen := (ons_facts _ hons).1
      have hbo := Lib.hid (hbE.out.trans (hI.below.mono hbE.out.size))
      have hAo := Lib.hid (hAE.out.below hI.below)
      by_cases hlt : i < es.length
      ·
       have hyes : decide ((i : Int) < (es.length : Int)) = true := decide_eq_true (by omega)
       have hw1 : IntKind.i64.wrap ((i : Int) + 1) = (i : Int) + 1 := IntWalk.i64_in _ (by omega)
       have k0 : (0 : Int) ≤ (i : Int) := by omega
       have k1 : (i : Int) < (es.length : Int) := by omega
       obtain ⟨b, o, cap, hq, hbl, xe⟩ := hnum.out i hlt
       cases hq
       have xe' := (hbo.out.cell (p := ⟨b, o + i, none⟩) hbl).trans xe
       have hnx := ons_next hlt hons
       generalize es[i]! = ed at xe xe' hnx
       clear xe
       have hw2 : IntKind.i64.wrap ((l.length : Int) - 1) = (l.length : Int) - 1 := IntWalk.i64_in _ (by unfold maxLen at hpm; omega)
       have hnone : onP l day x ed = none → R = none := fun h => by rw [hofP.out, ons_none (i := i + 1) (hnx.trans h)]; rfl
       replace hnone := Lib.hid hnone
       replace hnx := Lib.hid hnx
       replace hons := Lib.hid hons
       replace hlast := Lib.hid hlast
       replace hfl := Lib.hid hfl
       replace hkey := Lib.hid hkey
       replace hcl8 := Lib.hid hcl8
       replace htl := Lib.hid htl
       replace hxlen := Lib.hid hxlen
       replace hI := Lib.hid hI
       by_cases hin : 0 ≤ ed ∧ ed ≤ (l.length : Int) - 1
       rotate_left
       ·
        have hwi := within11_any ed 0 ((l.length : Int) - 1) false (by rw [← Bool.decide_and]; exact (decide_eq_false hin).symm) wo
        replace hwi := Lib.hid hwi
        obtain rfl : R = none := hnone.out (onP_none (by omega))
        replace hin := Lib.hid hin
        go_wp2_with fail
        refine hwi.out.mono ?_
        rintro e wq ⟨rfl, rfl⟩
        go_wp2_with (refine arr_store rfl 33 _ _ rfl w.heap.size rfl (vs := [.slice none 0 0, .int .i64 0, .int .i64 0, .slice none 0 0]) rfl hAo.out (n := 4) (by kernel_rfl) rfl rfl rfl ?_)
        refine bodyPost_ret (arr_result2 (p := 10) (ty := 33) (u := 11) (n := 4) (by kernel_rfl) _ (hAo.out.setAll (vs := [.slice none 0 0, .int .i64 0, .int .i64 0, .slice none 0 0]) rfl) rfl Tryz.underlying33 rfl (by kernel_rfl) rfl) rfl ?_
        exact ⟨none, 0, none, 0, zeroRou, rfl, rfl, zeroM_ok _, Below.setCells _ _ _ _ hbo.out (Nat.le_refl _)⟩
       ·
        have hwi := within11_any ed 0 ((l.length : Int) - 1) true (by rw [decide_eq_true hin.1, decide_eq_true hin.2]; rfl) wo
        replace hwi := Lib.hid hwi
        obtain ⟨k, rfl⟩ : ∃ k : Nat, ed = (k : Int) := ⟨ed.toNat, by omega⟩
        have hk : k < l.length := by omega
        have q0 : (0 : Int) ≤ (k : Int) := by omega
        have q1 : (k : Int) < (l.length : Int) := by omega
        replace hin := Lib.hid hin
        obtain ⟨b1, o1, cp1, u1, hv1, hbl1, z0, z1, z2, z3, z4, z5, z6, hkp⟩ := hcell.out k hk
        cases hv1
        have hkps := hkp
        obtain ⟨ku, kn, kc, rfl⟩ : ∃ a n c, u1 = .slice a n c := by
         obtain ⟨_, _, ⟨a, c, e, _⟩, _⟩ := hkps
         exact ⟨a, _, c, e⟩
        clear hkps
        replace z0 := (hbo.out.cell (p := ⟨b1, o1 + k * 7, none⟩) hbl1).trans z0
        replace z1 := (hbo.out.cell (p := ⟨b1, o1 + k * 7 + 1, none⟩) hbl1).trans z1
        replace z2 := (hbo.out.cell (p := ⟨b1, o1 + k * 7 + 2, none⟩) hbl1).trans z2
        replace z3 := (hbo.out.cell (p := ⟨b1, o1 + k * 7 + 3, none⟩) hbl1).trans z3
        replace z4 := (hbo.out.cell (p := ⟨b1, o1 + k * 7 + 4, none⟩) hbl1).trans z4
        replace z5 := (hbo.out.cell (p := ⟨b1, o1 + k * 7 + 5, none⟩) hbl1).trans z5
        replace z6 := (hbo.out.cell (p := ⟨b1, o1 + k * 7 + 6, none⟩) hbl1).trans z6
        have hpn : (∃ nx, onP l day x (k : Int) = some nx) ∨ onP l day x (k : Int) = none := by cases onP l day x (k : Int) <;> simp
        have hn2 := fun h => onP_none2 (l := l) (day := day) (x := x) (k := k) h
        have hos := fun n => on_some (l := l) (day := day) (w := x) (e := (k : Int)) (n := n)
        simp only [Int.toNat_natCast] at hos
        have hcc := (ok_parts ((validE_parts hv.out).2 l[k]! (by rw [getElem!_pos l k hk]; exact List.getElem_mem hk))).1
        have hvm := (ok_parts ((validE_parts hv.out).2 l[k]! (by rw [getElem!_pos l k hk]; exact List.getElem_mem hk))).2.2
        generalize hy : l[k]! = y at *
        obtain ⟨cost, until_, ⟨id, fr2, tg, back, keep⟩⟩ := y
        dsimp only at z0 z1 z2 z3 z4 z5 hkp hn2 hos hcc hvm
        replace hy := Lib.hid hy
        replace hos := Lib.hid hos
        replace hn2 := Lib.hid hn2
        replace hkp := Lib.hid hkp
        replace hpn := Lib.hid hpn
        replace hvm := Lib.hid hvm
        have EC_ : True := trivial
        clear EC_
        obtain ⟨w6, hw6⟩ : ∃ w6, w6 = wo.alloc (.cells #[.int .i64 cost, .int .i64 until_, .int .i64 id, .int .i64 fr2, .int .i64 tg, .bool back, .slice ku kn kc] 30) := ⟨_, rfl⟩
        have hX : Arr w6 wo.heap.size 30 [.int .i64 cost, .int .i64 until_, .int .i64 id, .int .i64 fr2, .int .i64 tg, .bool back, .slice ku kn kc] := by rw [hw6]; exact Arr.new rfl rfl
        have hb6 : Below wo.heap.size wo w6 := by rw [hw6]; exact lit_below _ _
        have hI6 := Lib.hid (hI.out.later hb6)
        have hbo6 := Lib.hid (hbo.out.trans (hb6.mono hbo.out.size))
        have hAo6 := Lib.hid (hAo.out.below hb6)
        clear hI hbo hAo hb6
        replace hX := Lib.hid hX
        go_upto_region 14 with (refine hwi.out.mono ?_; clear hwi; rintro e wq ⟨rfl, hwq⟩; rw [hwq]; clear hwq)
        go_upto_region 15 with fail
        rw [← hw6]
        clear hw6 z0 z1 z2 z3 z4 z5 z6
        have hFi : w6.cell? ⟨gf, i, none⟩ = some (.int .i64 x.formats[i]!) := by
         rw [hI6.out.fmt.cellAt i (by have := hfl.out; omega)]
         unfold ints
         rw [List.getElem?_map, List.getElem?_eq_getElem (by have := hfl.out; omega), getElem!_pos x.formats i (by have := hfl.out; omega)]
         rfl
        rw [← hlast.out] at hFi
        have q2 : (i : Int) < (x.formats.length : Int) := by have := hfl.out; omega
        generalize hla : x.last = la at *
        replace hla := Lib.hid hla
        have x0 := hX.out.cell (j := 0) rfl
        have x1 := hX.out.cell (j := 1) rfl
        have x2 := hX.out.cell (j := 2) rfl
        have x3 := hX.out.cell (j := 3) rfl
        have x4 := hX.out.cell (j := 4) rfl
        have x5 := hX.out.cell (j := 5) rfl
        have x6 := hX.out.cell (j := 6) rfl
        by_cases hf : fr2 = la
        rotate_left
        ·
         have f1 : (fr2 != la) = true := bne_iff_ne.2 hf
         have f2 : (fr2 == la) = false := beq_false_of_ne hf
         have f3 : decide (fr2 = la) = false := decide_eq_false hf
         obtain rfl : R = none := hnone.out (hn2.out (.inl hf))
         replace hf := Lib.hid hf
         go_quiet (fail)
         have hbz := Lib.hid (below_drewN hbo6.out nq)
         have hAz := Lib.hid (hAo6.out.drewN nq)
         go_wp2_with (refine arr_store rfl 33 _ _ rfl w.heap.size rfl (vs := [.slice none 0 0, .int .i64 0, .int .i64 0, .slice none 0 0]) rfl hAz.out (n := 4) (by kernel_rfl) rfl rfl rfl ?_)
         refine bodyPost_ret (arr_result2 (p := 10) (ty := 33) (u := 11) (n := 4) (by kernel_rfl) _ (hAz.out.setAll (vs := [.slice none 0 0, .int .i64 0, .int .i64 0, .slice none 0 0]) rfl) rfl Tryz.underlying33 rfl (by kernel_rfl) rfl) rfl ?_
         exact ⟨none, 0, none, 0, zeroRou, rfl, rfl, zeroM_ok _, Below.setCells _ _ _ _ hbz.out (Nat.le_refl _)⟩
        ·
         have f1 : (fr2 != la) = false := by rw [hf]; exact bne_self_eq_false _
         have f2 : (fr2 == la) = true := by rw [hf]; exact beq_self_eq_true _
         have f3 : decide (fr2 = la) = true := decide_eq_true hf
         by_cases hu : until_ < day
         ·
          have g1 : decide (until_ < day) = true := decide_eq_true hu
          obtain rfl : R = none := hnone.out (hn2.out (.inr (.inl hu)))
          replace hf := Lib.hid hf
          replace hu := Lib.hid hu
          go_quiet (fail)
          have hbz := Lib.hid (below_drewN hbo6.out nq)
          have hAz := Lib.hid (hAo6.out.drewN nq)
          go_wp2_with (refine arr_store rfl 33 _ _ rfl w.heap.size rfl (vs := [.slice none 0 0, .int .i64 0, .int .i64 0, .slice none 0 0]) rfl hAz.out (n := 4) (by kernel_rfl) rfl rfl rfl ?_)
          refine bodyPost_ret (arr_result2 (p := 10) (ty := 33) (u := 11) (n := 4) (by kernel_rfl) _ (hAz.out.setAll (vs := [.slice none 0 0, .int .i64 0, .int .i64 0, .slice none 0 0]) rfl) rfl Tryz.underlying33 rfl (by kernel_rfl) rfl) rfl ?_
          exact ⟨none, 0, none, 0, zeroRou, rfl, rfl, zeroM_ok _, Below.setCells _ _ _ _ hbz.out (Nat.le_refl _)⟩
         ·
          have g1 : decide (until_ < day) = false := decide_eq_false hu
          replace hf := Lib.hid hf
          replace hu := Lib.hid hu
          go_quiet (fail)
          obtain ⟨w7, hw7⟩ : ∃ w7, w7 = w6.drewN nq := ⟨_, rfl⟩
          have hb7 : Below w6.heap.size w6 w7 := by rw [hw7]; exact below_drewN (Below.refl _ _) nq
          rw [← hw7]
          clear hw7
          have hI7 := Lib.hid (hI6.out.later hb7)
          have hX7 := Lib.hid (hX.out.below hb7)
          have hbo7 := Lib.hid (hbo6.out.trans (hb7.mono hbo6.out.size))
          have hAo7 := Lib.hid (hAo6.out.below hb7)
          have hst : Hid (∀ q, q < 0 → x.formats[q]! ≠ tg) := fun q hq => absurd hq (Nat.not_lt_zero q)
          have hbk := Lib.hid (Below.refl w7.heap.size w7)
          clear hb7 hI6 hX hbo6 hAo6 hFi x0 x1 x2 x3 x4 x5 x6 f1 f2 f3 g1 q2
          go_wp2_with fail
          go_loopw [17] (fun jv wr => ∃ j : Nat, j ≤ x.formats.length ∧ jv = .int .i64 (j : Int) ∧ Hid (∀ q, q < j → x.formats[q]! ≠ tg) ∧ Hid (Below w7.heap.size w7 wr)) (fun jv _ => x.formats.length - (intOf jv).toNat)
          case atStart => exact ⟨0, Nat.zero_le _, rfl, hst, hbk⟩
          case round =>
           obtain ⟨j, hj, rfl, hne, hbr⟩ := hrel
           clear hst hbk
           have hI8 := hI7.out.later hbr.out
           have hX8 := hX7.out.below hbr.out
           have x4 : wr.cell? ⟨wo.heap.size, 2 + 2, none⟩ = some (.int .i64 tg) := hX8.cell (j := 4) rfl
           have x4b : wr.cell? ⟨wo.heap.size, 4, none⟩ = some (.int .i64 tg) := hX8.cell (j := 4) rfl
           have hfm : x.formats.length ≤ 8 := by have := hfl.out; omega
           by_cases hjl : j < x.formats.length
           ·
            have hyes2 : decide ((j : Int) < (x.formats.length : Int)) = true := decide_eq_true (by omega)
            have hw3 : IntKind.i64.wrap ((j : Int) + 1) = (j : Int) + 1 := IntWalk.i64_in _ (by omega)
            have q3 : (0 : Int) ≤ (j : Int) := by omega
            have q4 : (j : Int) < (x.formats.length : Int) := by omega
            have hFj : wr.cell? ⟨gf, j, none⟩ = some (.int .i64 x.formats[j]!) := by
             rw [hI8.fmt.cellAt j (by omega)]
             unfold ints
             rw [List.getElem?_map, List.getElem?_eq_getElem hjl, getElem!_pos x.formats j hjl]
             rfl
            have hmem : x.formats[j]! ∈ x.formats := by rw [getElem!_pos x.formats j hjl]; exact List.getElem_mem hjl
            have hnn : x.formats[j]! ≠ tg → ∀ q, q < j + 1 → x.formats[q]! ≠ tg := fun h q hq => by
             by_cases e1 : q = j
             ·
              rw [e1]; exact h
             ·
              exact hne.out q (by omega)
            generalize x.formats[j]! = fj at *
            replace hI8 := Lib.hid hI8
            replace hX8 := Lib.hid hX8
            replace hmem := Lib.hid hmem
            replace hnn := Lib.hid hnn
            by_cases he : fj = tg
            ·
             have f1 : (fj == tg) = true := by rw [he]; exact beq_self_eq_true _
             have f2 : decide (fj = tg) = true := decide_eq_true he
             obtain rfl : R = none := hnone.out (hn2.out (.inr (.inr (by rw [← he]; exact hmem.out))))
             have hbz0 := Lib.hid (hbo7.out.trans (hbr.out.mono hbo7.out.size))
             have hAz0 := Lib.hid (hAo7.out.below hbr.out)
             replace he := Lib.hid he
             go_upto_region 20 with fail
             go_quiet (fail)
             have hbz := Lib.hid (below_drewN hbz0.out nq)
             have hAz := Lib.hid (hAz0.out.drewN nq)
             go_wp2_with (refine arr_store rfl 33 _ _ rfl w.heap.size rfl (vs := [.slice none 0 0, .int .i64 0, .int .i64 0, .slice none 0 0]) rfl hAz.out (n := 4) (by kernel_rfl) rfl rfl rfl ?_)
             refine bodyPost_ret (arr_result2 (p := 10) (ty := 33) (u := 11) (n := 4) (by kernel_rfl) _ (hAz.out.setAll (vs := [.slice none 0 0, .int .i64 0, .int .i64 0, .slice none 0 0]) rfl) rfl Tryz.underlying33 rfl (by kernel_rfl) rfl) rfl ?_
             exact ⟨none, 0, none, 0, zeroRou, rfl, rfl, zeroM_ok _, Below.setCells _ _ _ _ hbz.out (Nat.le_refl _)⟩
            ·
             have f1 : (fj == tg) = false := beq_false_of_ne he
             have f2 : decide (fj = tg) = false := decide_eq_false he
             have hn := Lib.hid (hnn.out he)
             replace he := Lib.hid he
             go_upto_region 20 with fail
             go_quiet (fail)
             have hbn := Lib.hid (below_drewN hbr.out nq)
             go_wp2_with fail
             exact ⟨⟨j + 1, by omega, rfl, hn, hbn⟩, by simp [intOf]; omega⟩
           ·
            have hno2 : decide ((j : Int) < (x.formats.length : Int)) = false := decide_eq_false (by omega)
            obtain rfl : j = x.formats.length := by omega
            have hnm : tg ∉ x.formats := fun h => by
             obtain ⟨q, hq, e1⟩ := List.mem_iff_getElem.1 h
             exact hne.out q hq (by rw [getElem!_pos x.formats q hq]; exact e1)
            have hon : onP l day x (k : Int) = some ⟨x.formats ++ [tg], ⟨x.rou.edges ++ [(k : Int)], x.rou.cost + cost, 0, x.rou.claims.map (onC ⟨id, fr2, tg, back, keep⟩)⟩⟩ := (hos.out _).2 ⟨⟨q0, q1, by rw [hxlen.out]; simp [beginP]; omega, hf.out, by have := hu.out; omega, hnm⟩, rfl⟩
            have hons2 := Lib.hid (hnx.out.trans hon)
            clear hon hnm hne hnone hn2 hos hpn hnx hons hxlen
            obtain ⟨w8, hw8⟩ : ∃ w8, w8 = wr := ⟨_, rfl⟩
            subst hw8
            have hbo8 := Lib.hid (hbo7.out.trans (hbr.out.mono hbo7.out.size))
            clear hI7 hX7 hbo7 hAo7 hbr x4b
            have hba := lit_below w8 (.cells #[.int .i64 tg] 3)
            have hI9 := hI8.later hba
            have hX9 := Lib.hid (hX8.below hba)
            have hbo9 := Lib.hid (hbo8.out.trans (hba.mono hbo8.out.size))
            have hown := Lib.hid hI9.fmt
            have hnews : ∀ q y, [Value.int .i64 tg][q]? = some y → (w8.alloc (.cells #[.int .i64 tg] 3)).cell? ((⟨w8.heap.size, 0, none⟩ : Addr).add q) = some y := fun q y hy => cells_new w8 [.int .i64 tg] 3 q y hy
            have hsz : Hid (wE.heap.size + 1 ≤ w8.heap.size) := hI8.box.lt
            replace hI9 := Lib.hid hI9
            clear hI8 hX8 hba
            generalize hFn : x.formats.length = nF at *
            replace hFn := Lib.hid hFn
            go_upto_region 23 with (at_builtin; refine wpList_append_own _ rfl _ _ 23 rfl (wE.heap.size + 1) 3 i0 (.int .i64 0) 1 8 Tryz.underlying23 hi_.out hz0 hz1 hz2 rfl (by decide) _ nF _ rfl hown.out ⟨w8.heap.size, 0, none⟩ 1 1 [.int .i64 tg] rfl rfl hnews (by simp [Value.oneCell']) ?qa ?qb ?qc ?_)
            case qa => unfold maxLen; omega
            case qb => omega
            case qc => have := hsz.out; (try simp only [World.size_alloc]); omega
            intro fv2 w9 hown4 hgrow hnil
            have hI10 := hI9.out.addF tg (by rw [hFn.out]; exact hown4) hgrow
            have hkt : KeepTy [3] _ w9 := KeepTy.grown hI9.out.fmt hgrow (by decide)
            have hX10 := arr_keepTy hX9.out (by decide) hkt
            have hbo10 := Lib.hid (hbo9.out.grown hgrow hbo9.out.size (fun g hg => by have := (own_block hI9.out.fmt hg).2.1; have := hbE.out.size; omega))
            clear hown hown4 hnil hnews hsz hI9 hX9 hbo9 hbo8 hkt hgrow x4
            obtain ⟨gf2, fcap2, rfl⟩ := own_slice hI10.fmt (by simp)
            have hl2 : (x.formats ++ [tg]).length = nF + 1 := by rw [List.length_append, hFn.out]; rfl
            rw [hl2] at hI10
            replace hl2 := Lib.hid hl2
            have b1 := hI10.box.cell (j := 1) rfl
            have fb1 := hI10.box.free 1
            have x0 := hX10.cell (j := 0) rfl
            have hwc : IntKind.i64.wrap (x.rou.cost + cost) = x.rou.cost + cost := IntWalk.i64_in _ (by omega)
            have hI11 := Lib.hid (hI10.setCost (x.rou.cost + cost))
            have hX11 := Lib.hid (arr_keepTy hX10 (by decide) (KeepTy.setArr (X := [33]) (o := 1) (u := .int .i64 (x.rou.cost + cost)) hI10.box (by decide)))
            have hbo11 : Hid (Below w.heap.size w (w9.setCell ⟨wE.heap.size, 1, none⟩ (.int .i64 (x.rou.cost + cost)))) := hbo10.out.setCell (p := ⟨wE.heap.size, 1, none⟩) hbE.out.size _
            replace hI10 := Lib.hid hI10
            replace hX10 := Lib.hid hX10
            go_upto_region 24 with fail
            clear b1 fb1 x0 hI10 hX10 hbo10
            generalize w9.setCell ⟨wE.heap.size, 1, none⟩ (.int .i64 (x.rou.cost + cost)) = w10 at *
            have x2 := hX11.out.cell (j := 2) rfl
            have x3 : w10.cell? ⟨wo.heap.size, 2 + 1, none⟩ = some (.int .i64 fr2) := hX11.out.cell (j := 3) rfl
            have x4 : w10.cell? ⟨wo.heap.size, 2 + 2, none⟩ = some (.int .i64 tg) := hX11.out.cell (j := 4) rfl
            have x5 : w10.cell? ⟨wo.heap.size, 2 + 3, none⟩ = some (.bool back) := hX11.out.cell (j := 5) rfl
            have x6 : w10.cell? ⟨wo.heap.size, 2 + 4, none⟩ = some (.slice ku kn kc) := hX11.out.cell (j := 6) rfl
            have hcl := Claims9_any ⟨id, fr2, tg, back, keep⟩ (.slice ku kn kc) w10 (hkp.out.later hbo11.out)
            rw [hvm.out, if_pos rfl] at hcl
            replace hcl := Lib.hid hcl
            go_wp2_with fail
            refine hcl.out.mono ?_
            clear hcl x2 x3 x4 x5 x6
            rintro e w11 ⟨qv, rfl, ⟨us2, hQ⟩, hb11⟩
            have hgc : gc < w10.heap.size := (own_block hI11.out.cl.own (g := gc) (by simp [Value.ownBlock])).1
            have hCX : ClX gc w11 qv (claimsM ⟨id, fr2, tg, back, keep⟩) us2 := ⟨hQ.len, RowT.of_own hQ.own, fun b o n c e1 => by have := (own_block hQ.own (g := b) (by rw [e1]; rfl)).2.1; omega, hQ.steps⟩
            obtain ⟨qx, qc, rfl⟩ := own_val hQ.own
            have hI12 := hI11.out.later hb11
            have hbo12 := Lib.hid (hbo11.out.trans (hb11.mono hbo11.out.size))
            generalize hcM : claimsM ⟨id, fr2, tg, back, keep⟩ = CM at *
            generalize hm : (⟨id, fr2, tg, back, keep⟩ : Mig) = m at *
            have hst : Hid (∃ us, OfI wE w11 ea es.length ec (x.rou.cost + cost) (.slice (some ⟨gf2, 0, none⟩) (nF + 1) fcap2) (.slice (some ⟨gc, 0, none⟩) x.rou.claims.length ccap) (x.formats ++ [tg]) (mapTo x.rou.claims m 0) us ∧ ClX gc w11 (.slice qx CM.length qc) CM us2) := ⟨us, by rw [mapTo_zero]; exact hI12, hCX⟩
            replace hcM := Lib.hid hcM
            replace hm := Lib.hid hm
            generalize hcn : x.rou.claims.length = cn at *
            replace hcn := Lib.hid hcn
            clear hI11 hX11 hbo11 hQ hb11 hCX hI12 hgc hkp hvm hcc
            skip
            go_wp2_with fail
            go_loopw [20] (fun iv wr => ∃ q : Nat, q ≤ 8 ∧ iv = .int .i64 ((q : Int) + 1) ∧ Hid (∃ us, OfI wE wr ea es.length ec (x.rou.cost + cost) (.slice (some ⟨gf2, 0, none⟩) (nF + 1) fcap2) (.slice (some ⟨gc, 0, none⟩) cn ccap) (x.formats ++ [tg]) (mapTo x.rou.claims m q) us ∧ ClX gc wr (.slice qx CM.length qc) CM us2)) (fun iv _ => 9 - (intOf iv).toNat)
            case atStart => exact ⟨0, by omega, by first | rfl | go_num, hst⟩
            case round =>
             obtain ⟨q, hq8, rfl, hall⟩ := hrel
             clear hst
             obtain ⟨us, hI, hC⟩ := hall.out
             clear hall
             have hml : (mapTo x.rou.claims m q).length = cn := (mapTo_len _ _ _).trans hcn.out
             have hcn8 : cn = 8 := hcl8.out
             by_cases hql : q < 8
             ·
              have hyq : decide ((q : Int) + 1 ≤ 8) = true := decide_eq_true (by omega)
              have hw3 : IntKind.i64.wrap ((q : Int) + 1 + 1) = (q : Int) + 1 + 1 := IntWalk.i64_in _ (by omega)
              have hw4 : IntKind.i64.wrap ((q : Int) + 1 - 1) = (q : Int) := by rw [show (q : Int) + 1 - 1 = (q : Int) by omega]; exact IntWalk.i64_in _ (by omega)
              have hw5 : IntKind.i64.wrap (q : Int) = (q : Int) := IntWalk.i64_in _ (by omega)
              have q3 : (0 : Int) ≤ (q : Int) := by omega
              have q4 : (q : Int) < (cn : Int) := by omega
              have hbd : Below wr.heap.size wr wr.drew := (Below.refl _ _).drew
              have hIr := hI.later hbd
              have hCr := hC.later hbd
              have hcellAt : ∀ W, OfI wE W ea es.length ec (x.rou.cost + cost) (.slice (some ⟨gf2, 0, none⟩) (nF + 1) fcap2) (.slice (some ⟨gc, 0, none⟩) cn ccap) (x.formats ++ [tg]) (mapTo x.rou.claims m q) us → W.cell? ⟨gc, q * 2 + 1, none⟩ = some us[q]! ∧ W.frozen? ⟨gc, q * 2 + 1, none⟩ = false := fun W h => by
               have ho := h.cl.own
               rw [hml] at ho
               exact ⟨by rw [ho.cellAt (q * 2 + 1) (by omega)]; exact (clC_at _ _ h.cl.len q (by rw [hml]; omega)).2, ho.frozenAt _⟩
              have hus := hIr.cl.steps q (by rw [hml]; omega)
              rw [mapTo_at x.rou.claims m (by rw [hcn.out]; omega)] at hus
              have hkq := hkey.out q (by omega)
              have hset := mapTo_set x.rou.claims m (i := q) (by rw [hcn.out]; omega)
              rw [hcM.out, hkq] at hset
              have hend : ∀ W v, OfI wE W ea es.length ec (x.rou.cost + cost) (.slice (some ⟨gf2, 0, none⟩) (nF + 1) fcap2) (.slice (some ⟨gc, 0, none⟩) cn ccap) (x.formats ++ [tg]) (mapTo x.rou.claims m q) us → ClX gc W (.slice qx CM.length qc) CM us2 → StepsT W v (composeA ((q : Int) + 1) (x.rou.claims[q]!).2 (stepsC CM ((q : Int) + 1))) → Hid (∃ us, OfI wE (W.setCell ⟨gc, q * 2 + 1, none⟩ v) ea es.length ec (x.rou.cost + cost) (.slice (some ⟨gf2, 0, none⟩) (nF + 1) fcap2) (.slice (some ⟨gc, 0, none⟩) cn ccap) (x.formats ++ [tg]) (mapTo x.rou.claims m (q + 1)) us ∧ ClX gc (W.setCell ⟨gc, q * 2 + 1, none⟩ v) (.slice qx CM.length qc) CM us2) := fun W v h1 h2 h3 => by
               have ho := h1.cl.own
               rw [hml] at ho
               have h4 := h1
               rw [← hml] at h4
               have h5 := h4.setSteps (k := q) (by rw [hml]; omega) _ v h3
               rw [hml, hset] at h5
               exact ⟨_, h5, h2.set (L := []) (.inr ⟨_, _, _, _, ho⟩) _ _⟩
              generalize us[q]! = u at *
              obtain ⟨ux, uc, rfl, _⟩ := StepsT.lenR hus
              have hSt := Lib.hid fun W (hW : ClX gc W (.slice qx CM.length qc) CM us2) => Steps11_any _ CM ((q : Int) + 1) W hW.at
              generalize (x.rou.claims[q]!).2 = cs at *
              generalize hsq : stepsC CM ((q : Int) + 1) = sq at *
              have hCo := Lib.hid fun W v1 v2 h1 h2 => Compose7_any ((q : Int) + 1) v1 v2 cs sq W h1 h2
              have c3 := hIr.box.cell (j := 3) rfl
              replace hset := Lib.hid hset
              replace hsq := Lib.hid hsq
              replace hkq := Lib.hid hkq
              replace hml := Lib.hid hml
              replace hcn8 := Lib.hid hcn8
              replace hcellAt := Lib.hid hcellAt
              replace hend := Lib.hid hend
              replace hus := Lib.hid hus
              replace hIr := Lib.hid hIr
              replace hCr := Lib.hid hCr
              clear hI hC hbd
              go_upto_region 28 with fail
              refine wp_region_held_drew (S := fun w' => w'.cell? ⟨wE.heap.size, 3, none⟩ = some (.slice (some ⟨gc, 0, none⟩) cn ccap)) (by kernel_rfl) (by exact c3) (fun hHeld => ?_)
              refine tk 0 ?_ rfl ?_ ?_
              rotate_left
              ·
               intro w hSw; (try dsimp only at hSw); go_simp; (try with_reducible rfl)
              (try simp only [Act.put, setIfInBounds_toArray, set_cons_zero, set_cons_succ])
              refine tk 1 ?_ rfl ?_ ?_
              rotate_left
              ·
               intro w hSw; (try dsimp only at hSw); go_simp; (try with_reducible rfl)
              (try simp only [Act.put, setIfInBounds_toArray, set_cons_zero, set_cons_succ])
              refine tk 2 ?_ rfl ?_ ?_
              rotate_left
              ·
               intro w hSw; (try dsimp only at hSw); go_simp; (try with_reducible rfl)
              (try simp only [Act.put, setIfInBounds_toArray, set_cons_zero, set_cons_succ])
              refine tk 3 ?_ rfl ?_ ?_
              rotate_left
              ·
               intro w hSw; (try dsimp only at hSw); go_simp; (try with_reducible rfl)
              (try simp only [Act.put, setIfInBounds_toArray, set_cons_zero, set_cons_succ])
              refine tk 4 ?_ rfl ?_ ?_
              rotate_left
              ·
               intro w hSw; (try dsimp only at hSw); go_simp; (try with_reducible rfl)
              (try simp only [Act.put, setIfInBounds_toArray, set_cons_zero, set_cons_succ])
              refine tk 5 ?_ rfl ?_ ?_
              rotate_left
              ·
               intro w hSw; (try dsimp only at hSw); go_simp; (try with_reducible rfl)
              (try simp only [Act.put, setIfInBounds_toArray, set_cons_zero, set_cons_succ])
              refine tk 6 ?_ rfl ?_ ?_
              rotate_left
              ·
               intro w hSw; (try dsimp only at hSw); go_simp; (try with_reducible rfl)
              (try simp only [Act.put, setIfInBounds_toArray, set_cons_zero, set_cons_succ])
              refine tk 7 ?_ rfl ?_ ?_
              rotate_left
              ·
               intro w hSw; (try dsimp only at hSw); go_simp; (try with_reducible rfl)
              (try simp only [Act.put, setIfInBounds_toArray, set_cons_zero, set_cons_succ])
              refine tk 8 ?_ rfl ?_ ?_
              rotate_left
              ·
               intro w hSw; (try dsimp only at hSw); go_simp; (try with_reducible rfl)
              (try simp only [Act.put, setIfInBounds_toArray, set_cons_zero, set_cons_succ])
              refine tk 9 ?_ rfl ?_ ?_
              rotate_left
              ·
               intro w hSw; (try dsimp only at hSw); go_simp; (try with_reducible rfl)
              (try simp only [Act.put, setIfInBounds_toArray, set_cons_zero, set_cons_succ])
              refine tk 10 ?_ rfl ?_ ?_
              rotate_left
              ·
               intro w hSw; (try dsimp only at hSw); go_simp; (try with_reducible rfl)
              (try simp only [Act.put, setIfInBounds_toArray, set_cons_zero, set_cons_succ])
              refine tk 12 ?_ rfl ?_ ?_
              rotate_left
              ·
               intro w hSw; (try dsimp only at hSw); go_simp; (try with_reducible rfl)
              (try simp only [Act.put, setIfInBounds_toArray, set_cons_zero, set_cons_succ])
              refine tk 13 ?_ rfl ?_ ?_
              rotate_left
              ·
               intro w hSw; (try dsimp only at hSw); go_simp; (try with_reducible rfl)
              (try simp only [Act.put, setIfInBounds_toArray, set_cons_zero, set_cons_succ])
              generalize wr.drew = q0 at *
              clear c3
              refine wpAnyH_ready (rs := [11, 14]) (by kernel_rfl) (by simp) ?_
              refine ready_l rfl (fun K hK => ?_) (ready_l rfl (fun K hK => ?_) AllReadyH.nil)
              ·
               skip
               have xl := (hcellAt.out _ hIr.out).1
               go_simp
               clear xl
               refine hK.out _ _ (by exact hIr.out.box.cell (j := 3) rfl) (fun hHeld1 => ?_)
               clear hK K
               (try simp only [Act.put, setIfInBounds_toArray, set_cons_zero, set_cons_succ])
               refine wpAnyH_ready (rs := [14]) (by kernel_rfl) (by simp) ?_
               refine ready_l rfl (fun K hK => ?_) AllReadyH.nil
               go_simp
               go_at_call 46
               refine (hSt.out _ hCr.out).mono ?_
               rintro e qA ⟨sv, rfl, hS, hbx⟩
               have hI_qA := Lib.hid (hIr.out.later hbx)
               have hC_qA := Lib.hid (hCr.out.later hbx)
               have hU_qA := Lib.hid (StepsT.belowR hus.out hbx)
               obtain ⟨sx, sn, sc, rfl⟩ : ∃ a n c, sv = .slice a n c := by
                obtain ⟨a, c, e, _⟩ := hS
                exact ⟨a, _, c, e⟩
               replace hS := Lib.hid hS
               clear hbx
               refine hK.out _ _ (by exact hI_qA.out.box.cell (j := 3) rfl) (fun hHeld2 => ?_)
               clear hK K
               (try simp only [Act.put, setIfInBounds_toArray, set_cons_zero, set_cons_succ])
               refine wpAnyH_ready (rs := [15]) (by kernel_rfl) (by simp) ?_
               refine ready_l rfl (fun K hK => ?_) AllReadyH.nil
               go_simp
               go_at_call 45
               refine (hCo.out _ _ _ (stepsT_at3 hU_qA.out) hS.out).mono ?_
               rintro e qB ⟨tv, rfl, hT, hbx⟩
               have hI_qB := Lib.hid (hI_qA.out.later hbx)
               have hC_qB := Lib.hid (hC_qA.out.later hbx)
               obtain ⟨tx, tc, rfl, _⟩ := StepsT.lenR hT
               replace hT := Lib.hid hT
               clear hbx
               refine hK.out _ _ (by exact hI_qB.out.box.cell (j := 3) rfl) (fun hHeld3 => ?_)
               clear hK K
               (try simp only [Act.put, setIfInBounds_toArray, set_cons_zero, set_cons_succ])
               refine tk 16 ?_ rfl ?_ ?_
               rotate_left
               ·
                intro w hSw; (try dsimp only at hSw); go_simp; (try with_reducible rfl)
               (try simp only [Act.put, setIfInBounds_toArray, set_cons_zero, set_cons_succ])
               refine tk 17 ?_ rfl ?_ ?_
               rotate_left
               ·
                intro w hSw; (try dsimp only at hSw); go_simp; (try with_reducible rfl)
               (try simp only [Act.put, setIfInBounds_toArray, set_cons_zero, set_cons_succ])
               refine tk 18 ?_ rfl ?_ ?_
               rotate_left
               ·
                intro w hSw; (try dsimp only at hSw); go_simp; (try with_reducible rfl)
               (try simp only [Act.put, setIfInBounds_toArray, set_cons_zero, set_cons_succ])
               refine tk 19 ?_ rfl ?_ ?_
               rotate_left
               ·
                intro w hSw; (try dsimp only at hSw); go_simp; (try with_reducible rfl)
               (try simp only [Act.put, setIfInBounds_toArray, set_cons_zero, set_cons_succ])
               refine tk 20 ?_ rfl ?_ ?_
               rotate_left
               ·
                intro w hSw; (try dsimp only at hSw); go_simp; (try with_reducible rfl)
               (try simp only [Act.put, setIfInBounds_toArray, set_cons_zero, set_cons_succ])
               refine wpAnyH_ready (rs := [21]) (by kernel_rfl) (by simp) ?_
               refine ready_l rfl (fun K hK => ?_) AllReadyH.nil
               have hfin := hend.out _ _ hI_qB.out hC_qB.out hT.out
               have xl := (hcellAt.out _ hI_qB.out).1
               have fl := (hcellAt.out _ hI_qB.out).2
               have hbxx : ∃ us, OfI wE _ _ _ _ _ _ _ _ _ us ∧ _ := hfin.out
               go_simp
               clear xl fl
               refine hK.out _ _ (by obtain ⟨_, h, _⟩ := hbxx; exact h.box.cell (j := 3) rfl) (fun hHeld4 => ?_)
               clear hK K
               (try simp only [Act.put, setIfInBounds_toArray, set_cons_zero, set_cons_succ])
               refine wpAnyH_done (by kernel_rfl) ?_ _
               go_wp2_with fail
               exact ⟨⟨q + 1, by omega, by first | rfl | go_num, hfin⟩, by simp [intOf]; omega⟩
              ·
               skip
               go_simp
               go_at_call 46
               refine (hSt.out _ hCr.out).mono ?_
               rintro e qA ⟨sv, rfl, hS, hbx⟩
               have hI_qA := Lib.hid (hIr.out.later hbx)
               have hC_qA := Lib.hid (hCr.out.later hbx)
               have hU_qA := Lib.hid (StepsT.belowR hus.out hbx)
               obtain ⟨sx, sn, sc, rfl⟩ : ∃ a n c, sv = .slice a n c := by
                obtain ⟨a, c, e, _⟩ := hS
                exact ⟨a, _, c, e⟩
               replace hS := Lib.hid hS
               clear hbx
               refine hK.out _ _ (by exact hI_qA.out.box.cell (j := 3) rfl) (fun hHeld2 => ?_)
               clear hK K
               (try simp only [Act.put, setIfInBounds_toArray, set_cons_zero, set_cons_succ])
               refine wpAnyH_ready (rs := [11]) (by kernel_rfl) (by simp) ?_
               refine ready_l rfl (fun K hK => ?_) AllReadyH.nil
               have xl := (hcellAt.out _ hI_qA.out).1
               go_simp
               clear xl
               refine hK.out _ _ (by exact hI_qA.out.box.cell (j := 3) rfl) (fun hHeld1 => ?_)
               clear hK K
               (try simp only [Act.put, setIfInBounds_toArray, set_cons_zero, set_cons_succ])
               refine wpAnyH_ready (rs := [15]) (by kernel_rfl) (by simp) ?_
               refine ready_l rfl (fun K hK => ?_) AllReadyH.nil
               go_simp
               go_at_call 45
               refine (hCo.out _ _ _ (stepsT_at3 hU_qA.out) hS.out).mono ?_
               rintro e qB ⟨tv, rfl, hT, hbx⟩
               have hI_qB := Lib.hid (hI_qA.out.later hbx)
               have hC_qB := Lib.hid (hC_qA.out.later hbx)
               obtain ⟨tx, tc, rfl, _⟩ := StepsT.lenR hT
               replace hT := Lib.hid hT
               clear hbx
               refine hK.out _ _ (by exact hI_qB.out.box.cell (j := 3) rfl) (fun hHeld3 => ?_)
               clear hK K
               (try simp only [Act.put, setIfInBounds_toArray, set_cons_zero, set_cons_succ])
               refine tk 16 ?_ rfl ?_ ?_
               rotate_left
               ·
                intro w hSw; (try dsimp only at hSw); go_simp; (try with_reducible rfl)
               (try simp only [Act.put, setIfInBounds_toArray, set_cons_zero, set_cons_succ])
               refine tk 17 ?_ rfl ?_ ?_
               rotate_left
               ·
                intro w hSw; (try dsimp only at hSw); go_simp; (try with_reducible rfl)
               (try simp only [Act.put, setIfInBounds_toArray, set_cons_zero, set_cons_succ])
               refine tk 18 ?_ rfl ?_ ?_
               rotate_left
               ·
                intro w hSw; (try dsimp only at hSw); go_simp; (try with_reducible rfl)
               (try simp only [Act.put, setIfInBounds_toArray, set_cons_zero, set_cons_succ])
               refine tk 19 ?_ rfl ?_ ?_
               rotate_left
               ·
                intro w hSw; (try dsimp only at hSw); go_simp; (try with_reducible rfl)
               (try simp only [Act.put, setIfInBounds_toArray, set_cons_zero, set_cons_succ])
               refine tk 20 ?_ rfl ?_ ?_
               rotate_left
               ·
                intro w hSw; (try dsimp only at hSw); go_simp; (try with_reducible rfl)
               (try simp only [Act.put, setIfInBounds_toArray, set_cons_zero, set_cons_succ])
               refine wpAnyH_ready (rs := [21]) (by kernel_rfl) (by simp) ?_
               refine ready_l rfl (fun K hK => ?_) AllReadyH.nil
               have hfin := hend.out _ _ hI_qB.out hC_qB.out hT.out
               have xl := (hcellAt.out _ hI_qB.out).1
               have fl := (hcellAt.out _ hI_qB.out).2
               have hbxx : ∃ us, OfI wE _ _ _ _ _ _ _ _ _ us ∧ _ := hfin.out
               go_simp
               clear xl fl
               refine hK.out _ _ (by obtain ⟨_, h, _⟩ := hbxx; exact h.box.cell (j := 3) rfl) (fun hHeld4 => ?_)
               clear hK K
               (try simp only [Act.put, setIfInBounds_toArray, set_cons_zero, set_cons_succ])
               refine wpAnyH_done (by kernel_rfl) ?_ _
               go_wp2_with fail
               exact ⟨⟨q + 1, by omega, by first | rfl | go_num, hfin⟩, by simp [intOf]; omega⟩
             ·
              have hyq : decide ((q : Int) + 1 ≤ 8) = false := decide_eq_false (by omega)
              obtain rfl : q = 8 := by omega
              have hmp : mapTo x.rou.claims m 8 = x.rou.claims.map (onC m) := by
               have := mapTo_all x.rou.claims m
               rw [hcn.out, hcn8] at this
               exact this
              rw [hmp] at hI
              have hnext : Hid (∃ x, onsP l day (beginP frm) (es.take (i + 1)) = some x ∧ ∃ cv us, OfI wE wr ea es.length ec x.rou.cost (.slice (some ⟨gf2, 0, none⟩) (nF + 1) fcap2) cv x.formats x.rou.claims us) := ⟨_, hons2.out, _, us, hI⟩
              rw [← hFn.out] at hnext
              replace hmp := Lib.hid hmp
              replace hml := Lib.hid hml
              replace hcn8 := Lib.hid hcn8
              clear hI hC
              go_wp2_with fail
              exact ⟨⟨i + 1, by omega, rfl, hnext⟩, by simp [intOf]; omega⟩
      ·
       have hno : decide ((i : Int) < (es.length : Int)) = false := decide_eq_false (by omega)
       obtain rfl : i = es.length := by omega
       rw [List.take_length] at hons hxlen
       have hofR : R = arrivedP life day x := by rw [hofP.out, hons]; rfl
       have hxe : x.rou.edges = es := hxlen
       have hFi : wo.cell? ⟨gf, es.length, none⟩ = some (.int .i64 x.formats[es.length]!) := by
        rw [hI.fmt.cellAt es.length (by omega)]
        unfold ints
        rw [List.getElem?_map, List.getElem?_eq_getElem (by omega), getElem!_pos x.formats es.length (by omega)]
        rfl
       rw [← hlast] at hFi
       unfold arrivedP at hofR
       have hlr : livesR life x.last day = livesR life x.last day := rfl
       generalize hla : x.last = la_ at *
       have hlv := Lib.hid (lives11_any _ life la_ day wo (hLw.out wo hbo.out))
       generalize hfn : x.formats.length = nF at *
       have hw2 : IntKind.i64.wrap ((nF : Int) - 1) = (es.length : Int) := by rw [hfl, show ((es.length + 1 : Nat) : Int) - 1 = (es.length : Int) by omega]; exact IntWalk.i64_in _ (by omega)
       have k0 : (0 : Int) ≤ (es.length : Int) := by omega
       have k1 : (es.length : Int) < (nF : Int) := by omega
       have hI0 := Lib.hid hI
       replace hfl := Lib.hid hfl
       replace hfn := Lib.hid hfn
       replace hla := Lib.hid hla
       replace hlast := Lib.hid hlast
       replace hcl8 := Lib.hid hcl8
       replace hkey := Lib.hid hkey
       replace hons := Lib.hid hons
       replace hxlen := Lib.hid hxlen
       replace hxe := Lib.hid hxe
       replace hofR := Lib.hid hofR
       clear hI hlr htl hcost
       go_wp2_with fail
       refine hlv.out.mono ?_
       clear hlv hFi
       rintro e w6 ⟨rfl, hb6⟩
       have hI6 := Lib.hid (hI0.out.later hb6)
       have hbo6 := Lib.hid (hbo.out.trans (hb6.mono hbo.out.size))
       have hAo6 := Lib.hid (hAo.out.below hb6)
       clear hb6 hI0 hbo hAo
       by_cases hbad : la_ < 0 ∨ (life.length : Int) ≤ la_ ∨ life[la_.toNat]! < day
       ·
        obtain rfl : R = none := by rw [hofR.out, if_pos hbad]
        have hl2 : (livesR life la_ day).2 = false := by
         unfold livesR
         split
         ·
          rfl
         ·
          exact decide_eq_false (by omega)
        rw [hl2]
        replace hbad := Lib.hid hbad
        replace hl2 := Lib.hid hl2
        go_wp2_with (refine arr_store rfl 33 _ _ rfl w.heap.size rfl (vs := [.slice none 0 0, .int .i64 0, .int .i64 0, .slice none 0 0]) rfl hAo6.out (n := 4) (by kernel_rfl) rfl rfl rfl ?_)
        refine bodyPost_ret (arr_result2 (p := 10) (ty := 33) (u := 11) (n := 4) (by kernel_rfl) _ (hAo6.out.setAll (vs := [.slice none 0 0, .int .i64 0, .int .i64 0, .slice none 0 0]) rfl) rfl Tryz.underlying33 rfl (by kernel_rfl) rfl) rfl ?_
        exact ⟨none, 0, none, 0, zeroRou, rfl, rfl, zeroM_ok _, Below.setCells _ _ _ _ hbo6.out (Nat.le_refl _)⟩
       ·
        have hlr : livesR life la_ day = (life[la_.toNat]!, true) := by
         unfold livesR
         rw [if_neg (by omega), decide_eq_true (by omega)]
        rw [hlr]
        have hR2 := hofR.out
        rw [if_neg hbad] at hR2
        generalize life[la_.toNat]! = lf at *
        have hRr : R = some ⟨es, x.rou.cost, lf, x.rou.claims⟩ := by rw [hR2, ← hxe.out]
        subst hRr
        replace hlr := Lib.hid hlr
        replace hbad := Lib.hid hbad
        clear hR2 hofR
        have b2 := hI6.out.box.cell (j := 2) rfl
        have fb2 := hI6.out.box.free 2
        have hB7 : Hid (Arr (w6.setCell ⟨wE.heap.size, 2, none⟩ (.int .i64 lf)) wE.heap.size 33 [.slice ea es.length ec, .int .i64 x.rou.cost, .int .i64 lf, .slice (some ⟨gc, 0, none⟩) x.rou.claims.length ccap]) := hI6.out.box.set 2 _
        have hk7 : KeepTy [33] w6 (w6.setCell ⟨wE.heap.size, 2, none⟩ (.int .i64 lf)) := KeepTy.setArr hI6.out.box (by decide)
        have hA7 : Hid (Arr (w6.setCell ⟨wE.heap.size, 2, none⟩ (.int .i64 lf)) w.heap.size 33 [.slice none 0 0, .int .i64 0, .int .i64 0, .slice none 0 0]) := hAo6.out.other _ (by have := hAE.out.lt; omega)
        have hb7 : Hid (Below w.heap.size w (w6.setCell ⟨wE.heap.size, 2, none⟩ (.int .i64 lf))) := hbo6.out.setCell (p := ⟨wE.heap.size, 2, none⟩) hbE.out.size _
        have hN7 := Lib.hid (RowT.keepTy (RowT.below hes.out hI6.out.below) (by decide) hk7)
        have hC7 := Lib.hid ((hI6.out.cl.claims).keepTy (by decide) (by decide) hk7)
        replace hk7 := Lib.hid hk7
        go_upto_region 33 with fail
        clear b2 fb2
        generalize w6.setCell ⟨wE.heap.size, 2, none⟩ (.int .i64 lf) = w7 at *
        have x0 := hB7.out.cell (j := 0) rfl
        have x1 := hB7.out.cell (j := 1) rfl
        have x2 := hB7.out.cell (j := 2) rfl
        have x3 := hB7.out.cell (j := 3) rfl
        have hks := KeepTy.setArrs (X := [33]) hA7.out (by decide) 0 [.slice ea es.length ec, .int .i64 x.rou.cost, .int .i64 lf, .slice (some ⟨gc, 0, none⟩) x.rou.claims.length ccap]
        replace hks := Lib.hid hks
        go_wp2_with (refine arr_store rfl 33 _ _ rfl w.heap.size rfl (vs := [.slice ea es.length ec, .int .i64 x.rou.cost, .int .i64 lf, .slice (some ⟨gc, 0, none⟩) x.rou.claims.length ccap]) rfl hA7.out (n := 4) (by kernel_rfl) rfl rfl rfl ?_)
        refine bodyPost_ret (arr_result2 (p := 10) (ty := 33) (u := 11) (n := 4) (by kernel_rfl) _ (hA7.out.setAll (vs := [.slice ea es.length ec, .int .i64 x.rou.cost, .int .i64 lf, .slice (some ⟨gc, 0, none⟩) x.rou.claims.length ccap]) rfl) rfl Tryz.underlying33 rfl (by kernel_rfl) rfl) rfl ?_
        exact ⟨ea, ec, some ⟨gc, 0, none⟩, ccap, ⟨es, x.rou.cost, lf, x.rou.claims⟩, rfl, rfl, ⟨RowT.keepTy hN7.out (by decide) hks.out, hC7.out.keepTy (by decide) (by decide) hks.out⟩, Below.setCells _ _ _ _ hb7.out (Nat.le_refl _)⟩
end Go.Proofs.YtpeandbcdaikbaaGreatDoor
