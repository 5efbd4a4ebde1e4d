/-
 Routes of chapter 11: the law RouteMatchesReference.
-/
import Derived.Test.YtpeandbcdaikbaaGreatDoorZH
open List (setIfInBounds_toArray set_cons_zero set_cons_succ)
namespace Go.Proofs.YtpeandbcdaikbaaGreatDoor
open Go.RowKit Go.Shelf Go.Maps

attribute [local go_sem] Oper.semAt_some

set_option maxRecDepth 100000 in
set_option maxHeartbeats 16000000 in
theorem Matches_law (v : Value) (n : Nat) (zs ls : List Int) (fr dy hp : Int) (ev lv : Value) (which : Int) (oth : Edg) (ka : Option Addr) (kc : Nat) (nv : Value) (ns : List Int) (a b : Rou) (ea eb ca cb : Option Addr) (an em cm bn bm dm : Nat) (pv : Value) (pol : Clms) (w : World) (h : CaseIn w v n zs ls fr dy hp ev lv) (hwh : I64 which) (hok : ClaimsAt w w.heap.size (.slice ka oth.does.keep.length kc) oth.does.keep) (hoI : MigIn oth.does) (hns : NumsAt w w.heap.size nv ns) (hca : ClaimsAt w w.heap.size (.slice ca a.claims.length cm) a.claims) (hcb : ClaimsAt w w.heap.size (.slice cb b.claims.length dm) b.claims) (hpv : ClaimsAt w w.heap.size pv pol) (hpI : ∀ c ∈ pol, I64 c.1) :
  Calls Tryz.prog 3 #[v, .int .i64 which, .agg #[.int .i64 oth.cost, .int .i64 oth.until_, .int .i64 oth.does.id, .int .i64 oth.does.frm, .int .i64 oth.does.to, .bool oth.does.back, .slice ka oth.does.keep.length kc], nv, .agg #[.slice ea an em, .int .i64 a.cost, .int .i64 a.life, .slice ca a.claims.length cm], .agg #[.slice eb bn bm, .int .i64 b.cost, .int .i64 b.life, .slice cb b.claims.length dm], pv] w fun e w' => e = .returned (.bool true) ∧ Below w.heap.size w w' := by
 have hM := Lib.hid (madeP n zs ls fr dy)
 have hmade := fun W (hb : Below w.heap.size w W) => made_own v n zs ls fr dy hp ev lv W (h.below hb)
 obtain ⟨rfl, hfi, hli, _⟩ := h
 obtain ⟨fa, fc, rfl, _, _, _⟩ := hfi.2
 obtain ⟨la, lc, rfl, _, _, _⟩ := hli
 generalize madeE n zs = l at *
 generalize lifeR ls = life at *
 generalize frmC fr = f at *
 generalize dayC dy = d at *
 generalize hopsC hp = hops at *
 obtain ⟨W, hW⟩ : ∃ W, W = (((w.alloc (.cells #[.slice fa n fc, .slice la ls.length lc, .int .i64 fr, .int .i64 dy, .int .i64 hp] 25)).alloc (.cells #[.int .i64 oth.cost, .int .i64 oth.until_, .int .i64 oth.does.id, .int .i64 oth.does.frm, .int .i64 oth.does.to, .bool oth.does.back, .slice ka oth.does.keep.length kc] 30)).alloc (.cells #[.slice ea an em, .int .i64 a.cost, .int .i64 a.life, .slice ca a.claims.length cm] 33)).alloc (.cells #[.slice eb bn bm, .int .i64 b.cost, .int .i64 b.life, .slice cb b.claims.length dm] 33) := ⟨_, rfl⟩
 have hA : Arr W w.heap.size 25 [.slice fa n fc, .slice la ls.length lc, .int .i64 fr, .int .i64 dy, .int .i64 hp] := by rw [hW]; exact (((Arr.new rfl rfl).alloc _).alloc _).alloc _
 have hO : Arr W (w.heap.size + 1) 30 [.int .i64 oth.cost, .int .i64 oth.until_, .int .i64 oth.does.id, .int .i64 oth.does.frm, .int .i64 oth.does.to, .bool oth.does.back, .slice ka oth.does.keep.length kc] := by rw [hW]; exact ((Arr.new rfl (by simp)).alloc _).alloc _
 have hRa : Arr W (w.heap.size + 1 + 1) 33 [.slice ea an em, .int .i64 a.cost, .int .i64 a.life, .slice ca a.claims.length cm] := by rw [hW]; exact (Arr.new rfl (by simp)).alloc _
 have hRb : Arr W (w.heap.size + 1 + 1 + 1) 33 [.slice eb bn bm, .int .i64 b.cost, .int .i64 b.life, .slice cb b.claims.length dm] := by rw [hW]; exact Arr.new rfl (by simp)
 have hbW : Below w.heap.size w W := by rw [hW]; exact ((((Below.refl _ _).alloc (Nat.le_refl _) _).alloc (by simp) _).alloc (by simp; omega) _).alloc (by simp; omega) _
 have hsa := Lib.hid (sane_any W)
 replace hmade := Lib.hid hmade
 replace hA := Lib.hid hA
 replace hO := Lib.hid hO
 replace hRa := Lib.hid hRa
 replace hRb := Lib.hid hRb
 have hokw := Lib.hid hok
 have hnsw := Lib.hid hns
 have hcaw := Lib.hid hca
 have hcbw := Lib.hid hcb
 have hpvw := Lib.hid hpv
 replace hoI := Lib.hid hoI
 replace hpI := Lib.hid hpI
 obtain ⟨nx, nc, rfl, _, _, _⟩ := hns
 obtain ⟨_, _, ⟨px, pc, rfl, _, _, _⟩, _⟩ := hpv
 have hkk0 : Hid (oth.does.keep.length ≤ kc) := by
  obtain ⟨_, _, ⟨_, _, e, h1, _⟩, _⟩ := hok
  injection e with _ _ e
  exact e ▸ h1
 clear hok hca hcb hfi
 go_enter Tryz.func3, Tryz.ntmps3
 go_upto_region 1 with fail
 rw [← hW]
 clear hW
 go_wp2_with fail
 refine hsa.out.mono ?_
 rintro e w1 ⟨rfl, hb1⟩
 have hbw1 := hbW.trans (hb1.mono hbW.size)
 have hmd := Lib.hid (hmade.out w1 hbw1)
 have hA1 := Lib.hid (hA.out.below hb1)
 have a0 := hA1.out.cell (j := 0) rfl
 have a1 := hA1.out.cell (j := 1) rfl
 have a2 := hA1.out.cell (j := 2) rfl
 have a3 := hA1.out.cell (j := 3) rfl
 have a4 := hA1.out.cell (j := 4) rfl
 have hO1 := hO.out.below hb1
 have hRa1 := hRa.out.below hb1
 have hRb1 := hRb.out.below hb1
 replace hO1 := Lib.hid hO1
 replace hRa1 := Lib.hid hRa1
 replace hRb1 := Lib.hid hRb1
 clear hA hO hRa hRb hbW hb1 hsa hmade
 go_wp2_with fail
 refine hmd.out.mono ?_
 rintro e w2 ⟨ev', lv', us, c, rfl, hcz, hE, hL, hb2⟩
 have hb := Lib.hid (hbw1.trans (hb2.mono hbw1.size))
 have hcz2 : Hid (w.heap.size + 1 < c) := Nat.lt_of_lt_of_le (Array.getElem?_eq_some_iff.1 (show w1.heap[w.heap.size + 1]? = _ from hO1.out)).1 hcz
 clear hcz
 have hA2 := Lib.hid (hA1.out.below hb2)
 have hO2 := Lib.hid (hO1.out.below hb2)
 have hRa2 := Lib.hid (hRa1.out.below hb2)
 have hRb2 := Lib.hid (hRb1.out.below hb2)
 clear hbw1 hb2 hmd a0 a1 a2 a3 a4 hA1 hO1 hRa1 hRb1
 obtain ⟨xe, ce, rfl, hcm⟩ := hE.edges.len
 obtain ⟨xl, cl, rfl, _⟩ := hL.len
 replace hE := Lib.hid hE
 replace hL := Lib.hid hL
 have hN0 := Lib.hid (nums_take hnsw.out)
 have hnu := Lib.hid (numbers_any nx nc ns w2 (NumsAt.later hnsw.out hb.out))
 go_wp2_with fail
 refine hnu.out.mono ?_
 clear hnu
 rintro e wz ⟨rfl, hN2, hwz⟩
 rw [hwz]
 clear hwz
 replace hN2 := Lib.hid hN2
 have hcu := Lib.hid (cut_any _ pol w.heap.size w2 hb.out.size (hpvw.out.below hb.out (Nat.le_refl _)))
 generalize ns.take 8 = nl at *
 go_wp2_with fail
 refine hcu.out.mono ?_
 clear hcu
 rintro e w3 ⟨pv3, us3, rfl, hP3⟩
 obtain ⟨px3, pc3, rfl⟩ := own_val hP3.own
 have hb23 := hP3.below
 have hP := Lib.hid (hP3.o hb.out.size)
 replace hE := Lib.hid (hE.out.below hb23)
 replace hL := Lib.hid (hL.out.below hb23)
 have hA3 := Lib.hid (hA2.out.below hb23)
 have hO3 := Lib.hid (hO2.out.below hb23)
 have hRa3 := Lib.hid (hRa2.out.below hb23)
 have hRb3 := Lib.hid (hRb2.out.below hb23)
 have hb3 := Lib.hid (hb.out.trans (hb23.mono hb.out.size))
 have hpI2 : Hid (∀ c ∈ cutC pol, I64 c.1) := cutC_props hpI.out
 generalize cutC pol = po at *
 clear hP3 hb23 hb hN2 hA2 hO2 hRa2 hRb2 hpI hpvw
 have c3 := hRa3.out.cell (j := 3) rfl
 have hcu := Lib.hid (cut_any _ a.claims w.heap.size w3 hb3.out.size (hcaw.out.below hb3.out (Nat.le_refl _)))
 go_wp2_with fail
 refine hcu.out.mono ?_
 clear hcu c3
 rintro e w4 ⟨cv4, us4, rfl, hP4⟩
 obtain ⟨cx4, cc4, rfl⟩ := own_val hP4.own
 generalize cutC a.claims = ca2 at *
 have hb34 := hP4.below
 have hCa4 := hP4.o hb3.out.size
 have hP4' := hP.out.later hb34
 have hE4 := hE.out.below hb34
 have hL4 := hL.out.below hb34
 have hA4 := hA3.out.below hb34
 have hO4 := hO3.out.below hb34
 have hRa4 := hRa3.out.below hb34
 have hRb4 := hRb3.out.below hb34
 have hb4 := hb3.out.trans (hb34.mono hb3.out.size)
 clear hE hL hP hA3 hO3 hRa3 hRb3 hb3 hP4 hb34
 have f3 := hRa4.free 3
 have c3 := hRa4.cell (j := 3) rfl
 have hRa := Lib.hid (show Arr (w4.setCell ⟨w.heap.size + 1 + 1, 3, none⟩ (.slice cx4 ca2.length cc4)) (w.heap.size + 1 + 1) 33 [.slice ea an em, .int .i64 a.cost, .int .i64 a.life, .slice cx4 ca2.length cc4] from hRa4.set 3 _)
 have hA := Lib.hid (hA4.other (b := w.heap.size + 1 + 1) (o := 3) (.slice cx4 ca2.length cc4) (by omega))
 have hO := Lib.hid (hO4.other (b := w.heap.size + 1 + 1) (o := 3) (.slice cx4 ca2.length cc4) (by omega))
 have hRb := Lib.hid (hRb4.other (b := w.heap.size + 1 + 1) (o := 3) (.slice cx4 ca2.length cc4) (by omega))
 have hE := Lib.hid (hE4.put (u := .slice cx4 ca2.length cc4) (j := 3) hRa4 (Or.inr (by decide)) (by decide) (by decide))
 have hP := Lib.hid (hP4'.put (u := .slice cx4 ca2.length cc4) (j := 3) hRa4 (by omega) (by decide))
 have hCa := Lib.hid (hCa4.put (u := .slice cx4 ca2.length cc4) (j := 3) hRa4 (by omega) (by decide))
 have hL := Lib.hid (RowT.keepTy (X := [33]) hL4 (by decide) (KeepTy.setArr (o := 3) (u := .slice cx4 ca2.length cc4) hRa4 (by simp)))
 have hb5 := Lib.hid (hb4.setCell (p := ⟨w.heap.size + 1 + 1, 3, none⟩) (by simp only; omega) (.slice cx4 ca2.length cc4))
 clear hE4 hL4 hP4' hCa4 hA4 hO4 hRa4 hRb4 hb4
 have hX := hRb.out
 go_upto_region 6 with fail
 clear f3 c3
 generalize w4.setCell ⟨w.heap.size + 1 + 1, 3, none⟩ (.slice cx4 ca2.length cc4) = w5 at *
 clear hX
 have c3 := hRb.out.cell (j := 3) rfl
 have hcu := Lib.hid (cut_any _ b.claims w.heap.size w5 hb5.out.size (hcbw.out.below hb5.out (Nat.le_refl _)))
 go_wp2_with fail
 refine hcu.out.mono ?_
 clear hcu c3
 rintro e w6 ⟨cv6, us6, rfl, hP6⟩
 obtain ⟨cx6, cc6, rfl⟩ := own_val hP6.own
 generalize cutC b.claims = cb2 at *
 have hb56 := hP6.below
 have hCb4 := hP6.o hb5.out.size
 have hP4' := hP.out.later hb56
 have hCa4 := hCa.out.later hb56
 have hE4 := hE.out.below hb56
 have hL4 := RowT.below hL.out hb56
 have hA4 := hA.out.below hb56
 have hO4 := hO.out.below hb56
 have hRa4 := hRa.out.below hb56
 have hRb4 := hRb.out.below hb56
 have hb6 := hb5.out.trans (hb56.mono hb5.out.size)
 clear hE hL hP hA hO hRa hRb hb5 hP6 hb56 hCa
 have f3 := hRb4.free 3
 have c3 := hRb4.cell (j := 3) rfl
 have hRb := Lib.hid (show Arr (w6.setCell ⟨w.heap.size + 1 + 1 + 1, 3, none⟩ (.slice cx6 cb2.length cc6)) (w.heap.size + 1 + 1 + 1) 33 [.slice eb bn bm, .int .i64 b.cost, .int .i64 b.life, .slice cx6 cb2.length cc6] from hRb4.set 3 _)
 have hA := Lib.hid (hA4.other (b := w.heap.size + 1 + 1 + 1) (o := 3) (.slice cx6 cb2.length cc6) (by omega))
 have hO := Lib.hid (hO4.other (b := w.heap.size + 1 + 1 + 1) (o := 3) (.slice cx6 cb2.length cc6) (by omega))
 have hRa := Lib.hid (hRa4.other (b := w.heap.size + 1 + 1 + 1) (o := 3) (.slice cx6 cb2.length cc6) (by omega))
 have hE := Lib.hid (hE4.put (u := .slice cx6 cb2.length cc6) (j := 3) hRb4 (Or.inr (by decide)) (by decide) (by decide))
 have hP := Lib.hid (hP4'.put (u := .slice cx6 cb2.length cc6) (j := 3) hRb4 (by omega) (by decide))
 have hCa := Lib.hid (hCa4.put (u := .slice cx6 cb2.length cc6) (j := 3) hRb4 (by omega) (by decide))
 have hCb := Lib.hid (hCb4.put (u := .slice cx6 cb2.length cc6) (j := 3) hRb4 (by omega) (by decide))
 have hL := Lib.hid (RowT.keepTy (X := [33]) hL4 (by decide) (KeepTy.setArr (o := 3) (u := .slice cx6 cb2.length cc6) hRb4 (by simp)))
 have hb7 := Lib.hid (hb6.setCell (p := ⟨w.heap.size + 1 + 1 + 1, 3, none⟩) (by simp only; omega) (.slice cx6 cb2.length cc6))
 clear hE4 hL4 hP4' hCa4 hCb4 hA4 hO4 hRa4 hRb4 hb6
 go_upto_region 7 with fail
 clear f3 c3
 generalize w6.setCell ⟨w.heap.size + 1 + 1 + 1, 3, none⟩ (.slice cx6 cb2.length cc6) = w7 at *
 obtain ⟨m, hm⟩ : ∃ m : Nat, min (oth.does.keep.length : Int) 6 = (m : Int) := ⟨min oth.does.keep.length 6, by omega⟩
 have q0 : (0 : Int) ≤ (m : Int) := by omega
 have q1 : m ≤ oth.does.keep.length := by omega
 have q2 : (m : Int) ≤ (oth.does.keep.length : Int) := by omega
 have hkk := hkk0.out
 have q3 : (m : Int) ≤ (kc : Int) := by omega
 have q4 : m ≤ kc := by omega
 have hKw := Lib.hid (keep_take hokw.out q1)
 have hO4 := hO.out
 have f6 := hO4.free 6
 have c6 := hO4.cell (j := 6) rfl
 have hO2 := Lib.hid (show Arr (w7.setCell ⟨w.heap.size + 1, 6, none⟩ (.slice ka m kc)) (w.heap.size + 1) 30 [.int .i64 oth.cost, .int .i64 oth.until_, .int .i64 oth.does.id, .int .i64 oth.does.frm, .int .i64 oth.does.to, .bool oth.does.back, .slice ka m kc] from hO4.set 6 _)
 replace hA := Lib.hid (hA.out.other (b := w.heap.size + 1) (o := 6) (.slice ka m kc) (by omega))
 replace hRa := Lib.hid (hRa.out.other (b := w.heap.size + 1) (o := 6) (.slice ka m kc) (by omega))
 replace hRb := Lib.hid (hRb.out.other (b := w.heap.size + 1) (o := 6) (.slice ka m kc) (by omega))
 replace hE := Lib.hid (hE.out.put (u := .slice ka m kc) (j := 6) hO4 (Or.inl hcz2.out) (by decide) (by decide)).edges
 replace hP := Lib.hid (hP.out.put (u := .slice ka m kc) (j := 6) hO4 (by omega) (by decide))
 replace hCa := Lib.hid (hCa.out.put (u := .slice ka m kc) (j := 6) hO4 (by omega) (by decide))
 replace hCb := Lib.hid (hCb.out.put (u := .slice ka m kc) (j := 6) hO4 (by omega) (by decide))
 replace hL := Lib.hid (RowT.keepTy (X := [30]) hL.out (by decide) (KeepTy.setArr (o := 6) (u := .slice ka m kc) hO4 (by simp)))
 have hb8 := Lib.hid (hb7.out.setCell (p := ⟨w.heap.size + 1, 6, none⟩) (by simp only; omega) (.slice ka m kc))
 clear hO hO4 hb7 hcz2
 clear hkk
 go_upto_region 8 with fail
 clear f6 c6 q0 q1 q2 q3 q4
 generalize w7.setCell ⟨w.heap.size + 1, 6, none⟩ (.slice ka m kc) = w8 at *
 replace hm := Lib.hid hm
 obtain ⟨e0, he, he0, he1, he2⟩ := info_parts Tryz.info_edge
 replace he := Lib.hid he
 have hll := hM.out.len
 obtain ⟨us2, hu1, hsrc, hu3, hu4, hu5⟩ := EdgesT.srcs hE.out
 have hba : Below w8.heap.size w8 (w8.alloc (.cells #[] 30)) := (Below.refl _ _).alloc (Nat.le_refl _) _
 have hsrc2 := Lib.hid (SliceAt.later hsrc hba)
 replace hu3 := Lib.hid hu3
 replace hu4 := Lib.hid hu4
 clear hsrc
 generalize hln : l.length = nn at *
 replace hln := Lib.hid hln
 go_upto_region 9 with (at_builtin; refine wpList_append_src rfl _ _ 35 rfl w8.heap.size 30 e0 (.agg #[.int .i64 0, .int .i64 0, .int .i64 0, .int .i64 0, .int .i64 0, .bool false, .slice none 0 0]) 7 72 Tryz.underlying35 he.out he0 he1 he2 rfl (by decide) _ _ _ rfl (World.ownsRow_made w8 #[] 0 (Nat.le_refl _) (Nat.zero_le _) (by simp)) _ nn _ (edC l us2) rfl hsrc2.out hu3.out hu4.out ?qa ?qb ?qc ?_)
 case qa => unfold maxLen; omega
 case qb => omega
 case qc => simp
 intro cv w9 hown hgrow
 replace hown : w9.ownsRow w8.heap.size 30 7 cv nn (edC l us2) := by simpa using hown
 have hbx : Below w8.heap.size w8 w9 := hba.grown hgrow (by simp) (by intro k hk; simp [Value.ownBlock] at hk; omega)
 obtain ⟨gx, gc, rfl⟩ := own_val hown
 have hX : Hid (EdX w8 w9 (.slice gx nn gc) l us2) := ⟨hu1.trans hln.out.symm, by rw [hln.out]; exact hown, fun i hi => (hu5 i (by rw [← hln.out]; exact hi)).at, hbx⟩
 have hmg := Lib.hid hM.out.mig
 clear hown hgrow hsrc2 hu1 hu3 hu4 hu5 hba he he0 he1 he2
 have hO9 := Lib.hid (hO2.out.below hbx)
 go_upto_if 70 with fail
 obtain ⟨tt, ht⟩ : ∃ tt, tt = decide (0 < nn) := ⟨_, rfl⟩
 rw [← ht]
 replace ht := Lib.hid ht
 go_cut [] from 71 (fun wx => ∃ (L : List Edg) (us3 : List Value), Hid (L.length = nn ∧ (∀ e ∈ L, MigIn e.does) ∧ EdX w8 wx (.slice gx nn gc) L us3))
 case first =>
  by_cases h0 : nn = 0
  ·
   obtain rfl : tt = false := ht.out.trans (decide_eq_false (by omega))
   replace h0 := Lib.hid h0
   go_wp2_with fail
   go_meet
   exact ⟨l, us2, hln.out, hmg.out, hX.out⟩
  ·
   obtain rfl : tt = true := ht.out.trans (decide_eq_true (by omega))
   have hX1 : EdX w8 w9 (.slice gx l.length gc) l us2 := by rw [hln.out]; exact hX.out
   obtain ⟨g, gcap, hq⟩ := own_slice hX1.own (by rw [hln.out]; omega)
   obtain rfl : gx = some ⟨g, 0, none⟩ := by injection hq
   clear hq gcap
   have hbd : Below w9.heap.size w9 w9.drew := (Below.refl _ _).drew
   have hX2 := hX1.later hbd
   have hpk := Lib.hid (pick_any which nn w9.drew hwh (by omega) (by omega))
   have hkl := pickv_lt which nn (by omega)
   generalize pickv which nn = k at *
   have k0 : (0 : Int) ≤ (k : Int) := by omega
   have k1 : (k : Int) < (nn : Int) := by omega
   obtain ⟨Ls, hAr, hLs⟩ := own_arr hX2.own
   have hpt := hX2.put (k := k) (by rw [hln.out]; exact hkl) { oth with does := { oth.does with keep := oth.does.keep.take m } } (.slice ka m kc) (hKw.out.later hb8.out)
   have hOd := Lib.hid (hO9.out.below hbd)
   have hO10 := Lib.hid (hO2.out.below hpt.below)
   have hLL : Hid (k * 7 + 7 ≤ Ls.length) := by rw [hln.out] at hLs; exact Nat.le_trans (by omega) hLs
   have hmX : Hid (MigIn { oth.does with keep := oth.does.keep.take m }) := ⟨hoI.out.1, hoI.out.2, hoI.out.3, fun c hc => hoI.out.4 c (List.mem_of_mem_take hc)⟩
   have hend : Hid (EdX w8 (w9.drew.setCells g (k * 7) (edgC { oth with does := { oth.does with keep := oth.does.keep.take m } } (.slice ka m kc))) (.slice (some ⟨g, 0, none⟩) nn gc) (l.set k { oth with does := { oth.does with keep := oth.does.keep.take m } }) (us2.set k (.slice ka m kc))) := by
    rw [← hln.out]; exact hpt
   replace hAr := Lib.hid hAr
   clear hX1 hX2 hpt hLs
   have o0 := hO9.out.cell (j := 0) rfl
   have o1 := hO9.out.cell (j := 1) rfl
   have o2 := hO9.out.cell (j := 2) rfl
   have o3 := hO9.out.cell (j := 3) rfl
   have o4 := hO9.out.cell (j := 4) rfl
   have o5 := hO9.out.cell (j := 5) rfl
   have o6 := hO9.out.cell (j := 6) rfl
   replace hbd := Lib.hid hbd
   go_upto_region 10 with fail
   refine wp_region_held_drew (S := fun w' => w'.cell? ⟨w.heap.size + 1, 0, none⟩ = some (.int .i64 oth.cost) ∧ w'.cell? ⟨w.heap.size + 1, 1, none⟩ = some (.int .i64 oth.until_) ∧ w'.cell? ⟨w.heap.size + 1, 2, none⟩ = some (.int .i64 oth.does.id) ∧ w'.cell? ⟨w.heap.size + 1, 3, none⟩ = some (.int .i64 oth.does.frm) ∧ w'.cell? ⟨w.heap.size + 1, 4, none⟩ = some (.int .i64 oth.does.to) ∧ w'.cell? ⟨w.heap.size + 1, 5, none⟩ = some (.bool oth.does.back) ∧ w'.cell? ⟨w.heap.size + 1, 6, none⟩ = some (.slice ka m kc)) (by kernel_rfl) (by exact ⟨o0, o1, o2, o3, o4, o5, o6⟩) (fun hHeld => ?_)
   refine tk 0 ?_ rfl ?_ ?_
   rotate_left
   ·
    intro w hSw; (try dsimp only at hSw); go_simp; (try with_reducible rfl)
   (try simp only [Act.put, setIfInBounds_toArray, set_cons_zero, set_cons_succ])
   refine tk 1 ?_ rfl ?_ ?_
   rotate_left
   ·
    intro w hSw; (try dsimp only at hSw); go_simp; (try with_reducible rfl)
   (try simp only [Act.put, setIfInBounds_toArray, set_cons_zero, set_cons_succ])
   refine tk 2 ?_ rfl ?_ ?_
   rotate_left
   ·
    intro w hSw; (try dsimp only at hSw); go_simp; (try with_reducible rfl)
   (try simp only [Act.put, setIfInBounds_toArray, set_cons_zero, set_cons_succ])
   refine tk 3 ?_ rfl ?_ ?_
   rotate_left
   ·
    intro w hSw; (try dsimp only at hSw); go_simp; (try with_reducible rfl)
   (try simp only [Act.put, setIfInBounds_toArray, set_cons_zero, set_cons_succ])
   refine tk 5 ?_ rfl ?_ ?_
   rotate_left
   ·
    intro w hSw; (try dsimp only at hSw); go_simp; (try with_reducible rfl)
   (try simp only [Act.put, setIfInBounds_toArray, set_cons_zero, set_cons_succ])
   clear o0 o1 o2 o3 o4 o5 o6
   refine wpAnyH_ready (rs := [4]) (by kernel_rfl) (by simp) ?_
   refine ready_l rfl (fun K hK => ?_) AllReadyH.nil
   go_simp
   go_at_call 14
   refine hpk.out.mono ?_
   rintro e wq ⟨rfl, rfl⟩
   refine hK.out _ _ (by exact ⟨hOd.out.cell rfl, hOd.out.cell rfl, hOd.out.cell rfl, hOd.out.cell rfl, hOd.out.cell rfl, hOd.out.cell rfl, hOd.out.cell rfl⟩) (fun hHeld2 => ?_)
   clear hK K hHeld hpk
   (try simp only [Act.put, setIfInBounds_toArray, set_cons_zero, set_cons_succ])
   refine tk 6 ?_ rfl ?_ ?_
   rotate_left
   ·
    intro w hSw; (try dsimp only at hSw); go_simp; (try with_reducible rfl)
   (try simp only [Act.put, setIfInBounds_toArray, set_cons_zero, set_cons_succ])
   refine wpAnyH_ready (rs := [7]) (by kernel_rfl) (by simp) ?_
   refine ready_l rfl (fun K hK => ?_) AllReadyH.nil
   refine step_store_arr rfl 30 _ _ rfl g (k * 7) (by kernel_rfl) (vs := edgC { oth with does := { oth.does with keep := oth.does.keep.take m } } (.slice ka m kc)) (by kernel_rfl) hAr.out (n := 7) (by kernel_rfl) hLL.out rfl rfl ?_
   (try simp only [Act.put, setIfInBounds_toArray, set_cons_zero, set_cons_succ])
   refine hK.out _ _ (by exact ⟨hO10.out.cell rfl, hO10.out.cell rfl, hO10.out.cell rfl, hO10.out.cell rfl, hO10.out.cell rfl, hO10.out.cell rfl, hO10.out.cell rfl⟩) (fun hHeld3 => ?_)
   clear hK K hHeld2
   (try simp only [Act.put, setIfInBounds_toArray, set_cons_zero, set_cons_succ])
   refine wpAnyH_done (by kernel_rfl) ?_ _
   go_wp2_with fail
   go_meet
   exact ⟨_, _, (by rw [List.length_set]; exact hln.out), mig_set hmg.out k hmX.out, hend.out⟩
 case rest =>
  obtain ⟨L, us3, hcc⟩ := hcut
  obtain ⟨hLn, hLm, hX3⟩ := hcc.out
  clear hcc hX hO2 hO9 hKw hwh hoI hokw hm hmg
  have hbc := hX3.below
  have hEx : EdgesAt wc wc.heap.size (.slice gx nn gc) L := hX3.at
  have hEy : EdgesAt wc wc.heap.size (.slice xe nn ce) l := EdgesT.at (EdgesT.below hE.out hbc)
  obtain ⟨wd, hwd⟩ : ∃ wd, wd = wc.alloc (.cells #[.slice xe nn ce, .slice gx nn gc] 35) := ⟨_, rfl⟩
  have hbcd : Below wc.heap.size wc wd := by rw [hwd]; exact lit_below _ _
  have hD : Arr wd wc.heap.size 35 [.slice xe nn ce, .slice gx nn gc] := by rw [hwd]; exact Arr.new rfl rfl
  have hb8d := hbc.trans (hbcd.mono hbc.size)
  replace hEx := Lib.hid (hEx.later hbcd)
  replace hEy := Lib.hid (hEy.later hbcd)
  have hLd : Hid (NumsAt wd wd.heap.size (.slice xl life.length cl) life) := NumsT.at (RowT.below hL.out hb8d)
  have hPd : Hid (ClaimsAt wd wd.heap.size (.slice px3 po.length pc3) po) := (hP.out.later hb8d).at
  have hCad : Hid (ClaimsAt wd wd.heap.size (.slice cx4 ca2.length cc4) ca2) := (hCa.out.later hb8d).at
  have hCbd : Hid (ClaimsAt wd wd.heap.size (.slice cx6 cb2.length cc6) cb2) := (hCb.out.later hb8d).at
  have hAd := Lib.hid (hA.out.below hb8d)
  have hRad := Lib.hid (hRa.out.below hb8d)
  have hRbd := Lib.hid (hRb.out.below hb8d)
  have hbd := Lib.hid (hb8.out.trans (hb8d.mono hb8.out.size))
  have hNd : Hid (NumsAt wd wd.heap.size (.slice nx nl.length nc) nl) := NumsAt.later hN0.out hbd.out
  replace hD := Lib.hid hD
  have hml := Lib.hid hM.out.mig
  replace hLm := Lib.hid hLm
  replace hLn := Lib.hid hLn
  clear hX3 hbc hbcd hb8d hE hL hP hCa hCb hA hRa hRb hb8
  have hb0 := Lib.hid (Below.refl wd.heap.size wd)
  go_upto_region 12 with fail
  rw [← hwd]
  clear hwd
  go_loopw [82] (fun iv wr => ∃ i : Nat, i ≤ 2 ∧ iv = .int .i64 (i : Int) ∧ Hid (Below wd.heap.size wd wr)) (fun iv _ => 2 - (intOf iv).toNat)
  case atStart => exact ⟨0, Nat.zero_le _, rfl, hb0⟩
  case round =>
   obtain ⟨i, hi, rfl, hbr⟩ := hrel
   clear hb0
   obtain ⟨w10, hw10⟩ : ∃ w10, w10 = wr := ⟨_, rfl⟩
   subst hw10
   by_cases hlt : i < 2
   ·
    have hyes : decide ((i : Int) < 2) = true := decide_eq_true (by omega)
    have k0 : (0 : Int) ≤ (i : Int) := by omega
    have k1 : (i : Int) < 2 := by omega
    have hwi : IntKind.i64.wrap ((i : Int) + 1) = (i : Int) + 1 := IntWalk.i64_in _ (by omega)
    have hbn := Lib.hid hbr.out
    obtain ⟨ya, yc, Y, hYc, hYn, hYm, hYe⟩ : ∃ ya yc Y, w10.cell? ⟨wc.heap.size, i, none⟩ = some (.slice ya nn yc) ∧ Y.length = nn ∧ (∀ e ∈ Y, MigIn e.does) ∧ EdgesAt w10 w10.heap.size (.slice ya nn yc) Y := by
     have hD2 := hD.out.below hbr.out
     rcases (show i = 0 ∨ i = 1 by omega) with rfl | rfl
     ·
      exact ⟨xe, ce, l, hD2.cell rfl, hln.out, hml.out, hEy.out.later hbr.out⟩
     ·
      exact ⟨gx, gc, L, hD2.cell rfl, hLn.out, hLm.out, hEx.out.later hbr.out⟩
    replace hYm := Lib.hid hYm
    replace hYe := Lib.hid hYe
    replace hYn := Lib.hid hYn
    have hva := Lib.hid (rValid_any _ Y w10 hYe.out hYm.out)
    have hvb := fun W (hb : Below w10.heap.size w10 W) => Valid11_any _ Y W (hYe.out.later hb)
    replace hvb := Lib.hid hvb
    obtain ⟨vy, hvy⟩ : ∃ vy, validE Y = vy := ⟨_, rfl⟩
    rw [hvy] at hva
    simp only [hvy] at hvb
    have t6 : (vy != vy) = false := bne_self_eq_false _
    clear hvy
    go_upto_region 14 with fail
    clear hYc
    go_wp2_with fail
    refine hva.out.mono ?_
    rintro e w11 ⟨rfl, hb11⟩
    have hv2 := Lib.hid (hvb.out w11 hb11)
    clear hva hvb
    go_wp2_with fail
    refine hv2.out.mono ?_
    rintro e w12 ⟨rfl, hb12⟩
    clear hv2
    have hb13 := hb11.trans (hb12.mono hb11.size)
    have hb14 := Lib.hid (hbr.out.trans (hb13.mono hbr.out.size))
    replace hYe := Lib.hid (hYe.out.later hb13)
    have hA12 := hAd.out.below hb14.out
    have a2 := hA12.cell (j := 2) rfl
    have a3 := hA12.cell (j := 3) rfl
    have a4 := hA12.cell (j := 4) rfl
    obtain ⟨hz, hhz⟩ : ∃ hz : Int, min hp 6 = hz := ⟨_, rfl⟩
    clear hb11 hb12 hb13 hA12
    go_upto_region 17 with fail
    obtain ⟨w13, hw13⟩ : ∃ w13, w13 = w12.alloc (.cells #[.int .i64 f, .int .i64 d, .int .i64 hops, .int .i64 fr, .int .i64 dy, .int .i64 hz] 43) := ⟨_, rfl⟩
    have hb23 : Below w12.heap.size w12 w13 := by rw [hw13]; exact lit_below _ _
    have hZ : Hid (Arr w13 w12.heap.size 43 [.int .i64 f, .int .i64 d, .int .i64 hops, .int .i64 fr, .int .i64 dy, .int .i64 hz]) := by rw [hw13]; exact Arr.new rfl rfl
    replace hYe := Lib.hid (hYe.out.later hb23)
    have hb15 := Lib.hid (hb14.out.trans (hb23.mono hb14.out.size))
    have hL15 := Lib.hid (NumsAt.later hLd.out hb15.out)
    have hN15 := Lib.hid (NumsAt.later hNd.out hb15.out)
    have hP15 := Lib.hid (hPd.out.later hb15.out)
    have hCa15 := Lib.hid (hCad.out.later hb15.out)
    have hCb15 := Lib.hid (hCbd.out.later hb15.out)
    have hRa15 := Lib.hid (hRad.out.below hb15.out)
    have hRb15 := Lib.hid (hRbd.out.below hb15.out)
    have hb0 := Lib.hid (Below.refl w13.heap.size w13)
    clear hb23 hb14 a2 a3 a4 hhz
    rw [← hw13]
    clear hw13
    go_loopw [105] (fun jv wr => ∃ j : Nat, j ≤ 2 ∧ jv = .int .i64 (j : Int) ∧ Hid (Below w13.heap.size w13 wr)) (fun jv _ => 2 - (intOf jv).toNat)
    case atStart => exact ⟨0, Nat.zero_le _, rfl, hb0⟩
    case round =>
     obtain ⟨j, hj, rfl, hbr2⟩ := hrel
     clear hb0 hbr
     obtain ⟨w16, hw16⟩ : ∃ w16, w16 = wr := ⟨_, rfl⟩
     subst hw16
     by_cases hlj : j < 2
     ·
      have hyes : decide ((j : Int) < 2) = true := decide_eq_true (by omega)
      have k0 : (0 : Int) ≤ (j : Int) := by omega
      have k1 : (j : Int) < 2 := by omega
      have hwj : IntKind.i64.wrap ((j : Int) + 1) = (j : Int) + 1 := IntWalk.i64_in _ (by omega)
      obtain ⟨z0, z1, z2, x0, x1, x2⟩ : ∃ z0 z1 z2 : Int, w16.cell? ⟨w12.heap.size, j * 3, none⟩ = some (.int .i64 z0) ∧ w16.cell? ⟨w12.heap.size, j * 3 + 1, none⟩ = some (.int .i64 z1) ∧ w16.cell? ⟨w12.heap.size, j * 3 + 2, none⟩ = some (.int .i64 z2) := by
       have hZ2 := hZ.out.below hbr2.out
       rcases (show j = 0 ∨ j = 1 by omega) with rfl | rfl
       ·
        exact ⟨f, d, hops, hZ2.cell rfl, hZ2.cell rfl, hZ2.cell rfl⟩
       ·
        exact ⟨fr, dy, hz, hZ2.cell rfl, hZ2.cell rfl, hZ2.cell rfl⟩
      obtain ⟨w17, hw17⟩ : ∃ w17, w17 = w16.alloc (.cells #[.int .i64 z0, .int .i64 z1, .int .i64 z2] 43) := ⟨_, rfl⟩
      have hb67 : Below w16.heap.size w16 w17 := by rw [hw17]; exact lit_below _ _
      have hV : Hid (Arr w17 w16.heap.size 43 [.int .i64 z0, .int .i64 z1, .int .i64 z2]) := by rw [hw17]; exact Arr.new rfl rfl
      have hb7 := Lib.hid (hbr2.out.trans (hb67.mono hbr2.out.size))
      clear hb67
      obtain ⟨ob, hob⟩ : ∃ ob, ofP Y life z0 z1 nl = ob := ⟨_, rfl⟩
      obtain ⟨Rs, hRs⟩ : ∃ Rs, bestP Y life z0 z1 z2 = Rs := ⟨_, rfl⟩
      have hof := fun W (hb : Below w13.heap.size w13 W) => of_at Y life z0 z1 nl ob hob _ _ _ W hYm.out (hYe.out.later hb) (NumsAt.later hL15.out hb) (NumsAt.later hN15.out hb)
      have hof11 := fun W (hb : Below w13.heap.size w13 W) => Of11_any Y life z0 z1 nl _ _ _ W (hYe.out.later hb) (NumsAt.later hL15.out hb) (NumsAt.later hN15.out hb)
      simp only [hob] at hof11
      have hbs := fun W (hb : Below w13.heap.size w13 W) => best_at Y life z0 z1 z2 Rs hRs _ _ W hYm.out (hYe.out.later hb) (NumsAt.later hL15.out hb)
      have hbs11 := fun W (hb : Below w13.heap.size w13 W) => best11_at Y life z0 z1 z2 Rs hRs _ _ W (hYe.out.later hb) (NumsAt.later hL15.out hb)
      replace hof := Lib.hid (hof w17 hb7.out)
      replace hof11 := Lib.hid hof11
      replace hbs := Lib.hid hbs
      replace hbs11 := Lib.hid hbs11
      clear hob hRs
      go_upto_region 19 with fail
      rw [← hw17]
      clear hw17 x0 x1 x2
      have v0 := hV.out.cell (j := 0) rfl
      have v1 := hV.out.cell (j := 1) rfl
      have v2 := hV.out.cell (j := 2) rfl
      go_wp2_with fail
      refine hof.out.mono ?_
      clear hof
      rintro e w18 ⟨ra, rc, sa, sc, r, rfl, hr, hok, hb78⟩
      obtain ⟨w19, hw19⟩ : ∃ w19, w19 = w18.alloc (.cells #[.slice ra r.edges.length rc, .int .i64 r.cost, .int .i64 r.life, .slice sa r.claims.length sc] 33) := ⟨_, rfl⟩
      have hb89 : Below w18.heap.size w18 w19 := by rw [hw19]; exact lit_below _ _
      have hB1 : Hid (Arr w19 w18.heap.size 33 [.slice ra r.edges.length rc, .int .i64 r.cost, .int .i64 r.life, .slice sa r.claims.length sc]) := by rw [hw19]; exact Arr.new rfl rfl
      have hb79 := hb78.trans (hb89.mono hb78.size)
      have hok1 := Lib.hid (hok.below hb89)
      have hb9 := Lib.hid (hb7.out.trans (hb79.mono hb7.out.size))
      replace hV := Lib.hid (hV.out.below hb79)
      replace hr := Lib.hid hr
      clear hb78 hb89 hb79 hok hb7 v0 v1 v2
      have ho2 := Lib.hid (hof11.out w19 hb9.out)
      clear hof11
      go_upto_region 20 with fail
      rw [← hw19]
      clear hw19
      have v0 := hV.out.cell (j := 0) rfl
      have v1 := hV.out.cell (j := 1) rfl
      have v2 := hV.out.cell (j := 2) rfl
      go_wp2_with fail
      refine ho2.out.mono ?_
      clear ho2
      rintro e w20 ⟨ta, tc, ua, uc, s, rfl, hs, hok, hb90⟩
      obtain rfl : s = r := hs.trans hr.out.symm
      clear hs hr
      obtain ⟨w21, hw21⟩ : ∃ w21, w21 = w20.alloc (.cells #[.slice ta s.edges.length tc, .int .i64 s.cost, .int .i64 s.life, .slice ua s.claims.length uc] 33) := ⟨_, rfl⟩
      have hb01 : Below w20.heap.size w20 w21 := by rw [hw21]; exact lit_below _ _
      have hB2 : Hid (Arr w21 w20.heap.size 33 [.slice ta s.edges.length tc, .int .i64 s.cost, .int .i64 s.life, .slice ua s.claims.length uc]) := by rw [hw21]; exact Arr.new rfl rfl
      have hb91 := hb90.trans (hb01.mono hb90.size)
      have hok2 := Lib.hid (hok.below hb01)
      have hb21 := Lib.hid (hb9.out.trans (hb91.mono hb9.out.size))
      replace hV := Lib.hid (hV.out.below hb91)
      replace hB1 := Lib.hid (hB1.out.below hb91)
      replace hok1 := Lib.hid (hok1.out.below hb91)
      clear hb90 hb01 hb91 hok hb9 v0 v1 v2
      have ho2 := Lib.hid (hbs.out w21 hb21.out)
      clear hbs
      go_upto_region 21 with fail
      rw [← hw21]
      clear hw21
      have v0 := hV.out.cell (j := 0) rfl
      have v1 := hV.out.cell (j := 1) rfl
      have v2 := hV.out.cell (j := 2) rfl
      go_wp2_with fail
      refine ho2.out.mono ?_
      clear ho2
      rintro e w22 ⟨ba, bc, rfl, hRm, hrow, hb12⟩
      replace hV := Lib.hid (hV.out.below hb12)
      replace hB1 := Lib.hid (hB1.out.below hb12)
      replace hB2 := Lib.hid (hB2.out.below hb12)
      replace hok1 := Lib.hid (hok1.out.below hb12)
      replace hok2 := Lib.hid (hok2.out.below hb12)
      have hb22 := Lib.hid (hb21.out.trans (hb12.mono hb21.out.size))
      replace hrow := Lib.hid hrow
      clear hb12 hb21 v0 v1 v2
      have ho2 := Lib.hid (hbs11.out w22 hb22.out)
      clear hbs11
      have v0 := hV.out.cell (j := 0) rfl
      have v1 := hV.out.cell (j := 1) rfl
      have v2 := hV.out.cell (j := 2) rfl
      go_wp2_with fail
      refine ho2.out.mono ?_
      clear ho2 v0 v1 v2
      rintro e w23 ⟨da, dc, rfl, hrow2, hb12⟩
      replace hB1 := Lib.hid (hB1.out.below hb12)
      replace hB2 := Lib.hid (hB2.out.below hb12)
      replace hok1 := Lib.hid (hok1.out.below hb12)
      replace hok2 := Lib.hid (hok2.out.below hb12)
      replace hrow := Lib.hid (hrow.out.below hb12)
      have hb23 := Lib.hid (hb22.out.trans (hb12.mono hb22.out.size))
      replace hrow2 := Lib.hid hrow2
      replace hRm := Lib.hid hRm
      clear hb12 hb22 hV
      have hP23 := Lib.hid (hP15.out.later hb23.out)
      have hbd : Below w23.heap.size w23 w23.drew := (Below.refl _ _).drew
      have hsm := same_law s s ra ta sa ua rc tc sc uc w23.drew (hok1.out.below hbd) (hok2.out.below hbd)
      rw [decide_eq_true rfl] at hsm
      replace hsm := Lib.hid hsm
      obtain ⟨kp, hkp⟩ : ∃ kp, keepsP s po = kp := ⟨_, rfl⟩
      have hkA := fun W (hb : Below w23.heap.size w23 W) => Keeps_any s ra s.edges.length rc _ _ po W (hok1.out.below hb).2.at (hP23.out.later hb) hpI2.out
      have hkB := fun W (hb : Below w23.heap.size w23 W) => Keeps11_any s ra s.edges.length rc _ _ po W (hok1.out.below hb).2.at (hP23.out.later hb)
      simp only [hkp] at hkA hkB
      replace hkA := Lib.hid hkA
      replace hkB := Lib.hid hkB
      clear hkp
      generalize ofE ob = oe at *
      have t7 : (oe != oe) = false := bne_self_eq_false _
      have t8 : ((Rs.length : Int) != (Rs.length : Int)) = false := bne_self_eq_false _
      have t9 : (kp != kp) = false := bne_self_eq_false _
      have c0 := hB1.out.cell (j := 0) rfl
      have c1 := hB1.out.cell (j := 1) rfl
      have c2 := hB1.out.cell (j := 2) rfl
      have c3 := hB1.out.cell (j := 3) rfl
      have d0 := hB2.out.cell (j := 0) rfl
      have d1 := hB2.out.cell (j := 1) rfl
      have d2 := hB2.out.cell (j := 2) rfl
      have d3 := hB2.out.cell (j := 3) rfl
      go_upto_region 23 with fail
      refine wp_region_held_drew (S := fun w' => w'.cell? ⟨w18.heap.size, 0, none⟩ = some (.slice ra s.edges.length rc) ∧ w'.cell? ⟨w18.heap.size, 1, none⟩ = some (.int .i64 s.cost) ∧ w'.cell? ⟨w18.heap.size, 2, none⟩ = some (.int .i64 s.life) ∧ w'.cell? ⟨w18.heap.size, 3, none⟩ = some (.slice sa s.claims.length sc) ∧ w'.cell? ⟨w20.heap.size, 0, none⟩ = some (.slice ta s.edges.length tc) ∧ w'.cell? ⟨w20.heap.size, 1, none⟩ = some (.int .i64 s.cost) ∧ w'.cell? ⟨w20.heap.size, 2, none⟩ = some (.int .i64 s.life) ∧ w'.cell? ⟨w20.heap.size, 3, none⟩ = some (.slice ua s.claims.length uc)) (by kernel_rfl) (by exact ⟨c0, c1, c2, c3, d0, d1, d2, d3⟩) (fun hHeld => ?_)
      refine tk 0 ?_ rfl ?_ ?_
      rotate_left
      ·
       intro w hSw; (try dsimp only at hSw); go_simp; (try with_reducible rfl)
      (try simp only [Act.put, setIfInBounds_toArray, set_cons_zero, set_cons_succ])
      refine tk 1 ?_ rfl ?_ ?_
      rotate_left
      ·
       intro w hSw; (try dsimp only at hSw); go_simp; (try with_reducible rfl)
      (try simp only [Act.put, setIfInBounds_toArray, set_cons_zero, set_cons_succ])
      refine tk 2 ?_ rfl ?_ ?_
      rotate_left
      ·
       intro w hSw; (try dsimp only at hSw); go_simp; (try with_reducible rfl)
      (try simp only [Act.put, setIfInBounds_toArray, set_cons_zero, set_cons_succ])
      refine tk 3 ?_ rfl ?_ ?_
      rotate_left
      ·
       intro w hSw; (try dsimp only at hSw); go_simp; (try with_reducible rfl)
      (try simp only [Act.put, setIfInBounds_toArray, set_cons_zero, set_cons_succ])
      refine tk 4 ?_ rfl ?_ ?_
      rotate_left
      ·
       intro w hSw; (try dsimp only at hSw); go_simp; (try with_reducible rfl)
      (try simp only [Act.put, setIfInBounds_toArray, set_cons_zero, set_cons_succ])
      refine tk 5 ?_ rfl ?_ ?_
      rotate_left
      ·
       intro w hSw; (try dsimp only at hSw); go_simp; (try with_reducible rfl)
      (try simp only [Act.put, setIfInBounds_toArray, set_cons_zero, set_cons_succ])
      clear c0 c1 c2 c3 d0 d1 d2 d3
      refine wpAnyH_ready (rs := [6]) (by kernel_rfl) (by simp) ?_
      refine ready_l rfl (fun K hK => ?_) AllReadyH.nil
      go_simp
      refine hsm.out.mono ?_
      rintro e w24 ⟨rfl, hbq⟩
      have hb34 := hbd.trans (hbq.mono hbd.size)
      refine hK.out _ _ (by exact ⟨(hB1.out.below hb34).cell rfl, (hB1.out.below hb34).cell rfl, (hB1.out.below hb34).cell rfl, (hB1.out.below hb34).cell rfl, (hB2.out.below hb34).cell rfl, (hB2.out.below hb34).cell rfl, (hB2.out.below hb34).cell rfl, (hB2.out.below hb34).cell rfl⟩) (fun hHeld2 => ?_)
      clear hK K hHeld hbq hsm
      (try simp only [Act.put, setIfInBounds_toArray, set_cons_zero, set_cons_succ])
      have hkA2 := Lib.hid (hkA.out w24 hb34)
      refine tk 7 ?_ rfl ?_ ?_
      rotate_left
      ·
       intro w hSw; (try dsimp only at hSw); go_simp; (try with_reducible rfl)
      (try simp only [Act.put, setIfInBounds_toArray, set_cons_zero, set_cons_succ])
      refine tk 8 ?_ rfl ?_ ?_
      rotate_left
      ·
       intro w hSw; (try dsimp only at hSw); go_simp; (try with_reducible rfl)
      (try simp only [Act.put, setIfInBounds_toArray, set_cons_zero, set_cons_succ])
      refine tk 9 ?_ rfl ?_ ?_
      rotate_left
      ·
       intro w hSw; (try dsimp only at hSw); go_simp; (try with_reducible rfl)
      (try simp only [Act.put, setIfInBounds_toArray, set_cons_zero, set_cons_succ])
      refine tk 10 ?_ rfl ?_ ?_
      rotate_left
      ·
       intro w hSw; (try dsimp only at hSw); go_simp; (try with_reducible rfl)
      (try simp only [Act.put, setIfInBounds_toArray, set_cons_zero, set_cons_succ])
      refine tk 11 ?_ rfl ?_ ?_
      rotate_left
      ·
       intro w hSw; (try dsimp only at hSw); go_simp; (try with_reducible rfl)
      (try simp only [Act.put, setIfInBounds_toArray, set_cons_zero, set_cons_succ])
      refine tk 12 ?_ rfl ?_ ?_
      rotate_left
      ·
       intro w hSw; (try dsimp only at hSw); go_simp; (try with_reducible rfl)
      (try simp only [Act.put, setIfInBounds_toArray, set_cons_zero, set_cons_succ])
      refine tk 13 ?_ rfl ?_ ?_
      rotate_left
      ·
       intro w hSw; (try dsimp only at hSw); go_simp; (try with_reducible rfl)
      (try simp only [Act.put, setIfInBounds_toArray, set_cons_zero, set_cons_succ])
      refine tk 14 ?_ rfl ?_ ?_
      rotate_left
      ·
       intro w hSw; (try dsimp only at hSw); go_simp; (try with_reducible rfl)
      (try simp only [Act.put, setIfInBounds_toArray, set_cons_zero, set_cons_succ])
      refine tk 15 ?_ rfl ?_ ?_
      rotate_left
      ·
       intro w hSw; (try dsimp only at hSw); go_simp; (try with_reducible rfl)
      (try simp only [Act.put, setIfInBounds_toArray, set_cons_zero, set_cons_succ])
      refine tk 16 ?_ rfl ?_ ?_
      rotate_left
      ·
       intro w hSw; (try dsimp only at hSw); go_simp; (try with_reducible rfl)
      (try simp only [Act.put, setIfInBounds_toArray, set_cons_zero, set_cons_succ])
      refine tk 17 ?_ rfl ?_ ?_
      rotate_left
      ·
       intro w hSw; (try dsimp only at hSw); go_simp; (try with_reducible rfl)
      (try simp only [Act.put, setIfInBounds_toArray, set_cons_zero, set_cons_succ])
      refine tk 18 ?_ rfl ?_ ?_
      rotate_left
      ·
       intro w hSw; (try dsimp only at hSw); go_simp; (try with_reducible rfl)
      (try simp only [Act.put, setIfInBounds_toArray, set_cons_zero, set_cons_succ])
      refine tk 20 ?_ rfl ?_ ?_
      rotate_left
      ·
       intro w hSw; (try dsimp only at hSw); go_simp; (try with_reducible rfl)
      (try simp only [Act.put, setIfInBounds_toArray, set_cons_zero, set_cons_succ])
      refine tk 21 ?_ rfl ?_ ?_
      rotate_left
      ·
       intro w hSw; (try dsimp only at hSw); go_simp; (try with_reducible rfl)
      (try simp only [Act.put, setIfInBounds_toArray, set_cons_zero, set_cons_succ])
      refine wpAnyH_ready (rs := [19]) (by kernel_rfl) (by simp) ?_
      refine ready_l rfl (fun K hK => ?_) AllReadyH.nil
      go_simp
      refine hkA2.out.mono ?_
      rintro e w25 ⟨rfl, hbq⟩
      have hb35 := hb34.trans (hbq.mono hb34.size)
      refine hK.out _ _ (by exact ⟨(hB1.out.below hb35).cell rfl, (hB1.out.below hb35).cell rfl, (hB1.out.below hb35).cell rfl, (hB1.out.below hb35).cell rfl, (hB2.out.below hb35).cell rfl, (hB2.out.below hb35).cell rfl, (hB2.out.below hb35).cell rfl, (hB2.out.below hb35).cell rfl⟩) (fun hHeld3 => ?_)
      clear hK K hHeld2 hbq hkA2
      (try simp only [Act.put, setIfInBounds_toArray, set_cons_zero, set_cons_succ])
      have hkB2 := Lib.hid (hkB.out w25 hb35)
      refine wpAnyH_ready (rs := [22]) (by kernel_rfl) (by simp) ?_
      refine ready_l rfl (fun K hK => ?_) AllReadyH.nil
      go_simp
      refine hkB2.out.mono ?_
      rintro e w26 ⟨rfl, hbq⟩
      have hb36 := hb35.trans (hbq.mono hb35.size)
      refine hK.out _ _ (by exact ⟨(hB1.out.below hb36).cell rfl, (hB1.out.below hb36).cell rfl, (hB1.out.below hb36).cell rfl, (hB1.out.below hb36).cell rfl, (hB2.out.below hb36).cell rfl, (hB2.out.below hb36).cell rfl, (hB2.out.below hb36).cell rfl, (hB2.out.below hb36).cell rfl⟩) (fun hHeld4 => ?_)
      clear hK K hHeld3 hbq hkB2
      (try simp only [Act.put, setIfInBounds_toArray, set_cons_zero, set_cons_succ])
      refine tk 23 ?_ rfl ?_ ?_
      rotate_left
      ·
       intro w hSw; (try dsimp only at hSw); go_simp; (try with_reducible rfl)
      (try simp only [Act.put, setIfInBounds_toArray, set_cons_zero, set_cons_succ])
      refine tk 24 ?_ rfl ?_ ?_
      rotate_left
      ·
       intro w hSw; (try dsimp only at hSw); go_simp; (try with_reducible rfl)
      (try simp only [Act.put, setIfInBounds_toArray, set_cons_zero, set_cons_succ])
      refine wpAnyH_done (by kernel_rfl) ?_ _
      clear hHeld4 hkA hkB hB1 hB2 hok1 hok2 hbd hb34 hb35
      replace hrow := Lib.hid (hrow.out.below hb36)
      replace hrow2 := Lib.hid (hrow2.out.below hb36)
      have hb26 := Lib.hid (hb23.out.trans (hb36.mono hb23.out.size))
      clear hb36 hb23 hP23
      have hbz := Lib.hid (Below.refl w26.heap.size w26)
      go_wp2_with fail
      go_loopw [32] (fun kv wr => ∃ k : Nat, k ≤ Rs.length ∧ kv = .int .i64 (k : Int) ∧ Hid (Below w26.heap.size w26 wr)) (fun kv _ => Rs.length - (intOf kv).toNat)
      case atStart => exact ⟨0, Nat.zero_le _, rfl, hbz⟩
      case round =>
       obtain ⟨k, hk', rfl, hbr3⟩ := hrel
       clear hbz
       obtain ⟨w27, hw27⟩ : ∃ w27, w27 = wr := ⟨_, rfl⟩
       subst hw27
       have hbR := Lib.hid (hb26.out.trans (hbr3.out.mono hb26.out.size))
       by_cases hlk : k < Rs.length
       ·
        have hyes : decide ((k : Int) < (Rs.length : Int)) = true := decide_eq_true (by omega)
        have k0 : (0 : Int) ≤ (k : Int) := by omega
        have k1 : (k : Int) < (Rs.length : Int) := by omega
        have hwk : IntKind.i64.wrap ((k : Int) + 1) = (k : Int) + 1 := IntWalk.i64_in _ (by have := hRm.out; unfold maxLen at this; omega)
        obtain ⟨b1, o1, ea1, ec1, ca1, cc1, hq1, hl1, x0, x1, x2, x3, ok1⟩ := (hrow.out.below hbr3.out) k hlk
        obtain ⟨b2, o2, ea2, ec2, ca2q, cc2, hq2, hl2, y0, y1, y2, y3, ok2⟩ := (hrow2.out.below hbr3.out) k hlk
        subst hq1 hq2
        have hRaR := Lib.hid (hRa15.out.below hbR.out)
        have hRbR := Lib.hid (hRb15.out.below hbR.out)
        have hCaR := Lib.hid (hCa15.out.later hbR.out)
        have hCbR := Lib.hid (hCb15.out.later hbR.out)
        generalize Rs[k]! = q at *
        have hbd : Below w27.heap.size w27 w27.drew := (Below.refl _ _).drew
        have hsm := same_law q q ea1 ea2 ca1 ca2q ec1 ec2 cc1 cc2 w27.drew (ok1.below hbd) (ok2.below hbd)
        rw [decide_eq_true rfl] at hsm
        replace hsm := Lib.hid hsm
        obtain ⟨p1, hp1⟩ : ∃ p1, betterP q { a with claims := ca2 } = p1 := ⟨_, rfl⟩
        obtain ⟨p2, hp2⟩ : ∃ p2, betterP { b with claims := cb2 } q = p2 := ⟨_, rfl⟩
        have h1 := fun W (hb : Below w27.heap.size w27 W) => Better_any q { a with claims := ca2 } ea1 ea q.edges.length an ec1 em _ _ W (ok1.below hb).2.at (hCaR.out.later hb)
        have h2 := fun W (hb : Below w27.heap.size w27 W) => Better11_any q { a with claims := ca2 } ea2 ea q.edges.length an ec2 em _ _ W (ok2.below hb).2.at (hCaR.out.later hb)
        have h2' := fun W (hb : Below w27.heap.size w27 W) => Better11_any q { a with claims := ca2 } ea1 ea q.edges.length an ec1 em _ _ W (ok1.below hb).2.at (hCaR.out.later hb)
        have h3 := fun W (hb : Below w27.heap.size w27 W) => Better_any { b with claims := cb2 } q eb ea1 bn q.edges.length bm ec1 _ _ W (hCbR.out.later hb) (ok1.below hb).2.at
        have h4 := fun W (hb : Below w27.heap.size w27 W) => Better11_any { b with claims := cb2 } q eb ea1 bn q.edges.length bm ec1 _ _ W (hCbR.out.later hb) (ok1.below hb).2.at
        dsimp only at h1 h2' h3 h4
        simp only [hp1] at h1 h2'
        simp only [hp2] at h3 h4
        replace h1 := Lib.hid h1
        replace h2' := Lib.hid h2'
        replace h3 := Lib.hid h3
        replace h4 := Lib.hid h4
        clear h2 hp1 hp2
        have t7 : (p1 != p1) = false := bne_self_eq_false _
        have t8 : (p2 != p2) = false := bne_self_eq_false _
        have c0 := hRaR.out.cell (j := 0) rfl
        have c1 := hRaR.out.cell (j := 1) rfl
        have c2 := hRaR.out.cell (j := 2) rfl
        have c3 := hRaR.out.cell (j := 3) rfl
        have d0 := hRbR.out.cell (j := 0) rfl
        have d1 := hRbR.out.cell (j := 1) rfl
        have d2 := hRbR.out.cell (j := 2) rfl
        have d3 := hRbR.out.cell (j := 3) rfl
        go_upto_region 28 with fail
        refine wp_region_held_drew (S := fun w' => w'.cell? ⟨b1, o1 + k * 4, none⟩ = some (.slice ea1 q.edges.length ec1) ∧ w'.cell? ⟨b1, o1 + k * 4 + 1, none⟩ = some (.int .i64 q.cost) ∧ w'.cell? ⟨b1, o1 + k * 4 + 2, none⟩ = some (.int .i64 q.life) ∧ w'.cell? ⟨b1, o1 + k * 4 + 3, none⟩ = some (.slice ca1 q.claims.length cc1) ∧ w'.cell? ⟨b2, o2 + k * 4, none⟩ = some (.slice ea2 q.edges.length ec2) ∧ w'.cell? ⟨b2, o2 + k * 4 + 1, none⟩ = some (.int .i64 q.cost) ∧ w'.cell? ⟨b2, o2 + k * 4 + 2, none⟩ = some (.int .i64 q.life) ∧ w'.cell? ⟨b2, o2 + k * 4 + 3, none⟩ = some (.slice ca2q q.claims.length cc2) ∧ w'.cell? ⟨w.heap.size + 1 + 1, 0, none⟩ = some (.slice ea an em) ∧ w'.cell? ⟨w.heap.size + 1 + 1, 1, none⟩ = some (.int .i64 a.cost) ∧ w'.cell? ⟨w.heap.size + 1 + 1, 2, none⟩ = some (.int .i64 a.life) ∧ w'.cell? ⟨w.heap.size + 1 + 1, 3, none⟩ = some (.slice cx4 ca2.length cc4) ∧ w'.cell? ⟨w.heap.size + 1 + 1 + 1, 0, none⟩ = some (.slice eb bn bm) ∧ w'.cell? ⟨w.heap.size + 1 + 1 + 1, 1, none⟩ = some (.int .i64 b.cost) ∧ w'.cell? ⟨w.heap.size + 1 + 1 + 1, 2, none⟩ = some (.int .i64 b.life) ∧ w'.cell? ⟨w.heap.size + 1 + 1 + 1, 3, none⟩ = some (.slice cx6 cb2.length cc6)) (by kernel_rfl) (by exact ⟨x0, x1, x2, x3, y0, y1, y2, y3, c0, c1, c2, c3, d0, d1, d2, d3⟩) (fun hHeld => ?_)
        refine tk 0 ?_ rfl ?_ ?_
        rotate_left
        ·
         intro w hSw; (try dsimp only at hSw); go_simp; (try with_reducible rfl)
        (try simp only [Act.put, setIfInBounds_toArray, set_cons_zero, set_cons_succ])
        refine tk 1 ?_ rfl ?_ ?_
        rotate_left
        ·
         intro w hSw; (try dsimp only at hSw); go_simp; (try with_reducible rfl)
        (try simp only [Act.put, setIfInBounds_toArray, set_cons_zero, set_cons_succ])
        refine tk 2 ?_ rfl ?_ ?_
        rotate_left
        ·
         intro w hSw; (try dsimp only at hSw); go_simp; (try with_reducible rfl)
        (try simp only [Act.put, setIfInBounds_toArray, set_cons_zero, set_cons_succ])
        refine tk 3 ?_ rfl ?_ ?_
        rotate_left
        ·
         intro w hSw; (try dsimp only at hSw); go_simp; (try with_reducible rfl)
        (try simp only [Act.put, setIfInBounds_toArray, set_cons_zero, set_cons_succ])
        refine tk 4 ?_ rfl ?_ ?_
        rotate_left
        ·
         intro w hSw; (try dsimp only at hSw); go_simp; (try with_reducible rfl)
        (try simp only [Act.put, setIfInBounds_toArray, set_cons_zero, set_cons_succ])
        refine tk 5 ?_ rfl ?_ ?_
        rotate_left
        ·
         intro w hSw; (try dsimp only at hSw); go_simp; (try with_reducible rfl)
        (try simp only [Act.put, setIfInBounds_toArray, set_cons_zero, set_cons_succ])
        refine tk 6 ?_ rfl ?_ ?_
        rotate_left
        ·
         intro w hSw; (try dsimp only at hSw); go_simp; (try with_reducible rfl)
        (try simp only [Act.put, setIfInBounds_toArray, set_cons_zero, set_cons_succ])
        refine tk 7 ?_ rfl ?_ ?_
        rotate_left
        ·
         intro w hSw; (try dsimp only at hSw); go_simp; (try with_reducible rfl)
        (try simp only [Act.put, setIfInBounds_toArray, set_cons_zero, set_cons_succ])
        clear c0 c1 c2 c3 d0 d1 d2 d3
        refine wpAnyH_ready (rs := [8]) (by kernel_rfl) (by simp) ?_
        refine ready_l rfl (fun K hK => ?_) AllReadyH.nil
        go_simp
        refine hsm.out.mono ?_
        rintro e w30 ⟨rfl, hbq⟩
        have hb30 := hbd.trans (hbq.mono hbd.size)
        refine hK.out _ _ (by exact ⟨(hb30.cell (p := ⟨b1, _, none⟩) hl1).trans x0, (hb30.cell (p := ⟨b1, _, none⟩) hl1).trans x1, (hb30.cell (p := ⟨b1, _, none⟩) hl1).trans x2, (hb30.cell (p := ⟨b1, _, none⟩) hl1).trans x3, (hb30.cell (p := ⟨b2, _, none⟩) hl2).trans y0, (hb30.cell (p := ⟨b2, _, none⟩) hl2).trans y1, (hb30.cell (p := ⟨b2, _, none⟩) hl2).trans y2, (hb30.cell (p := ⟨b2, _, none⟩) hl2).trans y3, (hRaR.out.below hb30).cell rfl, (hRaR.out.below hb30).cell rfl, (hRaR.out.below hb30).cell rfl, (hRaR.out.below hb30).cell rfl, (hRbR.out.below hb30).cell rfl, (hRbR.out.below hb30).cell rfl, (hRbR.out.below hb30).cell rfl, (hRbR.out.below hb30).cell rfl⟩) (fun hHeld2 => ?_)
        clear hK K hHeld hbq hsm
        (try simp only [Act.put, setIfInBounds_toArray, set_cons_zero, set_cons_succ])
        have g1 := Lib.hid (h1.out w30 hb30)
        refine tk 9 ?_ rfl ?_ ?_
        rotate_left
        ·
         intro w hSw; (try dsimp only at hSw); go_simp; (try with_reducible rfl)
        (try simp only [Act.put, setIfInBounds_toArray, set_cons_zero, set_cons_succ])
        refine tk 10 ?_ rfl ?_ ?_
        rotate_left
        ·
         intro w hSw; (try dsimp only at hSw); go_simp; (try with_reducible rfl)
        (try simp only [Act.put, setIfInBounds_toArray, set_cons_zero, set_cons_succ])
        refine tk 11 ?_ rfl ?_ ?_
        rotate_left
        ·
         intro w hSw; (try dsimp only at hSw); go_simp; (try with_reducible rfl)
        (try simp only [Act.put, setIfInBounds_toArray, set_cons_zero, set_cons_succ])
        refine tk 12 ?_ rfl ?_ ?_
        rotate_left
        ·
         intro w hSw; (try dsimp only at hSw); go_simp; (try with_reducible rfl)
        (try simp only [Act.put, setIfInBounds_toArray, set_cons_zero, set_cons_succ])
        refine tk 13 ?_ rfl ?_ ?_
        rotate_left
        ·
         intro w hSw; (try dsimp only at hSw); go_simp; (try with_reducible rfl)
        (try simp only [Act.put, setIfInBounds_toArray, set_cons_zero, set_cons_succ])
        refine tk 14 ?_ rfl ?_ ?_
        rotate_left
        ·
         intro w hSw; (try dsimp only at hSw); go_simp; (try with_reducible rfl)
        (try simp only [Act.put, setIfInBounds_toArray, set_cons_zero, set_cons_succ])
        refine tk 15 ?_ rfl ?_ ?_
        rotate_left
        ·
         intro w hSw; (try dsimp only at hSw); go_simp; (try with_reducible rfl)
        (try simp only [Act.put, setIfInBounds_toArray, set_cons_zero, set_cons_succ])
        refine tk 17 ?_ rfl ?_ ?_
        rotate_left
        ·
         intro w hSw; (try dsimp only at hSw); go_simp; (try with_reducible rfl)
        (try simp only [Act.put, setIfInBounds_toArray, set_cons_zero, set_cons_succ])
        refine tk 18 ?_ rfl ?_ ?_
        rotate_left
        ·
         intro w hSw; (try dsimp only at hSw); go_simp; (try with_reducible rfl)
        (try simp only [Act.put, setIfInBounds_toArray, set_cons_zero, set_cons_succ])
        refine tk 19 ?_ rfl ?_ ?_
        rotate_left
        ·
         intro w hSw; (try dsimp only at hSw); go_simp; (try with_reducible rfl)
        (try simp only [Act.put, setIfInBounds_toArray, set_cons_zero, set_cons_succ])
        refine tk 20 ?_ rfl ?_ ?_
        rotate_left
        ·
         intro w hSw; (try dsimp only at hSw); go_simp; (try with_reducible rfl)
        (try simp only [Act.put, setIfInBounds_toArray, set_cons_zero, set_cons_succ])
        refine tk 21 ?_ rfl ?_ ?_
        rotate_left
        ·
         intro w hSw; (try dsimp only at hSw); go_simp; (try with_reducible rfl)
        (try simp only [Act.put, setIfInBounds_toArray, set_cons_zero, set_cons_succ])
        refine wpAnyH_ready (rs := [16]) (by kernel_rfl) (by simp) ?_
        refine ready_l rfl (fun K hK => ?_) AllReadyH.nil
        go_simp
        refine g1.out.mono ?_
        rintro e w31 ⟨rfl, hbq⟩
        have hb31 := hb30.trans (hbq.mono hb30.size)
        refine hK.out _ _ (by exact ⟨(hb31.cell (p := ⟨b1, _, none⟩) hl1).trans x0, (hb31.cell (p := ⟨b1, _, none⟩) hl1).trans x1, (hb31.cell (p := ⟨b1, _, none⟩) hl1).trans x2, (hb31.cell (p := ⟨b1, _, none⟩) hl1).trans x3, (hb31.cell (p := ⟨b2, _, none⟩) hl2).trans y0, (hb31.cell (p := ⟨b2, _, none⟩) hl2).trans y1, (hb31.cell (p := ⟨b2, _, none⟩) hl2).trans y2, (hb31.cell (p := ⟨b2, _, none⟩) hl2).trans y3, (hRaR.out.below hb31).cell rfl, (hRaR.out.below hb31).cell rfl, (hRaR.out.below hb31).cell rfl, (hRaR.out.below hb31).cell rfl, (hRbR.out.below hb31).cell rfl, (hRbR.out.below hb31).cell rfl, (hRbR.out.below hb31).cell rfl, (hRbR.out.below hb31).cell rfl⟩) (fun hHeld3 => ?_)
        clear hK K hHeld2 hbq g1
        (try simp only [Act.put, setIfInBounds_toArray, set_cons_zero, set_cons_succ])
        have g2 := Lib.hid (h2'.out w31 hb31)
        refine wpAnyH_ready (rs := [22]) (by kernel_rfl) (by simp) ?_
        refine ready_l rfl (fun K hK => ?_) AllReadyH.nil
        go_simp
        refine g2.out.mono ?_
        rintro e w32 ⟨rfl, hbq⟩
        have hb32 := hb31.trans (hbq.mono hb31.size)
        refine hK.out _ _ (by exact ⟨(hb32.cell (p := ⟨b1, _, none⟩) hl1).trans x0, (hb32.cell (p := ⟨b1, _, none⟩) hl1).trans x1, (hb32.cell (p := ⟨b1, _, none⟩) hl1).trans x2, (hb32.cell (p := ⟨b1, _, none⟩) hl1).trans x3, (hb32.cell (p := ⟨b2, _, none⟩) hl2).trans y0, (hb32.cell (p := ⟨b2, _, none⟩) hl2).trans y1, (hb32.cell (p := ⟨b2, _, none⟩) hl2).trans y2, (hb32.cell (p := ⟨b2, _, none⟩) hl2).trans y3, (hRaR.out.below hb32).cell rfl, (hRaR.out.below hb32).cell rfl, (hRaR.out.below hb32).cell rfl, (hRaR.out.below hb32).cell rfl, (hRbR.out.below hb32).cell rfl, (hRbR.out.below hb32).cell rfl, (hRbR.out.below hb32).cell rfl, (hRbR.out.below hb32).cell rfl⟩) (fun hHeld4 => ?_)
        clear hK K hHeld3 hbq g2
        (try simp only [Act.put, setIfInBounds_toArray, set_cons_zero, set_cons_succ])
        have g3 := Lib.hid (h3.out w32 hb32)
        refine tk 23 ?_ rfl ?_ ?_
        rotate_left
        ·
         intro w hSw; (try dsimp only at hSw); go_simp; (try with_reducible rfl)
        (try simp only [Act.put, setIfInBounds_toArray, set_cons_zero, set_cons_succ])
        refine tk 24 ?_ rfl ?_ ?_
        rotate_left
        ·
         intro w hSw; (try dsimp only at hSw); go_simp; (try with_reducible rfl)
        (try simp only [Act.put, setIfInBounds_toArray, set_cons_zero, set_cons_succ])
        refine tk 25 ?_ rfl ?_ ?_
        rotate_left
        ·
         intro w hSw; (try dsimp only at hSw); go_simp; (try with_reducible rfl)
        (try simp only [Act.put, setIfInBounds_toArray, set_cons_zero, set_cons_succ])
        refine tk 26 ?_ rfl ?_ ?_
        rotate_left
        ·
         intro w hSw; (try dsimp only at hSw); go_simp; (try with_reducible rfl)
        (try simp only [Act.put, setIfInBounds_toArray, set_cons_zero, set_cons_succ])
        refine tk 27 ?_ rfl ?_ ?_
        rotate_left
        ·
         intro w hSw; (try dsimp only at hSw); go_simp; (try with_reducible rfl)
        (try simp only [Act.put, setIfInBounds_toArray, set_cons_zero, set_cons_succ])
        refine tk 28 ?_ rfl ?_ ?_
        rotate_left
        ·
         intro w hSw; (try dsimp only at hSw); go_simp; (try with_reducible rfl)
        (try simp only [Act.put, setIfInBounds_toArray, set_cons_zero, set_cons_succ])
        refine tk 29 ?_ rfl ?_ ?_
        rotate_left
        ·
         intro w hSw; (try dsimp only at hSw); go_simp; (try with_reducible rfl)
        (try simp only [Act.put, setIfInBounds_toArray, set_cons_zero, set_cons_succ])
        refine tk 30 ?_ rfl ?_ ?_
        rotate_left
        ·
         intro w hSw; (try dsimp only at hSw); go_simp; (try with_reducible rfl)
        (try simp only [Act.put, setIfInBounds_toArray, set_cons_zero, set_cons_succ])
        refine tk 32 ?_ rfl ?_ ?_
        rotate_left
        ·
         intro w hSw; (try dsimp only at hSw); go_simp; (try with_reducible rfl)
        (try simp only [Act.put, setIfInBounds_toArray, set_cons_zero, set_cons_succ])
        refine tk 33 ?_ rfl ?_ ?_
        rotate_left
        ·
         intro w hSw; (try dsimp only at hSw); go_simp; (try with_reducible rfl)
        (try simp only [Act.put, setIfInBounds_toArray, set_cons_zero, set_cons_succ])
        refine tk 34 ?_ rfl ?_ ?_
        rotate_left
        ·
         intro w hSw; (try dsimp only at hSw); go_simp; (try with_reducible rfl)
        (try simp only [Act.put, setIfInBounds_toArray, set_cons_zero, set_cons_succ])
        refine tk 35 ?_ rfl ?_ ?_
        rotate_left
        ·
         intro w hSw; (try dsimp only at hSw); go_simp; (try with_reducible rfl)
        (try simp only [Act.put, setIfInBounds_toArray, set_cons_zero, set_cons_succ])
        refine tk 36 ?_ rfl ?_ ?_
        rotate_left
        ·
         intro w hSw; (try dsimp only at hSw); go_simp; (try with_reducible rfl)
        (try simp only [Act.put, setIfInBounds_toArray, set_cons_zero, set_cons_succ])
        refine wpAnyH_ready (rs := [31]) (by kernel_rfl) (by simp) ?_
        refine ready_l rfl (fun K hK => ?_) AllReadyH.nil
        go_simp
        refine g3.out.mono ?_
        rintro e w33 ⟨rfl, hbq⟩
        have hb33 := hb32.trans (hbq.mono hb32.size)
        refine hK.out _ _ (by exact ⟨(hb33.cell (p := ⟨b1, _, none⟩) hl1).trans x0, (hb33.cell (p := ⟨b1, _, none⟩) hl1).trans x1, (hb33.cell (p := ⟨b1, _, none⟩) hl1).trans x2, (hb33.cell (p := ⟨b1, _, none⟩) hl1).trans x3, (hb33.cell (p := ⟨b2, _, none⟩) hl2).trans y0, (hb33.cell (p := ⟨b2, _, none⟩) hl2).trans y1, (hb33.cell (p := ⟨b2, _, none⟩) hl2).trans y2, (hb33.cell (p := ⟨b2, _, none⟩) hl2).trans y3, (hRaR.out.below hb33).cell rfl, (hRaR.out.below hb33).cell rfl, (hRaR.out.below hb33).cell rfl, (hRaR.out.below hb33).cell rfl, (hRbR.out.below hb33).cell rfl, (hRbR.out.below hb33).cell rfl, (hRbR.out.below hb33).cell rfl, (hRbR.out.below hb33).cell rfl⟩) (fun hHeld5 => ?_)
        clear hK K hHeld4 hbq g3
        (try simp only [Act.put, setIfInBounds_toArray, set_cons_zero, set_cons_succ])
        have g4 := Lib.hid (h4.out w33 hb33)
        refine wpAnyH_ready (rs := [37]) (by kernel_rfl) (by simp) ?_
        refine ready_l rfl (fun K hK => ?_) AllReadyH.nil
        go_simp
        refine g4.out.mono ?_
        rintro e w34 ⟨rfl, hbq⟩
        have hb34 := hb33.trans (hbq.mono hb33.size)
        refine hK.out _ _ (by exact ⟨(hb34.cell (p := ⟨b1, _, none⟩) hl1).trans x0, (hb34.cell (p := ⟨b1, _, none⟩) hl1).trans x1, (hb34.cell (p := ⟨b1, _, none⟩) hl1).trans x2, (hb34.cell (p := ⟨b1, _, none⟩) hl1).trans x3, (hb34.cell (p := ⟨b2, _, none⟩) hl2).trans y0, (hb34.cell (p := ⟨b2, _, none⟩) hl2).trans y1, (hb34.cell (p := ⟨b2, _, none⟩) hl2).trans y2, (hb34.cell (p := ⟨b2, _, none⟩) hl2).trans y3, (hRaR.out.below hb34).cell rfl, (hRaR.out.below hb34).cell rfl, (hRaR.out.below hb34).cell rfl, (hRaR.out.below hb34).cell rfl, (hRbR.out.below hb34).cell rfl, (hRbR.out.below hb34).cell rfl, (hRbR.out.below hb34).cell rfl, (hRbR.out.below hb34).cell rfl⟩) (fun hHeld6 => ?_)
        clear hK K hHeld5 hbq g4
        (try simp only [Act.put, setIfInBounds_toArray, set_cons_zero, set_cons_succ])
        refine tk 38 ?_ rfl ?_ ?_
        rotate_left
        ·
         intro w hSw; (try dsimp only at hSw); go_simp; (try with_reducible rfl)
        (try simp only [Act.put, setIfInBounds_toArray, set_cons_zero, set_cons_succ])
        refine tk 39 ?_ rfl ?_ ?_
        rotate_left
        ·
         intro w hSw; (try dsimp only at hSw); go_simp; (try with_reducible rfl)
        (try simp only [Act.put, setIfInBounds_toArray, set_cons_zero, set_cons_succ])
        refine wpAnyH_done (by kernel_rfl) ?_ _
        have hbn := Lib.hid (hbr3.out.trans (hb34.mono hbr3.out.size))
        clear hHeld6 x0 x1 x2 x3 y0 y1 y2 y3 h1 h2' h3 h4 hbd hb30 hb31 hb32 hb33 hb34 hRaR hRbR hCaR hCbR ok1 ok2
        go_wp2_with fail
        exact ⟨⟨k + 1, by omega, rfl, hbn⟩, by simp [intOf]; omega⟩
       ·
        have hno : decide ((k : Int) < (Rs.length : Int)) = false := decide_eq_false (by omega)
        go_wp2_with fail
        exact ⟨⟨j + 1, by omega, rfl, hbR⟩, by simp [intOf]; omega⟩
     ·
      have hno : decide ((j : Int) < 2) = false := decide_eq_false (by omega)
      have hbn := Lib.hid (hb15.out.trans (hbr2.out.mono hb15.out.size))
      go_wp2_with fail
      exact ⟨⟨i + 1, by omega, rfl, hbn⟩, by simp [intOf]; omega⟩
   ·
    have hno : decide ((i : Int) < 2) = false := decide_eq_false (by omega)
    have hRaR := Lib.hid (hRad.out.below hbr.out)
    have hRbR := Lib.hid (hRbd.out.below hbr.out)
    have hCaR := Lib.hid (hCad.out.later hbr.out)
    have hCbR := Lib.hid (hCbd.out.later hbr.out)
    have hPR := Lib.hid (hPd.out.later hbr.out)
    have hbd0 : Below w10.heap.size w10 w10.drew := (Below.refl _ _).drew
    obtain ⟨p1, hp1⟩ : ∃ p1, betterP { a with claims := ca2 } { b with claims := cb2 } = p1 := ⟨_, rfl⟩
    obtain ⟨p2, hp2⟩ : ∃ p2, keepsP { a with claims := ca2 } po = p2 := ⟨_, rfl⟩
    have h1 := fun W (hb : Below w10.heap.size w10 W) => Better_any { a with claims := ca2 } { b with claims := cb2 } ea eb an bn em bm _ _ W (hCaR.out.later hb) (hCbR.out.later hb)
    have h2 := fun W (hb : Below w10.heap.size w10 W) => Better11_any { a with claims := ca2 } { b with claims := cb2 } ea eb an bn em bm _ _ W (hCaR.out.later hb) (hCbR.out.later hb)
    have h3 := fun W (hb : Below w10.heap.size w10 W) => Keeps_any { a with claims := ca2 } ea an em _ _ po W (hCaR.out.later hb) (hPR.out.later hb) hpI2.out
    have h4 := fun W (hb : Below w10.heap.size w10 W) => Keeps11_any { a with claims := ca2 } ea an em _ _ po W (hCaR.out.later hb) (hPR.out.later hb)
    dsimp only at h1 h2 h3 h4
    simp only [hp1] at h1 h2
    simp only [hp2] at h3 h4
    have g1 := Lib.hid (h1 _ hbd0)
    replace h2 := Lib.hid h2
    replace h3 := Lib.hid h3
    replace h4 := Lib.hid h4
    clear h1 hp1 hp2
    have t7 : (p1 == p1) = true := beq_self_eq_true _
    have t8 : (p2 == p2) = true := beq_self_eq_true _
    have c0 := hRaR.out.cell (j := 0) rfl
    have c1 := hRaR.out.cell (j := 1) rfl
    have c2 := hRaR.out.cell (j := 2) rfl
    have c3 := hRaR.out.cell (j := 3) rfl
    have d0 := hRbR.out.cell (j := 0) rfl
    have d1 := hRbR.out.cell (j := 1) rfl
    have d2 := hRbR.out.cell (j := 2) rfl
    have d3 := hRbR.out.cell (j := 3) rfl
    go_upto_region 32 with fail
    refine wp_region_held_drew (S := fun w' => w'.cell? ⟨w.heap.size + 1 + 1, 0, none⟩ = some (.slice ea an em) ∧ w'.cell? ⟨w.heap.size + 1 + 1, 1, none⟩ = some (.int .i64 a.cost) ∧ w'.cell? ⟨w.heap.size + 1 + 1, 2, none⟩ = some (.int .i64 a.life) ∧ w'.cell? ⟨w.heap.size + 1 + 1, 3, none⟩ = some (.slice cx4 ca2.length cc4) ∧ w'.cell? ⟨w.heap.size + 1 + 1 + 1, 0, none⟩ = some (.slice eb bn bm) ∧ w'.cell? ⟨w.heap.size + 1 + 1 + 1, 1, none⟩ = some (.int .i64 b.cost) ∧ w'.cell? ⟨w.heap.size + 1 + 1 + 1, 2, none⟩ = some (.int .i64 b.life) ∧ w'.cell? ⟨w.heap.size + 1 + 1 + 1, 3, none⟩ = some (.slice cx6 cb2.length cc6)) (by kernel_rfl) (by exact ⟨c0, c1, c2, c3, d0, d1, d2, d3⟩) (fun hHeld => ?_)
    refine tk 0 ?_ rfl ?_ ?_
    rotate_left
    ·
     intro w hSw; (try dsimp only at hSw); go_simp; (try with_reducible rfl)
    (try simp only [Act.put, setIfInBounds_toArray, set_cons_zero, set_cons_succ])
    refine tk 1 ?_ rfl ?_ ?_
    rotate_left
    ·
     intro w hSw; (try dsimp only at hSw); go_simp; (try with_reducible rfl)
    (try simp only [Act.put, setIfInBounds_toArray, set_cons_zero, set_cons_succ])
    refine tk 2 ?_ rfl ?_ ?_
    rotate_left
    ·
     intro w hSw; (try dsimp only at hSw); go_simp; (try with_reducible rfl)
    (try simp only [Act.put, setIfInBounds_toArray, set_cons_zero, set_cons_succ])
    refine tk 3 ?_ rfl ?_ ?_
    rotate_left
    ·
     intro w hSw; (try dsimp only at hSw); go_simp; (try with_reducible rfl)
    (try simp only [Act.put, setIfInBounds_toArray, set_cons_zero, set_cons_succ])
    refine tk 5 ?_ rfl ?_ ?_
    rotate_left
    ·
     intro w hSw; (try dsimp only at hSw); go_simp; (try with_reducible rfl)
    (try simp only [Act.put, setIfInBounds_toArray, set_cons_zero, set_cons_succ])
    refine tk 6 ?_ rfl ?_ ?_
    rotate_left
    ·
     intro w hSw; (try dsimp only at hSw); go_simp; (try with_reducible rfl)
    (try simp only [Act.put, setIfInBounds_toArray, set_cons_zero, set_cons_succ])
    clear c0 c1 c2 c3 d0 d1 d2 d3
    refine wpAnyH_ready (rs := [4]) (by kernel_rfl) (by simp) ?_
    refine ready_l rfl (fun K hK => ?_) AllReadyH.nil
    go_simp
    refine g1.out.mono ?_
    rintro e w30 ⟨rfl, hbq⟩
    have hb30 := hbd0.trans (hbq.mono hbd0.size)
    refine hK.out _ _ (by exact ⟨(hRaR.out.below hb30).cell rfl, (hRaR.out.below hb30).cell rfl, (hRaR.out.below hb30).cell rfl, (hRaR.out.below hb30).cell rfl, (hRbR.out.below hb30).cell rfl, (hRbR.out.below hb30).cell rfl, (hRbR.out.below hb30).cell rfl, (hRbR.out.below hb30).cell rfl⟩) (fun hHeld2 => ?_)
    clear hK K hHeld hbq g1
    (try simp only [Act.put, setIfInBounds_toArray, set_cons_zero, set_cons_succ])
    have g2 := Lib.hid (h2.out w30 hb30)
    refine wpAnyH_ready (rs := [7]) (by kernel_rfl) (by simp) ?_
    refine ready_l rfl (fun K hK => ?_) AllReadyH.nil
    go_simp
    refine g2.out.mono ?_
    rintro e w31 ⟨rfl, hbq⟩
    have hb31 := hb30.trans (hbq.mono hb30.size)
    refine hK.out _ _ (by exact ⟨(hRaR.out.below hb31).cell rfl, (hRaR.out.below hb31).cell rfl, (hRaR.out.below hb31).cell rfl, (hRaR.out.below hb31).cell rfl, (hRbR.out.below hb31).cell rfl, (hRbR.out.below hb31).cell rfl, (hRbR.out.below hb31).cell rfl, (hRbR.out.below hb31).cell rfl⟩) (fun hHeld3 => ?_)
    clear hK K hHeld2 hbq g2
    (try simp only [Act.put, setIfInBounds_toArray, set_cons_zero, set_cons_succ])
    have g3 := Lib.hid (h3.out w31 hb31)
    refine tk 8 ?_ rfl ?_ ?_
    rotate_left
    ·
     intro w hSw; (try dsimp only at hSw); go_simp; (try with_reducible rfl)
    (try simp only [Act.put, setIfInBounds_toArray, set_cons_zero, set_cons_succ])
    refine tk 9 ?_ rfl ?_ ?_
    rotate_left
    ·
     intro w hSw; (try dsimp only at hSw); go_simp; (try with_reducible rfl)
    (try simp only [Act.put, setIfInBounds_toArray, set_cons_zero, set_cons_succ])
    refine tk 10 ?_ rfl ?_ ?_
    rotate_left
    ·
     intro w hSw; (try dsimp only at hSw); go_simp; (try with_reducible rfl)
    (try simp only [Act.put, setIfInBounds_toArray, set_cons_zero, set_cons_succ])
    refine tk 11 ?_ rfl ?_ ?_
    rotate_left
    ·
     intro w hSw; (try dsimp only at hSw); go_simp; (try with_reducible rfl)
    (try simp only [Act.put, setIfInBounds_toArray, set_cons_zero, set_cons_succ])
    refine tk 12 ?_ rfl ?_ ?_
    rotate_left
    ·
     intro w hSw; (try dsimp only at hSw); go_simp; (try with_reducible rfl)
    (try simp only [Act.put, setIfInBounds_toArray, set_cons_zero, set_cons_succ])
    refine tk 14 ?_ rfl ?_ ?_
    rotate_left
    ·
     intro w hSw; (try dsimp only at hSw); go_simp; (try with_reducible rfl)
    (try simp only [Act.put, setIfInBounds_toArray, set_cons_zero, set_cons_succ])
    refine tk 15 ?_ rfl ?_ ?_
    rotate_left
    ·
     intro w hSw; (try dsimp only at hSw); go_simp; (try with_reducible rfl)
    (try simp only [Act.put, setIfInBounds_toArray, set_cons_zero, set_cons_succ])
    refine wpAnyH_ready (rs := [13]) (by kernel_rfl) (by simp) ?_
    refine ready_l rfl (fun K hK => ?_) AllReadyH.nil
    go_simp
    refine g3.out.mono ?_
    rintro e w32 ⟨rfl, hbq⟩
    have hb32 := hb31.trans (hbq.mono hb31.size)
    refine hK.out _ _ (by exact ⟨(hRaR.out.below hb32).cell rfl, (hRaR.out.below hb32).cell rfl, (hRaR.out.below hb32).cell rfl, (hRaR.out.below hb32).cell rfl, (hRbR.out.below hb32).cell rfl, (hRbR.out.below hb32).cell rfl, (hRbR.out.below hb32).cell rfl, (hRbR.out.below hb32).cell rfl⟩) (fun hHeld4 => ?_)
    clear hK K hHeld3 hbq g3
    (try simp only [Act.put, setIfInBounds_toArray, set_cons_zero, set_cons_succ])
    have g4 := Lib.hid (h4.out w32 hb32)
    refine wpAnyH_ready (rs := [16]) (by kernel_rfl) (by simp) ?_
    refine ready_l rfl (fun K hK => ?_) AllReadyH.nil
    go_simp
    refine g4.out.mono ?_
    rintro e w33 ⟨rfl, hbq⟩
    have hb33 := hb32.trans (hbq.mono hb32.size)
    refine hK.out _ _ (by exact ⟨(hRaR.out.below hb33).cell rfl, (hRaR.out.below hb33).cell rfl, (hRaR.out.below hb33).cell rfl, (hRaR.out.below hb33).cell rfl, (hRbR.out.below hb33).cell rfl, (hRbR.out.below hb33).cell rfl, (hRbR.out.below hb33).cell rfl, (hRbR.out.below hb33).cell rfl⟩) (fun hHeld5 => ?_)
    clear hK K hHeld4 hbq g4
    (try simp only [Act.put, setIfInBounds_toArray, set_cons_zero, set_cons_succ])
    refine tk 17 ?_ rfl ?_ ?_
    rotate_left
    ·
     intro w hSw; (try dsimp only at hSw); go_simp; (try with_reducible rfl)
    (try simp only [Act.put, setIfInBounds_toArray, set_cons_zero, set_cons_succ])
    refine tk 18 ?_ rfl ?_ ?_
    rotate_left
    ·
     intro w hSw; (try dsimp only at hSw); go_simp; (try with_reducible rfl)
    (try simp only [Act.put, setIfInBounds_toArray, set_cons_zero, set_cons_succ])
    refine tk 19 ?_ rfl ?_ ?_
    rotate_left
    ·
     intro w hSw; (try dsimp only at hSw); go_simp; (try with_reducible rfl)
    (try simp only [Act.put, setIfInBounds_toArray, set_cons_zero, set_cons_succ])
    refine wpAnyH_done (by kernel_rfl) ?_ _
    have hbn := Lib.hid (hbd.out.trans ((hbr.out.trans (hb33.mono hbr.out.size)).mono hbd.out.size))
    clear hHeld5
    go_wp2_with fail
    go_ret
    exact ⟨rfl, hbn.out⟩
end Go.Proofs.YtpeandbcdaikbaaGreatDoor
