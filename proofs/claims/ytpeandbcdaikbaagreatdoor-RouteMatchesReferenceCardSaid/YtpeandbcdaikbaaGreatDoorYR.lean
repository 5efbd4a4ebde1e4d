/-
 Routes of chapter 11: the law's edges; the fixed examples, plain.
 Routes of chapter 11: the law's sane.
-/
import Derived.Test.YtpeandbcdaikbaaGreatDoorYQ
open List (setIfInBounds_toArray set_cons_zero set_cons_succ)
namespace Go.Proofs.YtpeandbcdaikbaaGreatDoor
open Go.RowKit Go.Shelf Go.Maps

attribute [local go_sem] Oper.semAt_some

def egs : List Edg := [⟨5, 100, ⟨1, 1, 2, false, [(2, [⟨4, 3⟩])]⟩⟩, ⟨1, 50, ⟨2, 2, 3, false, []⟩⟩, ⟨9, 100, ⟨3, 1, 3, false, []⟩⟩]
def lifeS : List Int := [-1, 60, 80, 90]
def clm2 (s : List Stp) : Clms := [(1, []), (2, s), (3, []), (4, []), (5, []), (6, []), (7, []), (8, [])]
def sr0 : Rou := ⟨[], 0, 60, clm2 []⟩
def sr1 : Rou := ⟨[0], 5, 80, clm2 [⟨4, 3⟩]⟩
def sr2 : Rou := ⟨[0, 1], 6, 90, clm2 [⟨4, 3⟩]⟩
def sr3 : Rou := ⟨[2], 9, 90, clm2 []⟩
theorem egs_valid : validE egs = true := by decide +kernel
theorem egs_of1 : ofP egs lifeS 1 40 [0, 1] = some sr2 := by decide +kernel
theorem egs_of2 : ofP egs lifeS 1 51 [0, 1] = none := by decide +kernel
theorem egs_of3 : ofP egs lifeS 1 0 [1] = none := by decide +kernel
theorem egs_of4 : ofP egs lifeS 1 70 [] = none := by decide +kernel
theorem egs_all : allP egs lifeS 1 40 6 = [sr0, sr1, sr2, sr3] := by decide +kernel
theorem egs_best : bestP egs lifeS 1 40 6 = [sr0, sr1, sr2, sr3] := by
 have h := best_row (l := egs) (life := lifeS) (frm := 1) (day := 40) (hops := 6) egs_valid (by omega) (d := [sr0, sr1, sr2, sr3]) (by rw [egs_all]) (by unfold SortedR; decide +kernel)
 rw [← h, egs_all]
 decide +kernel
theorem egs_better0 : betterP sr0 sr0 = true := by decide +kernel
theorem egs_better1 : betterP sr0 sr1 = false := by decide +kernel
theorem egs_keeps1 : keepsP sr2 [(2, [⟨4, 3⟩])] = true := by decide +kernel
theorem egs_keeps2 : keepsP sr2 [(2, [⟨4, 5⟩])] = false := by decide +kernel
theorem egs_bad : validE [⟨-1, 0, ⟨1, 1, 2, false, [(2, [⟨4, 3⟩])]⟩⟩] = false := by decide +kernel
theorem egs_in : ∀ e ∈ egs, MigIn e.does := by
 intro e he
 simp only [egs, List.mem_cons, List.not_mem_nil, or_false] at he
 rcases he with rfl | rfl | rfl
 all_goals
  refine ⟨⟨by decide, by decide⟩, ⟨by decide, by decide⟩, ⟨by decide, by decide⟩, ?_⟩
  first | (intro c hc; obtain rfl := List.mem_singleton.1 hc; exact ⟨by decide, by decide⟩) | (intro c hc; cases hc)
theorem RowT.of_arr {w : World} {b : Nat} {T : TypeId} {L : List Value} (h : Arr w b T L) (n c : Nat) (hn : n ≤ c) (hc : c ≤ maxLen) : RowT w T (.slice (some ⟨b, 0, none⟩) n c) n L :=
 ⟨_, c, rfl, hn, hc, fun _ => ⟨b, 0, L.toArray, (0, 0), rfl, h, fun j u hu => by rw [Nat.zero_add]; simpa using hu⟩⟩
theorem RowT.nil (w : World) (T : TypeId) (xs : List Value) : RowT w T (.slice none 0 0) 0 xs := ⟨none, 0, rfl, Nat.le_refl _, Nat.zero_le _, fun h => absurd h (Nat.lt_irrefl 0)⟩
set_option maxRecDepth 100000 in
set_option maxHeartbeats 4000000 in
theorem edges_any (w : World) :
  Calls Tryz.prog 33 #[] w fun e w' => ∃ v, e = .returned v ∧ EdgesT w' v egs ∧ Below w.heap.size w w' := by
 go_enter Tryz.func33, Tryz.ntmps33
 go_wp2_with fail
 go_ret
 refine ⟨_, rfl, ?_, ((((Below.refl _ _).alloc (Nat.le_refl _) _).alloc (by simp) _).alloc (by simp; omega) _).alloc (by simp; omega) _⟩
 refine ⟨[.slice (some ⟨w.heap.size + 1, 0, none⟩) 1 1, .slice none 0 0, .slice none 0 0], rfl, RowT.of_arr (Arr.new rfl (by simp)) 3 3 (Nat.le_refl _) (by unfold maxLen; omega), fun i hi => ?_⟩
 have hi3 : i < 3 := hi
 obtain rfl | rfl | rfl : i = 0 ∨ i = 1 ∨ i = 2 := by omega
 ·
  refine ⟨[.slice (some ⟨w.heap.size, 0, none⟩) 1 1], rfl, RowT.of_arr (L := [.int .i64 2, .slice (some ⟨w.heap.size, 0, none⟩) 1 1]) (((Arr.new rfl (by simp)).alloc _).alloc _) 1 1 (Nat.le_refl _) (by unfold maxLen; omega), fun j hj => ?_⟩
  have hj1 : j < 1 := hj
  obtain rfl : j = 0 := by omega
  exact RowT.of_arr (L := [.int .i64 4, .int .i64 3]) ((((Arr.new rfl rfl).alloc _).alloc _).alloc _) 1 1 (Nat.le_refl _) (by unfold maxLen; omega)
 ·
  exact ⟨[], rfl, RowT.nil _ _ _, fun j hj => absurd hj (Nat.not_lt_zero j)⟩
 ·
  exact ⟨[], rfl, RowT.nil _ _ _, fun j hj => absurd hj (Nat.not_lt_zero j)⟩
end Go.Proofs.YtpeandbcdaikbaaGreatDoor
namespace Go.Proofs.YtpeandbcdaikbaaGreatDoor
open Go.RowKit Go.Shelf Go.Maps

attribute [local go_sem] Oper.semAt_some

theorem ofE_some (r : Rou) : ofE (some r) = 0 := rfl
theorem ofE_none : ofE none = 110 := rfl
theorem NumsT.at {w : World} {v : Value} {l : List Int} (h : NumsT w v l) : NumsAt w w.heap.size v l := RowT.at h
/-- Of at the fixed edges. -/
theorem of_egs (day : Int) (es : List Int) (o : Option Rou) (ho : ofP egs lifeS 1 day es = o) (ev lv xv : Value) (w : World) (hE : EdgesT w ev egs) (hL : NumsT w lv lifeS) (hx : NumsT w xv es) :
  Calls Tryz.prog 17 #[ev, lv, .int .i64 1, .int .i64 day, xv] w fun e w' => ∃ ea ec ca cc, e = .returned (.tuple #[.agg #[.slice ea (o.getD zeroRou).edges.length ec, .int .i64 (o.getD zeroRou).cost, .int .i64 (o.getD zeroRou).life, .slice ca (o.getD zeroRou).claims.length cc], .int .i64 (ofE o)]) ∧ OkR ⟨o.getD zeroRou, .slice ea (o.getD zeroRou).edges.length ec, .slice ca (o.getD zeroRou).claims.length cc⟩ w' ∧ Below w.heap.size w w' := by
 refine (Of_any egs lifeS 1 day es ev lv xv w egs_in hE.at hL.at hx.at).mono ?_
 rintro e w' ⟨⟨r, v, u⟩, he, hr, hok, hb⟩
 dsimp only at hr
 rw [ho] at he hr
 subst hr
 obtain ⟨ea, ec, ca, cc, h1, h2⟩ := hok.shape
 dsimp only at h1 h2
 subst h1 h2
 exact ⟨ea, ec, ca, cc, he, hok, hb⟩
theorem four {zs : List RouM} {a0 a1 a2 a3 : Rou} (h : zs.map RouM.r = [a0, a1, a2, a3]) : ∃ z0 z1 z2 z3, zs = [z0, z1, z2, z3] ∧ z0.r = a0 ∧ z1.r = a1 ∧ z2.r = a2 ∧ z3.r = a3 := by
 match zs, h with
 | [z0, z1, z2, z3], h =>
  simp only [List.map_cons, List.map_nil, List.cons.injEq, and_true] at h
  exact ⟨z0, z1, z2, z3, rfl, h.1, h.2.1, h.2.2.1, h.2.2.2⟩
set_option maxRecDepth 100000 in
set_option maxHeartbeats 8000000 in
theorem sane_any (w : World) :
  Calls Tryz.prog 10 #[] w fun e w' => e = .returned (.bool true) ∧ Below w.heap.size w w' := by
 have hed := Lib.hid (edges_any w)
 go_enter Tryz.func10, Tryz.ntmps10
 go_wp2_with fail
 refine hed.out.mono ?_
 rintro e w1 ⟨ev, rfl, hE, hb1⟩
 obtain ⟨ea, ec, hev, _⟩ := hE.len
 replace hev : ev = .slice ea 3 ec := hev
 subst hev
 replace hE := Lib.hid hE
 go_upto_region 3 with fail
 obtain ⟨wa, hwa⟩ : ∃ wa, wa = w1.alloc (.cells #[.int .i64 (-1), .int .i64 60, .int .i64 80, .int .i64 90] 3) := ⟨_, rfl⟩
 have hba : Below w1.heap.size w1 wa := by rw [hwa]; exact (Below.refl _ _).alloc (Nat.le_refl _) _
 have hL : Hid (NumsT wa (.slice (some ⟨w1.heap.size, 0, none⟩) 4 4) lifeS) := by rw [hwa]; exact RowT.of_arr (Arr.new rfl rfl) 4 4 (Nat.le_refl _) (by unfold maxLen; omega)
 rw [← hwa]
 clear hwa
 replace hE := Lib.hid (hE.out.below hba)
 have hb := Lib.hid (hb1.trans (hba.mono hb1.size))
 clear hba hb1 hed
 have hba : Below wa.heap.size wa (wa.alloc (.cells #[.int .i64 0, .int .i64 1] 3)) := (Below.refl _ _).alloc (Nat.le_refl _) _
 have hX : NumsT (wa.alloc (.cells #[.int .i64 0, .int .i64 1] 3)) (.slice (some ⟨wa.heap.size, 0, none⟩) 2 2) [0, 1] := RowT.of_arr (Arr.new rfl rfl) 2 2 (Nat.le_refl _) (by unfold maxLen; omega)
 replace hE := Lib.hid (hE.out.below hba)
 replace hL := Lib.hid (hL.out.below hba)
 replace hb := Lib.hid (hb.out.trans (hba.mono hb.out.size))
 have hof := Lib.hid (of_egs 40 [0, 1] (some sr2) egs_of1 _ _ _ (wa.alloc (.cells #[.int .i64 0, .int .i64 1] 3)) hE.out hL.out hX)
 clear hba hX
 go_wp2_with fail
 refine hof.out.mono ?_
 rintro e wf1 ⟨ea1, ec1, ca1, cc1, rfl, hok, hb2⟩
 clear hof
 replace hE := Lib.hid (hE.out.below hb2)
 replace hL := Lib.hid (hL.out.below hb2)
 replace hb := Lib.hid (hb.out.trans (hb2.mono hb.out.size))
 replace hok := Lib.hid hok
 clear hb2
 dsimp only [Option.getD]
 go_upto_region 4 with fail
 obtain ⟨wb1, hw⟩ : ∃ wb1, wb1 = wf1.alloc (.cells #[.slice ea1 sr2.edges.length ec1, .int .i64 sr2.cost, .int .i64 sr2.life, .slice ca1 sr2.claims.length cc1] 33) := ⟨_, rfl⟩
 have hba : Below wf1.heap.size wf1 wb1 := by rw [hw]; exact (Below.refl _ _).alloc (Nat.le_refl _) _
 have hR : Hid (Arr wb1 wf1.heap.size 33 [.slice ea1 sr2.edges.length ec1, .int .i64 sr2.cost, .int .i64 sr2.life, .slice ca1 sr2.claims.length cc1]) := by rw [hw]; exact Arr.new rfl rfl
 rw [← hw]
 clear hw
 replace hE := Lib.hid (hE.out.below hba)
 replace hL := Lib.hid (hL.out.below hba)
 replace hb := Lib.hid (hb.out.trans (hba.mono hb.out.size))
 replace hok := Lib.hid (hok.out.below hba)
 clear hba
 have hba : Below wb1.heap.size wb1 (wb1.alloc (.cells #[.int .i64 0, .int .i64 1] 3)) := (Below.refl _ _).alloc (Nat.le_refl _) _
 have hX : NumsT (wb1.alloc (.cells #[.int .i64 0, .int .i64 1] 3)) (.slice (some ⟨wb1.heap.size, 0, none⟩) 2 2) [0, 1] := RowT.of_arr (Arr.new rfl rfl) 2 2 (Nat.le_refl _) (by unfold maxLen; omega)
 replace hE := Lib.hid (hE.out.below hba)
 replace hL := Lib.hid (hL.out.below hba)
 replace hb := Lib.hid (hb.out.trans (hba.mono hb.out.size))
 replace hR := Lib.hid (hR.out.below hba)
 replace hok := Lib.hid (hok.out.below hba)
 have hof := Lib.hid (of_egs 51 [0, 1] (none) egs_of2 _ _ _ (wb1.alloc (.cells #[.int .i64 0, .int .i64 1] 3)) hE.out hL.out hX)
 clear hba hX
 go_wp2_with fail
 refine hof.out.mono ?_
 rintro e wf2 ⟨ea2, ec2, ca2, cc2, rfl, _, hb2⟩
 clear hof
 replace hE := Lib.hid (hE.out.below hb2)
 replace hL := Lib.hid (hL.out.below hb2)
 replace hb := Lib.hid (hb.out.trans (hb2.mono hb.out.size))
 replace hR := Lib.hid (hR.out.below hb2)
 replace hok := Lib.hid (hok.out.below hb2)
 clear hb2
 dsimp only [Option.getD]
 go_upto_region 5 with fail
 obtain ⟨wb2, hw⟩ : ∃ wb2, wb2 = wf2.alloc (.cells #[.slice ea2 zeroRou.edges.length ec2, .int .i64 zeroRou.cost, .int .i64 zeroRou.life, .slice ca2 zeroRou.claims.length cc2] 33) := ⟨_, rfl⟩
 have hba : Below wf2.heap.size wf2 wb2 := by rw [hw]; exact (Below.refl _ _).alloc (Nat.le_refl _) _
 rw [← hw]
 clear hw
 replace hE := Lib.hid (hE.out.below hba)
 replace hL := Lib.hid (hL.out.below hba)
 replace hb := Lib.hid (hb.out.trans (hba.mono hb.out.size))
 replace hok := Lib.hid (hok.out.below hba)
 replace hR := Lib.hid (hR.out.below hba)
 clear hba
 have hba : Below wb2.heap.size wb2 (wb2.alloc (.cells #[.int .i64 1] 3)) := (Below.refl _ _).alloc (Nat.le_refl _) _
 have hX : NumsT (wb2.alloc (.cells #[.int .i64 1] 3)) (.slice (some ⟨wb2.heap.size, 0, none⟩) 1 1) [1] := RowT.of_arr (Arr.new rfl rfl) 1 1 (Nat.le_refl _) (by unfold maxLen; omega)
 replace hE := Lib.hid (hE.out.below hba)
 replace hL := Lib.hid (hL.out.below hba)
 replace hb := Lib.hid (hb.out.trans (hba.mono hb.out.size))
 replace hR := Lib.hid (hR.out.below hba)
 replace hok := Lib.hid (hok.out.below hba)
 have hof := Lib.hid (of_egs 0 [1] (none) egs_of3 _ _ _ (wb2.alloc (.cells #[.int .i64 1] 3)) hE.out hL.out hX)
 clear hba hX
 go_wp2_with fail
 refine hof.out.mono ?_
 rintro e wf3 ⟨ea3, ec3, ca3, cc3, rfl, _, hb2⟩
 clear hof
 replace hE := Lib.hid (hE.out.below hb2)
 replace hL := Lib.hid (hL.out.below hb2)
 replace hb := Lib.hid (hb.out.trans (hb2.mono hb.out.size))
 replace hR := Lib.hid (hR.out.below hb2)
 replace hok := Lib.hid (hok.out.below hb2)
 clear hb2
 dsimp only [Option.getD]
 go_upto_region 6 with fail
 obtain ⟨wb3, hw⟩ : ∃ wb3, wb3 = wf3.alloc (.cells #[.slice ea3 zeroRou.edges.length ec3, .int .i64 zeroRou.cost, .int .i64 zeroRou.life, .slice ca3 zeroRou.claims.length cc3] 33) := ⟨_, rfl⟩
 have hba : Below wf3.heap.size wf3 wb3 := by rw [hw]; exact (Below.refl _ _).alloc (Nat.le_refl _) _
 rw [← hw]
 clear hw
 replace hE := Lib.hid (hE.out.below hba)
 replace hL := Lib.hid (hL.out.below hba)
 replace hb := Lib.hid (hb.out.trans (hba.mono hb.out.size))
 replace hok := Lib.hid (hok.out.below hba)
 replace hR := Lib.hid (hR.out.below hba)
 clear hba
 have hba := Below.refl wb3.heap.size wb3
 have hX : NumsT wb3 (.slice none 0 0) [] := RowT.nil _ _ _
 replace hE := Lib.hid (hE.out.below hba)
 replace hL := Lib.hid (hL.out.below hba)
 replace hb := Lib.hid (hb.out.trans (hba.mono hb.out.size))
 replace hR := Lib.hid (hR.out.below hba)
 replace hok := Lib.hid (hok.out.below hba)
 have hof := Lib.hid (of_egs 70 [] (none) egs_of4 _ _ _ wb3 hE.out hL.out hX)
 clear hba hX
 go_wp2_with fail
 refine hof.out.mono ?_
 rintro e wf4 ⟨ea4, ec4, ca4, cc4, rfl, _, hb2⟩
 clear hof
 replace hE := Lib.hid (hE.out.below hb2)
 replace hL := Lib.hid (hL.out.below hb2)
 replace hb := Lib.hid (hb.out.trans (hb2.mono hb.out.size))
 replace hR := Lib.hid (hR.out.below hb2)
 replace hok := Lib.hid (hok.out.below hb2)
 clear hb2
 dsimp only [Option.getD]
 go_upto_region 7 with fail
 obtain ⟨wb4, hw⟩ : ∃ wb4, wb4 = wf4.alloc (.cells #[.slice ea4 zeroRou.edges.length ec4, .int .i64 zeroRou.cost, .int .i64 zeroRou.life, .slice ca4 zeroRou.claims.length cc4] 33) := ⟨_, rfl⟩
 have hba : Below wf4.heap.size wf4 wb4 := by rw [hw]; exact (Below.refl _ _).alloc (Nat.le_refl _) _
 rw [← hw]
 clear hw
 replace hE := Lib.hid (hE.out.below hba)
 replace hL := Lib.hid (hL.out.below hba)
 replace hb := Lib.hid (hb.out.trans (hba.mono hb.out.size))
 replace hok := Lib.hid (hok.out.below hba)
 replace hR := Lib.hid (hR.out.below hba)
 clear hba
 simp only [ofE_some, ofE_none]
 replace hR : Hid (Arr wb4 wf1.heap.size 33 [.slice ea1 2 ec1, .int .i64 6, .int .i64 90, .slice ca1 8 cc1]) := hR
 replace hok : Hid (OkR ⟨sr2, .slice ea1 2 ec1, .slice ca1 8 cc1⟩ wb4) := hok
 have hbe := Lib.hid (Best_any egs lifeS 1 40 6 _ _ wb4 egs_in hE.out.at hL.out.at)
 go_wp2_with fail
 refine hbe.out.mono ?_
 rintro e wk ⟨bv, zs, rfl, hzs, hZ, hb2⟩
 clear hbe
 rw [egs_best] at hzs
 obtain ⟨z0, z1, z2, z3, rfl, h0, h1, h2, h3⟩ := four hzs
 clear hzs
 replace hE := Lib.hid (hE.out.below hb2)
 replace hb := Lib.hid (hb.out.trans (hb2.mono hb.out.size))
 replace hR := Lib.hid (hR.out.below hb2)
 replace hok := Lib.hid (hok.out.below hb2)
 clear hb2 hL
 obtain ⟨e0, v0, c0⟩ := z0
 obtain ⟨e1, v1, c1⟩ := z1
 obtain ⟨e2, v2, c2⟩ := z2
 obtain ⟨e3, v3, c3⟩ := z3
 dsimp only at h0 h1 h2 h3
 subst h0 h1 h2 h3
 have hk0 := hZ.2 _ (List.mem_cons_self)
 have hk1 := hZ.2 _ (List.mem_cons_of_mem _ (List.mem_cons_self))
 obtain ⟨xa0, xc0, ya0, yc0, q0, q0'⟩ := hk0.shape
 obtain ⟨xa1, xc1, ya1, yc1, q1, q1'⟩ := hk1.shape
 dsimp only at q0 q0' q1 q1'
 subst q0 q0' q1 q1'
 obtain ⟨b, o, bc, hbv, hblt, x00, x01, x02, x03⟩ := hZ.cells (i := 0) (by simp)
 cases hbv
 obtain ⟨_, _, _, hbv, _, x10, x11, x12, x13⟩ := hZ.cells (i := 1) (by simp)
 cases hbv
 obtain ⟨_, _, _, hbv, _, x20, x21, x22, x23⟩ := hZ.cells (i := 2) (by simp)
 cases hbv
 obtain ⟨_, _, _, hbv, _, x30, x31, x32, x33⟩ := hZ.cells (i := 3) (by simp)
 cases hbv
 replace x00 : wk.cell? ⟨b, o, none⟩ = some (.slice xa0 0 xc0) := x00
 replace x01 : wk.cell? ⟨b, o + 1, none⟩ = some (.int .i64 0) := x01
 replace x02 : wk.cell? ⟨b, o + 2, none⟩ = some (.int .i64 60) := x02
 replace x03 : wk.cell? ⟨b, o + 3, none⟩ = some (.slice ya0 8 yc0) := x03
 replace x10 : wk.cell? ⟨b, o + 4, none⟩ = some (.slice xa1 1 xc1) := x10
 replace x11 : wk.cell? ⟨b, o + 4 + 1, none⟩ = some (.int .i64 5) := x11
 replace x12 : wk.cell? ⟨b, o + 4 + 2, none⟩ = some (.int .i64 80) := x12
 replace x13 : wk.cell? ⟨b, o + 4 + 3, none⟩ = some (.slice ya1 8 yc1) := x13
 replace x21 : wk.cell? ⟨b, o + 8 + 1, none⟩ = some (.int .i64 6) := x21
 replace x22 : wk.cell? ⟨b, o + 8 + 2, none⟩ = some (.int .i64 90) := x22
 replace x31 : wk.cell? ⟨b, o + 12 + 1, none⟩ = some (.int .i64 9) := x31
 replace x32 : wk.cell? ⟨b, o + 12 + 2, none⟩ = some (.int .i64 90) := x32
 clear x20 x23 x30 x33
 have r0 := hR.out.cell (j := 0) rfl
 have r1 := hR.out.cell (j := 1) rfl
 have r2 := hR.out.cell (j := 2) rfl
 have r3 := hR.out.cell (j := 3) rfl
 replace hZ := Lib.hid hZ
 replace hk0 := Lib.hid hk0
 replace hk1 := Lib.hid hk1
 go_upto_region 11 with fail
 have hba : Below wk.heap.size wk ((wk.alloc (.cells #[.int .i64 4, .int .i64 3] 73)).alloc (.cells #[.int .i64 2, .slice (some ⟨wk.heap.size, 0, none⟩) 1 1] 59)) := ((Below.refl _ _).alloc (Nat.le_refl _) _).alloc (by simp) _
 have hpo : ClaimsT 59 ((wk.alloc (.cells #[.int .i64 4, .int .i64 3] 73)).alloc (.cells #[.int .i64 2, .slice (some ⟨wk.heap.size, 0, none⟩) 1 1] 59)) (.slice (some ⟨wk.heap.size + 1, 0, none⟩) 1 1) [(2, [⟨4, 3⟩])] := by
  refine ⟨[.slice (some ⟨wk.heap.size, 0, none⟩) 1 1], rfl, RowT.of_arr (L := [.int .i64 2, .slice (some ⟨wk.heap.size, 0, none⟩) 1 1]) (Arr.new rfl (by simp)) 1 1 (Nat.le_refl _) (by unfold maxLen; omega), fun j hj => ?_⟩
  have hj1 : j < 1 := hj
  obtain rfl : j = 0 := by omega
  exact RowT.of_arr (L := [.int .i64 4, .int .i64 3]) ((Arr.new rfl rfl).alloc _) 1 1 (Nat.le_refl _) (by unfold maxLen; omega)
 have hke := Keeps_any sr2 ea1 2 ec1 (.slice ca1 8 cc1) (.slice (some ⟨wk.heap.size + 1, 0, none⟩) 1 1) [(2, [⟨4, 3⟩])] ((wk.alloc (.cells #[.int .i64 4, .int .i64 3] 73)).alloc (.cells #[.int .i64 2, .slice (some ⟨wk.heap.size, 0, none⟩) 1 1] 59)) (hok.out.below hba).2.at hpo.at (fun c hc => by obtain rfl := List.mem_singleton.1 hc; exact ⟨by decide, by decide⟩)
 rw [egs_keeps1] at hke
 replace hke := Lib.hid hke
 clear hpo
 go_wp2_with fail
 refine hke.out.mono ?_
 rintro e wl ⟨rfl, hb2⟩
 have hbx := hba.trans (hb2.mono hba.size)
 replace hE := Lib.hid (hE.out.below hbx)
 replace hb := Lib.hid (hb.out.trans (hbx.mono hb.out.size))
 replace hR := Lib.hid (hR.out.below hbx)
 replace hok := Lib.hid (hok.out.below hbx)
 replace hk0 := Lib.hid (hk0.out.below hbx)
 replace hk1 := Lib.hid (hk1.out.below hbx)
 replace hZ := Lib.hid (hZ.out.below hbx)
 replace x00 := (hbx.cell (p := ⟨b, _, none⟩) hblt).trans x00
 replace x01 := (hbx.cell (p := ⟨b, _, none⟩) hblt).trans x01
 replace x02 := (hbx.cell (p := ⟨b, _, none⟩) hblt).trans x02
 replace x03 := (hbx.cell (p := ⟨b, _, none⟩) hblt).trans x03
 replace x10 := (hbx.cell (p := ⟨b, _, none⟩) hblt).trans x10
 replace x11 := (hbx.cell (p := ⟨b, _, none⟩) hblt).trans x11
 replace x12 := (hbx.cell (p := ⟨b, _, none⟩) hblt).trans x12
 replace x13 := (hbx.cell (p := ⟨b, _, none⟩) hblt).trans x13
 replace x21 := (hbx.cell (p := ⟨b, _, none⟩) hblt).trans x21
 replace x22 := (hbx.cell (p := ⟨b, _, none⟩) hblt).trans x22
 replace x31 := (hbx.cell (p := ⟨b, _, none⟩) hblt).trans x31
 replace x32 := (hbx.cell (p := ⟨b, _, none⟩) hblt).trans x32
 replace hblt := Nat.lt_of_lt_of_le hblt hbx.size
 have r0 := hR.out.cell (j := 0) rfl
 have r1 := hR.out.cell (j := 1) rfl
 have r2 := hR.out.cell (j := 2) rfl
 have r3 := hR.out.cell (j := 3) rfl
 clear hba hbx hb2 hke
 have hba : Below wl.heap.size wl ((wl.alloc (.cells #[.int .i64 4, .int .i64 5] 73)).alloc (.cells #[.int .i64 2, .slice (some ⟨wl.heap.size, 0, none⟩) 1 1] 59)) := ((Below.refl _ _).alloc (Nat.le_refl _) _).alloc (by simp) _
 have hpo : ClaimsT 59 ((wl.alloc (.cells #[.int .i64 4, .int .i64 5] 73)).alloc (.cells #[.int .i64 2, .slice (some ⟨wl.heap.size, 0, none⟩) 1 1] 59)) (.slice (some ⟨wl.heap.size + 1, 0, none⟩) 1 1) [(2, [⟨4, 5⟩])] := by
  refine ⟨[.slice (some ⟨wl.heap.size, 0, none⟩) 1 1], rfl, RowT.of_arr (L := [.int .i64 2, .slice (some ⟨wl.heap.size, 0, none⟩) 1 1]) (Arr.new rfl (by simp)) 1 1 (Nat.le_refl _) (by unfold maxLen; omega), fun j hj => ?_⟩
  have hj1 : j < 1 := hj
  obtain rfl : j = 0 := by omega
  exact RowT.of_arr (L := [.int .i64 4, .int .i64 5]) ((Arr.new rfl rfl).alloc _) 1 1 (Nat.le_refl _) (by unfold maxLen; omega)
 have hke := Keeps_any sr2 ea1 2 ec1 (.slice ca1 8 cc1) (.slice (some ⟨wl.heap.size + 1, 0, none⟩) 1 1) [(2, [⟨4, 5⟩])] ((wl.alloc (.cells #[.int .i64 4, .int .i64 5] 73)).alloc (.cells #[.int .i64 2, .slice (some ⟨wl.heap.size, 0, none⟩) 1 1] 59)) (hok.out.below hba).2.at hpo.at (fun c hc => by obtain rfl := List.mem_singleton.1 hc; exact ⟨by decide, by decide⟩)
 rw [egs_keeps2] at hke
 replace hke := Lib.hid hke
 clear hpo
 go_wp2_with fail
 refine hke.out.mono ?_
 rintro e wm ⟨rfl, hb2⟩
 have hbx := hba.trans (hb2.mono hba.size)
 replace hE := Lib.hid (hE.out.below hbx)
 replace hb := Lib.hid (hb.out.trans (hbx.mono hb.out.size))
 replace hR := Lib.hid (hR.out.below hbx)
 replace hok := Lib.hid (hok.out.below hbx)
 replace hk0 := Lib.hid (hk0.out.below hbx)
 replace hk1 := Lib.hid (hk1.out.below hbx)
 replace hZ := Lib.hid (hZ.out.below hbx)
 replace x00 := (hbx.cell (p := ⟨b, _, none⟩) hblt).trans x00
 replace x01 := (hbx.cell (p := ⟨b, _, none⟩) hblt).trans x01
 replace x02 := (hbx.cell (p := ⟨b, _, none⟩) hblt).trans x02
 replace x03 := (hbx.cell (p := ⟨b, _, none⟩) hblt).trans x03
 replace x10 := (hbx.cell (p := ⟨b, _, none⟩) hblt).trans x10
 replace x11 := (hbx.cell (p := ⟨b, _, none⟩) hblt).trans x11
 replace x12 := (hbx.cell (p := ⟨b, _, none⟩) hblt).trans x12
 replace x13 := (hbx.cell (p := ⟨b, _, none⟩) hblt).trans x13
 replace x21 := (hbx.cell (p := ⟨b, _, none⟩) hblt).trans x21
 replace x22 := (hbx.cell (p := ⟨b, _, none⟩) hblt).trans x22
 replace x31 := (hbx.cell (p := ⟨b, _, none⟩) hblt).trans x31
 replace x32 := (hbx.cell (p := ⟨b, _, none⟩) hblt).trans x32
 replace hblt := Nat.lt_of_lt_of_le hblt hbx.size
 have r0 := hR.out.cell (j := 0) rfl
 have r1 := hR.out.cell (j := 1) rfl
 have r2 := hR.out.cell (j := 2) rfl
 have r3 := hR.out.cell (j := 3) rfl
 clear hba hbx hb2 hke
 obtain ⟨eb, eo, ecp, eu, hq, helt, _, _, y2, y3, y4, y5, y6, hcl⟩ := hE.out.at.cells (i := 0) (by decide)
 cases hq
 obtain ⟨_, _, ⟨ka, kc, rfl, _, _, _⟩, _⟩ := id hcl
 replace y2 : wm.cell? ⟨eb, eo + 2, none⟩ = some (.int .i64 1) := y2
 replace y3 : wm.cell? ⟨eb, eo + 2 + 1, none⟩ = some (.int .i64 1) := y3
 replace y4 : wm.cell? ⟨eb, eo + 2 + 2, none⟩ = some (.int .i64 2) := y4
 replace y5 : wm.cell? ⟨eb, eo + 2 + 3, none⟩ = some (.bool false) := y5
 replace y6 : wm.cell? ⟨eb, eo + 2 + 4, none⟩ = some (.slice ka 1 kc) := y6
 replace hcl : ClaimsAt wm wm.heap.size (.slice ka 1 kc) [(2, [⟨4, 3⟩])] := hcl
 have hRl := hR.out.lt
 have hH : Hid (∀ W, Below wm.heap.size wm W → W.cell? ⟨wf1.heap.size, 1, none⟩ = some (.int .i64 6) ∧ W.cell? ⟨wf1.heap.size, 2, none⟩ = some (.int .i64 90) ∧ W.cell? ⟨b, o, none⟩ = some (.slice xa0 0 xc0) ∧ W.cell? ⟨b, o + 1, none⟩ = some (.int .i64 0) ∧ W.cell? ⟨b, o + 2, none⟩ = some (.int .i64 60) ∧ W.cell? ⟨b, o + 3, none⟩ = some (.slice ya0 8 yc0) ∧ W.cell? ⟨b, o + 4, none⟩ = some (.slice xa1 1 xc1) ∧ W.cell? ⟨b, o + 4 + 1, none⟩ = some (.int .i64 5) ∧ W.cell? ⟨b, o + 4 + 2, none⟩ = some (.int .i64 80) ∧ W.cell? ⟨b, o + 4 + 3, none⟩ = some (.slice ya1 8 yc1) ∧ W.cell? ⟨eb, eo + 2, none⟩ = some (.int .i64 1) ∧ W.cell? ⟨eb, eo + 2 + 1, none⟩ = some (.int .i64 1) ∧ W.cell? ⟨eb, eo + 2 + 2, none⟩ = some (.int .i64 2) ∧ W.cell? ⟨eb, eo + 2 + 3, none⟩ = some (.bool false) ∧ W.cell? ⟨eb, eo + 2 + 4, none⟩ = some (.slice ka 1 kc)) := Lib.hid fun W hW => ⟨(hW.cell (p := ⟨wf1.heap.size, 1, none⟩) hRl).trans r1, (hW.cell (p := ⟨wf1.heap.size, 2, none⟩) hRl).trans r2, (hW.cell (p := ⟨b, o, none⟩) hblt).trans x00, (hW.cell (p := ⟨b, o + 1, none⟩) hblt).trans x01, (hW.cell (p := ⟨b, o + 2, none⟩) hblt).trans x02, (hW.cell (p := ⟨b, o + 3, none⟩) hblt).trans x03, (hW.cell (p := ⟨b, o + 4, none⟩) hblt).trans x10, (hW.cell (p := ⟨b, o + 4 + 1, none⟩) hblt).trans x11, (hW.cell (p := ⟨b, o + 4 + 2, none⟩) hblt).trans x12, (hW.cell (p := ⟨b, o + 4 + 3, none⟩) hblt).trans x13, (hW.cell (p := ⟨eb, eo + 2, none⟩) helt).trans y2, (hW.cell (p := ⟨eb, eo + 2 + 1, none⟩) helt).trans y3, (hW.cell (p := ⟨eb, eo + 2 + 2, none⟩) helt).trans y4, (hW.cell (p := ⟨eb, eo + 2 + 3, none⟩) helt).trans y5, (hW.cell (p := ⟨eb, eo + 2 + 4, none⟩) helt).trans y6⟩
 go_wp2_with fail
 refine wp_region_held_drew (S := fun w' => w'.cell? ⟨wf1.heap.size, 1, none⟩ = some (.int .i64 6) ∧ w'.cell? ⟨wf1.heap.size, 2, none⟩ = some (.int .i64 90) ∧ w'.cell? ⟨b, o, none⟩ = some (.slice xa0 0 xc0) ∧ w'.cell? ⟨b, o + 1, none⟩ = some (.int .i64 0) ∧ w'.cell? ⟨b, o + 2, none⟩ = some (.int .i64 60) ∧ w'.cell? ⟨b, o + 3, none⟩ = some (.slice ya0 8 yc0) ∧ w'.cell? ⟨b, o + 4, none⟩ = some (.slice xa1 1 xc1) ∧ w'.cell? ⟨b, o + 4 + 1, none⟩ = some (.int .i64 5) ∧ w'.cell? ⟨b, o + 4 + 2, none⟩ = some (.int .i64 80) ∧ w'.cell? ⟨b, o + 4 + 3, none⟩ = some (.slice ya1 8 yc1) ∧ w'.cell? ⟨eb, eo + 2, none⟩ = some (.int .i64 1) ∧ w'.cell? ⟨eb, eo + 2 + 1, none⟩ = some (.int .i64 1) ∧ w'.cell? ⟨eb, eo + 2 + 2, none⟩ = some (.int .i64 2) ∧ w'.cell? ⟨eb, eo + 2 + 3, none⟩ = some (.bool false) ∧ w'.cell? ⟨eb, eo + 2 + 4, none⟩ = some (.slice ka 1 kc)) (by kernel_rfl) (by exact hH.out wm (Below.refl _ _)) (fun hHeld => ?_)
 refine tk 0 ?_ rfl ?_ ?_
 rotate_left
 ·
  intro w hSw; (try dsimp only at hSw); go_simp; (try with_reducible rfl)
 (try simp only [Act.put, setIfInBounds_toArray, set_cons_zero, set_cons_succ])
 have hbd : Below wm.heap.size wm wm.drew := (Below.refl _ _).drew
 generalize wm.drew = q0 at *
 replace hbd := Lib.hid hbd
 replace hE := Lib.hid (hE.out.below hbd.out)
 replace hk0 := Lib.hid (hk0.out.below hbd.out)
 replace hk1 := Lib.hid (hk1.out.below hbd.out)
 replace hcl := Lib.hid (hcl.later hbd.out)
 clear r1 r2 x00 x01 x02 x03 x10 x11 x12 x13 y2 y3 y4 y5 y6 x21 x22 x31 x32 r0 r3
 have hcn := rValid_any _ egs q0 hE.out.at egs_in
 rw [egs_valid] at hcn
 replace hcn := Lib.hid hcn
 refine wpAnyH_ready (rs := [1]) (by kernel_rfl) (by simp) ?_
 refine ready_l rfl (fun K hK => ?_) AllReadyH.nil
 go_simp
 go_at_call 15
 refine hcn.out.mono ?_
 rintro e q1 ⟨rfl, hbn⟩
 clear hcn
 replace hE := Lib.hid (hE.out.below hbn)
 replace hk0 := Lib.hid (hk0.out.below hbn)
 replace hk1 := Lib.hid (hk1.out.below hbn)
 replace hcl := Lib.hid (hcl.out.later hbn)
 replace hbd := Lib.hid (hbd.out.trans (hbn.mono hbd.out.size))
 refine hK.out _ _ (by exact hH.out _ hbd.out) (fun hHeld1 => ?_)
 clear hK K hbn
 (try simp only [Act.put, setIfInBounds_toArray, set_cons_zero, set_cons_succ])
 refine tk 2 ?_ rfl ?_ ?_
 rotate_left
 ·
  intro w hSw; (try dsimp only at hSw); go_simp; (try with_reducible rfl)
 (try simp only [Act.put, setIfInBounds_toArray, set_cons_zero, set_cons_succ])
 refine tk 3 ?_ rfl ?_ ?_
 rotate_left
 ·
  intro w hSw; (try dsimp only at hSw); go_simp; (try with_reducible rfl)
 (try simp only [Act.put, setIfInBounds_toArray, set_cons_zero, set_cons_succ])
 refine tk 4 ?_ rfl ?_ ?_
 rotate_left
 ·
  intro w hSw; (try dsimp only at hSw); go_simp; (try with_reducible rfl)
 (try simp only [Act.put, setIfInBounds_toArray, set_cons_zero, set_cons_succ])
 refine tk 5 ?_ rfl ?_ ?_
 rotate_left
 ·
  intro w hSw; (try dsimp only at hSw); go_simp; (try with_reducible rfl)
 (try simp only [Act.put, setIfInBounds_toArray, set_cons_zero, set_cons_succ])
 refine tk 6 ?_ rfl ?_ ?_
 rotate_left
 ·
  intro w hSw; (try dsimp only at hSw); go_simp; (try with_reducible rfl)
 (try simp only [Act.put, setIfInBounds_toArray, set_cons_zero, set_cons_succ])
 refine tk 7 ?_ rfl ?_ ?_
 rotate_left
 ·
  intro w hSw; (try dsimp only at hSw); go_simp; (try with_reducible rfl)
 (try simp only [Act.put, setIfInBounds_toArray, set_cons_zero, set_cons_succ])
 refine tk 8 ?_ rfl ?_ ?_
 rotate_left
 ·
  intro w hSw; (try dsimp only at hSw); go_simp; (try with_reducible rfl)
 (try simp only [Act.put, setIfInBounds_toArray, set_cons_zero, set_cons_succ])
 refine tk 9 ?_ rfl ?_ ?_
 rotate_left
 ·
  intro w hSw; (try dsimp only at hSw); go_simp; (try with_reducible rfl)
 (try simp only [Act.put, setIfInBounds_toArray, set_cons_zero, set_cons_succ])
 refine tk 10 ?_ rfl ?_ ?_
 rotate_left
 ·
  intro w hSw; (try dsimp only at hSw); go_simp; (try with_reducible rfl)
 (try simp only [Act.put, setIfInBounds_toArray, set_cons_zero, set_cons_succ])
 refine tk 11 ?_ rfl ?_ ?_
 rotate_left
 ·
  intro w hSw; (try dsimp only at hSw); go_simp; (try with_reducible rfl)
 (try simp only [Act.put, setIfInBounds_toArray, set_cons_zero, set_cons_succ])
 refine tk 12 ?_ rfl ?_ ?_
 rotate_left
 ·
  intro w hSw; (try dsimp only at hSw); go_simp; (try with_reducible rfl)
 (try simp only [Act.put, setIfInBounds_toArray, set_cons_zero, set_cons_succ])
 refine tk 13 ?_ rfl ?_ ?_
 rotate_left
 ·
  intro w hSw; (try dsimp only at hSw); go_simp; (try with_reducible rfl)
 (try simp only [Act.put, setIfInBounds_toArray, set_cons_zero, set_cons_succ])
 refine tk 14 ?_ rfl ?_ ?_
 rotate_left
 ·
  intro w hSw; (try dsimp only at hSw); go_simp; (try with_reducible rfl)
 (try simp only [Act.put, setIfInBounds_toArray, set_cons_zero, set_cons_succ])
 refine tk 15 ?_ rfl ?_ ?_
 rotate_left
 ·
  intro w hSw; (try dsimp only at hSw); go_simp; (try with_reducible rfl)
 (try simp only [Act.put, setIfInBounds_toArray, set_cons_zero, set_cons_succ])
 refine tk 16 ?_ rfl ?_ ?_
 rotate_left
 ·
  intro w hSw; (try dsimp only at hSw); go_simp; (try with_reducible rfl)
 (try simp only [Act.put, setIfInBounds_toArray, set_cons_zero, set_cons_succ])
 refine tk 17 ?_ rfl ?_ ?_
 rotate_left
 ·
  intro w hSw; (try dsimp only at hSw); go_simp; (try with_reducible rfl)
 (try simp only [Act.put, setIfInBounds_toArray, set_cons_zero, set_cons_succ])
 refine tk 18 ?_ rfl ?_ ?_
 rotate_left
 ·
  intro w hSw; (try dsimp only at hSw); go_simp; (try with_reducible rfl)
 (try simp only [Act.put, setIfInBounds_toArray, set_cons_zero, set_cons_succ])
 refine tk 19 ?_ rfl ?_ ?_
 rotate_left
 ·
  intro w hSw; (try dsimp only at hSw); go_simp; (try with_reducible rfl)
 (try simp only [Act.put, setIfInBounds_toArray, set_cons_zero, set_cons_succ])
 refine tk 20 ?_ rfl ?_ ?_
 rotate_left
 ·
  intro w hSw; (try dsimp only at hSw); go_simp; (try with_reducible rfl)
 (try simp only [Act.put, setIfInBounds_toArray, set_cons_zero, set_cons_succ])
 refine tk 21 ?_ rfl ?_ ?_
 rotate_left
 ·
  intro w hSw; (try dsimp only at hSw); go_simp; (try with_reducible rfl)
 (try simp only [Act.put, setIfInBounds_toArray, set_cons_zero, set_cons_succ])
 refine tk 22 ?_ rfl ?_ ?_
 rotate_left
 ·
  intro w hSw; (try dsimp only at hSw); go_simp; (try with_reducible rfl)
 (try simp only [Act.put, setIfInBounds_toArray, set_cons_zero, set_cons_succ])
 refine tk 23 ?_ rfl ?_ ?_
 rotate_left
 ·
  intro w hSw; (try dsimp only at hSw); go_simp; (try with_reducible rfl)
 (try simp only [Act.put, setIfInBounds_toArray, set_cons_zero, set_cons_succ])
 refine tk 24 ?_ rfl ?_ ?_
 rotate_left
 ·
  intro w hSw; (try dsimp only at hSw); go_simp; (try with_reducible rfl)
 (try simp only [Act.put, setIfInBounds_toArray, set_cons_zero, set_cons_succ])
 refine tk 25 ?_ rfl ?_ ?_
 rotate_left
 ·
  intro w hSw; (try dsimp only at hSw); go_simp; (try with_reducible rfl)
 (try simp only [Act.put, setIfInBounds_toArray, set_cons_zero, set_cons_succ])
 refine tk 26 ?_ rfl ?_ ?_
 rotate_left
 ·
  intro w hSw; (try dsimp only at hSw); go_simp; (try with_reducible rfl)
 (try simp only [Act.put, setIfInBounds_toArray, set_cons_zero, set_cons_succ])
 refine tk 27 ?_ rfl ?_ ?_
 rotate_left
 ·
  intro w hSw; (try dsimp only at hSw); go_simp; (try with_reducible rfl)
 (try simp only [Act.put, setIfInBounds_toArray, set_cons_zero, set_cons_succ])
 refine tk 28 ?_ rfl ?_ ?_
 rotate_left
 ·
  intro w hSw; (try dsimp only at hSw); go_simp; (try with_reducible rfl)
 (try simp only [Act.put, setIfInBounds_toArray, set_cons_zero, set_cons_succ])
 refine tk 29 ?_ rfl ?_ ?_
 rotate_left
 ·
  intro w hSw; (try dsimp only at hSw); go_simp; (try with_reducible rfl)
 (try simp only [Act.put, setIfInBounds_toArray, set_cons_zero, set_cons_succ])
 refine tk 30 ?_ rfl ?_ ?_
 rotate_left
 ·
  intro w hSw; (try dsimp only at hSw); go_simp; (try with_reducible rfl)
 (try simp only [Act.put, setIfInBounds_toArray, set_cons_zero, set_cons_succ])
 refine tk 31 ?_ rfl ?_ ?_
 rotate_left
 ·
  intro w hSw; (try dsimp only at hSw); go_simp; (try with_reducible rfl)
 (try simp only [Act.put, setIfInBounds_toArray, set_cons_zero, set_cons_succ])
 refine tk 32 ?_ rfl ?_ ?_
 rotate_left
 ·
  intro w hSw; (try dsimp only at hSw); go_simp; (try with_reducible rfl)
 (try simp only [Act.put, setIfInBounds_toArray, set_cons_zero, set_cons_succ])
 refine tk 33 ?_ rfl ?_ ?_
 rotate_left
 ·
  intro w hSw; (try dsimp only at hSw); go_simp; (try with_reducible rfl)
 (try simp only [Act.put, setIfInBounds_toArray, set_cons_zero, set_cons_succ])
 refine tk 34 ?_ rfl ?_ ?_
 rotate_left
 ·
  intro w hSw; (try dsimp only at hSw); go_simp; (try with_reducible rfl)
 (try simp only [Act.put, setIfInBounds_toArray, set_cons_zero, set_cons_succ])
 refine tk 35 ?_ rfl ?_ ?_
 rotate_left
 ·
  intro w hSw; (try dsimp only at hSw); go_simp; (try with_reducible rfl)
 (try simp only [Act.put, setIfInBounds_toArray, set_cons_zero, set_cons_succ])
 refine tk 36 ?_ rfl ?_ ?_
 rotate_left
 ·
  intro w hSw; (try dsimp only at hSw); go_simp; (try with_reducible rfl)
 (try simp only [Act.put, setIfInBounds_toArray, set_cons_zero, set_cons_succ])
 refine tk 37 ?_ rfl ?_ ?_
 rotate_left
 ·
  intro w hSw; (try dsimp only at hSw); go_simp; (try with_reducible rfl)
 (try simp only [Act.put, setIfInBounds_toArray, set_cons_zero, set_cons_succ])
 refine tk 38 ?_ rfl ?_ ?_
 rotate_left
 ·
  intro w hSw; (try dsimp only at hSw); go_simp; (try with_reducible rfl)
 (try simp only [Act.put, setIfInBounds_toArray, set_cons_zero, set_cons_succ])
 refine tk 39 ?_ rfl ?_ ?_
 rotate_left
 ·
  intro w hSw; (try dsimp only at hSw); go_simp; (try with_reducible rfl)
 (try simp only [Act.put, setIfInBounds_toArray, set_cons_zero, set_cons_succ])
 refine tk 40 ?_ rfl ?_ ?_
 rotate_left
 ·
  intro w hSw; (try dsimp only at hSw); go_simp; (try with_reducible rfl)
 (try simp only [Act.put, setIfInBounds_toArray, set_cons_zero, set_cons_succ])
 have hcn := Better_any sr0 sr0 xa0 xa0 0 0 xc0 xc0 (.slice ya0 8 yc0) (.slice ya0 8 yc0) q1 hk0.out.2.at hk0.out.2.at
 rw [egs_better0] at hcn
 replace hcn := Lib.hid hcn
 refine wpAnyH_ready (rs := [41]) (by kernel_rfl) (by simp) ?_
 refine ready_l rfl (fun K hK => ?_) AllReadyH.nil
 go_simp
 go_at_call 24
 refine hcn.out.mono ?_
 rintro e q2 ⟨rfl, hbn⟩
 clear hcn
 replace hE := Lib.hid (hE.out.below hbn)
 replace hk0 := Lib.hid (hk0.out.below hbn)
 replace hk1 := Lib.hid (hk1.out.below hbn)
 replace hcl := Lib.hid (hcl.out.later hbn)
 replace hbd := Lib.hid (hbd.out.trans (hbn.mono hbd.out.size))
 refine hK.out _ _ (by exact hH.out _ hbd.out) (fun hHeld2 => ?_)
 clear hK K hbn
 (try simp only [Act.put, setIfInBounds_toArray, set_cons_zero, set_cons_succ])
 refine tk 42 ?_ rfl ?_ ?_
 rotate_left
 ·
  intro w hSw; (try dsimp only at hSw); go_simp; (try with_reducible rfl)
 (try simp only [Act.put, setIfInBounds_toArray, set_cons_zero, set_cons_succ])
 refine tk 43 ?_ rfl ?_ ?_
 rotate_left
 ·
  intro w hSw; (try dsimp only at hSw); go_simp; (try with_reducible rfl)
 (try simp only [Act.put, setIfInBounds_toArray, set_cons_zero, set_cons_succ])
 refine tk 44 ?_ rfl ?_ ?_
 rotate_left
 ·
  intro w hSw; (try dsimp only at hSw); go_simp; (try with_reducible rfl)
 (try simp only [Act.put, setIfInBounds_toArray, set_cons_zero, set_cons_succ])
 refine tk 45 ?_ rfl ?_ ?_
 rotate_left
 ·
  intro w hSw; (try dsimp only at hSw); go_simp; (try with_reducible rfl)
 (try simp only [Act.put, setIfInBounds_toArray, set_cons_zero, set_cons_succ])
 refine tk 46 ?_ rfl ?_ ?_
 rotate_left
 ·
  intro w hSw; (try dsimp only at hSw); go_simp; (try with_reducible rfl)
 (try simp only [Act.put, setIfInBounds_toArray, set_cons_zero, set_cons_succ])
 refine tk 47 ?_ rfl ?_ ?_
 rotate_left
 ·
  intro w hSw; (try dsimp only at hSw); go_simp; (try with_reducible rfl)
 (try simp only [Act.put, setIfInBounds_toArray, set_cons_zero, set_cons_succ])
 refine tk 48 ?_ rfl ?_ ?_
 rotate_left
 ·
  intro w hSw; (try dsimp only at hSw); go_simp; (try with_reducible rfl)
 (try simp only [Act.put, setIfInBounds_toArray, set_cons_zero, set_cons_succ])
 refine tk 49 ?_ rfl ?_ ?_
 rotate_left
 ·
  intro w hSw; (try dsimp only at hSw); go_simp; (try with_reducible rfl)
 (try simp only [Act.put, setIfInBounds_toArray, set_cons_zero, set_cons_succ])
 have hcn := Better_any sr0 sr1 xa0 xa1 0 1 xc0 xc1 (.slice ya0 8 yc0) (.slice ya1 8 yc1) q2 hk0.out.2.at hk1.out.2.at
 rw [egs_better1] at hcn
 replace hcn := Lib.hid hcn
 refine wpAnyH_ready (rs := [50]) (by kernel_rfl) (by simp) ?_
 refine ready_l rfl (fun K hK => ?_) AllReadyH.nil
 go_simp
 go_at_call 24
 refine hcn.out.mono ?_
 rintro e q3 ⟨rfl, hbn⟩
 clear hcn
 replace hE := Lib.hid (hE.out.below hbn)
 replace hk0 := Lib.hid (hk0.out.below hbn)
 replace hk1 := Lib.hid (hk1.out.below hbn)
 replace hcl := Lib.hid (hcl.out.later hbn)
 replace hbd := Lib.hid (hbd.out.trans (hbn.mono hbd.out.size))
 refine hK.out _ _ (by exact hH.out _ hbd.out) (fun hHeld3 => ?_)
 clear hK K hbn
 (try simp only [Act.put, setIfInBounds_toArray, set_cons_zero, set_cons_succ])
 refine tk 51 ?_ rfl ?_ ?_
 rotate_left
 ·
  intro w hSw; (try dsimp only at hSw); go_simp; (try with_reducible rfl)
 (try simp only [Act.put, setIfInBounds_toArray, set_cons_zero, set_cons_succ])
 refine tk 52 ?_ rfl ?_ ?_
 rotate_left
 ·
  intro w hSw; (try dsimp only at hSw); go_simp; (try with_reducible rfl)
 (try simp only [Act.put, setIfInBounds_toArray, set_cons_zero, set_cons_succ])
 refine tk 53 ?_ rfl ?_ ?_
 rotate_left
 ·
  intro w hSw; (try dsimp only at hSw); go_simp; (try with_reducible rfl)
 (try simp only [Act.put, setIfInBounds_toArray, set_cons_zero, set_cons_succ])
 refine tk 54 ?_ rfl ?_ ?_
 rotate_left
 ·
  intro w hSw; (try dsimp only at hSw); go_simp; (try with_reducible rfl)
 (try simp only [Act.put, setIfInBounds_toArray, set_cons_zero, set_cons_succ])
 refine tk 55 ?_ rfl ?_ ?_
 rotate_left
 ·
  intro w hSw; (try dsimp only at hSw); go_simp; (try with_reducible rfl)
 (try simp only [Act.put, setIfInBounds_toArray, set_cons_zero, set_cons_succ])
 refine tk 56 ?_ rfl ?_ ?_
 rotate_left
 ·
  intro w hSw; (try dsimp only at hSw); go_simp; (try with_reducible rfl)
 (try simp only [Act.put, setIfInBounds_toArray, set_cons_zero, set_cons_succ])
 refine tk 57 ?_ rfl ?_ ?_
 rotate_left
 ·
  intro w hSw; (try dsimp only at hSw); go_simp; (try with_reducible rfl)
 (try simp only [Act.put, setIfInBounds_toArray, set_cons_zero, set_cons_succ])
 refine tk 58 ?_ rfl ?_ ?_
 rotate_left
 ·
  intro w hSw; (try dsimp only at hSw); go_simp; (try with_reducible rfl)
 (try simp only [Act.put, setIfInBounds_toArray, set_cons_zero, set_cons_succ])
 have hba : Below q3.heap.size q3 (q3.alloc (.cells #[.int .i64 (-1), .int .i64 0, .int .i64 1, .int .i64 1, .int .i64 2, .bool false, .slice ka 1 kc] 30)) := (Below.refl _ _).alloc (Nat.le_refl _) _
 have hEb : EdgesAt (q3.alloc (.cells #[.int .i64 (-1), .int .i64 0, .int .i64 1, .int .i64 1, .int .i64 2, .bool false, .slice ka 1 kc] 30)) (q3.alloc (.cells #[.int .i64 (-1), .int .i64 0, .int .i64 1, .int .i64 1, .int .i64 2, .bool false, .slice ka 1 kc] 30)).heap.size (.slice (some ⟨q3.heap.size, 0, none⟩) 1 1) [⟨-1, 0, ⟨1, 1, 2, false, [(2, [⟨4, 3⟩])]⟩⟩] := by
  refine ⟨[.slice ka 1 kc], rfl, (RowT.of_arr (T := 30) (L := [.int .i64 (-1), .int .i64 0, .int .i64 1, .int .i64 1, .int .i64 2, .bool false, .slice ka 1 kc]) (Arr.new rfl rfl) 1 1 (Nat.le_refl _) (by unfold maxLen; omega)).at, fun j hj => ?_⟩
  have hj1 : j < 1 := hj
  obtain rfl : j = 0 := by omega
  exact hcl.out.later hba
 have hcn := rValid_any _ _ _ hEb (fun c hc => by obtain rfl := List.mem_singleton.1 hc; exact ⟨⟨by decide, by decide⟩, ⟨by decide, by decide⟩, ⟨by decide, by decide⟩, fun k hk => by obtain rfl := List.mem_singleton.1 hk; exact ⟨by decide, by decide⟩⟩)
 rw [egs_bad] at hcn
 refine wpAnyH_ready (rs := [59]) (by kernel_rfl) (by simp) ?_
 refine ready_l rfl (fun K hK => ?_) AllReadyH.nil
 go_simp
 replace hcn := Lib.hid hcn
 clear hEb
 generalize q3.alloc (.cells #[.int .i64 (-1), .int .i64 0, .int .i64 1, .int .i64 1, .int .i64 2, .bool false, .slice ka 1 kc] 30) = q4 at *
 skip
 replace hbd := Lib.hid (hbd.out.trans (hba.mono hbd.out.size))
 replace hE := Lib.hid (hE.out.below hba)
 replace hk0 := Lib.hid (hk0.out.below hba)
 replace hk1 := Lib.hid (hk1.out.below hba)
 replace hcl := Lib.hid (hcl.out.later hba)
 clear hba
 refine hK.out _ _ (by exact hH.out _ hbd.out) (fun hHeld59 => ?_)
 clear hK K
 (try simp only [Act.put, setIfInBounds_toArray, set_cons_zero, set_cons_succ])
 skip
 refine wpAnyH_ready (rs := [60]) (by kernel_rfl) (by simp) ?_
 refine ready_l rfl (fun K hK => ?_) AllReadyH.nil
 go_simp
 go_at_call 15
 refine hcn.out.mono ?_
 rintro e q5 ⟨rfl, hbn⟩
 clear hcn
 replace hE := Lib.hid (hE.out.below hbn)
 replace hk0 := Lib.hid (hk0.out.below hbn)
 replace hk1 := Lib.hid (hk1.out.below hbn)
 replace hcl := Lib.hid (hcl.out.later hbn)
 replace hbd := Lib.hid (hbd.out.trans (hbn.mono hbd.out.size))
 refine hK.out _ _ (by exact hH.out _ hbd.out) (fun hHeld4 => ?_)
 clear hK K hbn
 (try simp only [Act.put, setIfInBounds_toArray, set_cons_zero, set_cons_succ])
 refine tk 61 ?_ rfl ?_ ?_
 rotate_left
 ·
  intro w hSw; (try dsimp only at hSw); go_simp; (try with_reducible rfl)
 (try simp only [Act.put, setIfInBounds_toArray, set_cons_zero, set_cons_succ])
 refine tk 62 ?_ rfl ?_ ?_
 rotate_left
 ·
  intro w hSw; (try dsimp only at hSw); go_simp; (try with_reducible rfl)
 (try simp only [Act.put, setIfInBounds_toArray, set_cons_zero, set_cons_succ])
 refine tk 63 ?_ rfl ?_ ?_
 rotate_left
 ·
  intro w hSw; (try dsimp only at hSw); go_simp; (try with_reducible rfl)
 (try simp only [Act.put, setIfInBounds_toArray, set_cons_zero, set_cons_succ])
 refine wpAnyH_done (by kernel_rfl) ?_ _
 replace hb := Lib.hid (hb.out.trans (hbd.out.mono hb.out.size))
 go_wp2_with fail
 go_ret
 exact ⟨rfl, hb.out⟩
end Go.Proofs.YtpeandbcdaikbaaGreatDoor
