/-
 Routes of chapter 11: plan.on, where the edge fits (printed by tools/genrd9.py).
 Routes of chapter 11: plan.on.
-/
import Derived.Test.YtpeandbcdaikbaaGreatDoorYJ
import Derived.Deep.CutRange
open List (setIfInBounds_toArray set_cons_zero set_cons_succ)
namespace Go.Proofs.YtpeandbcdaikbaaGreatDoor
open Go.RowKit Go.Shelf Go.Maps

attribute [local go_sem] Oper.semAt_some

def onC (m : Mig) (c : Int × List Stp) : Int × List Stp := (c.1, composeA c.1 c.2 (stepsC (claimsM m) c.1))
theorem ok_parts {e : Edg} (h : okE e = true) : (0 ≤ e.cost ∧ e.cost ≤ 1000000) ∧ (0 ≤ e.until_ ∧ e.until_ ≤ 100000) ∧ validM e.does = true := by
 unfold okE at h
 simp only [Bool.and_eq_true, decide_eq_true_eq] at h
 exact ⟨h.1.1, h.1.2, h.2⟩
def nextW (l : List Edg) (k : Nat) (x : Way) : Way := ⟨x.formats ++ [l[k]!.does.to], ⟨x.rou.edges ++ [(k : Int)], x.rou.cost + l[k]!.cost, 0, x.rou.claims.map (onC l[k]!.does)⟩⟩
set_option maxRecDepth 100000 in
set_option maxHeartbeats 2600000 in
theorem on_fits (l : List Edg) (day : Int) (pev plv : Value) (fv ev cv : Value) (x : Way) (edge : Int) (w : World) (hE : EdgesAt w w.heap.size pev l) (hp : ∃ a n c, plv = .slice a n c) (h : WayT w fv ev cv x) (k : Nat) (hk : k < l.length) (he : edge = (k : Int)) (hne : x.rou.edges.length ≠ 6) (hno : ¬(l[k]!.does.frm ≠ x.last ∨ l[k]!.until_ < day ∨ l[k]!.does.to ∈ x.formats)) (hI : MigIn l[k]!.does) (hok : okE l[k]! = true) :
  Calls Tryz.prog 42 #[.agg #[pev, plv, .int .i64 day], .agg #[fv, ev, .int .i64 x.rou.cost, .int .i64 x.rou.life, cv], .int .i64 edge] w fun e w' => (∃ fv' ev' cv', e = .returned (.tuple #[wayV fv' ev' cv' (nextW l k x), .bool true]) ∧ WayT w' fv' ev' cv' (nextW l k x)) ∧ Below w.heap.size w w' := by
 subst he
 unfold nextW
 have hfn : x.formats ≠ [] := h.ne
 have hla := fun W1 (hb1 : Below w.heap.size w W1) => last_any fv ev cv x W1 (h.below hb1)
 have hco := fun W1 (hb1 : Below w.heap.size w W1) => containsI_any fv x.formats l[k]!.does.to w h.formats.at hfn W1 hb1
 obtain ⟨pa, pn, pc, rfl⟩ := hp
 obtain ⟨W, hW⟩ : ∃ W, W = ((w.alloc (.cells #[pev, .slice pa pn pc, .int .i64 day] 80)).alloc (.cells #[fv, ev, .int .i64 x.rou.cost, .int .i64 x.rou.life, cv] 82)).alloc (.cells #[.slice none 0 0, .slice none 0 0, .int .i64 0, .int .i64 0, .slice none 0 0] 82) := ⟨_, rfl⟩
 have hA : Arr W w.heap.size 80 [pev, .slice pa pn pc, .int .i64 day] := by rw [hW]; exact ((Arr.new rfl rfl).alloc _).alloc _
 have hB : Arr W (w.heap.size + 1) 82 [fv, ev, .int .i64 x.rou.cost, .int .i64 x.rou.life, cv] := by rw [hW]; exact (Arr.new rfl (by simp)).alloc _
 have hC : Arr W (w.heap.size + 1 + 1) 82 [.slice none 0 0, .slice none 0 0, .int .i64 0, .int .i64 0, .slice none 0 0] := by rw [hW]; exact Arr.new rfl (by simp)
 have hbW : Below w.heap.size w W := by rw [hW]; exact (((Below.refl _ _).alloc (Nat.le_refl _) _).alloc (by simp) _).alloc (by simp; omega) _
 obtain ⟨fa, fc, rfl, _⟩ := h.formats.len
 obtain ⟨ea, ec, rfl, _⟩ := h.edges.len
 obtain ⟨_, _, ⟨ca, cc, rfl, _, _, _⟩, _⟩ := h.claims
 obtain ⟨_, _, ⟨la, lc, rfl, _, _, _⟩, _⟩ := id hE
 obtain ⟨fm, ⟨es, cost, lf, cl⟩⟩ := x
 dsimp only at *
 have a0 := hA.cell (j := 0) rfl
 have a1 := hA.cell (j := 1) rfl
 have a2 := hA.cell (j := 2) rfl
 have b0 := hB.cell (j := 0) rfl
 have b1 := hB.cell (j := 1) rfl
 have b2 := hB.cell (j := 2) rfl
 have b3 := hB.cell (j := 3) rfl
 have b4 := hB.cell (j := 4) rfl
 obtain ⟨b, o, cap, kv, hv, hb, x0, x1, x2, x3, x4, x5, x6, hK⟩ := EdgesAt.cells hE hk
 injection hv with hv _ hv3
 subst hv hv3
 have y0 := (hbW.cell (p := ⟨b, o + k * 7, none⟩) hb).trans x0
 have y1 := (hbW.cell (p := ⟨b, o + k * 7 + 1, none⟩) hb).trans x1
 have y2 := (hbW.cell (p := ⟨b, o + k * 7 + 2, none⟩) hb).trans x2
 have y3 := (hbW.cell (p := ⟨b, o + k * 7 + 3, none⟩) hb).trans x3
 have y4 := (hbW.cell (p := ⟨b, o + k * 7 + 4, none⟩) hb).trans x4
 have y5 := (hbW.cell (p := ⟨b, o + k * 7 + 5, none⟩) hb).trans x5
 have y6 := (hbW.cell (p := ⟨b, o + k * 7 + 6, none⟩) hb).trans x6
 clear hE
 have hb2 : b < w.heap.size + 1 := by omega
 have hb3 : b < w.heap.size + 1 + 1 := by omega
 obtain ⟨_, _, ⟨ka, kc, rfl, _, _, _⟩, _⟩ := id hK
 generalize hEd : l[k]! = E at *
 obtain ⟨ecost, euntil, ⟨eid, efrm, eto, eback, ekeep⟩⟩ := E
 dsimp only at *
 have k0 : (0 : Int) ≤ (k : Int) := by omega
 have k1 : (k : Int) < (l.length : Int) := by omega
 have hd1 : decide ((k : Int) < 0) = false := decide_eq_false (by omega)
 have hd2 : decide ((k : Int) ≥ (l.length : Int)) = false := decide_eq_false (by omega)
 have hd4 : decide (l.length ≤ k) = false := decide_eq_false (by omega)
 have hd5 : decide ((es.length : Int) = 6) = false := decide_eq_false (fun h => hne (by exact_mod_cast h))
 have hd6 : ((es.length : Int) == 6) = false := by simpa using hd5
 obtain ⟨W4, hW4⟩ : ∃ W4, W4 = W.alloc (.cells #[.int .i64 ecost, .int .i64 euntil, .int .i64 eid, .int .i64 efrm, .int .i64 eto, .bool eback, .slice ka ekeep.length kc] 30) := ⟨_, rfl⟩
 have hbW4 : Below W.heap.size W W4 := by rw [hW4]; exact (Below.refl _ _).alloc (Nat.le_refl _) _
 have hsW : W.heap.size = w.heap.size + 1 + 1 + 1 := by rw [hW]; simp
 have hD : Arr W4 (w.heap.size + 1 + 1 + 1) 30 [.int .i64 ecost, .int .i64 euntil, .int .i64 eid, .int .i64 efrm, .int .i64 eto, .bool eback, .slice ka ekeep.length kc] := by rw [hW4]; exact Arr.new rfl (by rw [hsW])
 generalize Way.last _ = lst at *
 have hbw4 := hbW.trans (hbW4.mono hbW.size)
 have hbd := Lib.hid hbw4.drew
 have hA4 := Lib.hid (hA.below hbW4)
 have hB4 := Lib.hid (hB.below hbW4)
 have hC4 := Lib.hid (hC.below hbW4)
 have da2 : W4.drew.cell? ⟨w.heap.size, 2, none⟩ = some (.int .i64 day) := hA4.out.cell rfl
 have db0 : W4.drew.cell? ⟨w.heap.size + 1, 0, none⟩ = some (.slice fa fm.length fc) := hB4.out.cell rfl
 have db1 : W4.drew.cell? ⟨w.heap.size + 1, 1, none⟩ = some (.slice ea es.length ec) := hB4.out.cell rfl
 have db2 : W4.drew.cell? ⟨w.heap.size + 1, 2, none⟩ = some (.int .i64 cost) := hB4.out.cell rfl
 have db3 : W4.drew.cell? ⟨w.heap.size + 1, 3, none⟩ = some (.int .i64 lf) := hB4.out.cell rfl
 have db4 : W4.drew.cell? ⟨w.heap.size + 1, 4, none⟩ = some (.slice ca cl.length cc) := hB4.out.cell rfl
 have dd1 : W4.drew.cell? ⟨w.heap.size + 1 + 1 + 1, 1, none⟩ = some (.int .i64 euntil) := hD.cell rfl
 have dd3 : W4.drew.cell? ⟨w.heap.size + 1 + 1 + 1, 3, none⟩ = some (.int .i64 efrm) := hD.cell rfl
 have dd4 : W4.drew.cell? ⟨w.heap.size + 1 + 1 + 1, 4, none⟩ = some (.int .i64 eto) := hD.cell rfl
 replace hla := Lib.hid hla
 replace hco := Lib.hid hco
 replace hD := Lib.hid hD
 replace hK := Lib.hid hK
 replace hEd := Lib.hid hEd
 replace h := Lib.hid h
 clear hA hB hC hbW4 hbw4
 go_enter Tryz.func42, Tryz.ntmps42
 go_wp2_with fail
 rw [← hW, ← hW4]
 clear hW hW4 a0 a1 a2 b0 b1 b2 b3 b4 y0 y1 y2 y3 y4 y5 y6 x0 x1 x2 x3 x4 x5 x6 hsW hd1 hd2 hd4 hd5 hd6 hb2 hb3
 refine wp_region_held_drew (S := fun w' => w'.cell? ⟨w.heap.size, 2, none⟩ = some (.int .i64 day) ∧ w'.cell? ⟨w.heap.size + 1, 0, none⟩ = some (.slice fa fm.length fc) ∧ w'.cell? ⟨w.heap.size + 1, 1, none⟩ = some (.slice ea es.length ec) ∧ w'.cell? ⟨w.heap.size + 1, 2, none⟩ = some (.int .i64 cost) ∧ w'.cell? ⟨w.heap.size + 1, 3, none⟩ = some (.int .i64 lf) ∧ w'.cell? ⟨w.heap.size + 1, 4, none⟩ = some (.slice ca cl.length cc) ∧ w'.cell? ⟨w.heap.size + 1 + 1 + 1, 1, none⟩ = some (.int .i64 euntil) ∧ w'.cell? ⟨w.heap.size + 1 + 1 + 1, 3, none⟩ = some (.int .i64 efrm) ∧ w'.cell? ⟨w.heap.size + 1 + 1 + 1, 4, none⟩ = some (.int .i64 eto)) (by kernel_rfl) (by exact ⟨da2, db0, db1, db2, db3, db4, dd1, dd3, dd4⟩) (fun hHeld => ?_)
 refine tk 0 ?_ rfl ?_ ?_
 rotate_left
 ·
  intro w hSw; (try dsimp only at hSw); go_simp; (try with_reducible rfl)
 (try simp only [Act.put, setIfInBounds_toArray, set_cons_zero, set_cons_succ])
 refine tk 1 ?_ rfl ?_ ?_
 rotate_left
 ·
  intro w hSw; (try dsimp only at hSw); go_simp; (try with_reducible rfl)
 (try simp only [Act.put, setIfInBounds_toArray, set_cons_zero, set_cons_succ])
 refine tk 2 ?_ rfl ?_ ?_
 rotate_left
 ·
  intro w hSw; (try dsimp only at hSw); go_simp; (try with_reducible rfl)
 (try simp only [Act.put, setIfInBounds_toArray, set_cons_zero, set_cons_succ])
 refine tk 3 ?_ rfl ?_ ?_
 rotate_left
 ·
  intro w hSw; (try dsimp only at hSw); go_simp; (try with_reducible rfl)
 (try simp only [Act.put, setIfInBounds_toArray, set_cons_zero, set_cons_succ])
 refine wpAnyH_ready (rs := [4]) (by kernel_rfl) (by simp) ?_
 refine ready_l rfl (fun K hK => ?_) AllReadyH.nil
 go_simp
 go_at_call 70
 refine (hla.out W4.drew hbd.out).mono ?_
 rintro e w5 ⟨rfl, hb5⟩
 have hA5 : Arr w5 w.heap.size 80 _ := hA4.out.drew.below hb5
 have hB5 : Arr w5 (w.heap.size + 1) 82 _ := hB4.out.drew.below hb5
 have hC5 : Arr w5 (w.heap.size + 1 + 1) 82 _ := hC4.out.drew.below hb5
 have hD5 : Arr w5 (w.heap.size + 1 + 1 + 1) 30 _ := hD.out.drew.below hb5
 have hbw5 := hbd.out.trans (hb5.mono hbd.out.size)
 refine hK.out _ _ (by exact ⟨hA5.cell rfl, hB5.cell rfl, hB5.cell rfl, hB5.cell rfl, hB5.cell rfl, hB5.cell rfl, hD5.cell rfl, hD5.cell rfl, hD5.cell rfl⟩) (fun hHeld2 => ?_)
 clear hK K hHeld da2 db0 db1 db2 db3 db4 dd1 dd3 dd4 hb5
 (try simp only [Act.put, setIfInBounds_toArray, set_cons_zero, set_cons_succ])
 replace hA5 := Lib.hid hA5
 replace hB5 := Lib.hid hB5
 replace hC5 := Lib.hid hC5
 replace hD5 := Lib.hid hD5
 replace hbw5 := Lib.hid hbw5
 have h1 : efrm = lst := Classical.byContradiction fun h => hno (.inl h)
 have h2 : ¬euntil < day := fun h => hno (.inr (.inl h))
 have h3 : decide (eto ∈ fm) = false := decide_eq_false fun h => hno (.inr (.inr h))
 have hn1 : (efrm != lst) = false := by simpa using h1
 have hn2 : decide (efrm = lst) = true := by simpa using h1
 have hn3 : decide (euntil < day) = false := by simpa using h2
 rw [h3] at hco
 clear hno h1 h2 h3
 refine tk 5 ?_ rfl ?_ ?_
 rotate_left
 ·
  intro w hSw; (try dsimp only at hSw); go_simp; (try with_reducible rfl)
 (try simp only [Act.put, setIfInBounds_toArray, set_cons_zero, set_cons_succ])
 refine tk 6 ?_ rfl ?_ ?_
 rotate_left
 ·
  intro w hSw; (try dsimp only at hSw); go_simp; (try with_reducible rfl)
 (try simp only [Act.put, setIfInBounds_toArray, set_cons_zero, set_cons_succ])
 refine tk 7 ?_ rfl ?_ ?_
 rotate_left
 ·
  intro w hSw; (try dsimp only at hSw); go_simp; (try with_reducible rfl)
 (try simp only [Act.put, setIfInBounds_toArray, set_cons_zero, set_cons_succ])
 refine tk 8 ?_ rfl ?_ ?_
 rotate_left
 ·
  intro w hSw; (try dsimp only at hSw); go_simp; (try with_reducible rfl)
 (try simp only [Act.put, setIfInBounds_toArray, set_cons_zero, set_cons_succ])
 refine tk 9 ?_ rfl ?_ ?_
 rotate_left
 ·
  intro w hSw; (try dsimp only at hSw); go_simp; (try with_reducible rfl)
 (try simp only [Act.put, setIfInBounds_toArray, set_cons_zero, set_cons_succ])
 refine tk 10 ?_ rfl ?_ ?_
 rotate_left
 ·
  intro w hSw; (try dsimp only at hSw); go_simp; (try with_reducible rfl)
 (try simp only [Act.put, setIfInBounds_toArray, set_cons_zero, set_cons_succ])
 refine tk 11 ?_ rfl ?_ ?_
 rotate_left
 ·
  intro w hSw; (try dsimp only at hSw); go_simp; (try with_reducible rfl)
 (try simp only [Act.put, setIfInBounds_toArray, set_cons_zero, set_cons_succ])
 refine tk 12 ?_ rfl ?_ ?_
 rotate_left
 ·
  intro w hSw; (try dsimp only at hSw); go_simp; (try with_reducible rfl)
 (try simp only [Act.put, setIfInBounds_toArray, set_cons_zero, set_cons_succ])
 refine tk 13 ?_ rfl ?_ ?_
 rotate_left
 ·
  intro w hSw; (try dsimp only at hSw); go_simp; (try with_reducible rfl)
 (try simp only [Act.put, setIfInBounds_toArray, set_cons_zero, set_cons_succ])
 refine tk 14 ?_ rfl ?_ ?_
 rotate_left
 ·
  intro w hSw; (try dsimp only at hSw); go_simp; (try with_reducible rfl)
 (try simp only [Act.put, setIfInBounds_toArray, set_cons_zero, set_cons_succ])
 refine tk 15 ?_ rfl ?_ ?_
 rotate_left
 ·
  intro w hSw; (try dsimp only at hSw); go_simp; (try with_reducible rfl)
 (try simp only [Act.put, setIfInBounds_toArray, set_cons_zero, set_cons_succ])
 refine tk 16 ?_ rfl ?_ ?_
 rotate_left
 ·
  intro w hSw; (try dsimp only at hSw); go_simp; (try with_reducible rfl)
 (try simp only [Act.put, setIfInBounds_toArray, set_cons_zero, set_cons_succ])
 refine tk 17 ?_ rfl ?_ ?_
 rotate_left
 ·
  intro w hSw; (try dsimp only at hSw); go_simp; (try with_reducible rfl)
 (try simp only [Act.put, setIfInBounds_toArray, set_cons_zero, set_cons_succ])
 refine tk 18 ?_ rfl ?_ ?_
 rotate_left
 ·
  intro w hSw; (try dsimp only at hSw); go_simp; (try with_reducible rfl)
 (try simp only [Act.put, setIfInBounds_toArray, set_cons_zero, set_cons_succ])
 refine wpAnyH_ready (rs := [19]) (by kernel_rfl) (by simp) ?_
 refine ready_l rfl (fun K hK => ?_) AllReadyH.nil
 go_simp
 go_at_call 71
 refine (hco.out w5 hbw5.out).mono ?_
 rintro e w6 ⟨rfl, rfl⟩
 refine hK.out _ _ (by exact ⟨hA5.out.cell rfl, hB5.out.cell rfl, hB5.out.cell rfl, hB5.out.cell rfl, hB5.out.cell rfl, hB5.out.cell rfl, hD5.out.cell rfl, hD5.out.cell rfl, hD5.out.cell rfl⟩) (fun hHeld => ?_)
 clear hK K hHeld2
 (try simp only [Act.put, setIfInBounds_toArray, set_cons_zero, set_cons_succ])
 refine tk 20 ?_ rfl ?_ ?_
 rotate_left
 ·
  intro w hSw; (try dsimp only at hSw); go_simp; (try with_reducible rfl)
 (try simp only [Act.put, setIfInBounds_toArray, set_cons_zero, set_cons_succ])
 refine wpAnyH_done (by kernel_rfl) ?_ _
 clear hn1 hn2 hn3 hco hla hHeld
 have d2 := hD5.out.cell (j := 2) rfl
 have d3 := hD5.out.cell (j := 3) rfl
 have d4 := hD5.out.cell (j := 4) rfl
 have d5 := hD5.out.cell (j := 5) rfl
 have d6 := hD5.out.cell (j := 6) rfl
 have hcl := Lib.hid (Claims_any ⟨eid, efrm, eto, eback, ekeep⟩ _ w6 hI (hK.out.later hbw5.out))
 have hval := (ok_parts hok).2.2
 have hcost : 0 ≤ ecost ∧ ecost ≤ 1000000 := (ok_parts hok).1
 rw [hval, if_pos rfl] at hcl
 clear hval hok
 go_wp2_with fail
 refine hcl.out.mono ?_
 rintro e w7 ⟨clv, rfl, hCm, hb7⟩
 have hA7 := Lib.hid (hA5.out.below hb7)
 have hB7 := Lib.hid (hB5.out.below hb7)
 have hC7 := Lib.hid (hC5.out.below hb7)
 have hD7 := Lib.hid (hD5.out.below hb7)
 have hbw7 := Lib.hid (hbw5.out.trans (hb7.mono hbw5.out.size))
 have hH7 : Hid (w.heap.size + 1 + 1 + 1 + 1 ≤ w7.heap.size) := by show _ ≤ _; have := hD7.out.lt; omega
 obtain ⟨_, _, ⟨cma, cmc, rfl, _, _, _⟩, _⟩ := id hCm
 replace hCm := Lib.hid hCm
 clear d2 d3 d4 d5 d6 hA5 hB5 hC5 hD5 hbw5 hb7 hcl hK hEd hI
 have hcI := Lib.hid fun W1 (hb1 : Below w7.heap.size w7 W1) => cloneI_any (.slice fa fm.length fc) fm W1 ((h.out.formats.below hbw7.out).at.later hb1) (by have := h.out.flen; dsimp only at this; omega)
 have hfl : fm.length ≤ 7 := h.out.flen
 have c0 := hB7.out.cell (j := 0) rfl
 have c1 := hD7.out.cell (j := 4) rfl
 have hl1 := Lib.hid hB7.out.lt
 have hl2 := Lib.hid hD7.out.lt
 go_upto_region 7 with fail
 go_cut [11] from 66 to 74 (fun p wx => ∃ (N : Nat) (f1 : Value), p = .pointer (some ⟨N, 0, none⟩) ∧ Hid (w7.heap.size ≤ N ∧ Arr wx N 82 [f1, .slice none 0 0, .int .i64 0, .int .i64 0, .slice none 0 0] ∧ NumsT wx f1 (fm ++ [eto]) ∧ Below w7.heap.size w7 wx))
 case first =>
  have hp0 := Ap.start w7.drew fm eto
  have hcD := Lib.hid fun W1 (hb1 : Below w7.drew.heap.size w7.drew W1) => hcI.out W1 ((Below.refl w7.heap.size w7).drew.trans hb1)
  refine wp_region_held_drew (S := fun w' => w'.cell? ⟨w.heap.size + 1, 0, none⟩ = some (.slice fa fm.length fc) ∧ w'.cell? ⟨w.heap.size + 1 + 1 + 1, 4, none⟩ = some (.int .i64 eto)) (by kernel_rfl) (by exact ⟨c0, c1⟩) (fun hHeld => ?_)
  refine tk 0 ?_ rfl ?_ ?_
  rotate_left
  ·
   intro w hSw; (try dsimp only at hSw); go_simp; (try with_reducible rfl)
  (try simp only [Act.put, setIfInBounds_toArray, set_cons_zero, set_cons_succ])
  refine tk 1 ?_ rfl ?_ ?_
  rotate_left
  ·
   intro w hSw; (try dsimp only at hSw); go_simp; (try with_reducible rfl)
  (try simp only [Act.put, setIfInBounds_toArray, set_cons_zero, set_cons_succ])
  refine tk 3 ?_ rfl ?_ ?_
  rotate_left
  ·
   intro w hSw; (try dsimp only at hSw); go_simp; (try with_reducible rfl)
  (try simp only [Act.put, setIfInBounds_toArray, set_cons_zero, set_cons_succ])
  refine tk 4 ?_ rfl ?_ ?_
  rotate_left
  ·
   intro w hSw; (try dsimp only at hSw); go_simp; (try with_reducible rfl)
  (try simp only [Act.put, setIfInBounds_toArray, set_cons_zero, set_cons_succ])
  refine tk 5 ?_ rfl ?_ ?_
  rotate_left
  ·
   intro w hSw; (try dsimp only at hSw); go_simp; (try with_reducible rfl)
  (try simp only [Act.put, setIfInBounds_toArray, set_cons_zero, set_cons_succ])
  have hdr : Below w7.heap.size w7 w7.drew := (Below.refl w7.heap.size w7).drew
  have c0d : w7.drew.cell? ⟨w.heap.size + 1, 0, none⟩ = some (.slice fa fm.length fc) := c0
  have c1d : w7.drew.cell? ⟨w.heap.size + 1 + 1 + 1, 4, none⟩ = some (.int .i64 eto) := c1
  have hl1d : Hid (w.heap.size + 1 < w7.drew.heap.size) := hl1
  have hl2d : Hid (w.heap.size + 1 + 1 + 1 < w7.drew.heap.size) := hl2
  generalize w7.drew = q0 at *
  replace hdr := Lib.hid hdr
  clear c0 c1
  refine wpAnyH_ready (rs := [2, 6, 9]) (by kernel_rfl) (by simp) ?_
  refine ready_l rfl (fun K hK => ?_) (ready_l rfl (fun K hK => ?_) (ready_l rfl (fun K hK => ?_) AllReadyH.nil))
  ·
   go_simp
   go_at_call 72
   refine (hcD.out q0 hp0.below).mono ?_
   rintro e q1 ⟨v1, rfl, ho1, hb1⟩
   have hp1 := hp0.call hb1 ho1
   clear ho1 hb1
   refine hK.out _ _ (by exact ⟨(hp1.below.cell (p := ⟨w.heap.size + 1, 0, none⟩) hl1d.out).trans c0d, (hp1.below.cell (p := ⟨w.heap.size + 1 + 1 + 1, 4, none⟩) hl2d.out).trans c1d⟩) (fun hHeld => ?_)
   clear hK K
   (try simp only [Act.put, setIfInBounds_toArray, set_cons_zero, set_cons_succ])
   refine wpAnyH_ready (rs := [6, 9]) (by kernel_rfl) (by simp) ?_
   refine ready_l rfl (fun K hK => ?_) (ready_l rfl (fun K hK => ?_) AllReadyH.nil)
   ·
    go_simp
    have hp2 := hp1.build
    generalize q1.alloc (.cells #[.int .i64 eto] 3) = q2 at *
    generalize q1.heap.size = s2 at hp2 ⊢
    refine hK.out _ _ (by exact ⟨(hp2.below.cell (p := ⟨w.heap.size + 1, 0, none⟩) hl1d.out).trans c0d, (hp2.below.cell (p := ⟨w.heap.size + 1 + 1 + 1, 4, none⟩) hl2d.out).trans c1d⟩) (fun hHeld => ?_)
    clear hK K
    (try simp only [Act.put, setIfInBounds_toArray, set_cons_zero, set_cons_succ])
    refine wpAnyH_ready (rs := [7, 9]) (by kernel_rfl) (by simp) ?_
    refine ready_l rfl (fun K hK => ?_) (ready_l rfl (fun K hK => ?_) AllReadyH.nil)
    ·
     obtain ⟨v3, q3, hr3, hp3⟩ := hp2.append (by omega)
     obtain ⟨va3, vc3, hvv3⟩ := hp3.shape
     subst hvv3
     refine step_append_known rfl _ _ _ _ rfl v1 (.slice (some ⟨s2, 0, none⟩) 1 1) (by kernel_rfl) (by kernel_rfl) hr3 ?_
     (try simp only [Act.put, setIfInBounds_toArray, set_cons_zero, set_cons_succ])
     clear hr3
     refine hK.out _ _ (by exact ⟨(hp3.below.cell (p := ⟨w.heap.size + 1, 0, none⟩) hl1d.out).trans c0d, (hp3.below.cell (p := ⟨w.heap.size + 1 + 1 + 1, 4, none⟩) hl2d.out).trans c1d⟩) (fun hHeld => ?_)
     clear hK K
     (try simp only [Act.put, setIfInBounds_toArray, set_cons_zero, set_cons_succ])
     refine tk 8 ?_ rfl ?_ ?_
     rotate_left
     ·
      intro w hSw; (try dsimp only at hSw); go_simp; (try with_reducible rfl)
     (try simp only [Act.put, setIfInBounds_toArray, set_cons_zero, set_cons_succ])
     refine wpAnyH_ready (rs := [9]) (by kernel_rfl) (by simp) ?_
     refine ready_l rfl (fun K hK => ?_) AllReadyH.nil
     go_simp
     have hp4 := hp3.way
     generalize q3.alloc (.cells #[.slice none 0 0, .slice none 0 0, .int .i64 0, .int .i64 0, .slice none 0 0] 82) = q4 at *
     generalize q3.heap.size = N4 at hp4 ⊢
     refine hK.out _ _ (by exact ⟨(hp4.below.cell (p := ⟨w.heap.size + 1, 0, none⟩) hl1d.out).trans c0d, (hp4.below.cell (p := ⟨w.heap.size + 1 + 1 + 1, 4, none⟩) hl2d.out).trans c1d⟩) (fun hHeld => ?_)
     clear hK K
     (try simp only [Act.put, setIfInBounds_toArray, set_cons_zero, set_cons_succ])
     have hAN := Lib.hid (hp4.arr N4 rfl).2
     refine wpAnyH_ready (rs := [10]) (by kernel_rfl) (by simp) ?_
     refine ready_l rfl (fun K hK => ?_) AllReadyH.nil
     refine step_store_arr rfl 82 _ _ rfl N4 0 (by kernel_rfl) (vs := [(.slice va3 (fm.length + 1) vc3), .slice none 0 0, .int .i64 0, .int .i64 0, .slice none 0 0]) (by kernel_rfl) hAN.out (n := 5) (by kernel_rfl) (by decide) rfl (ap_one hp4) ?_
     (try simp only [Act.put, setIfInBounds_toArray, set_cons_zero, set_cons_succ])
     obtain ⟨z1, z2, z3, z4⟩ := hp4.done
     refine hK.out _ _ (by exact ⟨(z4.cell (p := ⟨w.heap.size + 1, 0, none⟩) hl1d.out).trans c0d, (z4.cell (p := ⟨w.heap.size + 1 + 1 + 1, 4, none⟩) hl2d.out).trans c1d⟩) (fun hHeld => ?_)
     clear hK K
     (try simp only [Act.put, setIfInBounds_toArray, set_cons_zero, set_cons_succ])
     refine wpAnyH_done (by kernel_rfl) ?_ _
     go_wp2
     go_meet
     exact ⟨_, _, rfl, (show Hid _ from ⟨Nat.le_trans hdr.out.size z1, z2, z3, hdr.out.trans (z4.mono hdr.out.size)⟩)⟩
    ·
     go_simp
     have hp3 := hp2.way
     generalize q2.alloc (.cells #[.slice none 0 0, .slice none 0 0, .int .i64 0, .int .i64 0, .slice none 0 0] 82) = q3 at *
     generalize q2.heap.size = N3 at hp3 ⊢
     refine hK.out _ _ (by exact ⟨(hp3.below.cell (p := ⟨w.heap.size + 1, 0, none⟩) hl1d.out).trans c0d, (hp3.below.cell (p := ⟨w.heap.size + 1 + 1 + 1, 4, none⟩) hl2d.out).trans c1d⟩) (fun hHeld => ?_)
     clear hK K
     (try simp only [Act.put, setIfInBounds_toArray, set_cons_zero, set_cons_succ])
     refine wpAnyH_ready (rs := [7]) (by kernel_rfl) (by simp) ?_
     refine ready_l rfl (fun K hK => ?_) AllReadyH.nil
     obtain ⟨v4, q4, hr4, hp4⟩ := hp3.append (by omega)
     obtain ⟨va4, vc4, hvv4⟩ := hp4.shape
     subst hvv4
     refine step_append_known rfl _ _ _ _ rfl v1 (.slice (some ⟨s2, 0, none⟩) 1 1) (by kernel_rfl) (by kernel_rfl) hr4 ?_
     (try simp only [Act.put, setIfInBounds_toArray, set_cons_zero, set_cons_succ])
     clear hr4
     refine hK.out _ _ (by exact ⟨(hp4.below.cell (p := ⟨w.heap.size + 1, 0, none⟩) hl1d.out).trans c0d, (hp4.below.cell (p := ⟨w.heap.size + 1 + 1 + 1, 4, none⟩) hl2d.out).trans c1d⟩) (fun hHeld => ?_)
     clear hK K
     (try simp only [Act.put, setIfInBounds_toArray, set_cons_zero, set_cons_succ])
     refine tk 8 ?_ rfl ?_ ?_
     rotate_left
     ·
      intro w hSw; (try dsimp only at hSw); go_simp; (try with_reducible rfl)
     (try simp only [Act.put, setIfInBounds_toArray, set_cons_zero, set_cons_succ])
     have hAN := Lib.hid (hp4.arr N3 rfl).2
     refine wpAnyH_ready (rs := [10]) (by kernel_rfl) (by simp) ?_
     refine ready_l rfl (fun K hK => ?_) AllReadyH.nil
     refine step_store_arr rfl 82 _ _ rfl N3 0 (by kernel_rfl) (vs := [(.slice va4 (fm.length + 1) vc4), .slice none 0 0, .int .i64 0, .int .i64 0, .slice none 0 0]) (by kernel_rfl) hAN.out (n := 5) (by kernel_rfl) (by decide) rfl (ap_one hp4) ?_
     (try simp only [Act.put, setIfInBounds_toArray, set_cons_zero, set_cons_succ])
     obtain ⟨z1, z2, z3, z4⟩ := hp4.done
     refine hK.out _ _ (by exact ⟨(z4.cell (p := ⟨w.heap.size + 1, 0, none⟩) hl1d.out).trans c0d, (z4.cell (p := ⟨w.heap.size + 1 + 1 + 1, 4, none⟩) hl2d.out).trans c1d⟩) (fun hHeld => ?_)
     clear hK K
     (try simp only [Act.put, setIfInBounds_toArray, set_cons_zero, set_cons_succ])
     refine wpAnyH_done (by kernel_rfl) ?_ _
     go_wp2
     go_meet
     exact ⟨_, _, rfl, (show Hid _ from ⟨Nat.le_trans hdr.out.size z1, z2, z3, hdr.out.trans (z4.mono hdr.out.size)⟩)⟩
   ·
    go_simp
    have hp2 := hp1.way
    generalize q1.alloc (.cells #[.slice none 0 0, .slice none 0 0, .int .i64 0, .int .i64 0, .slice none 0 0] 82) = q2 at *
    generalize q1.heap.size = N2 at hp2 ⊢
    refine hK.out _ _ (by exact ⟨(hp2.below.cell (p := ⟨w.heap.size + 1, 0, none⟩) hl1d.out).trans c0d, (hp2.below.cell (p := ⟨w.heap.size + 1 + 1 + 1, 4, none⟩) hl2d.out).trans c1d⟩) (fun hHeld => ?_)
    clear hK K
    (try simp only [Act.put, setIfInBounds_toArray, set_cons_zero, set_cons_succ])
    refine wpAnyH_ready (rs := [6]) (by kernel_rfl) (by simp) ?_
    refine ready_l rfl (fun K hK => ?_) AllReadyH.nil
    go_simp
    have hp3 := hp2.build
    generalize q2.alloc (.cells #[.int .i64 eto] 3) = q3 at *
    generalize q2.heap.size = s3 at hp3 ⊢
    refine hK.out _ _ (by exact ⟨(hp3.below.cell (p := ⟨w.heap.size + 1, 0, none⟩) hl1d.out).trans c0d, (hp3.below.cell (p := ⟨w.heap.size + 1 + 1 + 1, 4, none⟩) hl2d.out).trans c1d⟩) (fun hHeld => ?_)
    clear hK K
    (try simp only [Act.put, setIfInBounds_toArray, set_cons_zero, set_cons_succ])
    refine wpAnyH_ready (rs := [7]) (by kernel_rfl) (by simp) ?_
    refine ready_l rfl (fun K hK => ?_) AllReadyH.nil
    obtain ⟨v4, q4, hr4, hp4⟩ := hp3.append (by omega)
    obtain ⟨va4, vc4, hvv4⟩ := hp4.shape
    subst hvv4
    refine step_append_known rfl _ _ _ _ rfl v1 (.slice (some ⟨s3, 0, none⟩) 1 1) (by kernel_rfl) (by kernel_rfl) hr4 ?_
    (try simp only [Act.put, setIfInBounds_toArray, set_cons_zero, set_cons_succ])
    clear hr4
    refine hK.out _ _ (by exact ⟨(hp4.below.cell (p := ⟨w.heap.size + 1, 0, none⟩) hl1d.out).trans c0d, (hp4.below.cell (p := ⟨w.heap.size + 1 + 1 + 1, 4, none⟩) hl2d.out).trans c1d⟩) (fun hHeld => ?_)
    clear hK K
    (try simp only [Act.put, setIfInBounds_toArray, set_cons_zero, set_cons_succ])
    refine tk 8 ?_ rfl ?_ ?_
    rotate_left
    ·
     intro w hSw; (try dsimp only at hSw); go_simp; (try with_reducible rfl)
    (try simp only [Act.put, setIfInBounds_toArray, set_cons_zero, set_cons_succ])
    have hAN := Lib.hid (hp4.arr N2 rfl).2
    refine wpAnyH_ready (rs := [10]) (by kernel_rfl) (by simp) ?_
    refine ready_l rfl (fun K hK => ?_) AllReadyH.nil
    refine step_store_arr rfl 82 _ _ rfl N2 0 (by kernel_rfl) (vs := [(.slice va4 (fm.length + 1) vc4), .slice none 0 0, .int .i64 0, .int .i64 0, .slice none 0 0]) (by kernel_rfl) hAN.out (n := 5) (by kernel_rfl) (by decide) rfl (ap_one hp4) ?_
    (try simp only [Act.put, setIfInBounds_toArray, set_cons_zero, set_cons_succ])
    obtain ⟨z1, z2, z3, z4⟩ := hp4.done
    refine hK.out _ _ (by exact ⟨(z4.cell (p := ⟨w.heap.size + 1, 0, none⟩) hl1d.out).trans c0d, (z4.cell (p := ⟨w.heap.size + 1 + 1 + 1, 4, none⟩) hl2d.out).trans c1d⟩) (fun hHeld => ?_)
    clear hK K
    (try simp only [Act.put, setIfInBounds_toArray, set_cons_zero, set_cons_succ])
    refine wpAnyH_done (by kernel_rfl) ?_ _
    go_wp2
    go_meet
    exact ⟨_, _, rfl, (show Hid _ from ⟨Nat.le_trans hdr.out.size z1, z2, z3, hdr.out.trans (z4.mono hdr.out.size)⟩)⟩
  ·
   go_simp
   have hp1 := hp0.build
   generalize q0.alloc (.cells #[.int .i64 eto] 3) = q1 at *
   generalize q0.heap.size = s1 at hp1 ⊢
   refine hK.out _ _ (by exact ⟨(hp1.below.cell (p := ⟨w.heap.size + 1, 0, none⟩) hl1d.out).trans c0d, (hp1.below.cell (p := ⟨w.heap.size + 1 + 1 + 1, 4, none⟩) hl2d.out).trans c1d⟩) (fun hHeld => ?_)
   clear hK K
   (try simp only [Act.put, setIfInBounds_toArray, set_cons_zero, set_cons_succ])
   refine wpAnyH_ready (rs := [2, 9]) (by kernel_rfl) (by simp) ?_
   refine ready_l rfl (fun K hK => ?_) (ready_l rfl (fun K hK => ?_) AllReadyH.nil)
   ·
    go_simp
    go_at_call 72
    refine (hcD.out q1 hp1.below).mono ?_
    rintro e q2 ⟨v2, rfl, ho2, hb2⟩
    have hp2 := hp1.call hb2 ho2
    clear ho2 hb2
    refine hK.out _ _ (by exact ⟨(hp2.below.cell (p := ⟨w.heap.size + 1, 0, none⟩) hl1d.out).trans c0d, (hp2.below.cell (p := ⟨w.heap.size + 1 + 1 + 1, 4, none⟩) hl2d.out).trans c1d⟩) (fun hHeld => ?_)
    clear hK K
    (try simp only [Act.put, setIfInBounds_toArray, set_cons_zero, set_cons_succ])
    refine wpAnyH_ready (rs := [7, 9]) (by kernel_rfl) (by simp) ?_
    refine ready_l rfl (fun K hK => ?_) (ready_l rfl (fun K hK => ?_) AllReadyH.nil)
    ·
     obtain ⟨v3, q3, hr3, hp3⟩ := hp2.append (by omega)
     obtain ⟨va3, vc3, hvv3⟩ := hp3.shape
     subst hvv3
     refine step_append_known rfl _ _ _ _ rfl v2 (.slice (some ⟨s1, 0, none⟩) 1 1) (by kernel_rfl) (by kernel_rfl) hr3 ?_
     (try simp only [Act.put, setIfInBounds_toArray, set_cons_zero, set_cons_succ])
     clear hr3
     refine hK.out _ _ (by exact ⟨(hp3.below.cell (p := ⟨w.heap.size + 1, 0, none⟩) hl1d.out).trans c0d, (hp3.below.cell (p := ⟨w.heap.size + 1 + 1 + 1, 4, none⟩) hl2d.out).trans c1d⟩) (fun hHeld => ?_)
     clear hK K
     (try simp only [Act.put, setIfInBounds_toArray, set_cons_zero, set_cons_succ])
     refine tk 8 ?_ rfl ?_ ?_
     rotate_left
     ·
      intro w hSw; (try dsimp only at hSw); go_simp; (try with_reducible rfl)
     (try simp only [Act.put, setIfInBounds_toArray, set_cons_zero, set_cons_succ])
     refine wpAnyH_ready (rs := [9]) (by kernel_rfl) (by simp) ?_
     refine ready_l rfl (fun K hK => ?_) AllReadyH.nil
     go_simp
     have hp4 := hp3.way
     generalize q3.alloc (.cells #[.slice none 0 0, .slice none 0 0, .int .i64 0, .int .i64 0, .slice none 0 0] 82) = q4 at *
     generalize q3.heap.size = N4 at hp4 ⊢
     refine hK.out _ _ (by exact ⟨(hp4.below.cell (p := ⟨w.heap.size + 1, 0, none⟩) hl1d.out).trans c0d, (hp4.below.cell (p := ⟨w.heap.size + 1 + 1 + 1, 4, none⟩) hl2d.out).trans c1d⟩) (fun hHeld => ?_)
     clear hK K
     (try simp only [Act.put, setIfInBounds_toArray, set_cons_zero, set_cons_succ])
     have hAN := Lib.hid (hp4.arr N4 rfl).2
     refine wpAnyH_ready (rs := [10]) (by kernel_rfl) (by simp) ?_
     refine ready_l rfl (fun K hK => ?_) AllReadyH.nil
     refine step_store_arr rfl 82 _ _ rfl N4 0 (by kernel_rfl) (vs := [(.slice va3 (fm.length + 1) vc3), .slice none 0 0, .int .i64 0, .int .i64 0, .slice none 0 0]) (by kernel_rfl) hAN.out (n := 5) (by kernel_rfl) (by decide) rfl (ap_one hp4) ?_
     (try simp only [Act.put, setIfInBounds_toArray, set_cons_zero, set_cons_succ])
     obtain ⟨z1, z2, z3, z4⟩ := hp4.done
     refine hK.out _ _ (by exact ⟨(z4.cell (p := ⟨w.heap.size + 1, 0, none⟩) hl1d.out).trans c0d, (z4.cell (p := ⟨w.heap.size + 1 + 1 + 1, 4, none⟩) hl2d.out).trans c1d⟩) (fun hHeld => ?_)
     clear hK K
     (try simp only [Act.put, setIfInBounds_toArray, set_cons_zero, set_cons_succ])
     refine wpAnyH_done (by kernel_rfl) ?_ _
     go_wp2
     go_meet
     exact ⟨_, _, rfl, (show Hid _ from ⟨Nat.le_trans hdr.out.size z1, z2, z3, hdr.out.trans (z4.mono hdr.out.size)⟩)⟩
    ·
     go_simp
     have hp3 := hp2.way
     generalize q2.alloc (.cells #[.slice none 0 0, .slice none 0 0, .int .i64 0, .int .i64 0, .slice none 0 0] 82) = q3 at *
     generalize q2.heap.size = N3 at hp3 ⊢
     refine hK.out _ _ (by exact ⟨(hp3.below.cell (p := ⟨w.heap.size + 1, 0, none⟩) hl1d.out).trans c0d, (hp3.below.cell (p := ⟨w.heap.size + 1 + 1 + 1, 4, none⟩) hl2d.out).trans c1d⟩) (fun hHeld => ?_)
     clear hK K
     (try simp only [Act.put, setIfInBounds_toArray, set_cons_zero, set_cons_succ])
     refine wpAnyH_ready (rs := [7]) (by kernel_rfl) (by simp) ?_
     refine ready_l rfl (fun K hK => ?_) AllReadyH.nil
     obtain ⟨v4, q4, hr4, hp4⟩ := hp3.append (by omega)
     obtain ⟨va4, vc4, hvv4⟩ := hp4.shape
     subst hvv4
     refine step_append_known rfl _ _ _ _ rfl v2 (.slice (some ⟨s1, 0, none⟩) 1 1) (by kernel_rfl) (by kernel_rfl) hr4 ?_
     (try simp only [Act.put, setIfInBounds_toArray, set_cons_zero, set_cons_succ])
     clear hr4
     refine hK.out _ _ (by exact ⟨(hp4.below.cell (p := ⟨w.heap.size + 1, 0, none⟩) hl1d.out).trans c0d, (hp4.below.cell (p := ⟨w.heap.size + 1 + 1 + 1, 4, none⟩) hl2d.out).trans c1d⟩) (fun hHeld => ?_)
     clear hK K
     (try simp only [Act.put, setIfInBounds_toArray, set_cons_zero, set_cons_succ])
     refine tk 8 ?_ rfl ?_ ?_
     rotate_left
     ·
      intro w hSw; (try dsimp only at hSw); go_simp; (try with_reducible rfl)
     (try simp only [Act.put, setIfInBounds_toArray, set_cons_zero, set_cons_succ])
     have hAN := Lib.hid (hp4.arr N3 rfl).2
     refine wpAnyH_ready (rs := [10]) (by kernel_rfl) (by simp) ?_
     refine ready_l rfl (fun K hK => ?_) AllReadyH.nil
     refine step_store_arr rfl 82 _ _ rfl N3 0 (by kernel_rfl) (vs := [(.slice va4 (fm.length + 1) vc4), .slice none 0 0, .int .i64 0, .int .i64 0, .slice none 0 0]) (by kernel_rfl) hAN.out (n := 5) (by kernel_rfl) (by decide) rfl (ap_one hp4) ?_
     (try simp only [Act.put, setIfInBounds_toArray, set_cons_zero, set_cons_succ])
     obtain ⟨z1, z2, z3, z4⟩ := hp4.done
     refine hK.out _ _ (by exact ⟨(z4.cell (p := ⟨w.heap.size + 1, 0, none⟩) hl1d.out).trans c0d, (z4.cell (p := ⟨w.heap.size + 1 + 1 + 1, 4, none⟩) hl2d.out).trans c1d⟩) (fun hHeld => ?_)
     clear hK K
     (try simp only [Act.put, setIfInBounds_toArray, set_cons_zero, set_cons_succ])
     refine wpAnyH_done (by kernel_rfl) ?_ _
     go_wp2
     go_meet
     exact ⟨_, _, rfl, (show Hid _ from ⟨Nat.le_trans hdr.out.size z1, z2, z3, hdr.out.trans (z4.mono hdr.out.size)⟩)⟩
   ·
    go_simp
    have hp2 := hp1.way
    generalize q1.alloc (.cells #[.slice none 0 0, .slice none 0 0, .int .i64 0, .int .i64 0, .slice none 0 0] 82) = q2 at *
    generalize q1.heap.size = N2 at hp2 ⊢
    refine hK.out _ _ (by exact ⟨(hp2.below.cell (p := ⟨w.heap.size + 1, 0, none⟩) hl1d.out).trans c0d, (hp2.below.cell (p := ⟨w.heap.size + 1 + 1 + 1, 4, none⟩) hl2d.out).trans c1d⟩) (fun hHeld => ?_)
    clear hK K
    (try simp only [Act.put, setIfInBounds_toArray, set_cons_zero, set_cons_succ])
    refine wpAnyH_ready (rs := [2]) (by kernel_rfl) (by simp) ?_
    refine ready_l rfl (fun K hK => ?_) AllReadyH.nil
    go_simp
    go_at_call 72
    refine (hcD.out q2 hp2.below).mono ?_
    rintro e q3 ⟨v3, rfl, ho3, hb3⟩
    have hp3 := hp2.call hb3 ho3
    clear ho3 hb3
    refine hK.out _ _ (by exact ⟨(hp3.below.cell (p := ⟨w.heap.size + 1, 0, none⟩) hl1d.out).trans c0d, (hp3.below.cell (p := ⟨w.heap.size + 1 + 1 + 1, 4, none⟩) hl2d.out).trans c1d⟩) (fun hHeld => ?_)
    clear hK K
    (try simp only [Act.put, setIfInBounds_toArray, set_cons_zero, set_cons_succ])
    refine wpAnyH_ready (rs := [7]) (by kernel_rfl) (by simp) ?_
    refine ready_l rfl (fun K hK => ?_) AllReadyH.nil
    obtain ⟨v4, q4, hr4, hp4⟩ := hp3.append (by omega)
    obtain ⟨va4, vc4, hvv4⟩ := hp4.shape
    subst hvv4
    refine step_append_known rfl _ _ _ _ rfl v3 (.slice (some ⟨s1, 0, none⟩) 1 1) (by kernel_rfl) (by kernel_rfl) hr4 ?_
    (try simp only [Act.put, setIfInBounds_toArray, set_cons_zero, set_cons_succ])
    clear hr4
    refine hK.out _ _ (by exact ⟨(hp4.below.cell (p := ⟨w.heap.size + 1, 0, none⟩) hl1d.out).trans c0d, (hp4.below.cell (p := ⟨w.heap.size + 1 + 1 + 1, 4, none⟩) hl2d.out).trans c1d⟩) (fun hHeld => ?_)
    clear hK K
    (try simp only [Act.put, setIfInBounds_toArray, set_cons_zero, set_cons_succ])
    refine tk 8 ?_ rfl ?_ ?_
    rotate_left
    ·
     intro w hSw; (try dsimp only at hSw); go_simp; (try with_reducible rfl)
    (try simp only [Act.put, setIfInBounds_toArray, set_cons_zero, set_cons_succ])
    have hAN := Lib.hid (hp4.arr N2 rfl).2
    refine wpAnyH_ready (rs := [10]) (by kernel_rfl) (by simp) ?_
    refine ready_l rfl (fun K hK => ?_) AllReadyH.nil
    refine step_store_arr rfl 82 _ _ rfl N2 0 (by kernel_rfl) (vs := [(.slice va4 (fm.length + 1) vc4), .slice none 0 0, .int .i64 0, .int .i64 0, .slice none 0 0]) (by kernel_rfl) hAN.out (n := 5) (by kernel_rfl) (by decide) rfl (ap_one hp4) ?_
    (try simp only [Act.put, setIfInBounds_toArray, set_cons_zero, set_cons_succ])
    obtain ⟨z1, z2, z3, z4⟩ := hp4.done
    refine hK.out _ _ (by exact ⟨(z4.cell (p := ⟨w.heap.size + 1, 0, none⟩) hl1d.out).trans c0d, (z4.cell (p := ⟨w.heap.size + 1 + 1 + 1, 4, none⟩) hl2d.out).trans c1d⟩) (fun hHeld => ?_)
    clear hK K
    (try simp only [Act.put, setIfInBounds_toArray, set_cons_zero, set_cons_succ])
    refine wpAnyH_done (by kernel_rfl) ?_ _
    go_wp2
    go_meet
    exact ⟨_, _, rfl, (show Hid _ from ⟨Nat.le_trans hdr.out.size z1, z2, z3, hdr.out.trans (z4.mono hdr.out.size)⟩)⟩
  ·
   go_simp
   have hp1 := hp0.way
   generalize q0.alloc (.cells #[.slice none 0 0, .slice none 0 0, .int .i64 0, .int .i64 0, .slice none 0 0] 82) = q1 at *
   generalize q0.heap.size = N1 at hp1 ⊢
   refine hK.out _ _ (by exact ⟨(hp1.below.cell (p := ⟨w.heap.size + 1, 0, none⟩) hl1d.out).trans c0d, (hp1.below.cell (p := ⟨w.heap.size + 1 + 1 + 1, 4, none⟩) hl2d.out).trans c1d⟩) (fun hHeld => ?_)
   clear hK K
   (try simp only [Act.put, setIfInBounds_toArray, set_cons_zero, set_cons_succ])
   refine wpAnyH_ready (rs := [2, 6]) (by kernel_rfl) (by simp) ?_
   refine ready_l rfl (fun K hK => ?_) (ready_l rfl (fun K hK => ?_) AllReadyH.nil)
   ·
    go_simp
    go_at_call 72
    refine (hcD.out q1 hp1.below).mono ?_
    rintro e q2 ⟨v2, rfl, ho2, hb2⟩
    have hp2 := hp1.call hb2 ho2
    clear ho2 hb2
    refine hK.out _ _ (by exact ⟨(hp2.below.cell (p := ⟨w.heap.size + 1, 0, none⟩) hl1d.out).trans c0d, (hp2.below.cell (p := ⟨w.heap.size + 1 + 1 + 1, 4, none⟩) hl2d.out).trans c1d⟩) (fun hHeld => ?_)
    clear hK K
    (try simp only [Act.put, setIfInBounds_toArray, set_cons_zero, set_cons_succ])
    refine wpAnyH_ready (rs := [6]) (by kernel_rfl) (by simp) ?_
    refine ready_l rfl (fun K hK => ?_) AllReadyH.nil
    go_simp
    have hp3 := hp2.build
    generalize q2.alloc (.cells #[.int .i64 eto] 3) = q3 at *
    generalize q2.heap.size = s3 at hp3 ⊢
    refine hK.out _ _ (by exact ⟨(hp3.below.cell (p := ⟨w.heap.size + 1, 0, none⟩) hl1d.out).trans c0d, (hp3.below.cell (p := ⟨w.heap.size + 1 + 1 + 1, 4, none⟩) hl2d.out).trans c1d⟩) (fun hHeld => ?_)
    clear hK K
    (try simp only [Act.put, setIfInBounds_toArray, set_cons_zero, set_cons_succ])
    refine wpAnyH_ready (rs := [7]) (by kernel_rfl) (by simp) ?_
    refine ready_l rfl (fun K hK => ?_) AllReadyH.nil
    obtain ⟨v4, q4, hr4, hp4⟩ := hp3.append (by omega)
    obtain ⟨va4, vc4, hvv4⟩ := hp4.shape
    subst hvv4
    refine step_append_known rfl _ _ _ _ rfl v2 (.slice (some ⟨s3, 0, none⟩) 1 1) (by kernel_rfl) (by kernel_rfl) hr4 ?_
    (try simp only [Act.put, setIfInBounds_toArray, set_cons_zero, set_cons_succ])
    clear hr4
    refine hK.out _ _ (by exact ⟨(hp4.below.cell (p := ⟨w.heap.size + 1, 0, none⟩) hl1d.out).trans c0d, (hp4.below.cell (p := ⟨w.heap.size + 1 + 1 + 1, 4, none⟩) hl2d.out).trans c1d⟩) (fun hHeld => ?_)
    clear hK K
    (try simp only [Act.put, setIfInBounds_toArray, set_cons_zero, set_cons_succ])
    refine tk 8 ?_ rfl ?_ ?_
    rotate_left
    ·
     intro w hSw; (try dsimp only at hSw); go_simp; (try with_reducible rfl)
    (try simp only [Act.put, setIfInBounds_toArray, set_cons_zero, set_cons_succ])
    have hAN := Lib.hid (hp4.arr N1 rfl).2
    refine wpAnyH_ready (rs := [10]) (by kernel_rfl) (by simp) ?_
    refine ready_l rfl (fun K hK => ?_) AllReadyH.nil
    refine step_store_arr rfl 82 _ _ rfl N1 0 (by kernel_rfl) (vs := [(.slice va4 (fm.length + 1) vc4), .slice none 0 0, .int .i64 0, .int .i64 0, .slice none 0 0]) (by kernel_rfl) hAN.out (n := 5) (by kernel_rfl) (by decide) rfl (ap_one hp4) ?_
    (try simp only [Act.put, setIfInBounds_toArray, set_cons_zero, set_cons_succ])
    obtain ⟨z1, z2, z3, z4⟩ := hp4.done
    refine hK.out _ _ (by exact ⟨(z4.cell (p := ⟨w.heap.size + 1, 0, none⟩) hl1d.out).trans c0d, (z4.cell (p := ⟨w.heap.size + 1 + 1 + 1, 4, none⟩) hl2d.out).trans c1d⟩) (fun hHeld => ?_)
    clear hK K
    (try simp only [Act.put, setIfInBounds_toArray, set_cons_zero, set_cons_succ])
    refine wpAnyH_done (by kernel_rfl) ?_ _
    go_wp2
    go_meet
    exact ⟨_, _, rfl, (show Hid _ from ⟨Nat.le_trans hdr.out.size z1, z2, z3, hdr.out.trans (z4.mono hdr.out.size)⟩)⟩
   ·
    go_simp
    have hp2 := hp1.build
    generalize q1.alloc (.cells #[.int .i64 eto] 3) = q2 at *
    generalize q1.heap.size = s2 at hp2 ⊢
    refine hK.out _ _ (by exact ⟨(hp2.below.cell (p := ⟨w.heap.size + 1, 0, none⟩) hl1d.out).trans c0d, (hp2.below.cell (p := ⟨w.heap.size + 1 + 1 + 1, 4, none⟩) hl2d.out).trans c1d⟩) (fun hHeld => ?_)
    clear hK K
    (try simp only [Act.put, setIfInBounds_toArray, set_cons_zero, set_cons_succ])
    refine wpAnyH_ready (rs := [2]) (by kernel_rfl) (by simp) ?_
    refine ready_l rfl (fun K hK => ?_) AllReadyH.nil
    go_simp
    go_at_call 72
    refine (hcD.out q2 hp2.below).mono ?_
    rintro e q3 ⟨v3, rfl, ho3, hb3⟩
    have hp3 := hp2.call hb3 ho3
    clear ho3 hb3
    refine hK.out _ _ (by exact ⟨(hp3.below.cell (p := ⟨w.heap.size + 1, 0, none⟩) hl1d.out).trans c0d, (hp3.below.cell (p := ⟨w.heap.size + 1 + 1 + 1, 4, none⟩) hl2d.out).trans c1d⟩) (fun hHeld => ?_)
    clear hK K
    (try simp only [Act.put, setIfInBounds_toArray, set_cons_zero, set_cons_succ])
    refine wpAnyH_ready (rs := [7]) (by kernel_rfl) (by simp) ?_
    refine ready_l rfl (fun K hK => ?_) AllReadyH.nil
    obtain ⟨v4, q4, hr4, hp4⟩ := hp3.append (by omega)
    obtain ⟨va4, vc4, hvv4⟩ := hp4.shape
    subst hvv4
    refine step_append_known rfl _ _ _ _ rfl v3 (.slice (some ⟨s2, 0, none⟩) 1 1) (by kernel_rfl) (by kernel_rfl) hr4 ?_
    (try simp only [Act.put, setIfInBounds_toArray, set_cons_zero, set_cons_succ])
    clear hr4
    refine hK.out _ _ (by exact ⟨(hp4.below.cell (p := ⟨w.heap.size + 1, 0, none⟩) hl1d.out).trans c0d, (hp4.below.cell (p := ⟨w.heap.size + 1 + 1 + 1, 4, none⟩) hl2d.out).trans c1d⟩) (fun hHeld => ?_)
    clear hK K
    (try simp only [Act.put, setIfInBounds_toArray, set_cons_zero, set_cons_succ])
    refine tk 8 ?_ rfl ?_ ?_
    rotate_left
    ·
     intro w hSw; (try dsimp only at hSw); go_simp; (try with_reducible rfl)
    (try simp only [Act.put, setIfInBounds_toArray, set_cons_zero, set_cons_succ])
    have hAN := Lib.hid (hp4.arr N1 rfl).2
    refine wpAnyH_ready (rs := [10]) (by kernel_rfl) (by simp) ?_
    refine ready_l rfl (fun K hK => ?_) AllReadyH.nil
    refine step_store_arr rfl 82 _ _ rfl N1 0 (by kernel_rfl) (vs := [(.slice va4 (fm.length + 1) vc4), .slice none 0 0, .int .i64 0, .int .i64 0, .slice none 0 0]) (by kernel_rfl) hAN.out (n := 5) (by kernel_rfl) (by decide) rfl (ap_one hp4) ?_
    (try simp only [Act.put, setIfInBounds_toArray, set_cons_zero, set_cons_succ])
    obtain ⟨z1, z2, z3, z4⟩ := hp4.done
    refine hK.out _ _ (by exact ⟨(z4.cell (p := ⟨w.heap.size + 1, 0, none⟩) hl1d.out).trans c0d, (z4.cell (p := ⟨w.heap.size + 1 + 1 + 1, 4, none⟩) hl2d.out).trans c1d⟩) (fun hHeld => ?_)
    clear hK K
    (try simp only [Act.put, setIfInBounds_toArray, set_cons_zero, set_cons_succ])
    refine wpAnyH_done (by kernel_rfl) ?_ _
    go_wp2
    go_meet
    exact ⟨_, _, rfl, (show Hid _ from ⟨Nat.le_trans hdr.out.size z1, z2, z3, hdr.out.trans (z4.mono hdr.out.size)⟩)⟩
 case rest =>
  obtain ⟨N, f1, rfl, hN⟩ := hcut
  obtain ⟨hNs, hNA, hf1, hb8⟩ := hN.out
  clear hN c0 c1 hl1 hl2 hcI
  obtain ⟨f1a, f1c, hfv, _⟩ := hf1.len
  rw [List.length_append, List.length_singleton] at hfv
  subst hfv
  obtain ⟨w8, hw8⟩ : ∃ w8, w8 = wc := ⟨_, rfl⟩
  rw [← hw8] at hNA hf1 hb8 ⊢
  clear hw8
  have hB8 := Lib.hid (hB7.out.below hb8)
  have hD8 := Lib.hid (hD7.out.below hb8)
  have c0 := hB8.out.cell (j := 1) rfl
  have c1 := hB8.out.cell (j := 2) rfl
  have c2 := hD8.out.cell (j := 0) rfl
  have hl1 := Lib.hid hB8.out.lt
  have hl2 := Lib.hid hD8.out.lt
  have hes : es.length ≤ 6 := h.out.elen
  have hct : 0 ≤ cost ∧ cost ≤ 1000000 * (es.length : Int) := h.out.cost
  have hwc : IntKind.i64.wrap (cost + ecost) = cost + ecost := IntWalk.i64_in _ (by omega)
  have hcI := Lib.hid fun W1 (hb1 : Below w8.heap.size w8 W1) => cloneI_any (.slice ea es.length ec) es W1 ((h.out.edges.below (hbw7.out.trans (hb8.mono hbw7.out.size))).at.later hb1) (by omega)
  replace hct := Lib.hid hct
  replace hcost := Lib.hid hcost
  replace hNA := Lib.hid hNA
  replace hf1 := Lib.hid hf1
  replace hb8 := Lib.hid hb8
  go_upto_region 8 with fail
  go_cut [] from 75 to 89 (fun wx => ∃ (e1 : Value), Hid (Arr wx N 82 [.slice f1a (fm.length + 1) f1c, e1, .int .i64 (cost + ecost), .int .i64 0, .slice none 0 0] ∧ NumsT wx (.slice f1a (fm.length + 1) f1c) (fm ++ [eto]) ∧ NumsT wx e1 (es ++ [(k : Int)]) ∧ Below w7.heap.size w7 wx))
  case first =>
   have hp0 := Ap.start w8.drew es (k : Int)
   have hcD := Lib.hid fun W1 (hb1 : Below w8.drew.heap.size w8.drew W1) => hcI.out W1 ((Below.refl w8.heap.size w8).drew.trans hb1)
   refine wp_region_held_drew (S := fun w' => w'.cell? ⟨w.heap.size + 1, 1, none⟩ = some (.slice ea es.length ec) ∧ w'.cell? ⟨w.heap.size + 1, 2, none⟩ = some (.int .i64 cost) ∧ w'.cell? ⟨w.heap.size + 1 + 1 + 1, 0, none⟩ = some (.int .i64 ecost)) (by kernel_rfl) (by exact ⟨c0, c1, c2⟩) (fun hHeld => ?_)
   refine tk 0 ?_ rfl ?_ ?_
   rotate_left
   ·
    intro w hSw; (try dsimp only at hSw); go_simp; (try with_reducible rfl)
   (try simp only [Act.put, setIfInBounds_toArray, set_cons_zero, set_cons_succ])
   refine tk 1 ?_ rfl ?_ ?_
   rotate_left
   ·
    intro w hSw; (try dsimp only at hSw); go_simp; (try with_reducible rfl)
   (try simp only [Act.put, setIfInBounds_toArray, set_cons_zero, set_cons_succ])
   refine tk 2 ?_ rfl ?_ ?_
   rotate_left
   ·
    intro w hSw; (try dsimp only at hSw); go_simp; (try with_reducible rfl)
   (try simp only [Act.put, setIfInBounds_toArray, set_cons_zero, set_cons_succ])
   refine tk 4 ?_ rfl ?_ ?_
   rotate_left
   ·
    intro w hSw; (try dsimp only at hSw); go_simp; (try with_reducible rfl)
   (try simp only [Act.put, setIfInBounds_toArray, set_cons_zero, set_cons_succ])
   refine tk 7 ?_ rfl ?_ ?_
   rotate_left
   ·
    intro w hSw; (try dsimp only at hSw); go_simp; (try with_reducible rfl)
   (try simp only [Act.put, setIfInBounds_toArray, set_cons_zero, set_cons_succ])
   refine tk 8 ?_ rfl ?_ ?_
   rotate_left
   ·
    intro w hSw; (try dsimp only at hSw); go_simp; (try with_reducible rfl)
   (try simp only [Act.put, setIfInBounds_toArray, set_cons_zero, set_cons_succ])
   refine tk 9 ?_ rfl ?_ ?_
   rotate_left
   ·
    intro w hSw; (try dsimp only at hSw); go_simp; (try with_reducible rfl)
   (try simp only [Act.put, setIfInBounds_toArray, set_cons_zero, set_cons_succ])
   refine tk 10 ?_ rfl ?_ ?_
   rotate_left
   ·
    intro w hSw; (try dsimp only at hSw); go_simp; (try with_reducible rfl)
   (try simp only [Act.put, setIfInBounds_toArray, set_cons_zero, set_cons_succ])
   refine tk 11 ?_ rfl ?_ ?_
   rotate_left
   ·
    intro w hSw; (try dsimp only at hSw); go_simp; (try with_reducible rfl)
   (try simp only [Act.put, setIfInBounds_toArray, set_cons_zero, set_cons_succ])
   refine tk 12 ?_ rfl ?_ ?_
   rotate_left
   ·
    intro w hSw; (try dsimp only at hSw); go_simp; (try with_reducible rfl)
   (try simp only [Act.put, setIfInBounds_toArray, set_cons_zero, set_cons_succ])
   have hdr : Below w8.heap.size w8 w8.drew := (Below.refl w8.heap.size w8).drew
   have c0d : w8.drew.cell? ⟨w.heap.size + 1, 1, none⟩ = some (.slice ea es.length ec) := c0
   have c1d : w8.drew.cell? ⟨w.heap.size + 1, 2, none⟩ = some (.int .i64 cost) := c1
   have c2d : w8.drew.cell? ⟨w.heap.size + 1 + 1 + 1, 0, none⟩ = some (.int .i64 ecost) := c2
   have hl1d : Hid (w.heap.size + 1 < w8.drew.heap.size) := hl1
   have hl2d : Hid (w.heap.size + 1 + 1 + 1 < w8.drew.heap.size) := hl2
   generalize w8.drew = q0 at *
   replace hdr := Lib.hid hdr
   clear c0 c1 c2
   have hkeep : ∀ W, Below w7.heap.size w7 W → W.cell? ⟨w.heap.size + 1, 1, none⟩ = some (.slice ea es.length ec) ∧ W.cell? ⟨w.heap.size + 1, 2, none⟩ = some (.int .i64 cost) ∧ W.cell? ⟨w.heap.size + 1 + 1 + 1, 0, none⟩ = some (.int .i64 ecost) := fun W hW => ⟨(hB7.out.below hW).cell rfl, (hB7.out.below hW).cell rfl, (hD7.out.below hW).cell rfl⟩
   refine wpAnyH_ready (rs := [3, 5]) (by kernel_rfl) (by simp) ?_
   refine ready_l rfl (fun K hK => ?_) (ready_l rfl (fun K hK => ?_) AllReadyH.nil)
   ·
    go_simp
    go_at_call 72
    refine (hcD.out q0 hp0.below).mono ?_
    rintro e q1 ⟨v1, rfl, ho1, hb1⟩
    have hp1 := hp0.call hb1 ho1
    clear ho1 hb1
    refine hK.out _ _ (by exact ⟨(hp1.below.cell (p := ⟨w.heap.size + 1, 1, none⟩) hl1d.out).trans c0d, (hp1.below.cell (p := ⟨w.heap.size + 1, 2, none⟩) hl1d.out).trans c1d, (hp1.below.cell (p := ⟨w.heap.size + 1 + 1 + 1, 0, none⟩) hl2d.out).trans c2d⟩) (fun hHeld => ?_)
    clear hK K
    (try simp only [Act.put, setIfInBounds_toArray, set_cons_zero, set_cons_succ])
    refine wpAnyH_ready (rs := [5]) (by kernel_rfl) (by simp) ?_
    refine ready_l rfl (fun K hK => ?_) AllReadyH.nil
    go_simp
    have hp2 := hp1.build
    generalize q1.alloc (.cells #[.int .i64 (k : Int)] 3) = q2 at *
    generalize q1.heap.size = s2 at hp2 ⊢
    refine hK.out _ _ (by exact ⟨(hp2.below.cell (p := ⟨w.heap.size + 1, 1, none⟩) hl1d.out).trans c0d, (hp2.below.cell (p := ⟨w.heap.size + 1, 2, none⟩) hl1d.out).trans c1d, (hp2.below.cell (p := ⟨w.heap.size + 1 + 1 + 1, 0, none⟩) hl2d.out).trans c2d⟩) (fun hHeld => ?_)
    clear hK K
    (try simp only [Act.put, setIfInBounds_toArray, set_cons_zero, set_cons_succ])
    refine wpAnyH_ready (rs := [6]) (by kernel_rfl) (by simp) ?_
    refine ready_l rfl (fun K hK => ?_) AllReadyH.nil
    obtain ⟨v3, q3, hr3, hp3⟩ := hp2.append (by omega)
    obtain ⟨va3, vc3, hvv3⟩ := hp3.shape
    subst hvv3
    refine step_append_known rfl _ _ _ _ rfl v1 (.slice (some ⟨s2, 0, none⟩) 1 1) (by kernel_rfl) (by kernel_rfl) hr3 ?_
    (try simp only [Act.put, setIfInBounds_toArray, set_cons_zero, set_cons_succ])
    clear hr3
    refine hK.out _ _ (by exact ⟨(hp3.below.cell (p := ⟨w.heap.size + 1, 1, none⟩) hl1d.out).trans c0d, (hp3.below.cell (p := ⟨w.heap.size + 1, 2, none⟩) hl1d.out).trans c1d, (hp3.below.cell (p := ⟨w.heap.size + 1 + 1 + 1, 0, none⟩) hl2d.out).trans c2d⟩) (fun hHeld => ?_)
    clear hK K
    (try simp only [Act.put, setIfInBounds_toArray, set_cons_zero, set_cons_succ])
    refine tk 13 ?_ rfl ?_ ?_
    rotate_left
    ·
     intro w hSw; (try dsimp only at hSw); go_simp; (try with_reducible rfl)
    (try simp only [Act.put, setIfInBounds_toArray, set_cons_zero, set_cons_succ])
    refine tk 14 ?_ rfl ?_ ?_
    rotate_left
    ·
     intro w hSw; (try dsimp only at hSw); go_simp; (try with_reducible rfl)
    (try simp only [Act.put, setIfInBounds_toArray, set_cons_zero, set_cons_succ])
    have hb0 := Lib.hid (hdr.out.trans (hp3.below.mono hdr.out.size))
    have hAN := Lib.hid (hNA.out.below hb0.out)
    refine wpAnyH_ready (rs := [15]) (by kernel_rfl) (by simp) ?_
    refine ready_l rfl (fun K hK => ?_) AllReadyH.nil
    refine step_store_arr rfl 33 _ _ rfl N 1 (by kernel_rfl) (vs := [(.slice va3 (es.length + 1) vc3), .int .i64 (cost + ecost), .int .i64 0, .slice none 0 0]) (by kernel_rfl) hAN.out (n := 4) (by kernel_rfl) (by show 1 + 4 ≤ 5; decide) rfl rfl ?_
    (try simp only [Act.put, setIfInBounds_toArray, set_cons_zero, set_cons_succ])
    have z1 : Arr (q3.setCells N 1 [(.slice va3 (es.length + 1) vc3), .int .i64 (cost + ecost), .int .i64 0, .slice none 0 0]) N 82 [.slice f1a (fm.length + 1) f1c, (.slice va3 (es.length + 1) vc3), .int .i64 (cost + ecost), .int .i64 0, .slice none 0 0] := (((hAN.out.set 1 _).set 2 _).set 3 _).set 4 _
    have hkt : KeepTy [82] q3 (q3.setCells N 1 [(.slice va3 (es.length + 1) vc3), .int .i64 (cost + ecost), .int .i64 0, .slice none 0 0]) := KeepTy.setArrs hAN.out (by decide) _ _
    have z2 := (hf1.out.below hb0.out).keepTy (X := [82]) (by decide) hkt
    have z3 := hp3.nums.keepTy (X := [82]) (by decide) hkt
    have z4 : Below w7.heap.size w7 (q3.setCells N 1 [(.slice va3 (es.length + 1) vc3), .int .i64 (cost + ecost), .int .i64 0, .slice none 0 0]) := Below.setCells _ _ _ _ (hb8.out.trans (hb0.out.mono hb8.out.size)) hNs
    refine hK.out _ _ (by exact hkeep _ z4) (fun hHeld => ?_)
    clear hK K
    (try simp only [Act.put, setIfInBounds_toArray, set_cons_zero, set_cons_succ])
    refine wpAnyH_done (by kernel_rfl) ?_ _
    go_wp2
    go_meet
    exact ⟨_, (show Hid _ from ⟨z1, z2, z3, z4⟩)⟩
   ·
    go_simp
    have hp1 := hp0.build
    generalize q0.alloc (.cells #[.int .i64 (k : Int)] 3) = q1 at *
    generalize q0.heap.size = s1 at hp1 ⊢
    refine hK.out _ _ (by exact ⟨(hp1.below.cell (p := ⟨w.heap.size + 1, 1, none⟩) hl1d.out).trans c0d, (hp1.below.cell (p := ⟨w.heap.size + 1, 2, none⟩) hl1d.out).trans c1d, (hp1.below.cell (p := ⟨w.heap.size + 1 + 1 + 1, 0, none⟩) hl2d.out).trans c2d⟩) (fun hHeld => ?_)
    clear hK K
    (try simp only [Act.put, setIfInBounds_toArray, set_cons_zero, set_cons_succ])
    refine wpAnyH_ready (rs := [3]) (by kernel_rfl) (by simp) ?_
    refine ready_l rfl (fun K hK => ?_) AllReadyH.nil
    go_simp
    go_at_call 72
    refine (hcD.out q1 hp1.below).mono ?_
    rintro e q2 ⟨v2, rfl, ho2, hb2⟩
    have hp2 := hp1.call hb2 ho2
    clear ho2 hb2
    refine hK.out _ _ (by exact ⟨(hp2.below.cell (p := ⟨w.heap.size + 1, 1, none⟩) hl1d.out).trans c0d, (hp2.below.cell (p := ⟨w.heap.size + 1, 2, none⟩) hl1d.out).trans c1d, (hp2.below.cell (p := ⟨w.heap.size + 1 + 1 + 1, 0, none⟩) hl2d.out).trans c2d⟩) (fun hHeld => ?_)
    clear hK K
    (try simp only [Act.put, setIfInBounds_toArray, set_cons_zero, set_cons_succ])
    refine wpAnyH_ready (rs := [6]) (by kernel_rfl) (by simp) ?_
    refine ready_l rfl (fun K hK => ?_) AllReadyH.nil
    obtain ⟨v3, q3, hr3, hp3⟩ := hp2.append (by omega)
    obtain ⟨va3, vc3, hvv3⟩ := hp3.shape
    subst hvv3
    refine step_append_known rfl _ _ _ _ rfl v2 (.slice (some ⟨s1, 0, none⟩) 1 1) (by kernel_rfl) (by kernel_rfl) hr3 ?_
    (try simp only [Act.put, setIfInBounds_toArray, set_cons_zero, set_cons_succ])
    clear hr3
    refine hK.out _ _ (by exact ⟨(hp3.below.cell (p := ⟨w.heap.size + 1, 1, none⟩) hl1d.out).trans c0d, (hp3.below.cell (p := ⟨w.heap.size + 1, 2, none⟩) hl1d.out).trans c1d, (hp3.below.cell (p := ⟨w.heap.size + 1 + 1 + 1, 0, none⟩) hl2d.out).trans c2d⟩) (fun hHeld => ?_)
    clear hK K
    (try simp only [Act.put, setIfInBounds_toArray, set_cons_zero, set_cons_succ])
    refine tk 13 ?_ rfl ?_ ?_
    rotate_left
    ·
     intro w hSw; (try dsimp only at hSw); go_simp; (try with_reducible rfl)
    (try simp only [Act.put, setIfInBounds_toArray, set_cons_zero, set_cons_succ])
    refine tk 14 ?_ rfl ?_ ?_
    rotate_left
    ·
     intro w hSw; (try dsimp only at hSw); go_simp; (try with_reducible rfl)
    (try simp only [Act.put, setIfInBounds_toArray, set_cons_zero, set_cons_succ])
    have hb0 := Lib.hid (hdr.out.trans (hp3.below.mono hdr.out.size))
    have hAN := Lib.hid (hNA.out.below hb0.out)
    refine wpAnyH_ready (rs := [15]) (by kernel_rfl) (by simp) ?_
    refine ready_l rfl (fun K hK => ?_) AllReadyH.nil
    refine step_store_arr rfl 33 _ _ rfl N 1 (by kernel_rfl) (vs := [(.slice va3 (es.length + 1) vc3), .int .i64 (cost + ecost), .int .i64 0, .slice none 0 0]) (by kernel_rfl) hAN.out (n := 4) (by kernel_rfl) (by show 1 + 4 ≤ 5; decide) rfl rfl ?_
    (try simp only [Act.put, setIfInBounds_toArray, set_cons_zero, set_cons_succ])
    have z1 : Arr (q3.setCells N 1 [(.slice va3 (es.length + 1) vc3), .int .i64 (cost + ecost), .int .i64 0, .slice none 0 0]) N 82 [.slice f1a (fm.length + 1) f1c, (.slice va3 (es.length + 1) vc3), .int .i64 (cost + ecost), .int .i64 0, .slice none 0 0] := (((hAN.out.set 1 _).set 2 _).set 3 _).set 4 _
    have hkt : KeepTy [82] q3 (q3.setCells N 1 [(.slice va3 (es.length + 1) vc3), .int .i64 (cost + ecost), .int .i64 0, .slice none 0 0]) := KeepTy.setArrs hAN.out (by decide) _ _
    have z2 := (hf1.out.below hb0.out).keepTy (X := [82]) (by decide) hkt
    have z3 := hp3.nums.keepTy (X := [82]) (by decide) hkt
    have z4 : Below w7.heap.size w7 (q3.setCells N 1 [(.slice va3 (es.length + 1) vc3), .int .i64 (cost + ecost), .int .i64 0, .slice none 0 0]) := Below.setCells _ _ _ _ (hb8.out.trans (hb0.out.mono hb8.out.size)) hNs
    refine hK.out _ _ (by exact hkeep _ z4) (fun hHeld => ?_)
    clear hK K
    (try simp only [Act.put, setIfInBounds_toArray, set_cons_zero, set_cons_succ])
    refine wpAnyH_done (by kernel_rfl) ?_ _
    go_wp2
    go_meet
    exact ⟨_, (show Hid _ from ⟨z1, z2, z3, z4⟩)⟩
  case rest =>
   obtain ⟨e1, hcut⟩ := hcut
   obtain ⟨hNA9, hf9, he9, hb9⟩ := hcut.out
   clear hcut c0 c1 c2 hl1 hl2 hcI hNA hf1 hb8 hB8 hD8 hwc
   obtain ⟨e1a, e1c, hev, _⟩ := he9.len
   rw [List.length_append, List.length_singleton] at hev
   subst hev
   obtain ⟨w9, hw9⟩ : ∃ w9, w9 = wc := ⟨_, rfl⟩
   rw [← hw9] at hNA9 hf9 he9 hb9 ⊢
   clear hw9
   have hCw7 : ClaimsT 59 w7 (.slice ca cl.length cc) cl := h.out.claims.below hbw7.out
   have hcell := Lib.hid fun i (hi : i < cl.length) => ClaimsAt.cells hCw7.at hi
   have hclen : Hid (cl.length = 8) := h.out.clen
   have hst := Lib.hid fun (p : Int) W1 (hb1 : Below w7.heap.size w7 W1) => rsteps_any _ (claimsM ⟨eid, efrm, eto, eback, ekeep⟩) p W1 (hCm.out.at.later hb1)
   have hM : Hid (∀ i, i < cl.length → (cl.map (onC ⟨eid, efrm, eto, eback, ekeep⟩)).take (i + 1) = (cl.map (onC ⟨eid, efrm, eto, eback, ekeep⟩)).take i ++ [(cl[i]!.1, composeA cl[i]!.1 cl[i]!.2 (stepsC (claimsM ⟨eid, efrm, eto, eback, ekeep⟩) cl[i]!.1))]) := fun i hi => by
    rw [List.take_succ_eq_append_getElem (by simpa using hi), List.getElem_map, getElem!_pos cl i hi]
    rfl
   have hMl : Hid ((cl.map (onC ⟨eid, efrm, eto, eback, ekeep⟩)).length = cl.length) := Lib.hid (List.length_map _)
   generalize hLd : cl.map (onC ⟨eid, efrm, eto, eback, ekeep⟩) = L at hM hMl
   replace hLd := Lib.hid hLd
   have hB9 := Lib.hid (hB7.out.below hb9)
   have b4 := hB9.out.cell (j := 4) rfl
   have hstart : Hid (Arr w9 N 82 [.slice f1a (fm.length + 1) f1c, .slice e1a (es.length + 1) e1c, .int .i64 (cost + ecost), .int .i64 0, .slice none 0 0] ∧ NumsT w9 (.slice f1a (fm.length + 1) f1c) (fm ++ [eto]) ∧ NumsT w9 (.slice e1a (es.length + 1) e1c) (es ++ [(k : Int)]) ∧ Below w7.heap.size w7 w9) := ⟨hNA9, hf9, he9, hb9⟩
   clear hNA9 hf9 he9 hb9 hCw7
   go_wp2_with fail
   go_loopw [94] (fun iv wr => ∃ i : Nat, i ≤ cl.length ∧ iv = .int .i64 (i : Int) ∧ Hid (∃ ov us, Arr wr N 82 [.slice f1a (fm.length + 1) f1c, .slice e1a (es.length + 1) e1c, .int .i64 (cost + ecost), .int .i64 0, ov] ∧ NumsT wr (.slice f1a (fm.length + 1) f1c) (fm ++ [eto]) ∧ NumsT wr (.slice e1a (es.length + 1) e1c) (es ++ [(k : Int)]) ∧ Below w7.heap.size w7 wr ∧ ClOwn w7.heap.size wr ov (L.take i) us)) (fun iv _ => cl.length - (intOf iv).toNat)
   case atStart => exact ⟨0, Nat.zero_le _, rfl, (show Hid _ from ⟨_, [], hstart.out.1, hstart.out.2.1, hstart.out.2.2.1, hstart.out.2.2.2, ⟨rfl, World.ownsRow_nil _ _ _ _, fun i hi => absurd hi (by simp)⟩⟩)⟩
   case round =>
    obtain ⟨i, hi, rfl, hall⟩ := hrel
    obtain ⟨ov, us, hNA, hf1, he1, hb, hO⟩ := hall.out
    clear hall hstart
    by_cases hlt : i < cl.length
    ·
     have htk := hM.out i hlt
     have hlen : (L.take i).length = i := by rw [List.length_take, hMl.out]; omega
     obtain ⟨xb, xo, xcap, u, hxv, hxb, x0, x1, hs⟩ := hcell.out i hlt
     injection hxv with hxv _ hxv3
     subst hxv hxv3
     obtain ⟨i0, hi0, hz0, hz1, hz2⟩ := info_parts Tryz.info_claim
     have hclen8 := hclen.out
     generalize cl[i]!.1 = p at *
     generalize cl[i]!.2 = s at *
     have y0 := (hb.cell (p := ⟨xb, xo + i * 2, none⟩) hxb).trans x0
     have y1 := (hb.cell (p := ⟨xb, xo + i * 2 + 1, none⟩) hxb).trans x1
     obtain ⟨ua, uc, rfl, _, _, _⟩ := id hs
     obtain ⟨W1, hW1⟩ : ∃ W1, W1 = wr.alloc (.cells #[.int .i64 p, .slice ua s.length uc] 59) := ⟨_, rfl⟩
     have hA1 : Arr W1 wr.heap.size 59 [.int .i64 p, .slice ua s.length uc] := by rw [hW1]; exact Arr.new rfl rfl
     have hbA : Below wr.heap.size wr W1 := by rw [hW1]; exact (Below.refl _ _).alloc (Nat.le_refl _) _
     have hb1 := hb.trans (hbA.mono hb.size)
     have hbd : Below w7.heap.size w7 W1.drew := hb1.drew
     have hbAd : Below wr.heap.size wr W1.drew := hbA.drew
     have d0 : W1.drew.cell? ⟨wr.heap.size, 0, none⟩ = some (.int .i64 p) := hA1.cell rfl
     have d1 : W1.drew.cell? ⟨wr.heap.size, 1, none⟩ = some (.slice ua s.length uc) := hA1.cell rfl
     have hcs := Lib.hid (hst.out p W1.drew hbd)
     have k0 : (0 : Int) ≤ (i : Int) := by omega
     have k1 : (i : Int) < (cl.length : Int) := by omega
     have hw1 : IntKind.i64.wrap ((i : Int) + 1) = (i : Int) + 1 := IntWalk.i64_in _ (by omega)
     have htrue : decide ((i : Int) < (cl.length : Int)) = true := decide_eq_true k1
     replace hlen := Lib.hid hlen
     replace htk := Lib.hid htk
     replace hclen8 := Lib.hid hclen8
     replace hNA := Lib.hid hNA
     replace hf1 := Lib.hid hf1
     replace he1 := Lib.hid he1
     replace hb := Lib.hid hb
     replace hO := Lib.hid hO
     replace hbAd := Lib.hid hbAd
     replace hbd := Lib.hid hbd
     clear hb1 hbA
     go_wp2_with fail
     rw [← hW1]
     clear hW1 x0 x1 y0 y1
     refine wp_region_held_drew (S := fun w' => w'.cell? ⟨wr.heap.size, 0, none⟩ = some (.int .i64 p) ∧ w'.cell? ⟨wr.heap.size, 1, none⟩ = some (.slice ua s.length uc)) (by kernel_rfl) (by exact ⟨d0, d1⟩) (fun hHeld => ?_)
     refine tk 0 ?_ rfl ?_ ?_
     rotate_left
     ·
      intro w hSw; (try dsimp only at hSw); go_simp; (try with_reducible rfl)
     (try simp only [Act.put, setIfInBounds_toArray, set_cons_zero, set_cons_succ])
     refine tk 1 ?_ rfl ?_ ?_
     rotate_left
     ·
      intro w hSw; (try dsimp only at hSw); go_simp; (try with_reducible rfl)
     (try simp only [Act.put, setIfInBounds_toArray, set_cons_zero, set_cons_succ])
     refine tk 2 ?_ rfl ?_ ?_
     rotate_left
     ·
      intro w hSw; (try dsimp only at hSw); go_simp; (try with_reducible rfl)
     (try simp only [Act.put, setIfInBounds_toArray, set_cons_zero, set_cons_succ])
     refine tk 3 ?_ rfl ?_ ?_
     rotate_left
     ·
      intro w hSw; (try dsimp only at hSw); go_simp; (try with_reducible rfl)
     (try simp only [Act.put, setIfInBounds_toArray, set_cons_zero, set_cons_succ])
     refine tk 4 ?_ rfl ?_ ?_
     rotate_left
     ·
      intro w hSw; (try dsimp only at hSw); go_simp; (try with_reducible rfl)
     (try simp only [Act.put, setIfInBounds_toArray, set_cons_zero, set_cons_succ])
     refine tk 5 ?_ rfl ?_ ?_
     rotate_left
     ·
      intro w hSw; (try dsimp only at hSw); go_simp; (try with_reducible rfl)
     (try simp only [Act.put, setIfInBounds_toArray, set_cons_zero, set_cons_succ])
     refine tk 6 ?_ rfl ?_ ?_
     rotate_left
     ·
      intro w hSw; (try dsimp only at hSw); go_simp; (try with_reducible rfl)
     (try simp only [Act.put, setIfInBounds_toArray, set_cons_zero, set_cons_succ])
     refine wpAnyH_ready (rs := [7]) (by kernel_rfl) (by simp) ?_
     refine ready_l rfl (fun K hK => ?_) AllReadyH.nil
     go_simp
     go_at_call 55
     refine hcs.out.mono ?_
     rintro e w2 ⟨sv, rfl, hS, hb2⟩
     have hA2 : Arr w2 wr.heap.size 59 [.int .i64 p, .slice ua s.length uc] := hA1.drew.below hb2
     have hb12 := hbd.out.trans (hb2.mono hbd.out.size)
     have hbA2 := hbAd.out.trans (hb2.mono hbAd.out.size)
     refine hK.out _ _ (by exact ⟨hA2.cell rfl, hA2.cell rfl⟩) (fun hHeld2 => ?_)
     clear hK K hHeld
     (try simp only [Act.put, setIfInBounds_toArray, set_cons_zero, set_cons_succ])
     have hco := Lib.hid (Compose_any p _ _ _ _ w2 (hs.later hb12) hS)
     refine wpAnyH_ready (rs := [8]) (by kernel_rfl) (by simp) ?_
     refine ready_l rfl (fun K hK => ?_) AllReadyH.nil
     go_simp
     go_at_call 27
     refine hco.out.mono ?_
     rintro e w3 ⟨nv, rfl, hN3, hb3⟩
     have hA3 := hA2.below hb3
     have hb13 := hb12.trans (hb3.mono hb12.size)
     have hbA3 := hbA2.trans (hb3.mono hbA2.size)
     refine hK.out _ _ (by exact ⟨hA3.cell rfl, hA3.cell rfl⟩) (fun hHeld => ?_)
     clear hK K hHeld2
     (try simp only [Act.put, setIfInBounds_toArray, set_cons_zero, set_cons_succ])
     refine tk 9 ?_ rfl ?_ ?_
     rotate_left
     ·
      intro w hSw; (try dsimp only at hSw); go_simp; (try with_reducible rfl)
     (try simp only [Act.put, setIfInBounds_toArray, set_cons_zero, set_cons_succ])
     refine tk 10 ?_ rfl ?_ ?_
     rotate_left
     ·
      intro w hSw; (try dsimp only at hSw); go_simp; (try with_reducible rfl)
     (try simp only [Act.put, setIfInBounds_toArray, set_cons_zero, set_cons_succ])
     refine tk 11 ?_ rfl ?_ ?_
     rotate_left
     ·
      intro w hSw; (try dsimp only at hSw); go_simp; (try with_reducible rfl)
     (try simp only [Act.put, setIfInBounds_toArray, set_cons_zero, set_cons_succ])
     refine tk 12 ?_ rfl ?_ ?_
     rotate_left
     ·
      intro w hSw; (try dsimp only at hSw); go_simp; (try with_reducible rfl)
     (try simp only [Act.put, setIfInBounds_toArray, set_cons_zero, set_cons_succ])
     refine tk 13 ?_ rfl ?_ ?_
     rotate_left
     ·
      intro w hSw; (try dsimp only at hSw); go_simp; (try with_reducible rfl)
     (try simp only [Act.put, setIfInBounds_toArray, set_cons_zero, set_cons_succ])
     refine wpAnyH_done (by kernel_rfl) ?_ _
     obtain ⟨na, nc, rfl, _, _, _⟩ := id hN3
     generalize composeA p s (stepsC (claimsM ⟨eid, efrm, eto, eback, ekeep⟩) p) = X at *
     generalize errA (validA p s && validA p (stepsC (claimsM ⟨eid, efrm, eto, eback, ekeep⟩) p)) = ee at *
     have hO3 := hO.out.below hbA3
     have hNA3 := hNA.out.below hbA3
     have hf3 := hf1.out.below hbA3
     have he3 := he1.out.below hbA3
     have hbB : Below w3.heap.size w3 (w3.alloc (.cells #[.int .i64 p, .slice na X.length nc] 59)) := (Below.refl _ _).alloc (Nat.le_refl _) _
     have hO4 := hO3.below hbB
     have hNA4 := hNA3.below hbB
     have hf4 := hf3.below hbB
     have he4 := he3.below hbB
     have hN4 := hN3.below hbB
     have hb14 := hb13.trans (hbB.mono hb13.size)
     have hown4 := Lib.hid hO4.own
     rw [hlen.out] at hown4
     have hnews : ∀ j x, [Value.int .i64 p, .slice na X.length nc][j]? = some x → (w3.alloc (.cells #[.int .i64 p, .slice na X.length nc] 59)).cell? ((⟨w3.heap.size, 0, none⟩ : Addr).add j) = some x := fun j x hx => cells_new w3 [.int .i64 p, .slice na X.length nc] 59 j x hx
     have e0 := hA3.cell (j := 0) rfl
     have e4 := hNA3.cell (j := 4) rfl
     have hs14 := Lib.hid hb14.size
     have hNl3 := hNA3.lt
     replace hnews := Lib.hid hnews
     replace hO4 := Lib.hid hO4
     replace hNA4 := Lib.hid hNA4
     replace hf4 := Lib.hid hf4
     replace he4 := Lib.hid he4
     replace hN4 := Lib.hid hN4
     replace hb14 := Lib.hid hb14
     clear hO hO3 hNA hNA3 hf1 hf3 he1 he3 hA1 hA2 hA3 hbA2 hbA3 hb12 hb13 hbB hN3 hS hb2 hb3 hbd hbAd hHeld hco hcs d0 d1 hs hb
     go_wp2_with (at_builtin; refine wpList_append_own _ rfl _ _ 31 rfl w7.heap.size 59 i0 (.agg #[.int .i64 0, .slice none 0 0]) 2 32 Tryz.underlying31 hi0 hz0 hz1 hz2 rfl (by decide) _ i _ rfl hown4.out ⟨w3.heap.size, 0, none⟩ 1 1 [.int .i64 p, .slice na X.length nc] rfl rfl hnews.out (by simp [Value.oneCell']) ?qa ?qb ?qc ?_)
     case qa => have := hclen8.out; unfold maxLen; omega
     case qb => have := hclen8.out; omega
     case qc => exact hs14.out
     intro v' w5 hown5 hgrow hnil
     have hOn := hO4.out.snoc p X _ hN4.out (by rw [hlen.out]; exact hown5) hgrow
     rw [← htk.out] at hOn
     obtain ⟨g', cap', rfl⟩ := ownsRow_succ hown5
     have hkg : KeepTy [59] _ w5 := KeepTy.grown hO4.out.own hgrow (by decide)
     have hNA5 : Arr w5 N 82 _ := hkg N _ _ _ (by decide) hNA4.out
     have hf5 := hf4.out.keepTy (X := [59]) (by decide) hkg
     have he5 := he4.out.keepTy (X := [59]) (by decide) hkg
     have hb5 : Below w7.heap.size w7 w5 := hb14.out.grown hgrow hs14.out (fun g hg => (own_block hO4.out.own hg).2.1)
     have e4' := hNA5.cell (j := 4) rfl
     have f4' := hNA5.free 4
     have hks : KeepTy [82] w5 (w5.setCell ⟨N, 4, none⟩ (.slice (some ⟨g', 0, none⟩) (i + 1) cap')) := KeepTy.setArr hNA5 (by decide)
     have hkk : Hid (∃ ov us, Arr (w5.setCell ⟨N, 4, none⟩ (.slice (some ⟨g', 0, none⟩) (i + 1) cap')) N 82 [.slice f1a (fm.length + 1) f1c, .slice e1a (es.length + 1) e1c, .int .i64 (cost + ecost), .int .i64 0, ov] ∧ NumsT (w5.setCell ⟨N, 4, none⟩ (.slice (some ⟨g', 0, none⟩) (i + 1) cap')) (.slice f1a (fm.length + 1) f1c) (fm ++ [eto]) ∧ NumsT (w5.setCell ⟨N, 4, none⟩ (.slice (some ⟨g', 0, none⟩) (i + 1) cap')) (.slice e1a (es.length + 1) e1c) (es ++ [(k : Int)]) ∧ Below w7.heap.size w7 (w5.setCell ⟨N, 4, none⟩ (.slice (some ⟨g', 0, none⟩) (i + 1) cap')) ∧ ClOwn w7.heap.size (w5.setCell ⟨N, 4, none⟩ (.slice (some ⟨g', 0, none⟩) (i + 1) cap')) ov (L.take (i + 1)) us) :=
      ⟨_, us ++ [.slice na X.length nc], hNA5.set 4 _, hf5.keepTy (X := [82]) (by decide) hks, he5.keepTy (X := [82]) (by decide) hks, hb5.setCell (p := ⟨N, 4, none⟩) hNs _, hOn.setOther hNA5 4 _⟩
     clear hOn hgrow hnil hown5 hown4 hO4 hnews hNA4 hf4 he4 hN4 hb14 hNA5 hf5 he5 hb5 hkg hks
     go_wp2_with fail
     exact ⟨⟨i + 1, by omega, by first | rfl | go_num, hkk⟩, by simp [intOf]; omega⟩
    ·
     obtain rfl : i = cl.length := by omega
     have hno : decide ((cl.length : Int) < (cl.length : Int)) = false := by simp
     rw [List.take_of_length_le (by rw [hMl.out]; exact Nat.le_refl _)] at hO
     have c0 := hNA.cell (j := 0) rfl
     have c1 := hNA.cell (j := 1) rfl
     have c2 := hNA.cell (j := 2) rfl
     have c3 := hNA.cell (j := 3) rfl
     have c4 := hNA.cell (j := 4) rfl
     have hC9 := Lib.hid (hC7.out.below hb)
     have hcl := hO.claims
     obtain ⟨_, _, ⟨oa, oc, rfl, _, _, _⟩, _⟩ := id hcl
     have hfe : fm.length = es.length + 1 := h.out.feq
     have hway : Hid (WayT wr (.slice f1a (fm.length + 1) f1c) (.slice e1a (es.length + 1) e1c) (.slice oa L.length oc) ⟨fm ++ [eto], ⟨es ++ [(k : Int)], cost + ecost, 0, L⟩⟩) :=
      ⟨hf1, he1, hcl, by simp, by simp [hfe], by rw [List.length_append, List.length_singleton]; exact Nat.lt_of_le_of_ne hes hne, by have := hct.out; have := hcost.out; simp only [List.length_append, List.length_singleton]; omega, by show L.length = 8; rw [hMl.out, hclen.out]⟩
     have hbh := Lib.hid (hbw7.out.trans (hb.mono hbw7.out.size))
     clear hNA hf1 he1 hO hcl hM hMl hclen hcell hst hb hfe
     go_wp2_with (refine arr_store rfl 82 _ _ rfl (w.heap.size + 1 + 1) rfl (vs := [.slice f1a (fm.length + 1) f1c, .slice e1a (es.length + 1) e1c, .int .i64 (cost + ecost), .int .i64 0, .slice oa L.length oc]) rfl hC9.out (n := 5) (by kernel_rfl) rfl rfl rfl ?_)
     refine on_end2 (L := [.slice f1a (fm.length + 1) f1c, .slice e1a (es.length + 1) e1c, .int .i64 (cost + ecost), .int .i64 0, .slice oa L.length oc]) _ _ _ (w.heap.size + 1 + 1) true ?a1 rfl ?a2 ?a3 ?a4
     case a1 => exact hC9.out.setAll (vs := [.slice f1a (fm.length + 1) f1c, .slice e1a (es.length + 1) e1c, .int .i64 (cost + ecost), .int .i64 0, .slice oa L.length oc]) rfl
     case a2 => kernel_rfl
     case a3 => kernel_rfl
     case a4 => exact ⟨⟨_, _, _, rfl, by rw [hLd.out]; exact hway.out.keepTy (X := [82]) (by decide) (by decide) (by decide) (KeepTy.setArrs hC9.out (by decide) _ _)⟩, Below.setCells _ _ _ _ hbh.out (by omega)⟩
end Go.Proofs.YtpeandbcdaikbaaGreatDoor
namespace Go.Proofs.YtpeandbcdaikbaaGreatDoor
open Go.RowKit Go.Shelf Go.Maps

theorem onP_none {l : List Edg} {day : Int} {x : Way} {edge : Int} (h : edge < 0 ∨ (l.length : Int) ≤ edge ∨ x.rou.edges.length = 6) : onP l day x edge = none := by
 unfold onP
 rw [if_pos h]
theorem onP_none2 {l : List Edg} {day : Int} {x : Way} {k : Nat} (h : l[k]!.does.frm ≠ x.last ∨ l[k]!.until_ < day ∨ l[k]!.does.to ∈ x.formats) : onP l day x (k : Int) = none := by
 unfold onP
 split
 ·
  rfl
 ·
  rw [if_pos (by simpa using h)]
theorem onP_fits {l : List Edg} {day : Int} {x : Way} {k : Nat} (h1 : ¬((k : Int) < 0 ∨ (l.length : Int) ≤ (k : Int) ∨ x.rou.edges.length = 6)) (h : ¬(l[k]!.does.frm ≠ x.last ∨ l[k]!.until_ < day ∨ l[k]!.does.to ∈ x.formats)) : onP l day x (k : Int) = some (nextW l k x) := by
 unfold onP
 rw [if_neg h1, if_neg (by simpa using h)]
 rfl
theorem on_any (l : List Edg) (day : Int) (pev plv : Value) (fv ev cv : Value) (x : Way) (edge : Int) (w : World) (hE : EdgesAt w w.heap.size pev l) (hp : ∃ a n c, plv = .slice a n c) (h : WayT w fv ev cv x) (hI : ∀ e ∈ l, MigIn e.does) (hok : ∀ e ∈ l, okE e = true) :
  Calls Tryz.prog 42 #[.agg #[pev, plv, .int .i64 day], .agg #[fv, ev, .int .i64 x.rou.cost, .int .i64 x.rou.life, cv], .int .i64 edge] w fun e w' => (match onP l day x edge with
   | none => e = .returned (.tuple #[zeroWayV, .bool false])
   | some n => ∃ fv' ev' cv', e = .returned (.tuple #[wayV fv' ev' cv' n, .bool true]) ∧ WayT w' fv' ev' cv' n) ∧ Below w.heap.size w w' := by
 by_cases h1 : edge < 0 ∨ (l.length : Int) ≤ edge ∨ x.rou.edges.length = 6
 ·
  rw [onP_none h1]
  exact on_none1 l day pev plv fv ev cv x edge w hE hp h h1
 ·
  obtain ⟨k, rfl⟩ : ∃ k : Nat, edge = (k : Int) := ⟨edge.toNat, by omega⟩
  have hk : k < l.length := by omega
  have hne : x.rou.edges.length ≠ 6 := fun e => h1 (.inr (.inr e))
  have hmem : l[k]! ∈ l := by rw [getElem!_pos l k hk]; exact List.getElem_mem hk
  by_cases h2 : l[k]!.does.frm ≠ x.last ∨ l[k]!.until_ < day ∨ l[k]!.does.to ∈ x.formats
  ·
   rw [onP_none2 h2]
   exact on_none2 l day pev plv fv ev cv x (k : Int) w hE hp h k hk rfl hne h2
  ·
   rw [onP_fits h1 h2]
   exact on_fits l day pev plv fv ev cv x (k : Int) w hE hp h k hk rfl hne h2 (hI _ hmem) (hok _ hmem)
end Go.Proofs.YtpeandbcdaikbaaGreatDoor
