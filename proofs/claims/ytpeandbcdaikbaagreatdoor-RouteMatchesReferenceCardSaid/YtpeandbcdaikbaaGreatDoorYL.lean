/-
 Routes of chapter 11: cmp.Compare, cmp.Or, slices.Compare, route.compare.
 Routes of chapter 11: route.compare.
-/
import Derived.Test.YtpeandbcdaikbaaGreatDoorYK
import Derived.StillTailTactics
open List (setIfInBounds_toArray set_cons_zero set_cons_succ)
namespace Go.Proofs.YtpeandbcdaikbaaGreatDoor
open Go.RowKit Go.Shelf Go.Maps

attribute [local go_sem] Oper.semAt_some

set_option maxHeartbeats 1000000 in
theorem isNaN_any (a : Int) (w : World) : Calls Tryz.prog 110 #[.int .i64 a] w fun e w' => e = .returned (.bool false) ∧ w' = w := by
 go_enter Tryz.func110, Tryz.ntmps110
 go_wp2
 go_ret
 exact ⟨by simp, rfl⟩
set_option maxHeartbeats 2000000 in
theorem cmpI_any (a b : Int) (w : World) : Calls Tryz.prog 80 #[.int .i64 a, .int .i64 b] w fun e w' => e = .returned (.int .i64 (cmpI a b)) ∧ w' = w := by
 have hn := fun x W => Lib.hid (isNaN_any x W)
 obtain ⟨R, hR⟩ : ∃ R, R = cmpI a b := ⟨_, rfl⟩
 rw [← hR]
 unfold cmpI at hR
 by_cases h1 : a < b
 ·
  obtain rfl : R = -1 := hR.trans (if_pos h1)
  have hd : decide (a < b) = true := by simpa using h1
  clear hR
  go_enter Tryz.func80, Tryz.ntmps80
  go_wp2_with (refine (hn _ _).out.mono ?_; rintro e w' ⟨rfl, rfl⟩)
  go_ret
  exact ⟨rfl, rfl⟩
 ·
  have hd : decide (a < b) = false := by simpa using h1
  by_cases h2 : b < a
  ·
   obtain rfl : R = 1 := hR.trans ((if_neg h1).trans (if_pos h2))
   have hd2 : decide (a > b) = true := by simpa using h2
   have hd3 : decide (b < a) = true := by simpa using h2
   clear hR
   go_enter Tryz.func80, Tryz.ntmps80
   go_wp2_with (refine (hn _ _).out.mono ?_; rintro e w' ⟨rfl, rfl⟩)
   go_ret
   exact ⟨rfl, rfl⟩
  ·
   obtain rfl : R = 0 := hR.trans ((if_neg h1).trans (if_neg h2))
   have hd2 : decide (a > b) = false := by simpa using h2
   have hd3 : decide (b < a) = false := by simpa using h2
   clear hR
   go_enter Tryz.func80, Tryz.ntmps80
   go_wp2_with (refine (hn _ _).out.mono ?_; rintro e w' ⟨rfl, rfl⟩)
   go_ret
   exact ⟨rfl, rfl⟩
theorem firstI_at (x y z : Int) : firstI x y z = if x ≠ 0 then x else if y ≠ 0 then y else z := rfl
set_option maxRecDepth 100000 in
set_option maxHeartbeats 4000000 in
theorem cmpOr_any (x y z : Int) (b : Nat) (w : World) (hA : Arr w b 3 [.int .i64 x, .int .i64 y, .int .i64 z]) :
  Calls Tryz.prog 109 #[.slice (some ⟨b, 0, none⟩) 3 3] w fun e w' => e = .returned (.int .i64 (firstI x y z)) ∧ w' = w := by
 have hcell : Hid (∀ i : Nat, i < 3 → ∃ u, w.cell? ⟨b, i, none⟩ = some (.int .i64 u) ∧ (u ≠ 0 → (∀ j : Nat, j < i → [x, y, z][j]! = 0) → firstI x y z = u) ∧ u = [x, y, z][i]!) := fun i hi => by
  obtain rfl | rfl | rfl : i = 0 ∨ i = 1 ∨ i = 2 := by omega
  ·
   exact ⟨x, hA.cell (j := 0) rfl, fun h _ => by rw [firstI_at, if_pos h], rfl⟩
  ·
   exact ⟨y, hA.cell (j := 1) rfl, fun h h0 => by
    have e0 : x = 0 := h0 0 (by omega)
    rw [firstI_at, if_neg (by simp [e0]), if_pos h], rfl⟩
  ·
   exact ⟨z, hA.cell (j := 2) rfl, fun h h0 => by
    have e0 : x = 0 := h0 0 (by omega)
    have e1 : y = 0 := h0 1 (by omega)
    rw [firstI_at, if_neg (by simp [e0]), if_neg (by simp [e1])], rfl⟩
 have hnone : Hid ((∀ j : Nat, j < 3 → [x, y, z][j]! = 0) → firstI x y z = 0) := fun h0 => by
  have e0 : x = 0 := h0 0 (by omega)
  have e1 : y = 0 := h0 1 (by omega)
  have e2 : z = 0 := h0 2 (by omega)
  rw [e0, e1, e2]
  rfl
 generalize firstI x y z = R at *
 clear hA
 go_enter Tryz.func109, Tryz.ntmps109
 go_wp2_with fail
 go_loopw [8] (fun iv wr => ∃ i : Nat, i ≤ 3 ∧ iv = .int .i64 (i : Int) ∧ Hid ((∀ j : Nat, j < i → [x, y, z][j]! = 0)) ∧ wr = w) (fun iv _ => 3 - (intOf iv).toNat)
 case atStart => exact ⟨0, by omega, rfl, (show Hid _ from fun j hj => absurd hj (by omega)), rfl⟩
 case round =>
  obtain ⟨i, hi, rfl, hz, hwr⟩ := hrel
  subst hwr
  by_cases hlt : i < 3
  ·
   obtain ⟨u, hu, hres, hui⟩ := hcell.out i hlt
   have k0 : (0 : Int) ≤ (i : Int) := by omega
   have k1 : (i : Int) < 3 := by omega
   have hd : decide ((i : Int) < 3) = true := decide_eq_true k1
   have hw1 : IntKind.i64.wrap ((i : Int) + 1) = (i : Int) + 1 := IntWalk.i64_in _ (by omega)
   have hz0 : (⟨b, 0 + i, none⟩ : Addr) = ⟨b, i, none⟩ := by rw [Nat.zero_add]
   by_cases hu0 : u = 0
   ·
    have hn1 : (u != 0) = false := by simpa using hu0
    have hkk : Hid (∀ j : Nat, j < i + 1 → [x, y, z][j]! = 0) := fun j hj => by
     by_cases e : j = i
     ·
      rw [e, ← hui, hu0]
     ·
      exact hz.out j (by omega)
    clear hui hres hcell hnone hz
    replace hu0 := Lib.hid hu0
    go_wp2_with fail
    exact ⟨⟨i + 1, by omega, by first | rfl | go_num, hkk, by first | rfl | trivial⟩, by simp [intOf]; omega⟩
   ·
    have hn1 : (u != 0) = true := by simpa using hu0
    have hR := Lib.hid (hres hu0 hz.out)
    clear hui hres hcell hnone hz
    go_wp2_with fail
    go_ret
    exact ⟨by rw [hR.out]; rfl, rfl⟩
  ·
   obtain rfl : i = 3 := by omega
   have hR := Lib.hid (hnone.out hz.out)
   have hno : decide (((3 : Nat) : Int) < 3) = false := by decide
   clear hcell hnone hz
   go_wp2_with fail
   go_ret
   exact ⟨by rw [hR.out]; rfl, rfl⟩
theorem cmpL_step (a b : Int) (l m : List Int) : cmpL (a :: l) (b :: m) = if cmpI a b ≠ 0 then cmpI a b else cmpL l m := by
 rw [cmpL]
 unfold cmpI
 by_cases h1 : a < b
 ·
  rw [if_pos h1, if_pos h1, if_pos (by decide)]
 ·
  rw [if_neg h1, if_neg h1]
  by_cases h2 : b < a
  ·
   rw [if_pos h2, if_pos h2, if_pos (by decide)]
  ·
   rw [if_neg h2, if_neg h2, if_neg (by decide)]
theorem drop_at (l : List Int) {i : Nat} (h : i < l.length) : l.drop i = l[i]! :: l.drop (i + 1) := by rw [getElem!_pos l i h, List.drop_eq_getElem_cons h]
set_option maxRecDepth 100000 in
set_option maxHeartbeats 4000000 in
theorem compareS_any (v u : Value) (l m : List Int) (w : World) (hv : NumsAt w w.heap.size v l) (hu : NumsAt w w.heap.size u m) :
  Calls Tryz.prog 81 #[v, u] w fun e w' => e = .returned (.int .i64 (cmpL l m)) ∧ w' = w := by
 have hcl := Lib.hid fun i (hi : i < l.length) => NumsAt.cells hv hi
 have hcm := Lib.hid fun i (hi : i < m.length) => NumsAt.cells hu hi
 have hci := fun a b W => Lib.hid (cmpI_any a b W)
 obtain ⟨a, c, rfl, hl1, hl2, _⟩ := hv
 obtain ⟨a', c', rfl, hm1, hm2, _⟩ := hu
 have hll : l.length ≤ maxLen := by omega
 have hml : m.length ≤ maxLen := by omega
 unfold maxLen at hll hml
 have h0 : Hid (cmpL l m = cmpL (l.drop 0) (m.drop 0)) := Lib.hid rfl
 have hx1 : Hid (∀ i, i < l.length → l.drop i = l[i]! :: l.drop (i + 1)) := Lib.hid fun i hi => drop_at l hi
 have hx2 : Hid (∀ i, i < m.length → m.drop i = m[i]! :: m.drop (i + 1)) := Lib.hid fun i hi => drop_at m hi
 generalize cmpL l m = R at *
 clear hl1 hl2 hm1 hm2
 go_enter Tryz.func81, Tryz.ntmps81
 go_wp2_with fail
 go_loopw [11] (fun iv wr => ∃ i : Nat, i ≤ l.length ∧ i ≤ m.length ∧ iv = .int .i64 (i : Int) ∧ Hid (R = cmpL (l.drop i) (m.drop i)) ∧ wr = w) (fun iv _ => l.length - (intOf iv).toNat)
 case atStart => exact ⟨0, Nat.zero_le _, Nat.zero_le _, rfl, h0, rfl⟩
 case round =>
  obtain ⟨i, hi, him, rfl, hR, hwr⟩ := hrel
  subst hwr
  clear h0
  by_cases hlt : i < l.length
  ·
   have d1 := hx1.out i hlt
   obtain ⟨b, o, cap, hv, hb, x0⟩ := hcl.out i hlt
   injection hv with hv _ hv3
   subst hv hv3
   have k0 : (0 : Int) ≤ (i : Int) := by omega
   have k1 : (i : Int) < (l.length : Int) := by omega
   have hd : decide ((i : Int) < (l.length : Int)) = true := decide_eq_true k1
   have hw1 : IntKind.i64.wrap ((i : Int) + 1) = (i : Int) + 1 := IntWalk.i64_in _ (by omega)
   by_cases hge : m.length ≤ i
   ·
    have hres : Hid (R = 1) := by
     show _ = _
     rw [hR.out, d1, List.drop_of_length_le hge]
     rfl
    have hd2 : decide (m.length ≤ i) = true := decide_eq_true hge
    have hd3 : decide ((i : Int) ≥ (m.length : Int)) = true := decide_eq_true (by omega)
    clear hcl hcm hx1 hx2 d1 hR
    go_wp2_with fail
    go_ret
    exact ⟨by rw [hres.out]; rfl, rfl⟩
   ·
    have hlm : i < m.length := by omega
    have d2 := hx2.out i hlm
    obtain ⟨b', o', cap', hv', hb', x1⟩ := hcm.out i hlm
    injection hv' with hv' _ hv3'
    subst hv' hv3'
    have hd2 : decide (m.length ≤ i) = false := decide_eq_false hge
    have hd3 : decide ((i : Int) ≥ (m.length : Int)) = false := decide_eq_false (by omega)
    have k2 : (i : Int) < (m.length : Int) := by omega
    have hs : Hid (R = if cmpI l[i]! m[i]! ≠ 0 then cmpI l[i]! m[i]! else cmpL (l.drop (i + 1)) (m.drop (i + 1))) := by
     show _ = _
     rw [hR.out, d1, d2, cmpL_step]
    have hcx := hci l[i]! m[i]! wr
    generalize l[i]! = p at *
    generalize m[i]! = q at *
    generalize hC : cmpI p q = C at hcx hs
    clear hC
    by_cases hc0 : C = 0
    ·
     have hn1 : (C != 0) = false := by simpa using hc0
     have hkk : Hid (R = cmpL (l.drop (i + 1)) (m.drop (i + 1))) := by
      show _ = _
      rw [hs.out, if_neg (by simpa using hc0)]
     clear hcl hcm hx1 hx2 d1 d2 hR hs hci
     replace hc0 := Lib.hid hc0
     go_wp2_with (refine hcx.out.mono ?_; rintro e w' ⟨rfl, rfl⟩)
     exact ⟨⟨i + 1, by omega, by omega, by first | rfl | go_num, hkk, by first | rfl | trivial⟩, by simp [intOf]; omega⟩
    ·
     have hn1 : (C != 0) = true := by simpa using hc0
     have hres : Hid (R = C) := by
      show _ = _
      rw [hs.out, if_pos (by simpa using hc0)]
     clear hcl hcm hx1 hx2 d1 d2 hR hs hci
     go_wp2_with (refine hcx.out.mono ?_; rintro e w' ⟨rfl, rfl⟩)
     go_ret
     exact ⟨by rw [hres.out]; rfl, rfl⟩
  ·
   obtain rfl : i = l.length := by omega
   have hno : decide ((l.length : Int) < (l.length : Int)) = false := by simp
   by_cases hlm : l.length < m.length
   ·
    have hd : decide (l.length < m.length) = true := decide_eq_true hlm
    have hd2 : decide ((l.length : Int) < (m.length : Int)) = true := decide_eq_true (by omega)
    have hres : Hid (R = -1) := by
     show _ = _
     rw [hR.out, List.drop_length, hx2.out _ hlm]
     rfl
    clear hcl hcm hx1 hx2 hR hci
    go_wp2_with fail
    go_ret
    exact ⟨by rw [hres.out]; rfl, rfl⟩
   ·
    have hd : decide (l.length < m.length) = false := decide_eq_false hlm
    have hd2 : decide ((l.length : Int) < (m.length : Int)) = false := decide_eq_false (by omega)
    have hres : Hid (R = 0) := by
     show _ = _
     rw [hR.out, List.drop_length, List.drop_of_length_le (by omega)]
     rfl
    clear hcl hcm hx1 hx2 hR hci
    go_wp2_with fail
    go_ret
    exact ⟨by rw [hres.out]; rfl, rfl⟩
set_option maxHeartbeats 2000000 in
theorem first_any (x y z : Int) (b : Nat) (w : World) (hA : Arr w b 3 [.int .i64 x, .int .i64 y, .int .i64 z]) :
  Calls Tryz.prog 79 #[.slice (some ⟨b, 0, none⟩) 3 3] w fun e w' => e = .returned (.int .i64 (firstI x y z)) ∧ w' = w := by
 have hc := Lib.hid (cmpOr_any x y z b w hA)
 generalize firstI x y z = R at *
 clear hA
 go_enter Tryz.func79, Tryz.ntmps79
 go_wp2_with (refine hc.out.mono ?_; rintro e w' ⟨rfl, rfl⟩)
 go_ret
 exact ⟨rfl, rfl⟩
end Go.Proofs.YtpeandbcdaikbaaGreatDoor
namespace Go.Proofs.YtpeandbcdaikbaaGreatDoor
open Go.RowKit Go.Shelf Go.Maps

attribute [local go_sem] Oper.semAt_some

theorem two_grow (w : World) (o1 o2 o3 : Obj) : ((w.alloc o1).alloc o2).drew.alloc o3 = Go.Sort.grow (w.drewN 1) (#[o1] ++ #[o2] ++ #[o3]) := by
 rw [Go.Sort.alloc_eq_grow, Go.Sort.alloc_eq_grow, Go.Sort.alloc_eq_grow, Go.Sort.grow_grow, ← Go.Sort.grow_grow]
 rfl
set_option maxRecDepth 100000 in
set_option maxHeartbeats 4000000 in
theorem compare_any (x y : Rou) (xe xc ye yc : Value) (w : World) (hx : NumsAt w w.heap.size xe x.edges) (hy : NumsAt w w.heap.size ye y.edges) (hxc : ∃ a n c, xc = .slice a n c) (hyc : ∃ a n c, yc = .slice a n c) :
  Calls Tryz.prog 50 #[.agg #[xe, .int .i64 x.cost, .int .i64 x.life, xc], .agg #[ye, .int .i64 y.cost, .int .i64 y.life, yc]] w fun e w' => e = .returned (.int .i64 (compareP x y)) ∧ ∃ q os', w' = Go.Sort.grow (w.drewN q) os' := by
 obtain ⟨xca, xcn, xcc, rfl⟩ := hxc
 obtain ⟨yca, ycn, ycc, rfl⟩ := hyc
 have hci := fun a b W => Lib.hid (cmpI_any a b W)
 obtain ⟨W, hW⟩ : ∃ W, W = (w.alloc (.cells #[xe, .int .i64 x.cost, .int .i64 x.life, .slice xca xcn xcc] 33)).alloc (.cells #[ye, .int .i64 y.cost, .int .i64 y.life, .slice yca ycn ycc] 33) := ⟨_, rfl⟩
 have hA : Arr W w.heap.size 33 [xe, .int .i64 x.cost, .int .i64 x.life, .slice xca xcn xcc] := by rw [hW]; exact (Arr.new rfl rfl).alloc _
 have hB : Arr W (w.heap.size + 1) 33 [ye, .int .i64 y.cost, .int .i64 y.life, .slice yca ycn ycc] := by rw [hW]; exact Arr.new rfl (by simp)
 have hbW : Below w.heap.size w W := by rw [hW]; exact ((Below.refl _ _).alloc (Nat.le_refl _) _).alloc (by simp) _
 have hcs := Lib.hid (compareS_any xe ye x.edges y.edges W.drew ((hx.later hbW).below (Below.refl _ W).drew (Nat.le_refl _)) ((hy.later hbW).below (Below.refl _ W).drew (Nat.le_refl _)))
 have hfi := fun b W1 => Lib.hid fun (h : Arr W1 b 3 [.int .i64 (cmpI x.cost y.cost), .int .i64 (cmpI y.life x.life), .int .i64 (cmpL x.edges y.edges)]) => first_any (cmpI x.cost y.cost) (cmpI y.life x.life) (cmpL x.edges y.edges) b W1 h
 have hR : compareP x y = firstI (cmpI x.cost y.cost) (cmpI y.life x.life) (cmpL x.edges y.edges) := rfl
 rw [hR]
 clear hR
 obtain ⟨xea, xec, rfl, _, _, _⟩ := hx
 obtain ⟨yea, yec, rfl, _, _, _⟩ := hy
 have hc1 := hci x.cost y.cost W.drew
 have hc2 := hci y.life x.life W.drew
 clear hci
 generalize cmpI x.cost y.cost = c1 at *
 generalize cmpI y.life x.life = c2 at *
 generalize cmpL x.edges y.edges = c3 at *
 generalize firstI c1 c2 c3 = R at *
 obtain ⟨xs, xco, xl, xcl⟩ := x
 obtain ⟨ys, yco, yl, ycl⟩ := y
 dsimp only at *
 have a0 : W.drew.cell? ⟨w.heap.size, 0, none⟩ = some (.slice xea xs.length xec) := hA.cell rfl
 have a1 : W.drew.cell? ⟨w.heap.size, 1, none⟩ = some (.int .i64 xco) := hA.cell rfl
 have a2 : W.drew.cell? ⟨w.heap.size, 2, none⟩ = some (.int .i64 xl) := hA.cell rfl
 have b0 : W.drew.cell? ⟨w.heap.size + 1, 0, none⟩ = some (.slice yea ys.length yec) := hB.cell rfl
 have b1 : W.drew.cell? ⟨w.heap.size + 1, 1, none⟩ = some (.int .i64 yco) := hB.cell rfl
 have b2 : W.drew.cell? ⟨w.heap.size + 1, 2, none⟩ = some (.int .i64 yl) := hB.cell rfl
 have hbW2 : Hid (Below W.drew.heap.size W.drew (W.drew.alloc (.cells #[.int .i64 c1, .int .i64 c2, .int .i64 c3] 3))) := (Below.refl _ _).alloc (Nat.le_refl _) _
 have hl1 : w.heap.size < W.drew.heap.size := hA.lt
 have hl2 : w.heap.size + 1 < W.drew.heap.size := hB.lt
 have hend : Hid (∃ q os', W.drew.alloc (.cells #[.int .i64 c1, .int .i64 c2, .int .i64 c3] 3) = Go.Sort.grow (w.drewN q) os') := by
  rw [hW]
  exact ⟨1, _, two_grow w _ _ _⟩
 replace hl1 := Lib.hid hl1
 replace hl2 := Lib.hid hl2
 clear hA hB hbW
 go_enter Tryz.func50, Tryz.ntmps50
 go_wp2_with fail
 rw [← hW]
 clear hW
 refine wp_region_held_drew (S := fun w' => w'.cell? ⟨w.heap.size, 0, none⟩ = some (.slice xea xs.length xec) ∧ w'.cell? ⟨w.heap.size, 1, none⟩ = some (.int .i64 xco) ∧ w'.cell? ⟨w.heap.size, 2, none⟩ = some (.int .i64 xl) ∧ w'.cell? ⟨w.heap.size + 1, 0, none⟩ = some (.slice yea ys.length yec) ∧ w'.cell? ⟨w.heap.size + 1, 1, none⟩ = some (.int .i64 yco) ∧ w'.cell? ⟨w.heap.size + 1, 2, none⟩ = some (.int .i64 yl)) (by kernel_rfl) (by exact ⟨a0, a1, a2, b0, b1, b2⟩) (fun hHeld => ?_)
 refine tk 0 ?_ rfl ?_ ?_
 rotate_left
 ·
  intro w hSw; (try dsimp only at hSw); go_simp; (try with_reducible rfl)
 (try simp only [Act.put, setIfInBounds_toArray, set_cons_zero, set_cons_succ])
 refine tk 1 ?_ rfl ?_ ?_
 rotate_left
 ·
  intro w hSw; (try dsimp only at hSw); go_simp; (try with_reducible rfl)
 (try simp only [Act.put, setIfInBounds_toArray, set_cons_zero, set_cons_succ])
 refine tk 2 ?_ rfl ?_ ?_
 rotate_left
 ·
  intro w hSw; (try dsimp only at hSw); go_simp; (try with_reducible rfl)
 (try simp only [Act.put, setIfInBounds_toArray, set_cons_zero, set_cons_succ])
 refine tk 3 ?_ rfl ?_ ?_
 rotate_left
 ·
  intro w hSw; (try dsimp only at hSw); go_simp; (try with_reducible rfl)
 (try simp only [Act.put, setIfInBounds_toArray, set_cons_zero, set_cons_succ])
 refine tk 5 ?_ rfl ?_ ?_
 rotate_left
 ·
  intro w hSw; (try dsimp only at hSw); go_simp; (try with_reducible rfl)
 (try simp only [Act.put, setIfInBounds_toArray, set_cons_zero, set_cons_succ])
 refine tk 6 ?_ rfl ?_ ?_
 rotate_left
 ·
  intro w hSw; (try dsimp only at hSw); go_simp; (try with_reducible rfl)
 (try simp only [Act.put, setIfInBounds_toArray, set_cons_zero, set_cons_succ])
 refine tk 7 ?_ rfl ?_ ?_
 rotate_left
 ·
  intro w hSw; (try dsimp only at hSw); go_simp; (try with_reducible rfl)
 (try simp only [Act.put, setIfInBounds_toArray, set_cons_zero, set_cons_succ])
 refine tk 8 ?_ rfl ?_ ?_
 rotate_left
 ·
  intro w hSw; (try dsimp only at hSw); go_simp; (try with_reducible rfl)
 (try simp only [Act.put, setIfInBounds_toArray, set_cons_zero, set_cons_succ])
 refine tk 10 ?_ rfl ?_ ?_
 rotate_left
 ·
  intro w hSw; (try dsimp only at hSw); go_simp; (try with_reducible rfl)
 (try simp only [Act.put, setIfInBounds_toArray, set_cons_zero, set_cons_succ])
 refine tk 11 ?_ rfl ?_ ?_
 rotate_left
 ·
  intro w hSw; (try dsimp only at hSw); go_simp; (try with_reducible rfl)
 (try simp only [Act.put, setIfInBounds_toArray, set_cons_zero, set_cons_succ])
 refine tk 12 ?_ rfl ?_ ?_
 rotate_left
 ·
  intro w hSw; (try dsimp only at hSw); go_simp; (try with_reducible rfl)
 (try simp only [Act.put, setIfInBounds_toArray, set_cons_zero, set_cons_succ])
 refine tk 13 ?_ rfl ?_ ?_
 rotate_left
 ·
  intro w hSw; (try dsimp only at hSw); go_simp; (try with_reducible rfl)
 (try simp only [Act.put, setIfInBounds_toArray, set_cons_zero, set_cons_succ])
 generalize W.drew = q0 at *
 refine wpAnyH_ready (rs := [4]) (by kernel_rfl) (by simp) ?_
 refine ready_l rfl (fun K hK => ?_) AllReadyH.nil
 go_simp
 go_at_call 80
 refine hc1.out.mono ?_
 rintro e q1 ⟨rfl, hq1⟩
 subst hq1
 refine hK.out _ _ (by exact ⟨a0, a1, a2, b0, b1, b2⟩) (fun hHeld2 => ?_)
 clear hK K hHeld
 (try simp only [Act.put, setIfInBounds_toArray, set_cons_zero, set_cons_succ])
 refine wpAnyH_ready (rs := [9]) (by kernel_rfl) (by simp) ?_
 refine ready_l rfl (fun K hK => ?_) AllReadyH.nil
 go_simp
 go_at_call 80
 refine hc2.out.mono ?_
 rintro e q2 ⟨rfl, hq1⟩
 subst hq1
 refine hK.out _ _ (by exact ⟨a0, a1, a2, b0, b1, b2⟩) (fun hHeld3 => ?_)
 clear hK K hHeld2
 (try simp only [Act.put, setIfInBounds_toArray, set_cons_zero, set_cons_succ])
 refine wpAnyH_ready (rs := [14]) (by kernel_rfl) (by simp) ?_
 refine ready_l rfl (fun K hK => ?_) AllReadyH.nil
 go_simp
 go_at_call 81
 refine hcs.out.mono ?_
 rintro e q3 ⟨rfl, hq1⟩
 subst hq1
 refine hK.out _ _ (by exact ⟨a0, a1, a2, b0, b1, b2⟩) (fun hHeld4 => ?_)
 clear hK K hHeld3
 (try simp only [Act.put, setIfInBounds_toArray, set_cons_zero, set_cons_succ])
 refine wpAnyH_ready (rs := [15]) (by kernel_rfl) (by simp) ?_
 refine ready_l rfl (fun K hK => ?_) AllReadyH.nil
 go_simp
 have hAr : ∀ q : World, Arr (q.alloc (.cells #[.int .i64 c1, .int .i64 c2, .int .i64 c3] 3)) q.heap.size 3 [.int .i64 c1, .int .i64 c2, .int .i64 c3] := fun q => Arr.new rfl rfl
 have hfq := Lib.hid ((hfi _ _).out (hAr q3))
 have hkeep : Hid (∀ a : Addr, a.block < q3.heap.size → ∀ v, q3.cell? a = some v → (q3.alloc (.cells #[.int .i64 c1, .int .i64 c2, .int .i64 c3] 3)).cell? a = some v) := fun a ha v hv => (hbW2.out.cell ha).trans hv
 generalize q3.alloc (.cells #[.int .i64 c1, .int .i64 c2, .int .i64 c3] 3) = q4 at *
 have g0 := hkeep.out _ hl1.out _ a0
 have g1 := hkeep.out _ hl1.out _ a1
 have g2 := hkeep.out _ hl1.out _ a2
 have g3 := hkeep.out _ hl2.out _ b0
 have g4 := hkeep.out _ hl2.out _ b1
 have g5 := hkeep.out _ hl2.out _ b2
 refine hK.out _ _ (by exact ⟨g0, g1, g2, g3, g4, g5⟩) (fun hHeld5 => ?_)
 clear hK K hHeld4
 (try simp only [Act.put, setIfInBounds_toArray, set_cons_zero, set_cons_succ])
 refine wpAnyH_ready (rs := [16]) (by kernel_rfl) (by simp) ?_
 refine ready_l rfl (fun K hK => ?_) AllReadyH.nil
 go_simp
 go_at_call 79
 refine hfq.out.mono ?_
 rintro e q5 ⟨rfl, hq1⟩
 subst hq1
 refine hK.out _ _ (by exact ⟨g0, g1, g2, g3, g4, g5⟩) (fun hHeld6 => ?_)
 clear hK K hHeld5
 (try simp only [Act.put, setIfInBounds_toArray, set_cons_zero, set_cons_succ])
 refine tk 17 ?_ rfl ?_ ?_
 rotate_left
 ·
  intro w hSw; (try dsimp only at hSw); go_simp; (try with_reducible rfl)
 (try simp only [Act.put, setIfInBounds_toArray, set_cons_zero, set_cons_succ])
 refine wpAnyH_done (by kernel_rfl) ?_ _
 go_wp2_with fail
 go_ret
 exact ⟨rfl, hend.out⟩
end Go.Proofs.YtpeandbcdaikbaaGreatDoor
