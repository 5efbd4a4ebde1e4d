/-
  The contract of performance.Compare at equal performances, ordered.
-/
import Derived.Test.YtocpnlifmeffkaaGreatDoorUL
namespace Go.Proofs.YtocpnlifmeffkaaGreatDoor
open Go.RowKit Go.Shelf Go.Maps Go.ChangeShapes Go.ChangeMaps

attribute [local go_sem] Oper.semAt_some

theorem info_bool1 : (Tryz.prog.info? 4).map (fun i => (i.zero, i.size, i.bytes)) = some (some (.bool false), 1, 1) := by kernel_rfl
/-- All that was looked at so far fits. -/
structure FitI (ws wr : World) (k : Nat) (f : Value) : Prop where
  below : Below ws.heap.size ws wr
  row : wr.ownsRow ws.heap.size 4 1 f k (List.replicate k (.bool true))
set_option maxRecDepth 100000 in
set_option maxHeartbeats 8000000 in
theorem CompareO_any (K s : Int) (u v : Value) (l : List Ev) (w : World) (hr : RelOk K s) (hok : EvsOk l) (hu : SliceAt w w.heap.size u l.length (evCells l)) (hv : SliceAt w w.heap.size v l.length (evCells l)) :
    Calls Tryz.prog 13 #[relV K s true, u, v] w fun e w' => e = .returned (.tuple #[.int .i64 0, .bool true]) ∧ Below w.heap.size w w' := by
  obtain ⟨i0, hi, hz0, hz1, hz2⟩ := info_parts info_bool1
  have hVal := Lib.hid fun W => pValid_any K s true W hr
  have hcu := Lib.hid fun W (hb : Below w.heap.size w W) => Counted_any K s true u l W hr hok.len (hu.later hb)
  have hcv := Lib.hid fun W (hb : Below w.heap.size w W) => Counted_any K s true v l W hr hok.len (hv.later hb)
  have hokm := Lib.hid (hok.filter (hasB K))
  generalize l.filter (hasB K) = m at *
  obtain ⟨au, cu, rfl, _⟩ := hu
  obtain ⟨av, cv, rfl, _⟩ := hv
  unfold relV at *
  have hA : Arr (w.alloc (.cells #[.int .i64 K, .int .i64 s, .bool true] 29)) w.heap.size 29 [.int .i64 K, .int .i64 s, .bool true] := Arr.new rfl rfl
  have hb0 : Below w.heap.size w (w.alloc (.cells #[.int .i64 K, .int .i64 s, .bool true] 29)) := (Below.refl _ _).alloc (Nat.le_refl _) _
  replace hA := Lib.hid hA
  replace hb0 := Lib.hid hb0
  go_enter Tryz.func13, Tryz.ntmps13
  go_wp2_with (go_at_call 36; refine (hVal.out _).mono ?_; rintro e w1 ⟨rfl, hb1⟩)
  have hA1 := hA.out.below hb1
  have hB1 := hb0.out.trans (hb1.mono hb0.out.size)
  clear hA hb0 hb1 hVal
  refine wp_region_held_drew (S := fun w' => w'.cell? ⟨w.heap.size, 0, none⟩ = some (.int .i64 K) ∧ w'.cell? ⟨w.heap.size, 1, none⟩ = some (.int .i64 s) ∧ w'.cell? ⟨w.heap.size, 2, none⟩ = some (.bool true)) (by kernel_rfl) (by exact ⟨hA1.cell rfl, hA1.cell rfl, hA1.cell rfl⟩) (fun hHeld => ?_)
  clear hHeld
  obtain ⟨wd, hwd⟩ : ∃ wd, wd = w1.drew := ⟨_, rfl⟩
  rw [← hwd]
  have hAd : Arr wd w.heap.size 29 [.int .i64 K, .int .i64 s, .bool true] := by rw [hwd]; exact hA1.drew
  have hBd : Below w.heap.size w wd := by rw [hwd]; exact hB1.drew
  have hHeld : wd.cell? ⟨w.heap.size, 0, none⟩ = some (.int .i64 K) ∧ wd.cell? ⟨w.heap.size, 1, none⟩ = some (.int .i64 s) ∧ wd.cell? ⟨w.heap.size, 2, none⟩ = some (.bool true) := ⟨hAd.cell rfl, hAd.cell rfl, hAd.cell rfl⟩
  clear hwd hA1 hB1
  refine tk 0 ?_ rfl ?_ ?_
  rotate_left
  · intro w hSw; (try dsimp only at hSw); go_simp; (try with_reducible rfl)
  (try simp only [Act.put, List.setIfInBounds_toArray, List.set_cons_zero, List.set_cons_succ])
  refine tk 1 ?_ rfl ?_ ?_
  rotate_left
  · intro w hSw; (try dsimp only at hSw); go_simp; (try with_reducible rfl)
  (try simp only [Act.put, List.setIfInBounds_toArray, List.set_cons_zero, List.set_cons_succ])
  refine tk 3 ?_ rfl ?_ ?_
  rotate_left
  · intro w hSw; (try dsimp only at hSw); go_simp; (try with_reducible rfl)
  (try simp only [Act.put, List.setIfInBounds_toArray, List.set_cons_zero, List.set_cons_succ])
  refine tk 4 ?_ rfl ?_ ?_
  rotate_left
  · intro w hSw; (try dsimp only at hSw); go_simp; (try with_reducible rfl)
  (try simp only [Act.put, List.setIfInBounds_toArray, List.set_cons_zero, List.set_cons_succ])
  refine wpAnyH_ready (rs := [2]) (by kernel_rfl) (by simp) ?_
  refine ready_l rfl (fun K hK => ?_) AllReadyH.nil
  go_simp
  refine (hcu.out _ hBd).mono ?_
  rintro e w2 ⟨c, rfl, hcown, hb2⟩
  have hA2 := hAd.below hb2
  have hB2 := hBd.trans (hb2.mono hBd.size)
  refine hK.out _ _ (by exact ⟨hA2.cell rfl, hA2.cell rfl, hA2.cell rfl⟩) (fun hHeld => ?_)
  clear hK K
  (try simp only [Act.put, List.setIfInBounds_toArray, List.set_cons_zero, List.set_cons_succ])
  refine wpAnyH_ready (rs := [5]) (by kernel_rfl) (by simp) ?_
  refine ready_l rfl (fun K hK => ?_) AllReadyH.nil
  go_simp
  refine (hcv.out _ hB2).mono ?_
  rintro e w3 ⟨d, rfl, hdown, hb3⟩
  have hA3 := hA2.below hb3
  have hB3 := hB2.trans (hb3.mono hB2.size)
  refine hK.out _ _ (by exact ⟨hA3.cell rfl, hA3.cell rfl, hA3.cell rfl⟩) (fun hHeld => ?_)
  clear hK K
  (try simp only [Act.put, List.setIfInBounds_toArray, List.set_cons_zero, List.set_cons_succ])
  refine tk 6 ?_ rfl ?_ ?_
  rotate_left
  · intro w hSw; (try dsimp only at hSw); go_simp; (try with_reducible rfl)
  (try simp only [Act.put, List.setIfInBounds_toArray, List.set_cons_zero, List.set_cons_succ])
  refine tk 7 ?_ rfl ?_ ?_
  rotate_left
  · intro w hSw; (try dsimp only at hSw); go_simp; (try with_reducible rfl)
  (try simp only [Act.put, List.setIfInBounds_toArray, List.set_cons_zero, List.set_cons_succ])
  refine wpAnyH_done (by kernel_rfl) ?_ _
  obtain ⟨ac, cc, rfl, hc1, hc2, hcc⟩ := sliceCells (sliceAt_of_own (own_below hcown hb3))
  obtain ⟨ad, cd, rfl, hd1, hd2, hdc⟩ := sliceCells (sliceAt_of_own hdown)
  unfold maxLen at hc2 hd2
  replace hcc := Lib.hid hcc
  replace hdc := Lib.hid hdc
  have hml := hokm.out.len
  obtain ⟨hR0, hR1, hR2⟩ := hHeld
  clear hcu hcv hb2 hb3 hcown hdown hA2 hB2 hBd hAd
  have hof := Lib.hid of_any
  have hcl := Lib.hid fun t W (ht : 0 ≤ t) (ht2 : t ≤ 20000) => close_any K s true t W hr.2.1 hr.2.2 ht ht2
  unfold relV at hcl
  go_wp2_with fail
  go_loopw [10, 32] (fun f i wr => ∃ (k : Nat) (fv : Value), k ≤ m.length ∧ i = .int .i64 k ∧ fv = f ∧ Hid (FitI w3 wr k fv)) (fun _ i _ => m.length - (intOf i).toNat)
  case atStart => exact ⟨0, _, Nat.zero_le _, rfl, rfl, Lib.hid ⟨Below.refl _ _, World.ownsRow_nil _ _ _ _⟩⟩
  case round =>
    obtain ⟨k, fv, hk, rfl, rfl, hh⟩ := hrel
    obtain ⟨hB, hrow⟩ := hh.out
    clear hh
    by_cases hlt : k < m.length
    · have hd : decide ((k : Int) < (m.length : Int)) = true := by simp; omega
      obtain ⟨b, ob, hab, hbl, hcell⟩ := hcc.out k hlt
      subst hab
      obtain ⟨c0, c1, c2, c3⟩ := hcell wr (hB.block b hbl)
      obtain ⟨b', ob', hab', hbl', hcell'⟩ := hdc.out k hlt
      subst hab'
      have hmem : m[k]! ∈ m := by rw [getElem!_pos m k hlt]; exact List.getElem_mem _
      have hev := hokm.out.all _ hmem
      generalize hx : m[k]! = x at *
      replace hx := Lib.hid hx
      have hA3r := hA3.below hB
      have hev1 := hev.1
      replace hcell' := Lib.hid hcell'
      go_wp2_with fail
      refine name_wp ?_
      intro Wa hWa
      have hbwa : Below wr.heap.size wr Wa := by rw [hWa]; exact (Below.refl _ _).alloc (Nat.le_refl _) _
      have hAe0 : Arr Wa wr.heap.size 60 [.int .i64 x.t, .int .i64 x.k, .int .i64 x.a, .int .i64 x.b] := by rw [hWa]; exact Arr.new rfl rfl
      have hAe1 := hAe0
      clear hWa c0 c1 c2 c3 hcell
      have hSS : ∀ W', Below Wa.heap.size Wa W' → (W'.cell? ⟨w.heap.size, 0, none⟩ = some (.int .i64 K) ∧ W'.cell? ⟨w.heap.size, 1, none⟩ = some (.int .i64 s) ∧ W'.cell? ⟨w.heap.size, 2, none⟩ = some (.bool true)) ∧ (W'.cell? ⟨wr.heap.size, 0, none⟩ = some (.int .i64 x.t) ∧ W'.cell? ⟨wr.heap.size, 1, none⟩ = some (.int .i64 x.k) ∧ W'.cell? ⟨wr.heap.size, 2, none⟩ = some (.int .i64 x.a) ∧ W'.cell? ⟨wr.heap.size, 3, none⟩ = some (.int .i64 x.b)) ∧ (W'.cell? ⟨b', ob' + k * 4, none⟩ = some (.int .i64 x.t) ∧ W'.cell? ⟨b', ob' + k * 4 + 1, none⟩ = some (.int .i64 x.k) ∧ W'.cell? ⟨b', ob' + k * 4 + 2, none⟩ = some (.int .i64 x.a) ∧ W'.cell? ⟨b', ob' + k * 4 + 3, none⟩ = some (.int .i64 x.b)) := fun W' h => by
        have hwrW := hbwa.trans (h.mono hbwa.size)
        have hA4 := hA3r.below hwrW
        have hA5 := hAe0.below h
        exact ⟨⟨hA4.cell rfl, hA4.cell rfl, hA4.cell rfl⟩, ⟨hA5.cell rfl, hA5.cell rfl, hA5.cell rfl, hA5.cell rfl⟩, hcell'.out W' ((hwrW.block b' (by have := hB.size; omega)).trans (hB.block b' hbl'))⟩
      replace hSS := Lib.hid hSS
      refine wp_region_held_drew (S := fun W' => (W'.cell? ⟨w.heap.size, 0, none⟩ = some (.int .i64 K) ∧ W'.cell? ⟨w.heap.size, 1, none⟩ = some (.int .i64 s) ∧ W'.cell? ⟨w.heap.size, 2, none⟩ = some (.bool true)) ∧ (W'.cell? ⟨wr.heap.size, 0, none⟩ = some (.int .i64 x.t) ∧ W'.cell? ⟨wr.heap.size, 1, none⟩ = some (.int .i64 x.k) ∧ W'.cell? ⟨wr.heap.size, 2, none⟩ = some (.int .i64 x.a) ∧ W'.cell? ⟨wr.heap.size, 3, none⟩ = some (.int .i64 x.b)) ∧ (W'.cell? ⟨b', ob' + k * 4, none⟩ = some (.int .i64 x.t) ∧ W'.cell? ⟨b', ob' + k * 4 + 1, none⟩ = some (.int .i64 x.k) ∧ W'.cell? ⟨b', ob' + k * 4 + 2, none⟩ = some (.int .i64 x.a) ∧ W'.cell? ⟨b', ob' + k * 4 + 3, none⟩ = some (.int .i64 x.b))) (by kernel_rfl) (by exact hSS.out _ (Below.refl _ _).drew) (fun hHeld => ?_)
      clear hHeld
      obtain ⟨Wb, hWb⟩ : ∃ Wb, Wb = Wa.drew := ⟨_, rfl⟩
      rw [← hWb]
      have hbb : Below Wa.heap.size Wa Wb := by rw [hWb]; exact (Below.refl _ _).drew
      have hHeld := hSS.out _ hbb
      clear hWb hAe0
      have heqx : ∀ W, (binOp .eql 101 (clsV x) (clsV x)).run Tryz.prog W = .ok (.bool true) W := fun W => by unfold clsV; go_simp
      have hgux : ∀ (o1 o2 : Operand) (W : World), (eqGuard BinOp.eql 101 o1 o2 (clsV x) (clsV x)).run Tryz.prog W = .ok () W := fun o1 o2 W => by unfold clsV; go_simp
      have hofx := Lib.hid fun W => hof.out x W
      have hclx := Lib.hid fun W => hcl.out x.t W hev1.1 hev1.2
      have hdk : decide ((k : Int) < (m.length : Int)) = true := hd
      refine tk 0 ?_ rfl ?_ ?_
      rotate_left
      · intro w hSw; (try dsimp only at hSw); go_simp; (try with_reducible rfl)
      (try simp only [Act.put, List.setIfInBounds_toArray, List.set_cons_zero, List.set_cons_succ])
      refine tk 1 ?_ rfl ?_ ?_
      rotate_left
      · intro w hSw; (try dsimp only at hSw); go_simp; (try with_reducible rfl)
      (try simp only [Act.put, List.setIfInBounds_toArray, List.set_cons_zero, List.set_cons_succ])
      refine tk 2 ?_ rfl ?_ ?_
      rotate_left
      · intro w hSw; (try dsimp only at hSw); go_simp; (try with_reducible rfl)
      (try simp only [Act.put, List.setIfInBounds_toArray, List.set_cons_zero, List.set_cons_succ])
      refine tk 3 ?_ rfl ?_ ?_
      rotate_left
      · intro w hSw; (try dsimp only at hSw); go_simp; (try with_reducible rfl)
      (try simp only [Act.put, List.setIfInBounds_toArray, List.set_cons_zero, List.set_cons_succ])
      refine tk 4 ?_ rfl ?_ ?_
      rotate_left
      · intro w hSw; (try dsimp only at hSw); go_simp; (try with_reducible rfl)
      (try simp only [Act.put, List.setIfInBounds_toArray, List.set_cons_zero, List.set_cons_succ])
      refine tk 5 ?_ rfl ?_ ?_
      rotate_left
      · intro w hSw; (try dsimp only at hSw); go_simp; (try with_reducible rfl)
      (try simp only [Act.put, List.setIfInBounds_toArray, List.set_cons_zero, List.set_cons_succ])
      refine tk 6 ?_ rfl ?_ ?_
      rotate_left
      · intro w hSw; (try dsimp only at hSw); go_simp; (try with_reducible rfl)
      (try simp only [Act.put, List.setIfInBounds_toArray, List.set_cons_zero, List.set_cons_succ])
      refine tk 8 ?_ rfl ?_ ?_
      rotate_left
      · intro w hSw; (try dsimp only at hSw); go_simp; (try with_reducible rfl)
      (try simp only [Act.put, List.setIfInBounds_toArray, List.set_cons_zero, List.set_cons_succ])
      refine tk 9 ?_ rfl ?_ ?_
      rotate_left
      · intro w hSw; (try dsimp only at hSw); go_simp; (try with_reducible rfl)
      (try simp only [Act.put, List.setIfInBounds_toArray, List.set_cons_zero, List.set_cons_succ])
      refine tk 10 ?_ rfl ?_ ?_
      rotate_left
      · intro w hSw; (try dsimp only at hSw); go_simp; (try with_reducible rfl)
      (try simp only [Act.put, List.setIfInBounds_toArray, List.set_cons_zero, List.set_cons_succ])
      refine tk 11 ?_ rfl ?_ ?_
      rotate_left
      · intro w hSw; (try dsimp only at hSw); go_simp; (try with_reducible rfl)
      (try simp only [Act.put, List.setIfInBounds_toArray, List.set_cons_zero, List.set_cons_succ])
      refine wpAnyH_ready (rs := [7]) (by kernel_rfl) (by simp) ?_
      refine ready_l rfl (fun K hK => ?_) AllReadyH.nil
      go_simp
      refine (hofx.out _).mono ?_
      rintro e W1 ⟨rfl, hbq⟩
      have hb1 := hbb.trans (hbq.mono hbb.size)
      clear hbq
      refine hK.out _ _ (by exact hSS.out _ hb1) (fun hHeld => ?_)
      clear hK K
      (try simp only [Act.put, List.setIfInBounds_toArray, List.set_cons_zero, List.set_cons_succ])
      refine wpAnyH_ready (rs := [12]) (by kernel_rfl) (by simp) ?_
      refine ready_l rfl (fun K hK => ?_) AllReadyH.nil
      go_simp
      refine (hofx.out _).mono ?_
      rintro e W2 ⟨rfl, hbq⟩
      have hb2 := hb1.trans (hbq.mono hb1.size)
      clear hbq
      refine hK.out _ _ (by exact hSS.out _ hb2) (fun hHeld => ?_)
      clear hK K
      (try simp only [Act.put, List.setIfInBounds_toArray, List.set_cons_zero, List.set_cons_succ])
      refine tk 13 ?_ rfl ?_ ?_
      rotate_left
      · intro w hSw; (try dsimp only at hSw); go_simp; (try with_reducible rfl)
      (try simp only [Act.put, List.setIfInBounds_toArray, List.set_cons_zero, List.set_cons_succ])
      refine tk 14 ?_ rfl ?_ ?_
      rotate_left
      · intro w hSw; (try dsimp only at hSw); go_simp; (try with_reducible rfl)
      (try simp only [Act.put, List.setIfInBounds_toArray, List.set_cons_zero, List.set_cons_succ])
      refine tk 15 ?_ rfl ?_ ?_
      rotate_left
      · intro w hSw; (try dsimp only at hSw); go_simp; (try with_reducible rfl)
      (try simp only [Act.put, List.setIfInBounds_toArray, List.set_cons_zero, List.set_cons_succ])
      refine tk 16 ?_ rfl ?_ ?_
      rotate_left
      · intro w hSw; (try dsimp only at hSw); go_simp; (try with_reducible rfl)
      (try simp only [Act.put, List.setIfInBounds_toArray, List.set_cons_zero, List.set_cons_succ])
      refine tk 17 ?_ rfl ?_ ?_
      rotate_left
      · intro w hSw; (try dsimp only at hSw); go_simp; (try with_reducible rfl)
      (try simp only [Act.put, List.setIfInBounds_toArray, List.set_cons_zero, List.set_cons_succ])
      refine tk 18 ?_ rfl ?_ ?_
      rotate_left
      · intro w hSw; (try dsimp only at hSw); go_simp; (try with_reducible rfl)
      (try simp only [Act.put, List.setIfInBounds_toArray, List.set_cons_zero, List.set_cons_succ])
      refine tk 19 ?_ rfl ?_ ?_
      rotate_left
      · intro w hSw; (try dsimp only at hSw); go_simp; (try with_reducible rfl)
      (try simp only [Act.put, List.setIfInBounds_toArray, List.set_cons_zero, List.set_cons_succ])
      refine tk 20 ?_ rfl ?_ ?_
      rotate_left
      · intro w hSw; (try dsimp only at hSw); go_simp; (try with_reducible rfl)
      (try simp only [Act.put, List.setIfInBounds_toArray, List.set_cons_zero, List.set_cons_succ])
      refine tk 21 ?_ rfl ?_ ?_
      rotate_left
      · intro w hSw; (try dsimp only at hSw); go_simp; (try with_reducible rfl)
      (try simp only [Act.put, List.setIfInBounds_toArray, List.set_cons_zero, List.set_cons_succ])
      refine tk 22 ?_ rfl ?_ ?_
      rotate_left
      · intro w hSw; (try dsimp only at hSw); go_simp; (try with_reducible rfl)
      (try simp only [Act.put, List.setIfInBounds_toArray, List.set_cons_zero, List.set_cons_succ])
      refine tk 23 ?_ rfl ?_ ?_
      rotate_left
      · intro w hSw; (try dsimp only at hSw); go_simp; (try with_reducible rfl)
      (try simp only [Act.put, List.setIfInBounds_toArray, List.set_cons_zero, List.set_cons_succ])
      refine wpAnyH_ready (rs := [24]) (by kernel_rfl) (by simp) ?_
      refine ready_l rfl (fun K hK => ?_) AllReadyH.nil
      go_simp
      refine (hclx.out _).mono ?_
      rintro e W3 ⟨rfl, hbq⟩
      have hb3 := hb2.trans (hbq.mono hb2.size)
      clear hbq
      refine hK.out _ _ (by exact hSS.out _ hb3) (fun hHeld => ?_)
      clear hK K
      (try simp only [Act.put, List.setIfInBounds_toArray, List.set_cons_zero, List.set_cons_succ])
      refine tk 25 ?_ rfl ?_ ?_
      rotate_left
      · intro w hSw; (try dsimp only at hSw); go_simp; (try with_reducible rfl)
      (try simp only [Act.put, List.setIfInBounds_toArray, List.set_cons_zero, List.set_cons_succ])
      refine wpAnyH_ready (rs := [26]) (by kernel_rfl) (by simp) ?_
      refine ready_l rfl (fun K hK => ?_) AllReadyH.nil
      go_simp
      refine name_K ?_
      intro W4 hW4
      have hb4 : Below Wa.heap.size Wa W4 := by rw [hW4]; exact hb3.alloc hb3.size _
      have hAn : Arr W4 W3.heap.size 4 [.bool true] := by rw [hW4]; exact Arr.new rfl rfl
      clear hW4
      refine hK.out _ _ (by exact hSS.out _ hb4) (fun hHeld => ?_)
      clear hK K
      (try simp only [Act.put, List.setIfInBounds_toArray, List.set_cons_zero, List.set_cons_succ])
      have hwr4 := hbwa.trans (hb4.mono hbwa.size)
      have hrow4 := own_below hrow hwr4
      have hw34 := hB.trans (hwr4.mono hB.size)
      obtain ⟨v', W5, hrA, hownA, hgA, _, _⟩ := run_append_own_at (P := Tryz.prog) W4 w3.heap.size 99 99 4 i0 (.bool false) 1 1 Tryz.underlying99 hi hz0 hz1 hz2 rfl (by decide) fv k (List.replicate k (.bool true)) hrow4 ⟨W3.heap.size, 0, none⟩ 1 1 [.bool true] rfl (fun q y hq => by rw [Addr.add_mid, Nat.zero_add]; exact hAn.cell hq) (by simp [Value.oneCell']) (by unfold maxLen; omega) (by omega) hw34.size
      have hw35 : Below w3.heap.size w3 W5 := hw34.grown hgA hw34.size fun q eq => by
        rcases hrow4.2 with ⟨rfl, _⟩ | ⟨g, cap, cur, rfl, hg, _, _⟩
        · cases eq
        · have : g = q := by simpa [Value.ownBlock] using eq
          omega
      have hE5 := ((hAe1.below hb4).grown hrow4 (by decide) hgA)
      have hR5 := hA3.below hw35
      have hD5 := hcell'.out W5 (hw35.block b' hbl')
      have hrow5 : W5.ownsRow w3.heap.size 4 1 v' (k + 1) (List.replicate (k + 1) (.bool true)) := by rw [List.replicate_succ']; exact hownA
      refine wpAnyH_ready (rs := [27]) (by kernel_rfl) (by simp) ?_
      refine ready_l rfl (fun K hK => ?_) AllReadyH.nil
      refine step_append_known rfl (.tmp 37) (.tmp 63) 99 99 rfl fv (.slice (some ⟨W3.heap.size, 0, none⟩) 1 1) (by first | rfl | go_simp) (by first | rfl | go_simp) hrA ?_
      (try simp only [Act.put, List.setIfInBounds_toArray, List.set_cons_zero, List.set_cons_succ])
      refine hK.out _ _ (by exact ⟨⟨hR5.cell rfl, hR5.cell rfl, hR5.cell rfl⟩, ⟨hE5.cell rfl, hE5.cell rfl, hE5.cell rfl, hE5.cell rfl⟩, hD5⟩) (fun hHeld => ?_)
      clear hK K
      (try simp only [Act.put, List.setIfInBounds_toArray, List.set_cons_zero, List.set_cons_succ])
      refine tk 28 ?_ rfl ?_ ?_
      rotate_left
      · intro w hSw; (try dsimp only at hSw); go_simp; (try with_reducible rfl)
      (try simp only [Act.put, List.setIfInBounds_toArray, List.set_cons_zero, List.set_cons_succ])
      refine wpAnyH_done (by kernel_rfl) ?_ _
      go_wp2_with fail
      exact ⟨⟨k + 1, v', by omega, by first | rfl | (congr 1; omega), rfl, Lib.hid ⟨hw35, hrow5⟩⟩, by simp [intOf]; omega⟩
    · obtain rfl : k = m.length := by omega
      have hd : decide ((m.length : Int) < (m.length : Int)) = false := by simp
      have hidx := Lib.hid (indexB_any fv m.length wr (by omega) (sliceAt_of_own hrow))
      go_wp2_with (go_at_call 41; refine hidx.out.mono ?_; rintro e w5 ⟨rfl, rfl⟩)
      go_ret2
      exact ⟨rfl, hB3.trans (hB.mono hB3.size)⟩
end Go.Proofs.YtocpnlifmeffkaaGreatDoor
