/-
  The contract of performance.byClass: groups.
  Look-ups in maps of groups; what counts of a performance.
-/
import Derived.Test.YtocpnlifmeffkaaGreatDoorUK
namespace Go.Proofs.YtocpnlifmeffkaaGreatDoor
open Go.RowKit Go.Shelf Go.Maps Go.ChangeShapes Go.ChangeMaps

attribute [local go_sem] Oper.semAt_some

/-- What is grouped so far: the events' slice lies in the call's first block, the map in its second. -/
structure GrpI (w wr : World) (v : Value) (m : List Ev) (j : Nat) (D : DataW Unit) : Prop where
  below : Below w.heap.size w wr
  box : Arr wr w.heap.size 25 [v]
  own : wr.ownsGroups Tryz.prog 101 (w.heap.size + 2) 3 .i64 (w.heap.size + 1) j D
  grp : GrpD m j D
theorem grown_of_below {w w' : World} (hb : Below w.heap.size w w') (row : Option Nat) : w.grownBy w' row := ⟨hb.os, hb.tape, hb.output, hb.size, fun i hi _ => hb.block i hi⟩
theorem groups_below {H : Type} {P : Program} {k : TypeId} {W W' : World} {base : Nat} {e : TypeId} {q : IntKind} {b n : Nat} {D : DataW H} (h : W.ownsGroups P k base e q b n D) (hb : Below W.heap.size W W') : W'.ownsGroups P k base e q b n D :=
  h.kept (grown_of_below hb none) (by simp) (fun _ _ _ x _ => by cases x.val.ownBlock <;> simp)
theorem ints_below {W W' : World} {base : Nat} {e : TypeId} {q : IntKind} {v : Value} {zs : List Int} (h : W.ownsInts base e q v zs) (hb : Below W.heap.size W W') : W'.ownsInts base e q v zs := ⟨own_below h.1 hb, h.2⟩
theorem zeroS (w : World) : (zeroValue 89).run Tryz.prog w = .ok (.slice none 0 0) w := by kernel_rfl
theorem intsN_snoc (l : List Nat) (j : Nat) : intsN (l ++ [j]) = intsN l ++ [(j : Int)] := by simp [intsN]
theorem GrpI.later {w wr W : World} {v : Value} {m : List Ev} {j : Nat} {D : DataW Unit} (h : GrpI w wr v m j D) (hb : Below wr.heap.size wr W) : GrpI w W v m j D :=
  ⟨h.below.trans (hb.mono h.below.size), h.box.below hb, groups_below h.own hb, h.grp⟩
theorem GrpI.next {w wr WL W' W2 : World} {v u v' : Value} {m : List Ev} {j : Nat} {D : DataW Unit} {zs : List Int} (hI : GrpI w wr v m j D) (hb : Below wr.heap.size wr WL) (hev : evOk m[j]!)
    (hat : D.atKey (keyL m[j]!) .nil = rowDatum .i64 u zs) (hoi : WL.ownsInts (w.heap.size + 2) 3 .i64 u zs) (hgA : WL.grownBy W' u.ownBlock) (hown' : W'.ownsInts (w.heap.size + 2) 3 .i64 v' (zs ++ [(j : Int)]))
    (hown2 : W2.ownsGroups Tryz.prog 101 (w.heap.size + 2) 3 .i64 (w.heap.size + 1) (j + 1) (D.put (keyL m[j]!) (rowDatum .i64 v' (zs ++ [(j : Int)])))) (hg2 : W'.grownBy W2 (some (w.heap.size + 1))) :
    GrpI w W2 v m (j + 1) (D.put (keyL m[j]!) (rowDatum .i64 v' (zs ++ [(j : Int)]))) := by
  obtain ⟨hB, hbox, hown, hG⟩ := hI
  have hBL := hB.trans (hb.mono hB.size)
  have hD : IsMap D := (groups_map hown).isMap
  have hzs : zs = intsN (places m j (cls3 m[j]!)) := plD_row ((hG.at_ _ hev).symm.trans hat) hoi
  refine ⟨RowKit.Below.groups hBL hoi hgA hg2 hBL.size (by omega) (by omega), ?_, hown2, ?_⟩
  · have h1 := (hbox.below hb).grown hoi.1 (by decide) hgA
    exact (hg2.block _ h1.lt (by simp)).trans h1
  · rw [hown'.datum_pos (by simp), hzs, ← intsN_snoc]
    exact hG.step hD hev
/-- A map of groups, as byClass hands it back. -/
def ClsMap (W : World) (B M : Nat) (m : List Ev) : Prop := ∃ (ws : World) (base n : Nat) (D : DataW Unit), W.ownsMap Tryz.prog 101 (rowElem ws base 3 .i64) M n D ∧ GrpD m m.length D ∧ Below ws.heap.size ws W ∧ B ≤ M ∧ n ≤ 1000
theorem ClsMap.below {W W' : World} {B M : Nat} {m : List Ev} (h : ClsMap W B M m) (hb : Below W.heap.size W W') : ClsMap W' B M m := by
  obtain ⟨ws, base, n, D, ⟨es, clock, h1, h2⟩, hG, hbs, hM, hn⟩ := h
  exact ⟨ws, base, n, D, ⟨es, clock, (hb.block _ (Array.getElem?_eq_some_iff.1 h1).1).trans h1, h2⟩, hG, hbs.trans (hb.mono hbs.size), hM, hn⟩
/-- An entry of such a map. -/
theorem entry_row {ws : World} {base : Nat} {m : List Ev} {D : DataW Unit} {kl : Lit} {c : Value} {y : DataW Unit × List MemPlace} (hG : GrpD m m.length D) (hall : ∀ e ∈ m, evOk e) (hR : rowElem ws base 3 .i64 c = some y) (hat : ∀ zd, D.atKey kl zd = y.1) :
    ∃ i, i < m.length ∧ kl = keyL m[i]! ∧ ∃ g cap, c = .slice (some ⟨g, 0, none⟩) (places m m.length (cls3 m[i]!)).length cap ∧ ws.ownsInts base 3 .i64 c (intsN (places m m.length (cls3 m[i]!))) := by
  obtain ⟨i, hi, rfl⟩ := hG.only kl (has_true_of_atKey hat)
  have hmem : m[i]! ∈ m := by rw [getElem!_pos m i hi]; exact List.getElem_mem _
  obtain ⟨zs, ho, rfl⟩ := rowElem_inv hR
  have hz := plD_row ((hG.at_ _ (hall _ hmem)).symm.trans (hat .nil)) ho
  have hin : i ∈ places m m.length (cls3 m[i]!) := places_mem.2 ⟨hi, rfl⟩
  rw [hz] at ho
  have hlen : (intsN (places m m.length (cls3 m[i]!))).length = (places m m.length (cls3 m[i]!)).length := by simp [intsN]
  refine ⟨i, hi, rfl, ?_⟩
  rcases ho.1.2 with ⟨_, h0⟩ | ⟨g, cap, cur, rfl, _⟩
  · rw [hlen] at h0
    rw [List.length_eq_zero_iff] at h0
    rw [h0] at hin
    cases hin
  · exact ⟨g, cap, by rw [hlen], ho⟩
theorem inOrder_le {l : List Ev} (h : inOrder l = true) : ∀ {i j : Nat}, i ≤ j → j < l.length → l[i]!.t ≤ l[j]!.t := by
  intro i j hij hj
  induction j with
  | zero => obtain rfl : i = 0 := by omega
            exact Int.le_refl _
  | succ j ih =>
    by_cases e : i = j + 1
    · subst e; exact Int.le_refl _
    · exact Int.le_trans (ih (by omega) (by omega)) ((inOrder_iff l).1 h j hj)
theorem places_up (m : List Ev) (n : Nat) (c : Int × Int × Int) {i j : Nat} (hij : i ≤ j) (hj : j < (places m n c).length) : (places m n c)[i]! ≤ (places m n c)[j]! := by
  have hp : (places m n c).Pairwise (· ≤ ·) := (List.pairwise_lt_range.imp (fun h => Nat.le_of_lt h)).filter _
  rcases Nat.lt_or_eq_of_le hij with h | h
  · rw [getElem!_pos _ i (by omega), getElem!_pos _ j hj]
    exact List.pairwise_iff_getElem.1 hp i j (by omega) hj h
  · subst h; exact Nat.le_refl _
theorem intsN_cell (l : List Nat) {j : Nat} (hj : j < l.length) : ((intsN l).map (Value.int .i64))[j]? = some (.int .i64 ((l[j]! : Nat) : Int)) := by
  unfold intsN
  rw [List.getElem?_map, List.getElem?_map, List.getElem?_eq_getElem hj, getElem!_pos l j hj]
  rfl
/-- A group's row may be sorted: it is in order. -/
theorem srt_of {ws W : World} {base bx g cap i : Nat} {m : List Ev} (hok : EvsOk m) (ho : ws.ownsInts base 3 .i64 (.slice (some ⟨g, 0, none⟩) (places m m.length (cls3 m[i]!)).length cap) (intsN (places m m.length (cls3 m[i]!)))) (hb : Below ws.heap.size ws W) (hE : ∀ n, EvsAt (W.drewN n) bx m) :
    SrtOk W bx g cap (places m m.length (cls3 m[i]!)) m := by
  have hoW := ints_below ho hb
  have hcap : (places m m.length (cls3 m[i]!)).length ≤ cap ∧ cap ≤ maxLen := by
    rcases ho.1.2 with ⟨h, _⟩ | ⟨g', cap', cur, h, _, _, h1, h2, _⟩
    · cases h
    · have hl : (intsN (places m m.length (cls3 m[i]!))).length = (places m m.length (cls3 m[i]!)).length := by unfold intsN; rw [List.length_map]
      injection h with _ _ h3
      rw [hl] at h1
      rw [h3]
      exact ⟨h1, h2⟩
  unfold maxLen at hcap
  refine ⟨fun j hj => ?_, fun j hj => ?_, fun a b hab hb => ?_, hE, hcap.1, hcap.2, Nat.le_trans (places_len _ _ _) hok.len⟩
  · have := hoW.1.cells (g := g) rfl j _ (intsN_cell _ hj)
    rwa [Addr.add_mid, Nat.zero_add] at this
  · rw [getElem!_pos _ j hj]
    exact (places_mem.1 (List.getElem_mem hj)).1
  · refine inOrder_le hok.ord (places_up _ _ _ hab hb) ?_
    rw [getElem!_pos _ b hb]
    exact (places_mem.1 (List.getElem_mem hb)).1
theorem name_K {K : Act → World → Prop} {a : Act} {w : World} (h : ∀ w', w' = w → K a w') : K a w := h w rfl
theorem step_append_known {P : Program} {ops : Array Oper} {o : Oper} {a : Act} {w : World} {K : Act → World → Prop} {Q : Exit → Act → World → Prop} {E : Prop} (hgd : o.guard = none) (d s : Operand) (t t' : TypeId)
    (ho : o.op = .call { callee := .builtin .append, args := #[d, s], argTypes := #[t, t'] }) (v u : Value) (hd : a.eval d = v) (hs : a.eval s = u) {v' : Value} {w' : World}
    (hr : (Builtin.append_ #[t, t'] o.type #[v, u]).run P w = .ok v' w') (h : K (a.put o.dst v') w') : if Region.wanted o (yielded ops a.tmps) = true then Oper.wp P o a w K Q else E := by
  have hw : Region.wanted o (yielded ops a.tmps) = true := by simp [Region.wanted, hgd]
  rw [if_pos hw]
  unfold Oper.wp execOp
  simp only [ho, resolve, invoke, builtin, Sem.run_bind, Sem.run_pure, Result.andThen_ok, List.map_toArray, List.map_cons, List.map_nil, hd, hs, hr]
  exact h
theorem info_int8 : (Tryz.prog.info? 3).map (fun i => (i.zero, i.size, i.bytes)) = some (some (.int .i64 0), 1, 8) := by kernel_rfl
set_option maxRecDepth 100000 in
set_option maxHeartbeats 8000000 in
theorem byClass_any (v : Value) (m : List Ev) (w : World) (hok : EvsOk m) (hv : SliceAt w w.heap.size v m.length (evCells m)) :
    Calls Tryz.prog 40 #[v] w fun e w' => ∃ M, e = .returned (.map (some M)) ∧ ClsMap w' w.heap.size M m ∧ Below w.heap.size w w' := by
  obtain ⟨i0, hi, hz0, hz1, hz2⟩ := info_parts info_int8
  obtain ⟨a, c, rfl, h1, h2, hc⟩ := sliceCells hv
  unfold maxLen at h2
  have hl1 := hok.len
  have hall := Lib.hid hok.all
  have hord := Lib.hid hok.ord
  have hof := Lib.hid of_any
  have hmm := @run_makeMap Tryz.prog
  replace hc := Lib.hid hc
  clear hv hok
  go_enter Tryz.func40, Tryz.ntmps40
  go_wp2_with fail
  have hst : GrpI w ((w.alloc (.cells #[.slice a m.length c] 25)).alloc (.map #[] 0)) (.slice a m.length c) m 0 (.map []) := by
    refine ⟨((Below.refl _ _).alloc (Nat.le_refl _) _).alloc (by simp) _, (Arr.new rfl rfl).alloc _, ?_, GrpD.start m⟩
    have := World.ownsGroups_made (H := Unit) (w.alloc (.cells #[.slice a m.length c] 25)) Tryz.prog 101 3 .i64
    rwa [World.size_alloc] at this
  replace hst := Lib.hid hst
  clear hmm
  go_loopw [11] (fun i wr => ∃ j : Nat, j ≤ m.length ∧ i = .int .i64 j ∧ Hid (∃ D, GrpI w wr (.slice a m.length c) m j D)) (fun i _ => m.length - (intOf i).toNat)
  case atStart => exact ⟨0, Nat.zero_le _, rfl, Lib.hid ⟨_, hst.out⟩⟩
  case round =>
    obtain ⟨j, hj, rfl, hh⟩ := hrel
    obtain ⟨D, hI⟩ := hh.out
    obtain ⟨hB, hbox, hown, hG⟩ := hI
    have hI : GrpI w wr (.slice a m.length c) m j D := ⟨hB, hbox, hown, hG⟩
    clear hh hst
    by_cases hlt : j < m.length
    · have hd : decide ((j : Int) < (m.length : Int)) = true := by simp; omega
      obtain ⟨b, ob, hav, hbl, hcell⟩ := hc.out j hlt
      subst hav
      obtain ⟨c0, c1, c2, c3⟩ := hcell wr (hB.block b hbl)
      have hmem : m[j]! ∈ m := by rw [getElem!_pos m j hlt]; exact List.getElem_mem _
      have hev := hall.out _ hmem
      have hnext := fun Wb (h : GrpI w Wb (.slice (some ⟨b, ob, none⟩) m.length c) m j D) WL W' W2 u v' zs hb => GrpI.next (wr := Wb) (WL := WL) (W' := W') (W2 := W2) (u := u) (v' := v') (zs := zs) h hb hev
      have hev2 := hev
      generalize hx : m[j]! = x at *
      replace hx := Lib.hid hx
      have hofx := Lib.hid fun W => hof.out x W
      have cb := hbox.cell (j := 0) rfl
      go_wp2_with fail
      refine name_wp ?_
      intro Wa hWa
      have hba : Below wr.heap.size wr Wa := by rw [hWa]; exact (Below.refl _ _).alloc (Nat.le_refl _) _
      have hAe : Arr Wa wr.heap.size 60 [.int .i64 x.t, .int .i64 x.k, .int .i64 x.a, .int .i64 x.b] := by rw [hWa]; exact Arr.new rfl rfl
      have hsa : Wa.heap.size = wr.heap.size + 1 := by rw [hWa]; simp
      clear hWa cb c0 c1 c2 c3
      refine wp_region_held_drew (S := fun w' => w'.cell? ⟨wr.heap.size, 0, none⟩ = some (.int .i64 x.t) ∧ w'.cell? ⟨wr.heap.size, 1, none⟩ = some (.int .i64 x.k) ∧ w'.cell? ⟨wr.heap.size, 2, none⟩ = some (.int .i64 x.a) ∧ w'.cell? ⟨wr.heap.size, 3, none⟩ = some (.int .i64 x.b)) (by kernel_rfl) (by exact ⟨hAe.cell rfl, hAe.cell rfl, hAe.cell rfl, hAe.cell rfl⟩) (fun hHeld => ?_)
      refine tk 0 ?_ rfl ?_ ?_
      rotate_left
      · intro w hSw; (try dsimp only at hSw); go_simp; (try with_reducible rfl)
      (try simp only [Act.put, List.setIfInBounds_toArray, List.set_cons_zero, List.set_cons_succ])
      refine tk 1 ?_ rfl ?_ ?_
      rotate_left
      · intro w hSw; (try dsimp only at hSw); go_simp; (try with_reducible rfl)
      (try simp only [Act.put, List.setIfInBounds_toArray, List.set_cons_zero, List.set_cons_succ])
      refine tk 3 ?_ rfl ?_ ?_
      rotate_left
      · intro w hSw; (try dsimp only at hSw); go_simp; (try with_reducible rfl)
      (try simp only [Act.put, List.setIfInBounds_toArray, List.set_cons_zero, List.set_cons_succ])
      refine tk 4 ?_ rfl ?_ ?_
      rotate_left
      · intro w hSw; (try dsimp only at hSw); go_simp; (try with_reducible rfl)
      (try simp only [Act.put, List.setIfInBounds_toArray, List.set_cons_zero, List.set_cons_succ])
      refine tk 7 ?_ rfl ?_ ?_
      rotate_left
      · intro w hSw; (try dsimp only at hSw); go_simp; (try with_reducible rfl)
      (try simp only [Act.put, List.setIfInBounds_toArray, List.set_cons_zero, List.set_cons_succ])
      clear hHeld
      obtain ⟨Wb, hWb⟩ : ∃ Wb, Wb = Wa.drew := ⟨_, rfl⟩
      rw [← hWb]
      have hwrb : Below wr.heap.size wr Wb := by rw [hWb]; exact hba.drew
      have hAeB : Arr Wb wr.heap.size 60 [.int .i64 x.t, .int .i64 x.k, .int .i64 x.a, .int .i64 x.b] := by rw [hWb]; exact hAe.drew
      have hIB := hI.later hwrb
      have hWbs : w.heap.size + 2 ≤ Wb.heap.size := (groups_map hIB.own).lt
      have hwr2 : w.heap.size + 2 ≤ wr.heap.size := (groups_map hI.own).lt
      have hbb : Below Wb.heap.size Wb Wb := Below.refl _ _
      have hSS : ∀ W', Below Wb.heap.size Wb W' → W'.cell? ⟨wr.heap.size, 0, none⟩ = some (.int .i64 x.t) ∧ W'.cell? ⟨wr.heap.size, 1, none⟩ = some (.int .i64 x.k) ∧ W'.cell? ⟨wr.heap.size, 2, none⟩ = some (.int .i64 x.a) ∧ W'.cell? ⟨wr.heap.size, 3, none⟩ = some (.int .i64 x.b) := fun W' h => ⟨(hAeB.below h).cell rfl, (hAeB.below h).cell rfl, (hAeB.below h).cell rfl, (hAeB.below h).cell rfl⟩
      clear hWb hba hAe hsa
      refine wpAnyH_ready (rs := [2, 8]) (by kernel_rfl) (by simp) ?_
      refine ready_l rfl (fun K hK => ?_) ?_
      · skip
        go_simp
        refine (hofx.out _).mono ?_
        rintro e wx1 ⟨rfl, hb1⟩
        have hbx2 := hbb.trans (hb1.mono hbb.size)
        clear hb1
        refine hK.out _ _ (by exact hSS _ hbx2) (fun hHeld => ?_)
        clear hK K
        (try simp only [Act.put, List.setIfInBounds_toArray, List.set_cons_zero, List.set_cons_succ])
        refine wpAnyH_ready (rs := [5, 8]) (by kernel_rfl) (by simp) ?_
        refine ready_l rfl (fun K hK => ?_) ?_
        · skip
          go_simp
          refine (hofx.out _).mono ?_
          rintro e wx3 ⟨rfl, hb1⟩
          have hbx4 := hbx2.trans (hb1.mono hbx2.size)
          clear hb1
          refine hK.out _ _ (by exact hSS _ hbx4) (fun hHeld => ?_)
          clear hK K
          (try simp only [Act.put, List.setIfInBounds_toArray, List.set_cons_zero, List.set_cons_succ])
          refine wpAnyH_ready (rs := [6, 8]) (by kernel_rfl) (by simp) ?_
          refine ready_l rfl (fun K hK => ?_) ?_
          · skip
            obtain ⟨u, zs, hrun, hat, hoi, hzl, hback⟩ := (groups_below hIB.own hbx4).at Tryz.keyedC Tryz.underlying104 (zeroS _) (by unfold maxLen; omega) (keyC hev2)
            go_simp
            clear hrun
            refine hK.out _ _ (by exact hSS _ hbx4) (fun hHeld => ?_)
            clear hK K
            (try simp only [Act.put, List.setIfInBounds_toArray, List.set_cons_zero, List.set_cons_succ])
            refine wpAnyH_ready (rs := [8]) (by kernel_rfl) (by simp) ?_
            refine ready_l rfl (fun K hK => ?_) AllReadyH.nil
            go_simp
            refine name_K ?_
            intro wx5 hW1
            have hbx6 : Below Wb.heap.size Wb wx5 := by rw [hW1]; exact hbx4.alloc hbx4.size _
            have hAx7 : Arr wx5 wx3.heap.size 3 [.int .i64 (j : Int)] := by rw [hW1]; exact Arr.new rfl rfl
            have hlx8 : Below wx3.heap.size wx3 wx5 := by rw [hW1]; exact (Below.refl _ _).alloc (Nat.le_refl _) _
            clear hW1
            refine hK.out _ _ (by exact hSS _ hbx6) (fun hHeld => ?_)
            clear hK K
            (try simp only [Act.put, List.setIfInBounds_toArray, List.set_cons_zero, List.set_cons_succ])
            refine wpAnyH_ready (rs := [9]) (by kernel_rfl) (by simp) ?_
            refine ready_l rfl (fun K hK => ?_) AllReadyH.nil
            have hoiW := ints_below hoi hlx8
            obtain ⟨v', wx9, hrA, hownA, hgA, _, hloc⟩ := run_append_own_at (P := Tryz.prog) wx5 (w.heap.size + 2) 89 89 3 i0 (.int .i64 0) 1 8 Tryz.underlying89 hi hz0 hz1 hz2 rfl (by decide) u zs.length (zs.map (Value.int .i64)) hoiW.1 ⟨wx3.heap.size, 0, none⟩ 1 1 [.int .i64 (j : Int)] rfl (fun k y hk => by rw [Addr.add_mid, Nat.zero_add]; exact hAx7.cell hk) (by simp [Value.oneCell']) (by unfold maxLen; omega) (by omega) (by have := hbx6.size; omega)
            have hoA := hoiW.appended (v' := v') hownA (wf_i64 (by omega) (by omega))
            have hgL := (grown_of_below hlx8 u.ownBlock).trans hgA
            have hloc2 : v'.ownBlock = u.ownBlock ∨ ∃ g, v'.ownBlock = some g ∧ wx3.heap.size ≤ g := hloc.imp id (fun h => ⟨_, h, hlx8.size⟩)
            obtain ⟨W2, hrU, hown2, hg2⟩ := hback wx9 v' (zs ++ [(j : Int)]) hgL hoA (by rw [List.length_append, List.length_singleton]; omega) hloc2
            have hfin := Lib.hid (hnext Wb hIB wx3 _ _ _ _ _ hbx4 hat hoi hgL hoA hown2 hg2)
            have hE9 := ((hAeB.below hbx6).grown hoiW.1 (by decide) hgA)
            refine step_append_known rfl (.tmp 22) (.tmp 24) 89 89 rfl u (.slice (some ⟨wx3.heap.size, 0, none⟩) 1 1) (by first | rfl | go_simp) (by first | rfl | go_simp) hrA ?_
            (try simp only [Act.put, List.setIfInBounds_toArray, List.set_cons_zero, List.set_cons_succ])
            refine hK.out _ _ (by exact ⟨hE9.cell rfl, hE9.cell rfl, hE9.cell rfl, hE9.cell rfl⟩) (fun hHeld => ?_)
            clear hK K
            (try simp only [Act.put, List.setIfInBounds_toArray, List.set_cons_zero, List.set_cons_succ])
            refine wpAnyH_ready (rs := [10]) (by kernel_rfl) (by simp) ?_
            refine ready_l rfl (fun K hK => ?_) AllReadyH.nil
            go_simp
            have hE10 : Arr W2 wr.heap.size 60 [.int .i64 x.t, .int .i64 x.k, .int .i64 x.a, .int .i64 x.b] := (hg2.block _ hE9.lt (by have := hwr2; simp; omega)).trans hE9
            refine hK.out _ _ (by exact ⟨hE10.cell rfl, hE10.cell rfl, hE10.cell rfl, hE10.cell rfl⟩) (fun hHeld => ?_)
            clear hK K
            (try simp only [Act.put, List.setIfInBounds_toArray, List.set_cons_zero, List.set_cons_succ])
            refine wpAnyH_done (by kernel_rfl) ?_ _
            clear hHeld 
            go_wp2_with fail
            exact ⟨⟨j + 1, by omega, by first | rfl | (congr 1; omega), Lib.hid ⟨_, hfin.out⟩⟩, by simp [intOf]; omega⟩
          refine ready_l rfl (fun K hK => ?_) AllReadyH.nil
          go_simp
          refine name_K ?_
          intro wx10 hW1
          have hbx11 : Below Wb.heap.size Wb wx10 := by rw [hW1]; exact hbx4.alloc hbx4.size _
          have hAx12 : Arr wx10 wx3.heap.size 3 [.int .i64 (j : Int)] := by rw [hW1]; exact Arr.new rfl rfl
          clear hW1
          refine hK.out _ _ (by exact hSS _ hbx11) (fun hHeld => ?_)
          clear hK K
          (try simp only [Act.put, List.setIfInBounds_toArray, List.set_cons_zero, List.set_cons_succ])
          refine wpAnyH_ready (rs := [6]) (by kernel_rfl) (by simp) ?_
          refine ready_l rfl (fun K hK => ?_) AllReadyH.nil
          obtain ⟨u, zs, hrun, hat, hoi, hzl, hback⟩ := (groups_below hIB.own hbx11).at Tryz.keyedC Tryz.underlying104 (zeroS _) (by unfold maxLen; omega) (keyC hev2)
          go_simp
          clear hrun
          refine hK.out _ _ (by exact hSS _ hbx11) (fun hHeld => ?_)
          clear hK K
          (try simp only [Act.put, List.setIfInBounds_toArray, List.set_cons_zero, List.set_cons_succ])
          refine wpAnyH_ready (rs := [9]) (by kernel_rfl) (by simp) ?_
          refine ready_l rfl (fun K hK => ?_) AllReadyH.nil
          have hoiW := ints_below hoi (Below.refl wx10.heap.size wx10)
          obtain ⟨v', wx13, hrA, hownA, hgA, _, hloc⟩ := run_append_own_at (P := Tryz.prog) wx10 (w.heap.size + 2) 89 89 3 i0 (.int .i64 0) 1 8 Tryz.underlying89 hi hz0 hz1 hz2 rfl (by decide) u zs.length (zs.map (Value.int .i64)) hoiW.1 ⟨wx3.heap.size, 0, none⟩ 1 1 [.int .i64 (j : Int)] rfl (fun k y hk => by rw [Addr.add_mid, Nat.zero_add]; exact hAx12.cell hk) (by simp [Value.oneCell']) (by unfold maxLen; omega) (by omega) (by have := hbx11.size; omega)
          have hoA := hoiW.appended (v' := v') hownA (wf_i64 (by omega) (by omega))
          have hgL := (grown_of_below (Below.refl wx10.heap.size wx10) u.ownBlock).trans hgA
          have hloc2 : v'.ownBlock = u.ownBlock ∨ ∃ g, v'.ownBlock = some g ∧ wx10.heap.size ≤ g := hloc.imp id (fun h => ⟨_, h, (Below.refl wx10.heap.size wx10).size⟩)
          obtain ⟨W2, hrU, hown2, hg2⟩ := hback wx13 v' (zs ++ [(j : Int)]) hgL hoA (by rw [List.length_append, List.length_singleton]; omega) hloc2
          have hfin := Lib.hid (hnext Wb hIB wx10 _ _ _ _ _ hbx11 hat hoi hgL hoA hown2 hg2)
          have hE9 := ((hAeB.below hbx11).grown hoiW.1 (by decide) hgA)
          refine step_append_known rfl (.tmp 22) (.tmp 24) 89 89 rfl u (.slice (some ⟨wx3.heap.size, 0, none⟩) 1 1) (by first | rfl | go_simp) (by first | rfl | go_simp) hrA ?_
          (try simp only [Act.put, List.setIfInBounds_toArray, List.set_cons_zero, List.set_cons_succ])
          refine hK.out _ _ (by exact ⟨hE9.cell rfl, hE9.cell rfl, hE9.cell rfl, hE9.cell rfl⟩) (fun hHeld => ?_)
          clear hK K
          (try simp only [Act.put, List.setIfInBounds_toArray, List.set_cons_zero, List.set_cons_succ])
          refine wpAnyH_ready (rs := [10]) (by kernel_rfl) (by simp) ?_
          refine ready_l rfl (fun K hK => ?_) AllReadyH.nil
          go_simp
          have hE10 : Arr W2 wr.heap.size 60 [.int .i64 x.t, .int .i64 x.k, .int .i64 x.a, .int .i64 x.b] := (hg2.block _ hE9.lt (by have := hwr2; simp; omega)).trans hE9
          refine hK.out _ _ (by exact ⟨hE10.cell rfl, hE10.cell rfl, hE10.cell rfl, hE10.cell rfl⟩) (fun hHeld => ?_)
          clear hK K
          (try simp only [Act.put, List.setIfInBounds_toArray, List.set_cons_zero, List.set_cons_succ])
          refine wpAnyH_done (by kernel_rfl) ?_ _
          clear hHeld 
          go_wp2_with fail
          exact ⟨⟨j + 1, by omega, by first | rfl | (congr 1; omega), Lib.hid ⟨_, hfin.out⟩⟩, by simp [intOf]; omega⟩
        refine ready_l rfl (fun K hK => ?_) AllReadyH.nil
        go_simp
        refine name_K ?_
        intro wx14 hW1
        have hbx15 : Below Wb.heap.size Wb wx14 := by rw [hW1]; exact hbx2.alloc hbx2.size _
        have hAx16 : Arr wx14 wx1.heap.size 3 [.int .i64 (j : Int)] := by rw [hW1]; exact Arr.new rfl rfl
        clear hW1
        refine hK.out _ _ (by exact hSS _ hbx15) (fun hHeld => ?_)
        clear hK K
        (try simp only [Act.put, List.setIfInBounds_toArray, List.set_cons_zero, List.set_cons_succ])
        refine wpAnyH_ready (rs := [5]) (by kernel_rfl) (by simp) ?_
        refine ready_l rfl (fun K hK => ?_) AllReadyH.nil
        go_simp
        refine (hofx.out _).mono ?_
        rintro e wx17 ⟨rfl, hb1⟩
        have hbx18 := hbx15.trans (hb1.mono hbx15.size)
        have hAx19 := hAx16.below hb1
        clear hb1
        refine hK.out _ _ (by exact hSS _ hbx18) (fun hHeld => ?_)
        clear hK K
        (try simp only [Act.put, List.setIfInBounds_toArray, List.set_cons_zero, List.set_cons_succ])
        refine wpAnyH_ready (rs := [6]) (by kernel_rfl) (by simp) ?_
        refine ready_l rfl (fun K hK => ?_) AllReadyH.nil
        obtain ⟨u, zs, hrun, hat, hoi, hzl, hback⟩ := (groups_below hIB.own hbx18).at Tryz.keyedC Tryz.underlying104 (zeroS _) (by unfold maxLen; omega) (keyC hev2)
        go_simp
        clear hrun
        refine hK.out _ _ (by exact hSS _ hbx18) (fun hHeld => ?_)
        clear hK K
        (try simp only [Act.put, List.setIfInBounds_toArray, List.set_cons_zero, List.set_cons_succ])
        refine wpAnyH_ready (rs := [9]) (by kernel_rfl) (by simp) ?_
        refine ready_l rfl (fun K hK => ?_) AllReadyH.nil
        have hoiW := ints_below hoi (Below.refl wx17.heap.size wx17)
        obtain ⟨v', wx20, hrA, hownA, hgA, _, hloc⟩ := run_append_own_at (P := Tryz.prog) wx17 (w.heap.size + 2) 89 89 3 i0 (.int .i64 0) 1 8 Tryz.underlying89 hi hz0 hz1 hz2 rfl (by decide) u zs.length (zs.map (Value.int .i64)) hoiW.1 ⟨wx1.heap.size, 0, none⟩ 1 1 [.int .i64 (j : Int)] rfl (fun k y hk => by rw [Addr.add_mid, Nat.zero_add]; exact hAx19.cell hk) (by simp [Value.oneCell']) (by unfold maxLen; omega) (by omega) (by have := hbx18.size; omega)
        have hoA := hoiW.appended (v' := v') hownA (wf_i64 (by omega) (by omega))
        have hgL := (grown_of_below (Below.refl wx17.heap.size wx17) u.ownBlock).trans hgA
        have hloc2 : v'.ownBlock = u.ownBlock ∨ ∃ g, v'.ownBlock = some g ∧ wx17.heap.size ≤ g := hloc.imp id (fun h => ⟨_, h, (Below.refl wx17.heap.size wx17).size⟩)
        obtain ⟨W2, hrU, hown2, hg2⟩ := hback wx20 v' (zs ++ [(j : Int)]) hgL hoA (by rw [List.length_append, List.length_singleton]; omega) hloc2
        have hfin := Lib.hid (hnext Wb hIB wx17 _ _ _ _ _ hbx18 hat hoi hgL hoA hown2 hg2)
        have hE9 := ((hAeB.below hbx18).grown hoiW.1 (by decide) hgA)
        refine step_append_known rfl (.tmp 22) (.tmp 24) 89 89 rfl u (.slice (some ⟨wx1.heap.size, 0, none⟩) 1 1) (by first | rfl | go_simp) (by first | rfl | go_simp) hrA ?_
        (try simp only [Act.put, List.setIfInBounds_toArray, List.set_cons_zero, List.set_cons_succ])
        refine hK.out _ _ (by exact ⟨hE9.cell rfl, hE9.cell rfl, hE9.cell rfl, hE9.cell rfl⟩) (fun hHeld => ?_)
        clear hK K
        (try simp only [Act.put, List.setIfInBounds_toArray, List.set_cons_zero, List.set_cons_succ])
        refine wpAnyH_ready (rs := [10]) (by kernel_rfl) (by simp) ?_
        refine ready_l rfl (fun K hK => ?_) AllReadyH.nil
        go_simp
        have hE10 : Arr W2 wr.heap.size 60 [.int .i64 x.t, .int .i64 x.k, .int .i64 x.a, .int .i64 x.b] := (hg2.block _ hE9.lt (by have := hwr2; simp; omega)).trans hE9
        refine hK.out _ _ (by exact ⟨hE10.cell rfl, hE10.cell rfl, hE10.cell rfl, hE10.cell rfl⟩) (fun hHeld => ?_)
        clear hK K
        (try simp only [Act.put, List.setIfInBounds_toArray, List.set_cons_zero, List.set_cons_succ])
        refine wpAnyH_done (by kernel_rfl) ?_ _
        clear hHeld 
        go_wp2_with fail
        exact ⟨⟨j + 1, by omega, by first | rfl | (congr 1; omega), Lib.hid ⟨_, hfin.out⟩⟩, by simp [intOf]; omega⟩
      refine ready_l rfl (fun K hK => ?_) AllReadyH.nil
      go_simp
      refine name_K ?_
      intro wx21 hW1
      have hbx22 : Below Wb.heap.size Wb wx21 := by rw [hW1]; exact hbb.alloc hbb.size _
      have hAx23 : Arr wx21 Wb.heap.size 3 [.int .i64 (j : Int)] := by rw [hW1]; exact Arr.new rfl rfl
      clear hW1
      refine hK.out _ _ (by exact hSS _ hbx22) (fun hHeld => ?_)
      clear hK K
      (try simp only [Act.put, List.setIfInBounds_toArray, List.set_cons_zero, List.set_cons_succ])
      refine wpAnyH_ready (rs := [2]) (by kernel_rfl) (by simp) ?_
      refine ready_l rfl (fun K hK => ?_) AllReadyH.nil
      go_simp
      refine (hofx.out _).mono ?_
      rintro e wx24 ⟨rfl, hb1⟩
      have hbx25 := hbx22.trans (hb1.mono hbx22.size)
      have hAx26 := hAx23.below hb1
      clear hb1
      refine hK.out _ _ (by exact hSS _ hbx25) (fun hHeld => ?_)
      clear hK K
      (try simp only [Act.put, List.setIfInBounds_toArray, List.set_cons_zero, List.set_cons_succ])
      refine wpAnyH_ready (rs := [5]) (by kernel_rfl) (by simp) ?_
      refine ready_l rfl (fun K hK => ?_) AllReadyH.nil
      go_simp
      refine (hofx.out _).mono ?_
      rintro e wx27 ⟨rfl, hb1⟩
      have hbx28 := hbx25.trans (hb1.mono hbx25.size)
      have hAx29 := hAx26.below hb1
      clear hb1
      refine hK.out _ _ (by exact hSS _ hbx28) (fun hHeld => ?_)
      clear hK K
      (try simp only [Act.put, List.setIfInBounds_toArray, List.set_cons_zero, List.set_cons_succ])
      refine wpAnyH_ready (rs := [6]) (by kernel_rfl) (by simp) ?_
      refine ready_l rfl (fun K hK => ?_) AllReadyH.nil
      obtain ⟨u, zs, hrun, hat, hoi, hzl, hback⟩ := (groups_below hIB.own hbx28).at Tryz.keyedC Tryz.underlying104 (zeroS _) (by unfold maxLen; omega) (keyC hev2)
      go_simp
      clear hrun
      refine hK.out _ _ (by exact hSS _ hbx28) (fun hHeld => ?_)
      clear hK K
      (try simp only [Act.put, List.setIfInBounds_toArray, List.set_cons_zero, List.set_cons_succ])
      refine wpAnyH_ready (rs := [9]) (by kernel_rfl) (by simp) ?_
      refine ready_l rfl (fun K hK => ?_) AllReadyH.nil
      have hoiW := ints_below hoi (Below.refl wx27.heap.size wx27)
      obtain ⟨v', wx30, hrA, hownA, hgA, _, hloc⟩ := run_append_own_at (P := Tryz.prog) wx27 (w.heap.size + 2) 89 89 3 i0 (.int .i64 0) 1 8 Tryz.underlying89 hi hz0 hz1 hz2 rfl (by decide) u zs.length (zs.map (Value.int .i64)) hoiW.1 ⟨Wb.heap.size, 0, none⟩ 1 1 [.int .i64 (j : Int)] rfl (fun k y hk => by rw [Addr.add_mid, Nat.zero_add]; exact hAx29.cell hk) (by simp [Value.oneCell']) (by unfold maxLen; omega) (by omega) (by have := hbx28.size; omega)
      have hoA := hoiW.appended (v' := v') hownA (wf_i64 (by omega) (by omega))
      have hgL := (grown_of_below (Below.refl wx27.heap.size wx27) u.ownBlock).trans hgA
      have hloc2 : v'.ownBlock = u.ownBlock ∨ ∃ g, v'.ownBlock = some g ∧ wx27.heap.size ≤ g := hloc.imp id (fun h => ⟨_, h, (Below.refl wx27.heap.size wx27).size⟩)
      obtain ⟨W2, hrU, hown2, hg2⟩ := hback wx30 v' (zs ++ [(j : Int)]) hgL hoA (by rw [List.length_append, List.length_singleton]; omega) hloc2
      have hfin := Lib.hid (hnext Wb hIB wx27 _ _ _ _ _ hbx28 hat hoi hgL hoA hown2 hg2)
      have hE9 := ((hAeB.below hbx28).grown hoiW.1 (by decide) hgA)
      refine step_append_known rfl (.tmp 22) (.tmp 24) 89 89 rfl u (.slice (some ⟨Wb.heap.size, 0, none⟩) 1 1) (by first | rfl | go_simp) (by first | rfl | go_simp) hrA ?_
      (try simp only [Act.put, List.setIfInBounds_toArray, List.set_cons_zero, List.set_cons_succ])
      refine hK.out _ _ (by exact ⟨hE9.cell rfl, hE9.cell rfl, hE9.cell rfl, hE9.cell rfl⟩) (fun hHeld => ?_)
      clear hK K
      (try simp only [Act.put, List.setIfInBounds_toArray, List.set_cons_zero, List.set_cons_succ])
      refine wpAnyH_ready (rs := [10]) (by kernel_rfl) (by simp) ?_
      refine ready_l rfl (fun K hK => ?_) AllReadyH.nil
      go_simp
      have hE10 : Arr W2 wr.heap.size 60 [.int .i64 x.t, .int .i64 x.k, .int .i64 x.a, .int .i64 x.b] := (hg2.block _ hE9.lt (by have := hwr2; simp; omega)).trans hE9
      refine hK.out _ _ (by exact ⟨hE10.cell rfl, hE10.cell rfl, hE10.cell rfl, hE10.cell rfl⟩) (fun hHeld => ?_)
      clear hK K
      (try simp only [Act.put, List.setIfInBounds_toArray, List.set_cons_zero, List.set_cons_succ])
      refine wpAnyH_done (by kernel_rfl) ?_ _
      clear hHeld 
      go_wp2_with fail
      exact ⟨⟨j + 1, by omega, by first | rfl | (congr 1; omega), Lib.hid ⟨_, hfin.out⟩⟩, by simp [intOf]; omega⟩
    · obtain rfl : j = m.length := by omega
      have hd : decide ((m.length : Int) < (m.length : Int)) = false := by simp
      obtain ⟨ws, hws⟩ : ∃ ws, ws = wr := ⟨_, rfl⟩
      subst hws
      have hmap := groups_map hown
      have hMlt := hmap.lt
      have hok' := Lib.hid (EvsOk.mk hl1 hord.out hall.out)
      have hmf : ∀ (fn : Fn) (first cap : Array Value) (w : World), (Instr.makeFunc fn first cap).run Tryz.prog w = .ok (.func fn first cap) w := fun _ _ _ _ => rfl
      have hEv : Hid (∀ W, Below ws.heap.size ws W → EvsAt W w.heap.size m) := Lib.hid fun W hbW => ⟨a, c, (hbox.below hbW).cell rfl, h1, h2, fun k hk => by
        obtain ⟨b, ob, he, hbl, hcell⟩ := hc.out k hk
        exact ⟨b, ob, he, (hcell W ((hbW.block b (by have := hB.size; omega)).trans (hB.block b hbl))).1⟩⟩
      replace hc := Lib.hid hc
      go_wp2_with (first
        | (at_range; refine wpList_range_own _ rfl _ 104 rfl 101 89 Tryz.keyedC Tryz.underlying104 _ (w.heap.size + 1) m.length D rfl hmap ?_; intro w0 hrg0 hg0 hs0)
        | go_in)
      go_frame
      have hb0 : Below ws.heap.size ws w0 := ⟨hg0.os, hg0.tape, hg0.output, hg0.size, fun i hi => hg0.block i (by omega) (by simp)⟩
      go_loopw [7] (fun _ W => ∃ left cnt, W.ranges Tryz.prog 101 (rowElem ws (w.heap.size + 2) 3 .i64) (w.heap.size + 1) ws.heap.size m.length D left cnt ∧ Below ws.heap.size ws W) (fun _ W => W.rangeLeft (w.heap.size + 1) ws.heap.size)
      case atStart => exact ⟨_, _, hrg0, hb0⟩
      case round =>
        obtain ⟨left, cnt, hrg, hbW⟩ := hrel
        clear hrg0 hg0 hs0 hb0 hmap
        go_wp2_with (first
          | (at_next; refine wpList_next_ranges _ rfl _ rfl 101 Tryz.keyedC _ (fun x : Value => x) (fun x : Value => x) (fun key kl _ => ⟨key, rfl⟩) (fun v y _ => ⟨v, rfl⟩) (w.heap.size + 1) ws.heap.size m.length _ _ _ rfl hrg ?_ ?_)
          | go_in)
        · intro _ hl0
          go_wp2_with fail
          go_ret
          exact ⟨w.heap.size + 1, rfl, ⟨ws, w.heap.size + 2, m.length, D, hrg.owns, hG, hbW, by omega, hl1⟩, hB.trans (hbW.mono hB.size)⟩
        · intro x c' kl y1 y2 w1 cnt1 hkx hlx hR hat hrg1 hlt hg1 hs1 hen
          obtain ⟨i, hi, rfl, g, cap, rfl, hoi⟩ := entry_row hG hok'.out.all hR hat
          have hbw1 : Below ws.heap.size ws w1 := hbW.grown hg1 hbW.size (fun k e => by cases e; exact Nat.le_refl _)
          have hsrt := srt_of hok'.out hoi hbw1 (fun n => hEv.out _ (below_drewN hbw1 n))
          have hcall := Lib.hid (sortStable_any w.heap.size g cap _ m w1 hsrt)
          generalize (places m m.length (cls3 m[i]!)).length = pl at *
          clear hR hat hsrt hoi
          go_wp2_with (first
            | (go_at_call 79; refine hcall.out.mono ?_; rintro e w2 ⟨⟨r, rfl⟩, q2, rfl⟩)
            | go_in)
          have hrg2 : (w1.drewN q2).ranges Tryz.prog 101 (rowElem ws (w.heap.size + 2) 3 .i64) (w.heap.size + 1) ws.heap.size m.length D (fun z => left z && !z.sameKey (keyL m[i]!)) cnt1 := hrg1
          exact ⟨⟨_, _, hrg2, below_drewN hbw1 _⟩, by rw [hrg2.left_eq, hrg.left_eq]; exact hlt⟩
end Go.Proofs.YtocpnlifmeffkaaGreatDoor
namespace Go.Proofs.YtocpnlifmeffkaaGreatDoor
open Go.RowKit Go.Shelf Go.Maps Go.ChangeShapes Go.ChangeMaps

attribute [local go_sem] Oper.semAt_some

/-- A group's slice, in whatever world the map's block stands. -/
structure GrpAt (W : World) (M g cap : Nat) (key : Value) (l : List Nat) : Prop where
  run : ∀ W' : World, W'.heap[M]? = W.heap[M]? → (Instr.lookup 104 (.map (some M)) key false).run Tryz.prog W' = .ok (.slice (some ⟨g, 0, none⟩) l.length cap) W'
  row : ∃ cur fz, W.heap[g]? = some (.cells cur 3 fz)
  cells : ∀ j, j < l.length → W.cell? ⟨g, j, none⟩ = some (.int .i64 ((l[j]! : Nat) : Int))
theorem row_of_ints {ws W : World} {base g n cap : Nat} {l : List Nat} (ho : ws.ownsInts base 3 .i64 (.slice (some ⟨g, 0, none⟩) n cap) (intsN l)) (hb : Below ws.heap.size ws W) :
    (∃ cur fz, W.heap[g]? = some (.cells cur 3 fz)) ∧ ∀ j, j < l.length → W.cell? ⟨g, j, none⟩ = some (.int .i64 ((l[j]! : Nat) : Int)) := by
  have hoW := ints_below ho hb
  refine ⟨?_, fun j hj => ?_⟩
  · rcases hoW.1.2 with ⟨h, _⟩ | ⟨g', cap', cur, h, _, hg, _⟩
    · cases h
    · injection h with h _ _
      injection h with h
      injection h with h _ _
      subst h
      exact ⟨_, _, hg⟩
  · have := hoW.1.cells (g := g) rfl j _ (intsN_cell _ hj)
    rwa [Addr.add_mid, Nat.zero_add] at this
theorem ClsMap.look {W : World} {B M : Nat} {m : List Ev} (h : ClsMap W B M m) (hall : ∀ e ∈ m, evOk e) {i : Nat} (hi : i < m.length) : ∃ g cap, GrpAt W M g cap (clsV m[i]!) (places m m.length (cls3 m[i]!)) := by
  obtain ⟨ws, base, n, D, ⟨es, clock, hb, F, _, hD⟩, hG, hbs, hM, hn⟩ := h
  have hmem : m[i]! ∈ m := by rw [getElem!_pos m i hi]; exact List.getElem_mem _
  have hev := hall _ hmem
  have hin : i ∈ places m m.length (cls3 m[i]!) := places_mem.2 ⟨hi, rfl⟩
  rcases Maps.fit_look false Tryz.keyedC Tryz.underlying104 (zeroS W) hb F (keyC hev) with ⟨_, _, hat⟩ | ⟨e0, y, hm0, h3, hrun, hR, hat, _⟩
  · rw [← hD] at hat
    have h1 := hG.has_ _ hev
    rw [has_false_of_atKey hat] at h1
    have : places m m.length (cls3 m[i]!) = [] := by simpa using h1.symm
    rw [this] at hin
    cases hin
  · rw [← hD] at hat
    obtain ⟨i', hi', hkk, g, cap, hval, hoi⟩ := entry_row hG hall hR hat
    have hmem' : m[i']! ∈ m := by rw [getElem!_pos m i' hi']; exact List.getElem_mem _
    have hcl := cls3_of_key hev (hall _ hmem') hkk
    rw [← hcl] at hval hoi
    rw [hval] at hoi
    have hr := row_of_ints hoi hbs
    refine ⟨g, cap, fun W' hW' => ?_, hr.1, hr.2⟩
    have hb' := hW'.trans hb
    rcases Maps.fit_look false Tryz.keyedC Tryz.underlying104 (zeroS W') hb' F (keyC hev) with ⟨_, hno, _⟩ | ⟨e1, y1, hm1, h4, hrun1, _, _, _⟩
    · exact absurd h3 (hno e0 hm0)
    · have hap := ((Go.MapKept.stamped_iff es clock).1 F.stamped).2.2
      have : e1 = e0 := entry_eq_of_key hap hm1 hm0 (h4.trans h3.symm)
      rw [hrun1, this, hval]
      rfl
theorem EvsOk.filter {l : List Ev} (h : EvsOk l) (p : Ev → Bool) : EvsOk (l.filter p) := by
  refine ⟨Nat.le_trans (List.length_filter_le _ _) h.len, ?_, fun e he => h.all e (List.mem_filter.1 he).1⟩
  have hp : l.Pairwise (fun a b => a.t ≤ b.t) := by
    rw [List.pairwise_iff_getElem]
    intro i j hi hj hij
    have := inOrder_le h.ord (Nat.le_of_lt hij) hj
    rwa [getElem!_pos l i hi, getElem!_pos l j hj] at this
  rw [inOrder_iff]
  intro j hj
  have := List.pairwise_iff_getElem.1 (hp.filter p) j (j + 1) (by omega) hj (by omega)
  rwa [getElem!_pos _ j (by omega), getElem!_pos _ (j + 1) hj]
end Go.Proofs.YtocpnlifmeffkaaGreatDoor
