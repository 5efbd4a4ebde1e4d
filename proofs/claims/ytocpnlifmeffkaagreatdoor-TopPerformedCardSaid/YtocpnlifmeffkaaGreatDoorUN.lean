/-
  The contract of performance.Compare at equal performances, not ordered.
  The contract of performance.Compare at equal performances.
-/
import Derived.Test.YtocpnlifmeffkaaGreatDoorUM
namespace Go.Proofs.YtocpnlifmeffkaaGreatDoor
open Go.RowKit Go.Shelf Go.Maps Go.ChangeShapes Go.ChangeMaps

attribute [local go_sem] Oper.semAt_some

/-- What fits so far: the rest is still to come. -/
structure CmpI (ws wr : World) (F : Nat) (m : List Ev) (rest : Nat → Prop) (fs : List Bool) : Prop where
  but : BelowBut ws.heap.size F ws wr
  row : Arr wr F 4 (fs.map Value.bool)
  len : fs.length = m.length
  fits : ∀ j, j < m.length → fs[j]! = true ∨ rest j
theorem bools_cell {fs : List Bool} {j : Nat} (h : j < fs.length) : (fs.map Value.bool)[j]? = some (.bool fs[j]!) := by
  rw [List.getElem?_map, List.getElem?_eq_getElem h, getElem!_pos fs j h]
  rfl
theorem all_true {fs : List Bool} (h : ∀ j, j < fs.length → fs[j]! = true) : fs.map Value.bool = List.replicate fs.length (.bool true) := by
  refine List.ext_getElem (by simp) fun j h1 h2 => ?_
  have hj : j < fs.length := by simpa using h1
  have := h j hj
  rw [getElem!_pos fs j hj] at this
  simp [this]
theorem boxes_made (n : Nat) : madeCells (Value.bool false).cells (n * 1) = Array.replicate n (.bool false) := by
  apply Array.ext
  · simp [madeCells]
  · intro j h1 h2
    simp [madeCells, Value.cells, Nat.mod_one]
theorem ranges_of {H : Type} {P : Program} {k : TypeId} {R : Value → Option (DataW H × List MemPlace)} {w w' : World} {b r n : Nat} {D : DataW H} {left : Lit → Bool} {cnt : Nat} (h : w.ranges P k R b r n D left cnt) (hb : w'.heap[b]? = w.heap[b]?) (hr : w'.heap[r]? = w.heap[r]?) : w'.ranges P k R b r n D left cnt := by
  unfold World.ranges at *
  rw [hb, hr]
  exact h
set_option maxRecDepth 100000 in
set_option maxHeartbeats 8000000 in
theorem CompareU_any (K s : Int) (u v : Value) (l : List Ev) (w : World) (hr : RelOk K s) (hok : EvsOk l) (hu : SliceAt w w.heap.size u l.length (evCells l)) (hv : SliceAt w w.heap.size v l.length (evCells l)) :
    Calls Tryz.prog 13 #[relV K s false, u, v] w fun e w' => e = .returned (.tuple #[.int .i64 0, .bool true]) ∧ Below w.heap.size w w' := by
  obtain ⟨i0, hi, hz0, hz1, hz2⟩ := info_parts info_bool1
  have hVal := Lib.hid fun W => pValid_any K s false W hr
  have hcu := Lib.hid fun W (hb : Below w.heap.size w W) => Counted_any K s false u l W hr hok.len (hu.later hb)
  have hcv := Lib.hid fun W (hb : Below w.heap.size w W) => Counted_any K s false v l W hr hok.len (hv.later hb)
  have hokm := Lib.hid (hok.filter (hasB K))
  generalize l.filter (hasB K) = m at *
  obtain ⟨au, cu, rfl, _⟩ := hu
  obtain ⟨av, cv, rfl, _⟩ := hv
  unfold relV at *
  have hA : Arr (w.alloc (.cells #[.int .i64 K, .int .i64 s, .bool false] 29)) w.heap.size 29 [.int .i64 K, .int .i64 s, .bool false] := Arr.new rfl rfl
  have hb0 : Below w.heap.size w (w.alloc (.cells #[.int .i64 K, .int .i64 s, .bool false] 29)) := (Below.refl _ _).alloc (Nat.le_refl _) _
  replace hA := Lib.hid hA
  replace hb0 := Lib.hid hb0
  go_enter Tryz.func13, Tryz.ntmps13
  go_wp2_with (go_at_call 36; refine (hVal.out _).mono ?_; rintro e w1 ⟨rfl, hb1⟩)
  have hA1 := hA.out.below hb1
  have hB1 := hb0.out.trans (hb1.mono hb0.out.size)
  clear hA hb0 hb1 hVal
  refine wp_region_held_drew (S := fun w' => w'.cell? ⟨w.heap.size, 0, none⟩ = some (.int .i64 K) ∧ w'.cell? ⟨w.heap.size, 1, none⟩ = some (.int .i64 s) ∧ w'.cell? ⟨w.heap.size, 2, none⟩ = some (.bool false)) (by kernel_rfl) (by exact ⟨hA1.cell rfl, hA1.cell rfl, hA1.cell rfl⟩) (fun hHeld => ?_)
  clear hHeld
  obtain ⟨wd, hwd⟩ : ∃ wd, wd = w1.drew := ⟨_, rfl⟩
  rw [← hwd]
  have hAd : Arr wd w.heap.size 29 [.int .i64 K, .int .i64 s, .bool false] := by rw [hwd]; exact hA1.drew
  have hBd : Below w.heap.size w wd := by rw [hwd]; exact hB1.drew
  have hHeld : wd.cell? ⟨w.heap.size, 0, none⟩ = some (.int .i64 K) ∧ wd.cell? ⟨w.heap.size, 1, none⟩ = some (.int .i64 s) ∧ wd.cell? ⟨w.heap.size, 2, none⟩ = some (.bool false) := ⟨hAd.cell rfl, hAd.cell rfl, hAd.cell rfl⟩
  clear hwd hA1 hB1
  refine tk 0 ?_ rfl ?_ ?_
  rotate_left
  · intro w hSw; (try dsimp only at hSw); go_simp; (try with_reducible rfl)
  (try simp only [Act.put, List.setIfInBounds_toArray, List.set_cons_zero, List.set_cons_succ])
  refine tk 1 ?_ rfl ?_ ?_
  rotate_left
  · intro w hSw; (try dsimp only at hSw); go_simp; (try with_reducible rfl)
  (try simp only [Act.put, List.setIfInBounds_toArray, List.set_cons_zero, List.set_cons_succ])
  refine tk 3 ?_ rfl ?_ ?_
  rotate_left
  · intro w hSw; (try dsimp only at hSw); go_simp; (try with_reducible rfl)
  (try simp only [Act.put, List.setIfInBounds_toArray, List.set_cons_zero, List.set_cons_succ])
  refine tk 4 ?_ rfl ?_ ?_
  rotate_left
  · intro w hSw; (try dsimp only at hSw); go_simp; (try with_reducible rfl)
  (try simp only [Act.put, List.setIfInBounds_toArray, List.set_cons_zero, List.set_cons_succ])
  refine wpAnyH_ready (rs := [2]) (by kernel_rfl) (by simp) ?_
  refine ready_l rfl (fun K hK => ?_) AllReadyH.nil
  go_simp
  refine (hcu.out _ hBd).mono ?_
  rintro e w2 ⟨c, rfl, hcown, hb2⟩
  have hA2 := hAd.below hb2
  have hB2 := hBd.trans (hb2.mono hBd.size)
  refine hK.out _ _ (by exact ⟨hA2.cell rfl, hA2.cell rfl, hA2.cell rfl⟩) (fun hHeld => ?_)
  clear hK K
  (try simp only [Act.put, List.setIfInBounds_toArray, List.set_cons_zero, List.set_cons_succ])
  refine wpAnyH_ready (rs := [5]) (by kernel_rfl) (by simp) ?_
  refine ready_l rfl (fun K hK => ?_) AllReadyH.nil
  go_simp
  refine (hcv.out _ hB2).mono ?_
  rintro e w3 ⟨d, rfl, hdown, hb3⟩
  have hA3 := hA2.below hb3
  have hB3 := hB2.trans (hb3.mono hB2.size)
  refine hK.out _ _ (by exact ⟨hA3.cell rfl, hA3.cell rfl, hA3.cell rfl⟩) (fun hHeld => ?_)
  clear hK K
  (try simp only [Act.put, List.setIfInBounds_toArray, List.set_cons_zero, List.set_cons_succ])
  refine tk 6 ?_ rfl ?_ ?_
  rotate_left
  · intro w hSw; (try dsimp only at hSw); go_simp; (try with_reducible rfl)
  (try simp only [Act.put, List.setIfInBounds_toArray, List.set_cons_zero, List.set_cons_succ])
  refine tk 7 ?_ rfl ?_ ?_
  rotate_left
  · intro w hSw; (try dsimp only at hSw); go_simp; (try with_reducible rfl)
  (try simp only [Act.put, List.setIfInBounds_toArray, List.set_cons_zero, List.set_cons_succ])
  refine wpAnyH_done (by kernel_rfl) ?_ _
  have hcS := sliceAt_of_own (own_below hcown hb3)
  have hdS := sliceAt_of_own hdown
  obtain ⟨ac, cc, rfl, hc1, hc2, hcc⟩ := sliceCells hcS
  obtain ⟨ad, cd, rfl, hd1, hd2, hdc⟩ := sliceCells hdS
  unfold maxLen at hc2 hd2
  replace hcc := Lib.hid hcc
  replace hdc := Lib.hid hdc
  have hml := hokm.out.len
  obtain ⟨hR0, hR1, hR2⟩ := hHeld
  clear hcu hcv hb2 hb3 hcown hdown hA2 hB2 hBd hAd
  have hcl := Lib.hid fun t W (ht : 0 ≤ t) (ht2 : t ≤ 20000) => close_any K s false t W hr.2.1 hr.2.2 ht ht2
  unfold relV at hcl
  have hmk : ∀ W : World, (Instr.makeSlice 99 (.int .i64 (m.length : Int)) (.int .i64 (m.length : Int))).run Tryz.prog W = .ok (.slice (some ⟨W.heap.size, 0, none⟩) m.length m.length) (W.alloc (.cells (Array.replicate m.length (.bool false)) 4)) := fun W => by
    have := run_makeSlice (P := Tryz.prog) W 99 4 i0 (.bool false) Tryz.underlying99 hi hz0 .i64 .i64 m.length m.length (by omega) (by omega) (by rw [hz1]; omega) (by rw [hz2]; omega) (by omega)
    rw [this, hz1, Int.toNat_natCast, boxes_made]
  have hbF : Below w3.heap.size w3 (w3.alloc (.cells (Array.replicate m.length (.bool false)) 4)) := (Below.refl _ _).alloc (Nat.le_refl _) _
  have hAF : Arr (w3.alloc (.cells (Array.replicate m.length (.bool false)) 4)) w3.heap.size 4 ((List.replicate m.length false).map Value.bool) := Arr.new (by simp) rfl
  have hby := Lib.hid fun v W (hv : SliceAt W W.heap.size v m.length (evCells m)) => byClass_any v m W hokm.out hv
  replace hbF := Lib.hid hbF
  replace hAF := Lib.hid hAF
  replace hcS := Lib.hid hcS
  replace hdS := Lib.hid hdS
  generalize hWF : w3.alloc (.cells (Array.replicate m.length (.bool false)) 4) = WF at hbF hAF
  replace hWF := Lib.hid hWF
  go_wp2_with (first
    | (go_at_call 40; rw [hWF.out]; refine (hby.out _ _ (hdS.out.later hbF.out)).mono ?_; rintro e w4 ⟨Md, rfl, hMd, hb4⟩; clear hWF)
    | (go_at_call 40; refine (hby.out _ _ (hcS.out.later (hbF.out.trans (hb4.mono hbF.out.size)))).mono ?_; rintro e w5 ⟨Mc, rfl, hMc, hb5⟩; obtain ⟨ws, base, nn, D, hmapc, hGc, hbsc, hMcB, hnc⟩ := hMc)
    | (at_range; refine wpList_range_own _ rfl _ 104 rfl 101 89 Tryz.keyedC Tryz.underlying104 _ Mc nn D rfl hmapc ?_; intro w0 hrg0 hg0 hs0)
    | go_in)
  go_frame
  have hw45 := hb4.trans (hb5.mono hb4.size)
  have hw35 : Below w3.heap.size w3 w5 := hbF.out.trans (hw45.mono hbF.out.size)
  have hAF5 : Arr w5 w3.heap.size 4 ((List.replicate m.length false).map Value.bool) := by exact hAF.out.below hw45
  have hMd5 := hMd.below hb5
  have hA5 := hA3.below hw35
  have hF5 : w3.heap.size < w5.heap.size := hAF5.lt
  have hRF : w.heap.size < w3.heap.size := by exact hA3.lt
  have hallm := Lib.hid hokm.out.all
  have hMclt := hmapc.lt
  have hMcF : Mc ≠ w3.heap.size := by
    have h2 : w3.heap.size < w4.heap.size := (hAF.out.below hb4).lt
    omega
  have hMdF : Md ≠ w3.heap.size := by
    obtain ⟨_, _, _, _, _, _, _, h5, _⟩ := hMd
    have h2 : w3.heap.size < WF.heap.size := by exact hAF.out.lt
    omega
  have hMdlt : Md < w5.heap.size := by
    obtain ⟨_, _, _, _, h5, _⟩ := hMd5
    exact h5.lt
  have hst : CmpI w5 w5 w3.heap.size m (fun j => Maps.has D (keyL m[j]!) = true) (List.replicate m.length false) := ⟨BelowBut.refl _ _ _, hAF5, by simp, fun j hj => .inr (by
    have hmem : m[j]! ∈ m := by rw [getElem!_pos m j hj]; exact List.getElem_mem _
    rw [hGc.has_ _ (hallm.out _ hmem), decide_eq_true_eq]
    intro h0
    have : j ∈ places m m.length (cls3 m[j]!) := places_mem.2 ⟨hj, rfl⟩
    rw [h0] at this
    cases this)⟩
  clear hR0 hR1 hR2 hmk hby hbF hAF hcS hdS hA3 hMd hb4 hb5 hw45
  have hst0 : CmpI w5 w0 w3.heap.size m (fun j => Maps.has D (keyL m[j]!) = true) (List.replicate m.length false) := ⟨⟨hg0.os, hg0.tape, hg0.output, hg0.size, fun i hi _ => hg0.block i hi (by simp)⟩, (hg0.block _ hF5 (by simp)).trans hst.row, hst.len, hst.fits⟩
  go_loopw [15] (fun _ W => ∃ (left : Lit → Bool) (cnt : Nat) (fs : List Bool), W.ranges Tryz.prog 101 (rowElem ws base 3 .i64) Mc w5.heap.size nn D left cnt ∧ CmpI w5 W w3.heap.size m (fun j => left (keyL m[j]!) = true) fs) (fun _ W => W.rangeLeft Mc w5.heap.size)
  case atStart => exact ⟨_, _, _, hrg0, hst0⟩
  case round =>
    obtain ⟨left, cnt, fs, hrg, hI⟩ := hrel
    clear hrg0 hg0 hs0 hst hst0 hmapc
    go_wp2_with (first
      | (at_next; refine wpList_next_ranges _ rfl _ rfl 101 Tryz.keyedC _ (fun x : Value => x) (fun x : Value => x) (fun key kl _ => ⟨key, rfl⟩) (fun v y _ => ⟨v, rfl⟩) Mc w5.heap.size nn _ _ _ rfl hrg ?_ ?_)
      | go_in)
    · intro _ hl0
      have hall1 : fs.map Value.bool = List.replicate fs.length (.bool true) := all_true fun j hj => (hI.fits j (by rw [← hI.len]; exact hj)).resolve_right (by rw [hl0]; simp)
      have hrow := hI.row
      rw [hall1, hI.len] at hrow
      have hidx := Lib.hid (indexB_any (.slice (some ⟨w3.heap.size, 0, none⟩) m.length m.length) m.length wr (by omega) ⟨_, _, rfl, Nat.le_refl _, by unfold maxLen; omega, fun _ => ⟨w3.heap.size, 0, rfl, hrow.lt, fun j u hu => by rw [Nat.zero_add]; exact hrow.cell hu⟩⟩)
      go_wp2_with (first | (go_at_call 41; go_loud (with_reducible refine hidx.out.mono ?_; rintro e w6 ⟨rfl, hw6⟩)) | go_in)
      go_ret2
      exact ⟨rfl, hB3.trans ((hw35.trans (hI.but.below (Nat.le_refl _) (by omega))).mono (by have := hB3.size; omega))⟩
    · intro x c' kl y1 y2 w6 cnt1 hkx hlx hR hat hrg1 hltc hg1 hs1 hen
      obtain ⟨wo, hwo⟩ : ∃ wo, wo = wr := ⟨_, rfl⟩
      subst hwo
      obtain ⟨i, hi, rfl, g, cap, rfl, hoi⟩ := entry_row hGc hallm.out hR hat
      have hmi : m[i]! ∈ m := by rw [getElem!_pos m i hi]; exact List.getElem_mem _
      obtain rfl : x = clsV m[i]! := Tryz.keyedC.inj hkx (keyC (hallm.out _ hmi))
      obtain ⟨⟨cur, fz, hgb⟩, hgc⟩ := row_of_ints hoi hbsc
      obtain ⟨gd, capd, hgd⟩ := hMd5.look hallm.out hi
      generalize hpl : places m m.length (cls3 m[i]!) = pl at *
      have hpm : ∀ q, q < pl.length → pl[q]! < m.length ∧ cls3 m[pl[q]!]! = cls3 m[i]! := fun q hq => by
        have : pl[q]! ∈ places m m.length (cls3 m[i]!) := by rw [hpl, getElem!_pos pl q hq]; exact List.getElem_mem _
        exact places_mem.1 this
      have hpa : ∀ j, j < m.length → keyL m[j]! = keyL m[i]! → j ∈ pl := fun j hj hkj => by
        rw [← hpl]
        have hmj : m[j]! ∈ m := by rw [getElem!_pos m j hj]; exact List.getElem_mem _
        exact places_mem.2 ⟨hj, cls3_of_key (hallm.out _ hmj) (hallm.out _ hmi) hkj⟩
      have hpln : pl.length ≤ 1000 := by rw [← hpl]; exact Nat.le_trans (places_len _ _ _) hml
      have hI6 : CmpI w5 w6 w3.heap.size m (fun j => (left (keyL m[j]!) && !(keyL m[j]!).sameKey (keyL m[i]!)) = true ∨ j ∈ pl) fs := by
        refine ⟨⟨hg1.os.trans hI.but.os, hg1.tape.trans hI.but.tape, hg1.output.trans hI.but.output, Nat.le_trans hI.but.size hg1.size, fun q hq hne => (hg1.block q (Nat.lt_of_lt_of_le hq hI.but.size) (by simp; omega)).trans (hI.but.block q hq hne)⟩, (hg1.block _ hI.row.lt (by simp; omega)).trans hI.row, hI.len, fun j hj => ?_⟩
        rcases hI.fits j hj with h | h
        · exact .inl h
        · by_cases hk : keyL m[j]! = keyL m[i]!
          · exact .inr (.inr (hpa j hj hk))
          · refine .inr (.inl ?_)
            rw [h, sameKey_ne hk]
            rfl
      clear hI hR hat hoi hpa
      have hneF : ∀ (q : Nat) (cur : Array Value) (fz : Nat × Nat), w5.heap[q]? = some (.cells cur 3 fz) → q ≠ w3.heap.size := fun q cur fz hq e => by
        have h1 : w5.heap[w3.heap.size]? = _ := hAF5
        rw [← e, hq] at h1
        injection h1 with h1
        injection h1 with _ hT
        exact absurd hT (by decide)
      have hgF := hneF _ _ _ hgb
      obtain ⟨hgdrun, ⟨curd, fzd, hgdb⟩, hgdc⟩ := hgd
      have hgdF := hneF _ _ _ hgdb
      have hg5 : g < w5.heap.size := (Array.getElem?_eq_some_iff.1 hgb).1
      have hgd5 : gd < w5.heap.size := (Array.getElem?_eq_some_iff.1 hgdb).1
      generalize hxi : m[i]! = xi at *
      replace hxi := Lib.hid hxi
      replace hpl := Lib.hid hpl
      clear hneF hgb hgdb hkx hmi
      unfold clsV at hen hgdrun ⊢
      go_wp2_with go_in
      refine name_wp ?_
      intro w7 hw7
      have hK7 : Arr w7 wo.heap.size 101 [.int .i64 xi.k, .int .i64 xi.a, .int .i64 xi.b] := by rw [hw7]; exact Arr.new rfl hs1.symm
      have hrg7 : w7.ranges Tryz.prog 101 (rowElem ws base 3 .i64) Mc w5.heap.size nn D (fun z => left z && !z.sameKey (keyL xi)) cnt1 := by rw [hw7]; exact hrg1.alloc _
      have hI7 : CmpI w5 w7 w3.heap.size m (fun j => (left (keyL m[j]!) && !(keyL m[j]!).sameKey (keyL xi)) = true ∨ j ∈ pl.drop 0) fs := by
        rw [hw7, List.drop_zero]
        exact ⟨hI6.but.alloc _ hI6.but.size, hI6.row.alloc _, hI6.len, hI6.fits⟩
      have hkb5 : w5.heap.size ≤ wo.heap.size := by rw [← hs1]; exact hI6.but.size
      have hcnt := hrg.left_eq
      replace hI7 := Lib.hid hI7
      replace hrg7 := Lib.hid hrg7
      replace hgdrun := Lib.hid hgdrun
      replace hgdc := Lib.hid hgdc
      replace hgc := Lib.hid hgc
      replace hpm := Lib.hid hpm
      replace hen := Lib.hid hen
      clear hw7 hI6 hen hrg1 hg1 hrg
      go_loopw [81] (fun ix W => ∃ (n : Nat) (fs : List Bool), n ≤ pl.length ∧ ix = .int .i64 (n : Int) ∧ Hid (BelowBut w7.heap.size w3.heap.size w7 W ∧ CmpI w5 W w3.heap.size m (fun j => (left (keyL m[j]!) && !(keyL m[j]!).sameKey (keyL xi)) = true ∨ j ∈ pl.drop n) fs)) (fun ix _ => pl.length - (intOf ix).toNat)
      case atStart => exact ⟨0, fs, Nat.zero_le _, rfl, Lib.hid ⟨BelowBut.refl _ _ _, hI7.out⟩⟩
      case round =>
        obtain ⟨n, fs, hn, rfl, hh⟩ := hrel
        obtain ⟨hb7, hI⟩ := hh.out
        clear hh
        by_cases hlt : n < pl.length
        · have hd : decide ((n : Int) < (pl.length : Int)) = true := by simp; omega
          have cg : wr.cell? ⟨g, n, none⟩ = some (.int .i64 ((pl[n]! : Nat) : Int)) := (hI.but.cell hg5 hgF).trans (hgc.out n hlt)
          have hp := (hpm.out n hlt).1
          have hgdn := hgdc.out n hlt
          have hdr : ∀ j, j ∈ pl.drop n → j = pl[n]! ∨ j ∈ pl.drop (n + 1) := fun j hj => by
            rw [List.drop_eq_getElem_cons hlt] at hj
            rw [getElem!_pos pl n hlt]
            exact List.mem_cons.1 hj
          generalize pl[n]! = p at *
          obtain ⟨bc, oc, hac, hbcl, hcellc⟩ := hcc.out p hp
          obtain ⟨bd, od, had, hbdl, hcelld⟩ := hdc.out p hp
          subst hac had
          have hevp : evOk m[p]! := hallm.out _ (by rw [getElem!_pos m p hp]; exact List.getElem_mem _)
          have hclp := Lib.hid fun W => hcl.out m[p]!.t W hevp.1.1 hevp.1.2
          have hc0 := fun W h => (hcellc W h).1
          have hd0 := fun W h => (hcelld W h).1
          clear hcellc hcelld hevp
          generalize htp : m[p]!.t = tp at *
          replace htp := Lib.hid htp
          have hSS : ∀ W', BelowBut w7.heap.size w3.heap.size w7 W' → (W'.cell? ⟨w.heap.size, 0, none⟩ = some (.int .i64 K) ∧ W'.cell? ⟨w.heap.size, 1, none⟩ = some (.int .i64 s) ∧ W'.cell? ⟨w.heap.size, 2, none⟩ = some (.bool false)) ∧ (W'.cell? ⟨wo.heap.size, 0, none⟩ = some (.int .i64 xi.k) ∧ W'.cell? ⟨wo.heap.size, 1, none⟩ = some (.int .i64 xi.a) ∧ W'.cell? ⟨wo.heap.size, 2, none⟩ = some (.int .i64 xi.b)) ∧ (Instr.lookup 104 (.map (some Md)) (.agg #[.int .i64 xi.k, .int .i64 xi.a, .int .i64 xi.b]) false).run Tryz.prog W' = .ok (.slice (some ⟨gd, 0, none⟩) pl.length capd) W' ∧ W'.cell? ⟨bc, oc + p * 4, none⟩ = some (.int .i64 tp) ∧ W'.cell? ⟨gd, n, none⟩ = some (.int .i64 (p : Int)) ∧ W'.cell? ⟨bd, od + p * 4, none⟩ = some (.int .i64 tp) := fun W' h => by
            have h5 := hI7.out.but.trans h hI7.out.but.size
            have hk := h.arr hK7 (by omega)
            have ha : Arr W' w.heap.size 29 [.int .i64 K, .int .i64 s, .bool false] := (h5.block _ hA5.lt (by omega)).trans hA5
            have hh3 : ∀ b, b < w3.heap.size → W'.heap[b]? = w3.heap[b]? := fun b hb => (h5.block b (by omega) (by omega)).trans (hw35.block b hb)
            exact ⟨⟨ha.cell rfl, ha.cell rfl, ha.cell rfl⟩, ⟨hk.cell rfl, hk.cell rfl, hk.cell rfl⟩, hgdrun.out W' (h5.block _ hMdlt hMdF), hc0 W' (hh3 bc hbcl), (h5.cell hgd5 hgdF).trans hgdn, hd0 W' (hh3 bd hbdl)⟩
          replace hSS := Lib.hid hSS
          have hi1 : (p : Int) < (m.length : Int) := by omega
          go_wp2_with fail
          refine wp_region_held_drew (S := fun W' => (W'.cell? ⟨w.heap.size, 0, none⟩ = some (.int .i64 K) ∧ W'.cell? ⟨w.heap.size, 1, none⟩ = some (.int .i64 s) ∧ W'.cell? ⟨w.heap.size, 2, none⟩ = some (.bool false)) ∧ (W'.cell? ⟨wo.heap.size, 0, none⟩ = some (.int .i64 xi.k) ∧ W'.cell? ⟨wo.heap.size, 1, none⟩ = some (.int .i64 xi.a) ∧ W'.cell? ⟨wo.heap.size, 2, none⟩ = some (.int .i64 xi.b)) ∧ (Instr.lookup 104 (.map (some Md)) (.agg #[.int .i64 xi.k, .int .i64 xi.a, .int .i64 xi.b]) false).run Tryz.prog W' = .ok (.slice (some ⟨gd, 0, none⟩) pl.length capd) W' ∧ W'.cell? ⟨bc, oc + p * 4, none⟩ = some (.int .i64 tp) ∧ W'.cell? ⟨gd, n, none⟩ = some (.int .i64 (p : Int)) ∧ W'.cell? ⟨bd, od + p * 4, none⟩ = some (.int .i64 tp)) (by kernel_rfl) (by exact hSS.out _ hb7.drew) (fun hHeld => ?_)
          clear hHeld
          obtain ⟨Wb, hWb⟩ : ∃ Wb, Wb = wr.drew := ⟨_, rfl⟩
          rw [← hWb]
          have hbb : BelowBut w7.heap.size w3.heap.size w7 Wb := by rw [hWb]; exact hb7.drew
          have hIb : CmpI w5 Wb w3.heap.size m (fun j => (left (keyL m[j]!) && !(keyL m[j]!).sameKey (keyL xi)) = true ∨ j ∈ pl.drop n) fs := by rw [hWb]; exact ⟨hI.but.drew, hI.row.drew, hI.len, hI.fits⟩
          have hHeld := hSS.out _ hbb
          clear hWb cg hI
          refine tk 0 ?_ rfl ?_ ?_
          rotate_left
          · intro w hSw; (try dsimp only at hSw); go_simp; (try with_reducible rfl)
          (try simp only [Act.put, List.setIfInBounds_toArray, List.set_cons_zero, List.set_cons_succ])
          refine tk 1 ?_ rfl ?_ ?_
          rotate_left
          · intro w hSw; (try dsimp only at hSw); go_simp; (try with_reducible rfl)
          (try simp only [Act.put, List.setIfInBounds_toArray, List.set_cons_zero, List.set_cons_succ])
          refine tk 2 ?_ rfl ?_ ?_
          rotate_left
          · intro w hSw; (try dsimp only at hSw); go_simp; (try with_reducible rfl)
          (try simp only [Act.put, List.setIfInBounds_toArray, List.set_cons_zero, List.set_cons_succ])
          refine tk 3 ?_ rfl ?_ ?_
          rotate_left
          · intro w hSw; (try dsimp only at hSw); go_simp; (try with_reducible rfl)
          (try simp only [Act.put, List.setIfInBounds_toArray, List.set_cons_zero, List.set_cons_succ])
          refine tk 4 ?_ rfl ?_ ?_
          rotate_left
          · intro w hSw; (try dsimp only at hSw); go_simp; (try with_reducible rfl)
          (try simp only [Act.put, List.setIfInBounds_toArray, List.set_cons_zero, List.set_cons_succ])
          refine tk 5 ?_ rfl ?_ ?_
          rotate_left
          · intro w hSw; (try dsimp only at hSw); go_simp; (try with_reducible rfl)
          (try simp only [Act.put, List.setIfInBounds_toArray, List.set_cons_zero, List.set_cons_succ])
          refine tk 6 ?_ rfl ?_ ?_
          rotate_left
          · intro w hSw; (try dsimp only at hSw); go_simp; (try with_reducible rfl)
          (try simp only [Act.put, List.setIfInBounds_toArray, List.set_cons_zero, List.set_cons_succ])
          refine tk 7 ?_ rfl ?_ ?_
          rotate_left
          · intro w hSw; (try dsimp only at hSw); go_simp; (try with_reducible rfl)
          (try simp only [Act.put, List.setIfInBounds_toArray, List.set_cons_zero, List.set_cons_succ])
          refine tk 8 ?_ rfl ?_ ?_
          rotate_left
          · intro w hSw; (try dsimp only at hSw); go_simp; (try with_reducible rfl)
          (try simp only [Act.put, List.setIfInBounds_toArray, List.set_cons_zero, List.set_cons_succ])
          refine tk 9 ?_ rfl ?_ ?_
          rotate_left
          · intro w hSw; (try dsimp only at hSw); go_simp; (try with_reducible rfl)
          (try simp only [Act.put, List.setIfInBounds_toArray, List.set_cons_zero, List.set_cons_succ])
          refine tk 10 ?_ rfl ?_ ?_
          rotate_left
          · intro w hSw; (try dsimp only at hSw); go_simp; (try with_reducible rfl)
          (try simp only [Act.put, List.setIfInBounds_toArray, List.set_cons_zero, List.set_cons_succ])
          refine tk 11 ?_ rfl ?_ ?_
          rotate_left
          · intro w hSw; (try dsimp only at hSw); go_simp; (try with_reducible rfl)
          (try simp only [Act.put, List.setIfInBounds_toArray, List.set_cons_zero, List.set_cons_succ])
          refine tk 12 ?_ rfl ?_ ?_
          rotate_left
          · intro w hSw; (try dsimp only at hSw); go_simp; (try with_reducible rfl)
          (try simp only [Act.put, List.setIfInBounds_toArray, List.set_cons_zero, List.set_cons_succ])
          refine tk 13 ?_ rfl ?_ ?_
          rotate_left
          · intro w hSw; (try dsimp only at hSw); go_simp; (try with_reducible rfl)
          (try simp only [Act.put, List.setIfInBounds_toArray, List.set_cons_zero, List.set_cons_succ])
          refine tk 14 ?_ rfl ?_ ?_
          rotate_left
          · intro w hSw; (try dsimp only at hSw); go_simp; (try with_reducible rfl)
          (try simp only [Act.put, List.setIfInBounds_toArray, List.set_cons_zero, List.set_cons_succ])
          refine tk 15 ?_ rfl ?_ ?_
          rotate_left
          · intro w hSw; (try dsimp only at hSw); go_simp; (try with_reducible rfl)
          (try simp only [Act.put, List.setIfInBounds_toArray, List.set_cons_zero, List.set_cons_succ])
          refine tk 16 ?_ rfl ?_ ?_
          rotate_left
          · intro w hSw; (try dsimp only at hSw); go_simp; (try with_reducible rfl)
          (try simp only [Act.put, List.setIfInBounds_toArray, List.set_cons_zero, List.set_cons_succ])
          refine tk 17 ?_ rfl ?_ ?_
          rotate_left
          · intro w hSw; (try dsimp only at hSw); go_simp; (try with_reducible rfl)
          (try simp only [Act.put, List.setIfInBounds_toArray, List.set_cons_zero, List.set_cons_succ])
          refine tk 18 ?_ rfl ?_ ?_
          rotate_left
          · intro w hSw; (try dsimp only at hSw); go_simp; (try with_reducible rfl)
          (try simp only [Act.put, List.setIfInBounds_toArray, List.set_cons_zero, List.set_cons_succ])
          refine tk 19 ?_ rfl ?_ ?_
          rotate_left
          · intro w hSw; (try dsimp only at hSw); go_simp; (try with_reducible rfl)
          (try simp only [Act.put, List.setIfInBounds_toArray, List.set_cons_zero, List.set_cons_succ])
          refine tk 20 ?_ rfl ?_ ?_
          rotate_left
          · intro w hSw; (try dsimp only at hSw); go_simp; (try with_reducible rfl)
          (try simp only [Act.put, List.setIfInBounds_toArray, List.set_cons_zero, List.set_cons_succ])
          refine tk 21 ?_ rfl ?_ ?_
          rotate_left
          · intro w hSw; (try dsimp only at hSw); go_simp; (try with_reducible rfl)
          (try simp only [Act.put, List.setIfInBounds_toArray, List.set_cons_zero, List.set_cons_succ])
          refine tk 22 ?_ rfl ?_ ?_
          rotate_left
          · intro w hSw; (try dsimp only at hSw); go_simp; (try with_reducible rfl)
          (try simp only [Act.put, List.setIfInBounds_toArray, List.set_cons_zero, List.set_cons_succ])
          refine tk 23 ?_ rfl ?_ ?_
          rotate_left
          · intro w hSw; (try dsimp only at hSw); go_simp; (try with_reducible rfl)
          (try simp only [Act.put, List.setIfInBounds_toArray, List.set_cons_zero, List.set_cons_succ])
          refine tk 24 ?_ rfl ?_ ?_
          rotate_left
          · intro w hSw; (try dsimp only at hSw); go_simp; (try with_reducible rfl)
          (try simp only [Act.put, List.setIfInBounds_toArray, List.set_cons_zero, List.set_cons_succ])
          refine wpAnyH_ready (rs := [25]) (by kernel_rfl) (by simp) ?_
          refine ready_l rfl (fun K hK => ?_) AllReadyH.nil
          go_simp
          refine (hclp.out _).mono ?_
          rintro e W3 ⟨rfl, hbq⟩
          have hb3 := hbb.trans (BelowBut.of hbq) hbb.size
          refine hK.out _ _ (by exact hSS.out _ hb3) (fun hHeld => ?_)
          clear hK K
          (try simp only [Act.put, List.setIfInBounds_toArray, List.set_cons_zero, List.set_cons_succ])
          refine tk 26 ?_ rfl ?_ ?_
          rotate_left
          · intro w hSw; (try dsimp only at hSw); go_simp; (try with_reducible rfl)
          (try simp only [Act.put, List.setIfInBounds_toArray, List.set_cons_zero, List.set_cons_succ])
          refine tk 27 ?_ rfl ?_ ?_
          rotate_left
          · intro w hSw; (try dsimp only at hSw); go_simp; (try with_reducible rfl)
          (try simp only [Act.put, List.setIfInBounds_toArray, List.set_cons_zero, List.set_cons_succ])
          have hI3 : CmpI w5 W3 w3.heap.size m (fun j => (left (keyL m[j]!) && !(keyL m[j]!).sameKey (keyL xi)) = true ∨ j ∈ pl.drop n) fs := ⟨hIb.but.trans (BelowBut.of hbq) hIb.but.size, (hbq.block _ hIb.row.lt).trans hIb.row, hIb.len, hIb.fits⟩
          have hpf : p < fs.length := by rw [hI3.len]; exact hp
          have hcF := hI3.row.cell (bools_cell hpf)
          have hfF := hI3.row.free p
          refine wpAnyH_ready (rs := [28]) (by kernel_rfl) (by simp) ?_
          refine ready_l rfl (fun K hK => ?_) AllReadyH.nil
          go_simp
          refine hK.out _ _ (by exact hSS.out _ (hb3.setCell p _)) (fun hHeld => ?_)
          clear hK K
          (try simp only [Act.put, List.setIfInBounds_toArray, List.set_cons_zero, List.set_cons_succ])
          refine wpAnyH_done (by kernel_rfl) ?_ _
          go_wp2_with fail
          refine ⟨⟨n + 1, fs.set p true, by omega, by simp, Lib.hid ⟨hb3.setCell p _, hI3.but.setCell p _, ?_, by rw [List.length_set]; exact hI3.len, fun j hj => ?_⟩⟩, by simp [intOf]; omega⟩
          · rw [List.map_set]
            exact hI3.row.set p _
          · by_cases hjp : j = p
            · exact .inl (by subst hjp; rw [getElem!_pos _ _ (by rw [List.length_set]; exact hpf), List.getElem_set_self])
            · rcases hI3.fits j hj with h | h | h
              · refine .inl ?_
                have hjf : j < fs.length := by rw [hI3.len]; exact hj
                rw [getElem!_pos fs j hjf] at h
                rw [getElem!_pos _ _ (by rw [List.length_set]; exact hjf), List.getElem_set_ne (by omega)]
                exact h
              · exact .inr (.inl h)
              · exact .inr (.inr ((hdr j h).resolve_left hjp))
        · have hd : decide ((n : Int) < (pl.length : Int)) = false := by simp; omega
          have hnp : pl.drop n = [] := List.drop_eq_nil_of_le (by omega)
          go_wp2_with fail
          have hrn := ranges_of hrg7.out (hb7.block _ hrg7.out.owns.lt hMcF) (hb7.block _ hrg7.out.lt (by omega))
          refine ⟨⟨_, _, fs, hrn, hI.but, hI.row, hI.len, fun j hj => ?_⟩, by rw [hrn.left_eq, hcnt]; exact hltc⟩
          rcases hI.fits j hj with h | h | h
          · exact .inl h
          · exact .inr h
          · rw [hnp] at h
            cases h
end Go.Proofs.YtocpnlifmeffkaaGreatDoor
namespace Go.Proofs.YtocpnlifmeffkaaGreatDoor
open Go.RowKit Go.Shelf Go.Maps Go.ChangeShapes Go.ChangeMaps

theorem Compare_any (K s : Int) (b : Bool) (u v : Value) (l : List Ev) (w : World) (hr : RelOk K s) (hok : EvsOk l) (hu : SliceAt w w.heap.size u l.length (evCells l)) (hv : SliceAt w w.heap.size v l.length (evCells l)) :
    Calls Tryz.prog 13 #[relV K s b, u, v] w fun e w' => e = .returned (.tuple #[.int .i64 0, .bool true]) ∧ Below w.heap.size w w' := by
  cases b
  · exact CompareU_any K s u v l w hr hok hu hv
  · exact CompareO_any K s u v l w hr hok hu hv
end Go.Proofs.YtocpnlifmeffkaaGreatDoor
