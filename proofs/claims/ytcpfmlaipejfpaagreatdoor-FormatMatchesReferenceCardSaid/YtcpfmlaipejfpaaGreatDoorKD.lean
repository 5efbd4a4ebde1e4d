/-
  Formats of chapter 4: the reference's Make, walked.
-/
import Derived.Test.YtcpfmlaipejfpaaGreatDoorKC
import Derived.Test.YtcpfmlaipejfpaaGreatDoorKA
namespace Go.Proofs.YtcpfmlaipejfpaaGreatDoor
open Go.RowKit Go.Shelf Go.Maps

attribute [local go_sem] Oper.semAt_some

theorem extract_mid (s : List UInt8) (f k : Nat) : (str s).extract f k = str ((s.drop f).take (k - f)) := by
  apply ByteArray.ext
  apply Array.toList_inj.1
  rw [Lib.extract_data, str_list, str_list]
theorem conv2 (W : World) (a b : Int) : ∃ t2 : List UInt8, t2.length = 2 ∧ (convert 44 9 (.slice (some ⟨W.heap.size, 0, none⟩) 2 2)).run Tryz.prog (W.alloc (.cells #[.int .u8 a, .int .u8 b] 5)).drew = .ok (.string (str t2)) (W.alloc (.cells #[.int .u8 a, .int .u8 b] 5)).drew := by
  have hA : Arr (W.alloc (.cells #[.int .u8 a, .int .u8 b] 5)).drew W.heap.size 5 [.int .u8 a, .int .u8 b] := (Arr.new rfl rfl).drew
  refine ⟨[a, b].map fun n => UInt8.ofNat n.toNat, rfl, ?_⟩
  exact run_convert_bytes_arg (P := Tryz.prog) _ _ _ Tryz.underlying44 Tryz.underlying5 W.heap.size 0 2 2 [a, b] rfl (fun i hi => by
    obtain rfl | rfl : i = 0 ∨ i = 1 := by omega
    · exact hA.cell (j := 0) rfl
    · exact hA.cell (j := 1) rfl) _ Tryz.underlying9
set_option maxRecDepth 100000 in
set_option maxHeartbeats 16000000 in
theorem Make_any (v : Value) (n : Nat) (zs : List Int) (w : World) (hs : SliceAt w w.heap.size v n (zs.map (Value.int .i64))) (hz : zs.length = n * 4) (hI : ∀ z ∈ zs, I64 z) :
    Calls Tryz.prog 11 #[v] w fun e w' => (∃ lv fvs l, e = .returned lv ∧ MkOk l ∧ MkL w.heap.size w' lv fvs l) ∧ Below w.heap.size w w' := by
  obtain ⟨ao, c, rfl, hc1, hc2, hcell⟩ := hs
  have hn : n ≤ 9223372036854775807 := by unfold maxLen at hc2; omega
  have hx := Lib.hid fun (W : World) (hb : Below w.heap.size w W) i (hi : i < n) => by
    obtain ⟨b, o, e, hb0, hat⟩ := hcell (by omega)
    have hcc : ∀ j, j < 4 → ∃ y : Int, I64 y ∧ W.cell? ⟨b, o + (i * 4 + j), none⟩ = some (.int .i64 y) := fun j hj => by
      have hl : i * 4 + j < zs.length := by omega
      refine ⟨zs[i * 4 + j], hI _ (List.getElem_mem hl), (hb.cell (p := ⟨b, o + (i * 4 + j), none⟩) hb0).trans (hat _ _ ?_)⟩
      rw [List.getElem?_map, List.getElem?_eq_getElem hl]
      rfl
    exact (⟨b, o, e, hcc⟩ : ∃ b o, ao = some ⟨b, o, none⟩ ∧ ∀ j, j < 4 → ∃ y : Int, I64 y ∧ W.cell? ⟨b, o + (i * 4 + j), none⟩ = some (.int .i64 y))
  clear hcell hI hz
  go_enter Tryz.func11, Tryz.ntmps11
  go_wp2_with fail
  go_loopw [4, 3] (fun iv lv wr => ∃ (i : Nat) (fvs : List Value) (l : List Fmt), iv = .int .i64 (i : Int) ∧ i ≤ n ∧ l.length = i ∧ Hid (MkOk l ∧ MkL w.heap.size wr lv fvs l ∧ Below w.heap.size w wr)) (fun iv _ _ => n - (intOf iv).toNat)
  case atStart => exact ⟨0, [], [], rfl, Nat.zero_le _, rfl, (show Hid _ from ⟨MkOk.nil, ⟨rfl, ⟨rfl, .inl ⟨rfl, rfl⟩⟩, fun i hi => absurd hi (Nat.not_lt_zero _)⟩, Below.refl _ _⟩)⟩
  case round =>
    obtain ⟨i, fvs, l, rfl, hi, rfl, hS⟩ := hrel
    obtain ⟨wo, hwo⟩ : ∃ wo, wo = wr := ⟨_, rfl⟩
    subst hwo
    have hi6 : l.length ≤ 6 := hS.out.1.len
    obtain ⟨la, lc, rfl⟩ := own_val hS.out.2.1.row
    by_cases hlt : l.length < n
    · have hd : decide ((l.length : Int) < (n : Int)) = true := decide_eq_true (by omega)
      by_cases hl6 : l.length < 6
      · have hd6 : decide ((l.length : Int) < 6) = true := decide_eq_true (by omega)
        obtain ⟨b, o, rfl, hy⟩ := hx.out wo hS.out.2.2 l.length hlt
        obtain ⟨y0, i0, c0⟩ := hy 0 (by omega)
        obtain ⟨y1, i1, c1⟩ := hy 1 (by omega)
        obtain ⟨y2, i2, c2⟩ := hy 2 (by omega)
        obtain ⟨y3, i3, c3⟩ := hy 3 (by omega)
        clear hy
        simp only [Nat.add_zero, ← Nat.add_assoc] at c0 c1 c2 c3
        have j0 : (0 : Int) ≤ (l.length : Int) := by omega
        have j1 : (l.length : Int) < (n : Int) := by omega
        have hp0 := Lib.hid fun W => pickB y0 3 W i0 (by omega) (by omega)
        have hp1 := Lib.hid fun W => pickB y1 6 W i1 (by omega) (by omega)
        have hp2 := Lib.hid fun W => pickB y2 1000000 W i2 (by omega) (by omega)
        have hSB := hS.out.2.2
        obtain ⟨W1, hW1⟩ : ∃ W1, W1 = wo.alloc (.cells #[.int .i64 y0, .int .i64 y1, .int .i64 y2, .int .i64 y3] 57) := ⟨_, rfl⟩
        have hb1 : Below wo.heap.size wo W1 := by rw [hW1]; exact (Below.refl _ _).alloc (Nat.le_refl _) _
        have hAy : Arr W1 wo.heap.size 57 [.int .i64 y0, .int .i64 y1, .int .i64 y2, .int .i64 y3] := by rw [hW1]; exact Arr.new rfl rfl
        go_wp2_with fail
        rw [← hW1]
        clear hW1 c0 c1 c2 c3
        refine (hp0.out W1).mono ?_
        rintro e w1 ⟨⟨r0, hr0, rfl⟩, hw⟩
        subst w1
        obtain ⟨id, hid⟩ : ∃ id : Int, id = 1 + 3 * (l.length : Int) + (r0 : Int) := ⟨_, rfl⟩
        have hwid : IntKind.i64.wrap (1 + 3 * (l.length : Int) + (r0 : Int)) = id := by rw [hid]; exact IntWalk.i64_in _ (by omega)
        replace hid := Lib.hid hid
        obtain ⟨W2, hW2⟩ : ∃ W2, W2 = W1.alloc (.cells #[.int .i64 id, .slice none 0 0] 34) := ⟨_, rfl⟩
        have hb2 : Below W1.heap.size W1 W2 := by rw [hW2]; exact (Below.refl _ _).alloc (Nat.le_refl _) _
        have hIn : InF W1 id (.slice none 0 0) [] W2 := ⟨hb2, by rw [hW2]; exact Arr.new rfl rfl, ⟨rfl, .inl ⟨rfl, rfl⟩⟩, fun x hx => (List.not_mem_nil hx).elim, fun x hx => (List.not_mem_nil hx).elim⟩
        have d1 := (hAy.below hb2).cell (j := 1) rfl
        rw [hW2] at d1
        go_wp2_with fail
        rw [← hW2] at d1 ⊢
        clear d1
        have d2 := (hAy.below hb2).cell (j := 2) rfl
        clear hW2
        refine (hp1.out W2).mono ?_
        rintro e w1 ⟨⟨r1, hr1, rfl⟩, hw⟩
        subst w1
        have hwn : IntKind.i64.wrap (1 + (r1 : Int)) = ((r1 + 1 : Nat) : Int) := by rw [Int.natCast_succ, Int.add_comm]; exact IntWalk.i64_in _ (by omega)
        go_wp2_with fail
        refine (hp2.out W2).mono ?_
        rintro e w1 ⟨⟨cc, hcc, rfl⟩, hw⟩
        subst w1
        clear d2
        replace hIn := Lib.hid hIn
        clear hp0 hp1 hp2
        go_wp2_with fail
        go_loopw [9] (fun kv wr2 => ∃ (k : Nat) (fv : Value) (fs : List Fld), kv = .int .i64 (k : Int) ∧ fs.length = k ∧ k ≤ r1 + 1 ∧ Hid (InF W1 id fv fs wr2)) (fun kv _ => r1 + 1 - (intOf kv).toNat)
        case atStart => exact ⟨0, _, [], rfl, rfl, Nat.zero_le _, hIn⟩
        case round =>
          obtain ⟨k, fv, fs, rfl, rfl, hk, hF⟩ := hrel
          obtain ⟨fa, fc, rfl⟩ := own_val hF.out.row
          have f1 := hF.out.box.cell (j := 1) rfl
          by_cases hkn : fs.length < r1 + 1
          · have hdk : decide ((fs.length : Int) < ((r1 + 1 : Nat) : Int)) = true := decide_eq_true (by omega)
            have k0 : (0 : Int) ≤ (fs.length : Int) := by omega
            have k64 : (fs.length : Int) < 64 := by omega
            have hp3 := Lib.hid fun W => pickB ((cc : Int) / 2 ^ fs.length) 9 W (shr_i64 _ _ ⟨by omega, by omega⟩) (by omega) (by omega)
            have hp4 := Lib.hid fun W => pickB (y3 / 2 ^ fs.length) 2 W (shr_i64 _ _ i3) (by omega) (by omega)
            have hk7 : fs.length ≤ 6 := by omega
            go_wp2_with fail
            refine (hp3.out wr).mono ?_
            rintro e w1 ⟨⟨m, hm, rfl⟩, hw⟩
            subst w1
            clear hp3
            go_wp2_with fail
            refine (free_any _ fs wr (hF.out.flds (by omega))).mono ?_
            rintro e w1 ⟨⟨op, rfl, ho1, ho2⟩, hw⟩
            subst w1
            have e3 := (hAy.below hF.out.below).cell (j := 3) rfl
            go_wp2_with fail
            refine (hp4.out wr).mono ?_
            rintro e w1 ⟨⟨r4, hr4, rfl⟩, hw⟩
            subst w1
            clear hp4
            have hw4 : IntKind.i64.wrap (1 + (r4 : Int)) = ((r4 + 1 : Nat) : Int) := by rw [Int.natCast_succ, Int.add_comm]; exact IntWalk.i64_in _ (by omega)
            obtain ⟨W3, hW3⟩ : ∃ W3, W3 = wr.alloc (.cells #[.int .i64 2, .int .i64 ((r4 : Int) + 1), .int .i64 (-1), .string { data := #[] }] 55) := ⟨_, rfl⟩
            have hb3 : Below wr.heap.size wr W3 := by rw [hW3]; exact (Below.refl _ _).alloc (Nat.le_refl _) _
            have hX3 : BoxF wr ⟨2, (r4 : Int) + 1, -1, []⟩ W3 := ⟨⟨⟨by dsimp only; omega, by dsimp only; omega⟩, ⟨by dsimp only; omega, by dsimp only; omega⟩, ⟨by dsimp only; omega, by dsimp only; omega⟩, by simp⟩, by simp, by rw [hW3]; exact Arr.new rfl rfl, hb3⟩
            go_upto_block 4 with fail
            rw [← hW3]
            clear hW3
            have e4 := (e3 : wr.cell? _ = _)
            replace e4 := (hb3.cell (World.block_lt_of_cell? _ _ e4)).trans e4
            have hL3 : Hid (MkL w.heap.size W3 (.slice la l.length lc) fvs l) := hS.out.2.1.below (hb1.trans ((hF.out.below.trans (hb3.mono hF.out.below.size)).mono hb1.size))
            go_cut [] from 65 to 167 (fun wx => ∃ g, BoxF wr g wx ∧ SmallF g)
            case first =>
              have c0 := hX3.arr.cell (j := 0) rfl
              have c1 := hX3.arr.cell (j := 1) rfl
              have c2 := hX3.arr.cell (j := 2) rfl
              have c3 := hX3.arr.cell (j := 3) rfl
              have q0 := hX3.arr.free 0
              have q1 := hX3.arr.free 1
              have q2 := hX3.arr.free 2
              have q3 := hX3.arr.free 3
              have hop64 : I64 op := ⟨by omega, by omega⟩
              have hOb := Lib.hid fun j (hj : j < l.length) => (hL3.out.fmts hS.out.1.in_).at hj
              obtain rfl | rfl | rfl | rfl | rfl | rfl | rfl | rfl | rfl : m = 0 ∨ m = 1 ∨ m = 2 ∨ m = 3 ∨ m = 4 ∨ m = 5 ∨ m = 6 ∨ m = 7 ∨ m = 8 := by omega
              · as_aux_lemma =>
                  have hpA := fun W => pickB (y3 / 2 ^ fs.length) 4 W (shr_i64 _ _ i3) (by omega) (by omega)
                  have hpB := fun W => pickB y3 256 W i3 (by omega) (by omega)
                  have hpC := fun W => pickB (cc : Int) 2 W ⟨by omega, by omega⟩ (by omega) (by omega)
                  have hHold : ∀ w', Below wr.heap.size wr w' → w'.cell? ⟨wo.heap.size, 3, none⟩ = some (.int .i64 y3) := fun w' hb => (hb.cell (World.block_lt_of_cell? _ _ e3)).trans e3
                  go_wp2_with fail
                  refine wp_region_held_drew (S := fun w' => w'.cell? ⟨wo.heap.size, 3, none⟩ = some (.int .i64 y3)) (by kernel_rfl) (by exact e4) (fun hHeld => ?_)
                  refine take_l (i := 0) (v := ?_) rfl (by kernel_rfl) (by kernel_rfl) (by kernel_rfl) (fun _ _ _ h => h) (Or.inl ⟨by kernel_rfl, ?_⟩) (by assumption) ?_
                  rotate_left
                  · intro w hSw; (try dsimp only at hSw); go_simp; (try with_reducible rfl)
                  (try simp only [Act.put, List.setIfInBounds_toArray, List.set_cons_zero, List.set_cons_succ])
                  refine take_l (i := 1) (v := ?_) rfl (by kernel_rfl) (by kernel_rfl) (by kernel_rfl) (fun _ _ _ h => h) (Or.inl ⟨by kernel_rfl, ?_⟩) (by assumption) ?_
                  rotate_left
                  · intro w hSw; (try dsimp only at hSw); go_simp; (try with_reducible rfl)
                  (try simp only [Act.put, List.setIfInBounds_toArray, List.set_cons_zero, List.set_cons_succ])
                  refine take_l (i := 2) (v := ?_) rfl (by kernel_rfl) (by kernel_rfl) (by kernel_rfl) (fun _ _ _ h => h) (Or.inl ⟨by kernel_rfl, ?_⟩) (by assumption) ?_
                  rotate_left
                  · intro w hSw; (try dsimp only at hSw); go_simp; (try with_reducible rfl)
                  (try simp only [Act.put, List.setIfInBounds_toArray, List.set_cons_zero, List.set_cons_succ])
                  refine take_l (i := 3) (v := ?_) rfl (by kernel_rfl) (by kernel_rfl) (by kernel_rfl) (fun _ _ _ h => h) (Or.inl ⟨by kernel_rfl, ?_⟩) (by assumption) ?_
                  rotate_left
                  · intro w hSw; (try dsimp only at hSw); go_simp; (try with_reducible rfl)
                  (try simp only [Act.put, List.setIfInBounds_toArray, List.set_cons_zero, List.set_cons_succ])
                  refine take_l (i := 7) (v := ?_) rfl (by kernel_rfl) (by kernel_rfl) (by kernel_rfl) (fun _ _ _ h => h) (Or.inl ⟨by kernel_rfl, ?_⟩) (by assumption) ?_
                  rotate_left
                  · intro w hSw; (try dsimp only at hSw); go_simp; (try with_reducible rfl)
                  (try simp only [Act.put, List.setIfInBounds_toArray, List.set_cons_zero, List.set_cons_succ])
                  refine take_l (i := 8) (v := ?_) rfl (by kernel_rfl) (by kernel_rfl) (by kernel_rfl) (fun _ _ _ h => h) (Or.inl ⟨by kernel_rfl, ?_⟩) (by assumption) ?_
                  rotate_left
                  · intro w hSw; (try dsimp only at hSw); go_simp; (try with_reducible rfl)
                  (try simp only [Act.put, List.setIfInBounds_toArray, List.set_cons_zero, List.set_cons_succ])
                  refine take_l (i := 13) (v := ?_) rfl (by kernel_rfl) (by kernel_rfl) (by kernel_rfl) (fun _ _ _ h => h) (Or.inl ⟨by kernel_rfl, ?_⟩) (by assumption) ?_
                  rotate_left
                  · intro w hSw; (try dsimp only at hSw); go_simp; (try with_reducible rfl)
                  (try simp only [Act.put, List.setIfInBounds_toArray, List.set_cons_zero, List.set_cons_succ])
                  refine wpAnyH_ready (rs := [4]) (by kernel_rfl) (by simp) ?_
                  refine ready_l rfl (fun K hK => ?_) AllReadyH.nil
                  go_simp
                  refine (hpA _).mono ?_
                  rintro e w1 ⟨⟨rA, hrA, rfl⟩, hw⟩
                  subst w1
                  refine hK.out _ _ (by exact hHold _ (hX3.below.drew)) (fun hHeld => ?_)
                  clear hK K
                  (try simp only [Act.put, List.setIfInBounds_toArray, List.set_cons_zero, List.set_cons_succ])
                  have hwA1 : IntKind.i64.wrap (65 + (rA : Int)) = 65 + (rA : Int) := IntWalk.i64_in _ (by omega)
                  have hwA : IntKind.u8.wrap (65 + (rA : Int)) = 65 + (rA : Int) := IntWalk.u8_in _ (by omega)
                  refine take_l (i := 5) (v := ?_) rfl (by kernel_rfl) (by kernel_rfl) (by kernel_rfl) (fun _ _ _ h => h) (Or.inl ⟨by kernel_rfl, ?_⟩) (by assumption) ?_
                  rotate_left
                  · intro w hSw; (try dsimp only at hSw); go_simp; (try with_reducible rfl)
                  (try simp only [Act.put, List.setIfInBounds_toArray, List.set_cons_zero, List.set_cons_succ])
                  refine take_l (i := 6) (v := ?_) rfl (by kernel_rfl) (by kernel_rfl) (by kernel_rfl) (fun _ _ _ h => h) (Or.inl ⟨by kernel_rfl, ?_⟩) (by assumption) ?_
                  rotate_left
                  · intro w hSw; (try dsimp only at hSw); go_simp; (try with_reducible rfl)
                  (try simp only [Act.put, List.setIfInBounds_toArray, List.set_cons_zero, List.set_cons_succ])
                  refine wpAnyH_ready (rs := [9]) (by kernel_rfl) (by simp) ?_
                  refine ready_l rfl (fun K hK => ?_) AllReadyH.nil
                  go_simp
                  refine (hpB _).mono ?_
                  rintro e w1 ⟨⟨rB, hrB, rfl⟩, hw⟩
                  subst w1
                  refine hK.out _ _ (by exact hHold _ (hX3.below.drew)) (fun hHeld => ?_)
                  clear hK K
                  (try simp only [Act.put, List.setIfInBounds_toArray, List.set_cons_zero, List.set_cons_succ])
                  have hwB : IntKind.u8.wrap (rB : Int) = (rB : Int) := IntWalk.u8_in _ (by omega)
                  refine take_l (i := 10) (v := ?_) rfl (by kernel_rfl) (by kernel_rfl) (by kernel_rfl) (fun _ _ _ h => h) (Or.inl ⟨by kernel_rfl, ?_⟩) (by assumption) ?_
                  rotate_left
                  · intro w hSw; (try dsimp only at hSw); go_simp; (try with_reducible rfl)
                  (try simp only [Act.put, List.setIfInBounds_toArray, List.set_cons_zero, List.set_cons_succ])
                  obtain ⟨t2, ht2, hcv⟩ := conv2 W3 (65 + (rA : Int)) (rB : Int)
                  have htz := str_size t2
                  rw [ht2] at htz
                  have hex : ∀ k, (str t2).extract 0 k = str (t2.take k) := fun k => by rw [extract_mid, List.drop_zero, Nat.sub_zero]
                  have hBB : Below W3.heap.size W3 (W3.alloc (.cells #[.int .u8 (65 + (rA : Int)), .int .u8 (rB : Int)] 5)).drew := ((Below.refl W3.heap.size W3).alloc (Nat.le_refl _) (.cells #[.int .u8 (65 + (rA : Int)), .int .u8 (rB : Int)] 5)).drew
                  have hXB := hX3.later hBB
                  have hXA : BoxF wr _ (W3.alloc (.cells #[.int .u8 (65 + (rA : Int)), .int .u8 (rB : Int)] 5)) := hX3.later ((Below.refl W3.heap.size W3).alloc (Nat.le_refl _) (.cells #[.int .u8 (65 + (rA : Int)), .int .u8 (rB : Int)] 5))
                  have cX0 := hXA.arr.cell (j := 0) rfl
                  have qX0 := hXA.arr.free 0
                  have cX1 := hXA.arr.cell (j := 1) rfl
                  have qX1 := hXA.arr.free 1
                  have cX2 := hXA.arr.cell (j := 2) rfl
                  have qX2 := hXA.arr.free 2
                  have cX3 := hXA.arr.cell (j := 3) rfl
                  have qX3 := hXA.arr.free 3
                  replace hXB := Lib.hid hXB
                  replace hXA := Lib.hid hXA
                  refine wpAnyH_ready (rs := [11, 14]) (by kernel_rfl) (by simp) ?_
                  refine ready_l rfl (fun K hK => ?_) (ready_l rfl (fun K hK => ?_) AllReadyH.nil)
                  · go_simp
                    refine hK.out _ _ (by exact hHold _ (hXB.out.below)) (fun hHeld => ?_)
                    clear hK K
                    (try simp only [Act.put, List.setIfInBounds_toArray, List.set_cons_zero, List.set_cons_succ])
                    refine wpAnyH_ready (rs := [12, 14]) (by kernel_rfl) (by simp) ?_
                    refine ready_l rfl (fun K hK => ?_) (ready_l rfl (fun K hK => ?_) AllReadyH.nil)
                    · go_simp
                      refine hK.out _ _ (by exact hHold _ (hXB.out.below)) (fun hHeld => ?_)
                      clear hK K
                      (try simp only [Act.put, List.setIfInBounds_toArray, List.set_cons_zero, List.set_cons_succ])
                      refine wpAnyH_ready (rs := [14]) (by kernel_rfl) (by simp) ?_
                      refine ready_l rfl (fun K hK => ?_) AllReadyH.nil
                      go_simp
                      refine (hpC _).mono ?_
                      rintro e w1 ⟨⟨rC, hrC, rfl⟩, hw⟩
                      subst w1
                      refine hK.out _ _ (by exact hHold _ (hXB.out.below)) (fun hHeld => ?_)
                      clear hK K
                      (try simp only [Act.put, List.setIfInBounds_toArray, List.set_cons_zero, List.set_cons_succ])
                      have hwC : IntKind.i64.wrap (1 + (rC : Int)) = ((rC + 1 : Nat) : Int) := by rw [Int.natCast_succ, Int.add_comm]; exact IntWalk.i64_in _ (by omega)
                      refine take_l (i := 15) (v := ?_) rfl (by kernel_rfl) (by kernel_rfl) (by kernel_rfl) (fun _ _ _ h => h) (Or.inl ⟨by kernel_rfl, ?_⟩) (by assumption) ?_
                      rotate_left
                      · intro w hSw; (try dsimp only at hSw); go_simp; (try with_reducible rfl)
                      (try simp only [Act.put, List.setIfInBounds_toArray, List.set_cons_zero, List.set_cons_succ])
                      have hALL := (hXA.out.all ⟨1, 0, -1, t2.take (rC + 1)⟩ (fok ⟨by omega, by omega⟩ ⟨by omega, by omega⟩ ⟨by omega, by omega⟩ (by rw [List.length_take]; omega)) (by dsimp only; rw [List.length_take]; omega)).later (Below.refl _ _).drew
                      dsimp only at hALL
                      have hrc1 : (rC : Int) + 1 ≤ 2 := by omega
                      have hrc0 : 0 ≤ (rC : Int) + 1 := by omega
                      refine take_l (i := 16) (v := ?_) rfl (by kernel_rfl) (by kernel_rfl) (by kernel_rfl) (fun _ _ _ h => h) (Or.inl ⟨by kernel_rfl, ?_⟩) (by assumption) ?_
                      rotate_left
                      · intro w hSw; (try dsimp only at hSw); go_simp; (try with_reducible rfl)
                      (try simp only [Act.put, List.setIfInBounds_toArray, List.set_cons_zero, List.set_cons_succ])
                      refine take_l (i := 17) (v := ?_) rfl (by kernel_rfl) (by kernel_rfl) (by kernel_rfl) (fun _ _ _ h => h) (Or.inl ⟨by kernel_rfl, ?_⟩) (by assumption) ?_
                      rotate_left
                      · intro w hSw; (try dsimp only at hSw); go_simp; (try with_reducible rfl)
                      (try simp only [Act.put, List.setIfInBounds_toArray, List.set_cons_zero, List.set_cons_succ])
                      refine wpAnyH_ready (rs := [18]) (by kernel_rfl) (by simp) ?_
                      refine ready_l rfl (fun K hK => ?_) AllReadyH.nil
                      go_simp
                      refine hK.out _ _ (by exact hHold _ (hALL.below)) (fun hHeld => ?_)
                      clear hK K
                      (try simp only [Act.put, List.setIfInBounds_toArray, List.set_cons_zero, List.set_cons_succ])
                      refine wpAnyH_done (by kernel_rfl) ?_ _
                      go_wp2_with fail
                      go_meet
                      exact ⟨_, hALL, fun h => by dsimp only at h ⊢; omega, by dsimp only; rw [List.length_take]; omega⟩
                    · go_simp
                      refine (hpC _).mono ?_
                      rintro e w1 ⟨⟨rC, hrC, rfl⟩, hw⟩
                      subst w1
                      refine hK.out _ _ (by exact hHold _ (hXB.out.below)) (fun hHeld => ?_)
                      clear hK K
                      (try simp only [Act.put, List.setIfInBounds_toArray, List.set_cons_zero, List.set_cons_succ])
                      have hwC : IntKind.i64.wrap (1 + (rC : Int)) = ((rC + 1 : Nat) : Int) := by rw [Int.natCast_succ, Int.add_comm]; exact IntWalk.i64_in _ (by omega)
                      refine take_l (i := 15) (v := ?_) rfl (by kernel_rfl) (by kernel_rfl) (by kernel_rfl) (fun _ _ _ h => h) (Or.inl ⟨by kernel_rfl, ?_⟩) (by assumption) ?_
                      rotate_left
                      · intro w hSw; (try dsimp only at hSw); go_simp; (try with_reducible rfl)
                      (try simp only [Act.put, List.setIfInBounds_toArray, List.set_cons_zero, List.set_cons_succ])
                      refine wpAnyH_ready (rs := [12]) (by kernel_rfl) (by simp) ?_
                      refine ready_l rfl (fun K hK => ?_) AllReadyH.nil
                      go_simp
                      refine hK.out _ _ (by exact hHold _ (hXB.out.below)) (fun hHeld => ?_)
                      clear hK K
                      (try simp only [Act.put, List.setIfInBounds_toArray, List.set_cons_zero, List.set_cons_succ])
                      have hALL := (hXA.out.all ⟨1, 0, -1, t2.take (rC + 1)⟩ (fok ⟨by omega, by omega⟩ ⟨by omega, by omega⟩ ⟨by omega, by omega⟩ (by rw [List.length_take]; omega)) (by dsimp only; rw [List.length_take]; omega)).later (Below.refl _ _).drew
                      dsimp only at hALL
                      have hrc1 : (rC : Int) + 1 ≤ 2 := by omega
                      have hrc0 : 0 ≤ (rC : Int) + 1 := by omega
                      refine take_l (i := 16) (v := ?_) rfl (by kernel_rfl) (by kernel_rfl) (by kernel_rfl) (fun _ _ _ h => h) (Or.inl ⟨by kernel_rfl, ?_⟩) (by assumption) ?_
                      rotate_left
                      · intro w hSw; (try dsimp only at hSw); go_simp; (try with_reducible rfl)
                      (try simp only [Act.put, List.setIfInBounds_toArray, List.set_cons_zero, List.set_cons_succ])
                      refine take_l (i := 17) (v := ?_) rfl (by kernel_rfl) (by kernel_rfl) (by kernel_rfl) (fun _ _ _ h => h) (Or.inl ⟨by kernel_rfl, ?_⟩) (by assumption) ?_
                      rotate_left
                      · intro w hSw; (try dsimp only at hSw); go_simp; (try with_reducible rfl)
                      (try simp only [Act.put, List.setIfInBounds_toArray, List.set_cons_zero, List.set_cons_succ])
                      refine wpAnyH_ready (rs := [18]) (by kernel_rfl) (by simp) ?_
                      refine ready_l rfl (fun K hK => ?_) AllReadyH.nil
                      go_simp
                      refine hK.out _ _ (by exact hHold _ (hALL.below)) (fun hHeld => ?_)
                      clear hK K
                      (try simp only [Act.put, List.setIfInBounds_toArray, List.set_cons_zero, List.set_cons_succ])
                      refine wpAnyH_done (by kernel_rfl) ?_ _
                      go_wp2_with fail
                      go_meet
                      exact ⟨_, hALL, fun h => by dsimp only at h ⊢; omega, by dsimp only; rw [List.length_take]; omega⟩
                  · go_simp
                    refine (hpC _).mono ?_
                    rintro e w1 ⟨⟨rC, hrC, rfl⟩, hw⟩
                    subst w1
                    refine hK.out _ _ (by exact hHold _ (hX3.below.drew)) (fun hHeld => ?_)
                    clear hK K
                    (try simp only [Act.put, List.setIfInBounds_toArray, List.set_cons_zero, List.set_cons_succ])
                    have hwC : IntKind.i64.wrap (1 + (rC : Int)) = ((rC + 1 : Nat) : Int) := by rw [Int.natCast_succ, Int.add_comm]; exact IntWalk.i64_in _ (by omega)
                    refine take_l (i := 15) (v := ?_) rfl (by kernel_rfl) (by kernel_rfl) (by kernel_rfl) (fun _ _ _ h => h) (Or.inl ⟨by kernel_rfl, ?_⟩) (by assumption) ?_
                    rotate_left
                    · intro w hSw; (try dsimp only at hSw); go_simp; (try with_reducible rfl)
                    (try simp only [Act.put, List.setIfInBounds_toArray, List.set_cons_zero, List.set_cons_succ])
                    refine wpAnyH_ready (rs := [11]) (by kernel_rfl) (by simp) ?_
                    refine ready_l rfl (fun K hK => ?_) AllReadyH.nil
                    go_simp
                    refine hK.out _ _ (by exact hHold _ (hXB.out.below)) (fun hHeld => ?_)
                    clear hK K
                    (try simp only [Act.put, List.setIfInBounds_toArray, List.set_cons_zero, List.set_cons_succ])
                    refine wpAnyH_ready (rs := [12]) (by kernel_rfl) (by simp) ?_
                    refine ready_l rfl (fun K hK => ?_) AllReadyH.nil
                    go_simp
                    refine hK.out _ _ (by exact hHold _ (hXB.out.below)) (fun hHeld => ?_)
                    clear hK K
                    (try simp only [Act.put, List.setIfInBounds_toArray, List.set_cons_zero, List.set_cons_succ])
                    have hALL := (hXA.out.all ⟨1, 0, -1, t2.take (rC + 1)⟩ (fok ⟨by omega, by omega⟩ ⟨by omega, by omega⟩ ⟨by omega, by omega⟩ (by rw [List.length_take]; omega)) (by dsimp only; rw [List.length_take]; omega)).later (Below.refl _ _).drew
                    dsimp only at hALL
                    have hrc1 : (rC : Int) + 1 ≤ 2 := by omega
                    have hrc0 : 0 ≤ (rC : Int) + 1 := by omega
                    refine take_l (i := 16) (v := ?_) rfl (by kernel_rfl) (by kernel_rfl) (by kernel_rfl) (fun _ _ _ h => h) (Or.inl ⟨by kernel_rfl, ?_⟩) (by assumption) ?_
                    rotate_left
                    · intro w hSw; (try dsimp only at hSw); go_simp; (try with_reducible rfl)
                    (try simp only [Act.put, List.setIfInBounds_toArray, List.set_cons_zero, List.set_cons_succ])
                    refine take_l (i := 17) (v := ?_) rfl (by kernel_rfl) (by kernel_rfl) (by kernel_rfl) (fun _ _ _ h => h) (Or.inl ⟨by kernel_rfl, ?_⟩) (by assumption) ?_
                    rotate_left
                    · intro w hSw; (try dsimp only at hSw); go_simp; (try with_reducible rfl)
                    (try simp only [Act.put, List.setIfInBounds_toArray, List.set_cons_zero, List.set_cons_succ])
                    refine wpAnyH_ready (rs := [18]) (by kernel_rfl) (by simp) ?_
                    refine ready_l rfl (fun K hK => ?_) AllReadyH.nil
                    go_simp
                    refine hK.out _ _ (by exact hHold _ (hALL.below)) (fun hHeld => ?_)
                    clear hK K
                    (try simp only [Act.put, List.setIfInBounds_toArray, List.set_cons_zero, List.set_cons_succ])
                    refine wpAnyH_done (by kernel_rfl) ?_ _
                    go_wp2_with fail
                    go_meet
                    exact ⟨_, hALL, fun h => by dsimp only at h ⊢; omega, by dsimp only; rw [List.length_take]; omega⟩
              · as_aux_lemma =>
                  have hpA := fun W => pickB (y3 / 2 ^ fs.length) 4 W (shr_i64 _ _ i3) (by omega) (by omega)
                  have hpB := fun W => pickB y3 256 W i3 (by omega) (by omega)
                  have hpC := fun W => pickB (cc : Int) 2 W ⟨by omega, by omega⟩ (by omega) (by omega)
                  have hHold : ∀ w', Below wr.heap.size wr w' → w'.cell? ⟨wo.heap.size, 3, none⟩ = some (.int .i64 y3) := fun w' hb => (hb.cell (World.block_lt_of_cell? _ _ e3)).trans e3
                  go_wp2_with fail
                  refine wp_region_held_drew (S := fun w' => w'.cell? ⟨wo.heap.size, 3, none⟩ = some (.int .i64 y3)) (by kernel_rfl) (by exact e4) (fun hHeld => ?_)
                  refine take_l (i := 0) (v := ?_) rfl (by kernel_rfl) (by kernel_rfl) (by kernel_rfl) (fun _ _ _ h => h) (Or.inl ⟨by kernel_rfl, ?_⟩) (by assumption) ?_
                  rotate_left
                  · intro w hSw; (try dsimp only at hSw); go_simp; (try with_reducible rfl)
                  (try simp only [Act.put, List.setIfInBounds_toArray, List.set_cons_zero, List.set_cons_succ])
                  refine take_l (i := 1) (v := ?_) rfl (by kernel_rfl) (by kernel_rfl) (by kernel_rfl) (fun _ _ _ h => h) (Or.inl ⟨by kernel_rfl, ?_⟩) (by assumption) ?_
                  rotate_left
                  · intro w hSw; (try dsimp only at hSw); go_simp; (try with_reducible rfl)
                  (try simp only [Act.put, List.setIfInBounds_toArray, List.set_cons_zero, List.set_cons_succ])
                  refine take_l (i := 2) (v := ?_) rfl (by kernel_rfl) (by kernel_rfl) (by kernel_rfl) (fun _ _ _ h => h) (Or.inl ⟨by kernel_rfl, ?_⟩) (by assumption) ?_
                  rotate_left
                  · intro w hSw; (try dsimp only at hSw); go_simp; (try with_reducible rfl)
                  (try simp only [Act.put, List.setIfInBounds_toArray, List.set_cons_zero, List.set_cons_succ])
                  refine take_l (i := 3) (v := ?_) rfl (by kernel_rfl) (by kernel_rfl) (by kernel_rfl) (fun _ _ _ h => h) (Or.inl ⟨by kernel_rfl, ?_⟩) (by assumption) ?_
                  rotate_left
                  · intro w hSw; (try dsimp only at hSw); go_simp; (try with_reducible rfl)
                  (try simp only [Act.put, List.setIfInBounds_toArray, List.set_cons_zero, List.set_cons_succ])
                  refine take_l (i := 7) (v := ?_) rfl (by kernel_rfl) (by kernel_rfl) (by kernel_rfl) (fun _ _ _ h => h) (Or.inl ⟨by kernel_rfl, ?_⟩) (by assumption) ?_
                  rotate_left
                  · intro w hSw; (try dsimp only at hSw); go_simp; (try with_reducible rfl)
                  (try simp only [Act.put, List.setIfInBounds_toArray, List.set_cons_zero, List.set_cons_succ])
                  refine take_l (i := 8) (v := ?_) rfl (by kernel_rfl) (by kernel_rfl) (by kernel_rfl) (fun _ _ _ h => h) (Or.inl ⟨by kernel_rfl, ?_⟩) (by assumption) ?_
                  rotate_left
                  · intro w hSw; (try dsimp only at hSw); go_simp; (try with_reducible rfl)
                  (try simp only [Act.put, List.setIfInBounds_toArray, List.set_cons_zero, List.set_cons_succ])
                  refine take_l (i := 13) (v := ?_) rfl (by kernel_rfl) (by kernel_rfl) (by kernel_rfl) (fun _ _ _ h => h) (Or.inl ⟨by kernel_rfl, ?_⟩) (by assumption) ?_
                  rotate_left
                  · intro w hSw; (try dsimp only at hSw); go_simp; (try with_reducible rfl)
                  (try simp only [Act.put, List.setIfInBounds_toArray, List.set_cons_zero, List.set_cons_succ])
                  refine wpAnyH_ready (rs := [4]) (by kernel_rfl) (by simp) ?_
                  refine ready_l rfl (fun K hK => ?_) AllReadyH.nil
                  go_simp
                  refine (hpA _).mono ?_
                  rintro e w1 ⟨⟨rA, hrA, rfl⟩, hw⟩
                  subst w1
                  refine hK.out _ _ (by exact hHold _ (hX3.below.drew)) (fun hHeld => ?_)
                  clear hK K
                  (try simp only [Act.put, List.setIfInBounds_toArray, List.set_cons_zero, List.set_cons_succ])
                  have hwA1 : IntKind.i64.wrap (65 + (rA : Int)) = 65 + (rA : Int) := IntWalk.i64_in _ (by omega)
                  have hwA : IntKind.u8.wrap (65 + (rA : Int)) = 65 + (rA : Int) := IntWalk.u8_in _ (by omega)
                  refine take_l (i := 5) (v := ?_) rfl (by kernel_rfl) (by kernel_rfl) (by kernel_rfl) (fun _ _ _ h => h) (Or.inl ⟨by kernel_rfl, ?_⟩) (by assumption) ?_
                  rotate_left
                  · intro w hSw; (try dsimp only at hSw); go_simp; (try with_reducible rfl)
                  (try simp only [Act.put, List.setIfInBounds_toArray, List.set_cons_zero, List.set_cons_succ])
                  refine take_l (i := 6) (v := ?_) rfl (by kernel_rfl) (by kernel_rfl) (by kernel_rfl) (fun _ _ _ h => h) (Or.inl ⟨by kernel_rfl, ?_⟩) (by assumption) ?_
                  rotate_left
                  · intro w hSw; (try dsimp only at hSw); go_simp; (try with_reducible rfl)
                  (try simp only [Act.put, List.setIfInBounds_toArray, List.set_cons_zero, List.set_cons_succ])
                  refine wpAnyH_ready (rs := [9]) (by kernel_rfl) (by simp) ?_
                  refine ready_l rfl (fun K hK => ?_) AllReadyH.nil
                  go_simp
                  refine (hpB _).mono ?_
                  rintro e w1 ⟨⟨rB, hrB, rfl⟩, hw⟩
                  subst w1
                  refine hK.out _ _ (by exact hHold _ (hX3.below.drew)) (fun hHeld => ?_)
                  clear hK K
                  (try simp only [Act.put, List.setIfInBounds_toArray, List.set_cons_zero, List.set_cons_succ])
                  have hwB : IntKind.u8.wrap (rB : Int) = (rB : Int) := IntWalk.u8_in _ (by omega)
                  refine take_l (i := 10) (v := ?_) rfl (by kernel_rfl) (by kernel_rfl) (by kernel_rfl) (fun _ _ _ h => h) (Or.inl ⟨by kernel_rfl, ?_⟩) (by assumption) ?_
                  rotate_left
                  · intro w hSw; (try dsimp only at hSw); go_simp; (try with_reducible rfl)
                  (try simp only [Act.put, List.setIfInBounds_toArray, List.set_cons_zero, List.set_cons_succ])
                  obtain ⟨t2, ht2, hcv⟩ := conv2 W3 (65 + (rA : Int)) (rB : Int)
                  have htz := str_size t2
                  rw [ht2] at htz
                  have hex : ∀ k, (str t2).extract 0 k = str (t2.take k) := fun k => by rw [extract_mid, List.drop_zero, Nat.sub_zero]
                  have hBB : Below W3.heap.size W3 (W3.alloc (.cells #[.int .u8 (65 + (rA : Int)), .int .u8 (rB : Int)] 5)).drew := ((Below.refl W3.heap.size W3).alloc (Nat.le_refl _) (.cells #[.int .u8 (65 + (rA : Int)), .int .u8 (rB : Int)] 5)).drew
                  have hXB := hX3.later hBB
                  have hXA : BoxF wr _ (W3.alloc (.cells #[.int .u8 (65 + (rA : Int)), .int .u8 (rB : Int)] 5)) := hX3.later ((Below.refl W3.heap.size W3).alloc (Nat.le_refl _) (.cells #[.int .u8 (65 + (rA : Int)), .int .u8 (rB : Int)] 5))
                  have cX0 := hXA.arr.cell (j := 0) rfl
                  have qX0 := hXA.arr.free 0
                  have cX1 := hXA.arr.cell (j := 1) rfl
                  have qX1 := hXA.arr.free 1
                  have cX2 := hXA.arr.cell (j := 2) rfl
                  have qX2 := hXA.arr.free 2
                  have cX3 := hXA.arr.cell (j := 3) rfl
                  have qX3 := hXA.arr.free 3
                  replace hXB := Lib.hid hXB
                  replace hXA := Lib.hid hXA
                  refine wpAnyH_ready (rs := [11, 14]) (by kernel_rfl) (by simp) ?_
                  refine ready_l rfl (fun K hK => ?_) (ready_l rfl (fun K hK => ?_) AllReadyH.nil)
                  · go_simp
                    refine hK.out _ _ (by exact hHold _ (hXB.out.below)) (fun hHeld => ?_)
                    clear hK K
                    (try simp only [Act.put, List.setIfInBounds_toArray, List.set_cons_zero, List.set_cons_succ])
                    refine wpAnyH_ready (rs := [12, 14]) (by kernel_rfl) (by simp) ?_
                    refine ready_l rfl (fun K hK => ?_) (ready_l rfl (fun K hK => ?_) AllReadyH.nil)
                    · go_simp
                      refine hK.out _ _ (by exact hHold _ (hXB.out.below)) (fun hHeld => ?_)
                      clear hK K
                      (try simp only [Act.put, List.setIfInBounds_toArray, List.set_cons_zero, List.set_cons_succ])
                      refine wpAnyH_ready (rs := [14]) (by kernel_rfl) (by simp) ?_
                      refine ready_l rfl (fun K hK => ?_) AllReadyH.nil
                      go_simp
                      refine (hpC _).mono ?_
                      rintro e w1 ⟨⟨rC, hrC, rfl⟩, hw⟩
                      subst w1
                      refine hK.out _ _ (by exact hHold _ (hXB.out.below)) (fun hHeld => ?_)
                      clear hK K
                      (try simp only [Act.put, List.setIfInBounds_toArray, List.set_cons_zero, List.set_cons_succ])
                      have hwC : IntKind.i64.wrap (1 + (rC : Int)) = ((rC + 1 : Nat) : Int) := by rw [Int.natCast_succ, Int.add_comm]; exact IntWalk.i64_in _ (by omega)
                      refine take_l (i := 15) (v := ?_) rfl (by kernel_rfl) (by kernel_rfl) (by kernel_rfl) (fun _ _ _ h => h) (Or.inl ⟨by kernel_rfl, ?_⟩) (by assumption) ?_
                      rotate_left
                      · intro w hSw; (try dsimp only at hSw); go_simp; (try with_reducible rfl)
                      (try simp only [Act.put, List.setIfInBounds_toArray, List.set_cons_zero, List.set_cons_succ])
                      have hALL := (hXA.out.all ⟨1, 0, -1, t2.take (rC + 1)⟩ (fok ⟨by omega, by omega⟩ ⟨by omega, by omega⟩ ⟨by omega, by omega⟩ (by rw [List.length_take]; omega)) (by dsimp only; rw [List.length_take]; omega)).later (Below.refl _ _).drew
                      dsimp only at hALL
                      have hrc1 : (rC : Int) + 1 ≤ 2 := by omega
                      have hrc0 : 0 ≤ (rC : Int) + 1 := by omega
                      refine take_l (i := 16) (v := ?_) rfl (by kernel_rfl) (by kernel_rfl) (by kernel_rfl) (fun _ _ _ h => h) (Or.inl ⟨by kernel_rfl, ?_⟩) (by assumption) ?_
                      rotate_left
                      · intro w hSw; (try dsimp only at hSw); go_simp; (try with_reducible rfl)
                      (try simp only [Act.put, List.setIfInBounds_toArray, List.set_cons_zero, List.set_cons_succ])
                      refine take_l (i := 17) (v := ?_) rfl (by kernel_rfl) (by kernel_rfl) (by kernel_rfl) (fun _ _ _ h => h) (Or.inl ⟨by kernel_rfl, ?_⟩) (by assumption) ?_
                      rotate_left
                      · intro w hSw; (try dsimp only at hSw); go_simp; (try with_reducible rfl)
                      (try simp only [Act.put, List.setIfInBounds_toArray, List.set_cons_zero, List.set_cons_succ])
                      refine wpAnyH_ready (rs := [18]) (by kernel_rfl) (by simp) ?_
                      refine ready_l rfl (fun K hK => ?_) AllReadyH.nil
                      go_simp
                      refine hK.out _ _ (by exact hHold _ (hALL.below)) (fun hHeld => ?_)
                      clear hK K
                      (try simp only [Act.put, List.setIfInBounds_toArray, List.set_cons_zero, List.set_cons_succ])
                      refine wpAnyH_done (by kernel_rfl) ?_ _
                      go_wp2_with fail
                      go_meet
                      exact ⟨_, hALL, fun h => by dsimp only at h ⊢; omega, by dsimp only; rw [List.length_take]; omega⟩
                    · go_simp
                      refine (hpC _).mono ?_
                      rintro e w1 ⟨⟨rC, hrC, rfl⟩, hw⟩
                      subst w1
                      refine hK.out _ _ (by exact hHold _ (hXB.out.below)) (fun hHeld => ?_)
                      clear hK K
                      (try simp only [Act.put, List.setIfInBounds_toArray, List.set_cons_zero, List.set_cons_succ])
                      have hwC : IntKind.i64.wrap (1 + (rC : Int)) = ((rC + 1 : Nat) : Int) := by rw [Int.natCast_succ, Int.add_comm]; exact IntWalk.i64_in _ (by omega)
                      refine take_l (i := 15) (v := ?_) rfl (by kernel_rfl) (by kernel_rfl) (by kernel_rfl) (fun _ _ _ h => h) (Or.inl ⟨by kernel_rfl, ?_⟩) (by assumption) ?_
                      rotate_left
                      · intro w hSw; (try dsimp only at hSw); go_simp; (try with_reducible rfl)
                      (try simp only [Act.put, List.setIfInBounds_toArray, List.set_cons_zero, List.set_cons_succ])
                      refine wpAnyH_ready (rs := [12]) (by kernel_rfl) (by simp) ?_
                      refine ready_l rfl (fun K hK => ?_) AllReadyH.nil
                      go_simp
                      refine hK.out _ _ (by exact hHold _ (hXB.out.below)) (fun hHeld => ?_)
                      clear hK K
                      (try simp only [Act.put, List.setIfInBounds_toArray, List.set_cons_zero, List.set_cons_succ])
                      have hALL := (hXA.out.all ⟨1, 0, -1, t2.take (rC + 1)⟩ (fok ⟨by omega, by omega⟩ ⟨by omega, by omega⟩ ⟨by omega, by omega⟩ (by rw [List.length_take]; omega)) (by dsimp only; rw [List.length_take]; omega)).later (Below.refl _ _).drew
                      dsimp only at hALL
                      have hrc1 : (rC : Int) + 1 ≤ 2 := by omega
                      have hrc0 : 0 ≤ (rC : Int) + 1 := by omega
                      refine take_l (i := 16) (v := ?_) rfl (by kernel_rfl) (by kernel_rfl) (by kernel_rfl) (fun _ _ _ h => h) (Or.inl ⟨by kernel_rfl, ?_⟩) (by assumption) ?_
                      rotate_left
                      · intro w hSw; (try dsimp only at hSw); go_simp; (try with_reducible rfl)
                      (try simp only [Act.put, List.setIfInBounds_toArray, List.set_cons_zero, List.set_cons_succ])
                      refine take_l (i := 17) (v := ?_) rfl (by kernel_rfl) (by kernel_rfl) (by kernel_rfl) (fun _ _ _ h => h) (Or.inl ⟨by kernel_rfl, ?_⟩) (by assumption) ?_
                      rotate_left
                      · intro w hSw; (try dsimp only at hSw); go_simp; (try with_reducible rfl)
                      (try simp only [Act.put, List.setIfInBounds_toArray, List.set_cons_zero, List.set_cons_succ])
                      refine wpAnyH_ready (rs := [18]) (by kernel_rfl) (by simp) ?_
                      refine ready_l rfl (fun K hK => ?_) AllReadyH.nil
                      go_simp
                      refine hK.out _ _ (by exact hHold _ (hALL.below)) (fun hHeld => ?_)
                      clear hK K
                      (try simp only [Act.put, List.setIfInBounds_toArray, List.set_cons_zero, List.set_cons_succ])
                      refine wpAnyH_done (by kernel_rfl) ?_ _
                      go_wp2_with fail
                      go_meet
                      exact ⟨_, hALL, fun h => by dsimp only at h ⊢; omega, by dsimp only; rw [List.length_take]; omega⟩
                  · go_simp
                    refine (hpC _).mono ?_
                    rintro e w1 ⟨⟨rC, hrC, rfl⟩, hw⟩
                    subst w1
                    refine hK.out _ _ (by exact hHold _ (hX3.below.drew)) (fun hHeld => ?_)
                    clear hK K
                    (try simp only [Act.put, List.setIfInBounds_toArray, List.set_cons_zero, List.set_cons_succ])
                    have hwC : IntKind.i64.wrap (1 + (rC : Int)) = ((rC + 1 : Nat) : Int) := by rw [Int.natCast_succ, Int.add_comm]; exact IntWalk.i64_in _ (by omega)
                    refine take_l (i := 15) (v := ?_) rfl (by kernel_rfl) (by kernel_rfl) (by kernel_rfl) (fun _ _ _ h => h) (Or.inl ⟨by kernel_rfl, ?_⟩) (by assumption) ?_
                    rotate_left
                    · intro w hSw; (try dsimp only at hSw); go_simp; (try with_reducible rfl)
                    (try simp only [Act.put, List.setIfInBounds_toArray, List.set_cons_zero, List.set_cons_succ])
                    refine wpAnyH_ready (rs := [11]) (by kernel_rfl) (by simp) ?_
                    refine ready_l rfl (fun K hK => ?_) AllReadyH.nil
                    go_simp
                    refine hK.out _ _ (by exact hHold _ (hXB.out.below)) (fun hHeld => ?_)
                    clear hK K
                    (try simp only [Act.put, List.setIfInBounds_toArray, List.set_cons_zero, List.set_cons_succ])
                    refine wpAnyH_ready (rs := [12]) (by kernel_rfl) (by simp) ?_
                    refine ready_l rfl (fun K hK => ?_) AllReadyH.nil
                    go_simp
                    refine hK.out _ _ (by exact hHold _ (hXB.out.below)) (fun hHeld => ?_)
                    clear hK K
                    (try simp only [Act.put, List.setIfInBounds_toArray, List.set_cons_zero, List.set_cons_succ])
                    have hALL := (hXA.out.all ⟨1, 0, -1, t2.take (rC + 1)⟩ (fok ⟨by omega, by omega⟩ ⟨by omega, by omega⟩ ⟨by omega, by omega⟩ (by rw [List.length_take]; omega)) (by dsimp only; rw [List.length_take]; omega)).later (Below.refl _ _).drew
                    dsimp only at hALL
                    have hrc1 : (rC : Int) + 1 ≤ 2 := by omega
                    have hrc0 : 0 ≤ (rC : Int) + 1 := by omega
                    refine take_l (i := 16) (v := ?_) rfl (by kernel_rfl) (by kernel_rfl) (by kernel_rfl) (fun _ _ _ h => h) (Or.inl ⟨by kernel_rfl, ?_⟩) (by assumption) ?_
                    rotate_left
                    · intro w hSw; (try dsimp only at hSw); go_simp; (try with_reducible rfl)
                    (try simp only [Act.put, List.setIfInBounds_toArray, List.set_cons_zero, List.set_cons_succ])
                    refine take_l (i := 17) (v := ?_) rfl (by kernel_rfl) (by kernel_rfl) (by kernel_rfl) (fun _ _ _ h => h) (Or.inl ⟨by kernel_rfl, ?_⟩) (by assumption) ?_
                    rotate_left
                    · intro w hSw; (try dsimp only at hSw); go_simp; (try with_reducible rfl)
                    (try simp only [Act.put, List.setIfInBounds_toArray, List.set_cons_zero, List.set_cons_succ])
                    refine wpAnyH_ready (rs := [18]) (by kernel_rfl) (by simp) ?_
                    refine ready_l rfl (fun K hK => ?_) AllReadyH.nil
                    go_simp
                    refine hK.out _ _ (by exact hHold _ (hALL.below)) (fun hHeld => ?_)
                    clear hK K
                    (try simp only [Act.put, List.setIfInBounds_toArray, List.set_cons_zero, List.set_cons_succ])
                    refine wpAnyH_done (by kernel_rfl) ?_ _
                    go_wp2_with fail
                    go_meet
                    exact ⟨_, hALL, fun h => by dsimp only at h ⊢; omega, by dsimp only; rw [List.length_take]; omega⟩
              · as_aux_lemma =>
                  skip
                  have hq := pickB (y3 / 2 ^ fs.length) 5 W3 (shr_i64 _ _ i3) (by omega) (by omega)
                  go_wp2_with fail
                  refine hq.mono ?_
                  rintro e w1 ⟨⟨r5, hr5, rfl⟩, hw⟩
                  subst w1
                  go_wp2_with fail
                  go_meet
                  exact ⟨_, hX3.all ⟨3, r5, -1, []⟩ (fok ⟨by omega, by omega⟩ ⟨by omega, by omega⟩ ⟨by omega, by omega⟩ (by simp)) (by simp), fun h => by dsimp only at h ⊢; omega, by dsimp only; exact Nat.zero_le _⟩
              · as_aux_lemma =>
                  by_cases hop : 0 ≤ op
                  · have o1 : decide (op ≥ 0) = true := decide_eq_true hop
                    have o2 : decide (0 ≤ op) = true := decide_eq_true hop
                    go_wp2_with fail
                    go_meet
                    exact ⟨_, hX3.all ⟨3, 0, op, []⟩ (fok ⟨by omega, by omega⟩ ⟨by omega, by omega⟩ ⟨by omega, by omega⟩ (by simp)) (by simp), fun h => by dsimp only at h ⊢; omega, by dsimp only; exact Nat.zero_le _⟩
                  · have o1 : decide (op ≥ 0) = false := decide_eq_false hop
                    have o2 : decide (0 ≤ op) = false := decide_eq_false hop
                    go_wp2_with fail
                    go_meet
                    exact ⟨_, hX3, fun h => by dsimp only at h ⊢; omega, by dsimp only; exact Nat.zero_le _⟩
              · as_aux_lemma =>
                  by_cases hop : 0 ≤ op
                  · have o1 : decide (op ≥ 0) = true := decide_eq_true hop
                    have o2 : decide (0 ≤ op) = true := decide_eq_true hop
                    by_cases hl0 : 0 < l.length
                    · have p1 : decide ((l.length : Int) > 0) = true := decide_eq_true (by omega)
                      have p2 : decide (0 < (l.length : Int)) = true := decide_eq_true (by omega)
                      have p3 : decide (0 < l.length) = true := decide_eq_true (by omega)
                      have hq := pickB (y3 / 2 ^ fs.length) l.length W3 (shr_i64 _ _ i3) (by omega) (by omega)
                      go_wp2_with fail
                      refine hq.mono ?_
                      rintro e w1 ⟨⟨r6, hr6, rfl⟩, hw⟩
                      subst w1
                      obtain ⟨fb, fo, cap, fa2, fcap2, hv, x0, _, hid6, _, _⟩ := hOb.out r6 hr6
                      injection hv with hv1 _ hv3
                      subst hv1 hv3
                      generalize l[r6]!.id = ix at *
                      have s0 : (0 : Int) ≤ (r6 : Int) := by omega
                      have s1 : (r6 : Int) < (l.length : Int) := by omega
                      go_wp2_with fail
                      go_meet
                      exact ⟨_, hX3.all ⟨4, ix, op, []⟩ (fok ⟨by omega, by omega⟩ hid6 ⟨by omega, by omega⟩ (by simp)) (by simp), fun h => by dsimp only at h ⊢; omega, by dsimp only; exact Nat.zero_le _⟩
                    · have p1 : decide ((l.length : Int) > 0) = false := decide_eq_false (by omega)
                      have p2 : decide (0 < (l.length : Int)) = false := decide_eq_false (by omega)
                      have p3 : decide (0 < l.length) = false := decide_eq_false (by omega)
                      go_wp2_with fail
                      go_meet
                      exact ⟨_, hX3, fun h => by dsimp only at h ⊢; omega, by dsimp only; exact Nat.zero_le _⟩
                  · have o1 : decide (op ≥ 0) = false := decide_eq_false hop
                    have o2 : decide (0 ≤ op) = false := decide_eq_false hop
                    go_wp2_with fail
                    go_meet
                    exact ⟨_, hX3, fun h => by dsimp only at h ⊢; omega, by dsimp only; exact Nat.zero_le _⟩
              · as_aux_lemma =>
                  by_cases hop : 0 ≤ op
                  · have o1 : decide (op ≥ 0) = true := decide_eq_true hop
                    have o2 : decide (0 ≤ op) = true := decide_eq_true hop
                    by_cases hl0 : 0 < l.length
                    · have p1 : decide ((l.length : Int) > 0) = true := decide_eq_true (by omega)
                      have p2 : decide (0 < (l.length : Int)) = true := decide_eq_true (by omega)
                      have p3 : decide (0 < l.length) = true := decide_eq_true (by omega)
                      have hq := pickB (y3 / 2 ^ fs.length) l.length W3 (shr_i64 _ _ i3) (by omega) (by omega)
                      go_wp2_with fail
                      refine hq.mono ?_
                      rintro e w1 ⟨⟨r6, hr6, rfl⟩, hw⟩
                      subst w1
                      obtain ⟨fb, fo, cap, fa2, fcap2, hv, x0, _, hid6, _, _⟩ := hOb.out r6 hr6
                      injection hv with hv1 _ hv3
                      subst hv1 hv3
                      generalize l[r6]!.id = ix at *
                      have s0 : (0 : Int) ≤ (r6 : Int) := by omega
                      have s1 : (r6 : Int) < (l.length : Int) := by omega
                      go_wp2_with fail
                      go_meet
                      exact ⟨_, hX3.all ⟨4, ix, op, []⟩ (fok ⟨by omega, by omega⟩ hid6 ⟨by omega, by omega⟩ (by simp)) (by simp), fun h => by dsimp only at h ⊢; omega, by dsimp only; exact Nat.zero_le _⟩
                    · have p1 : decide ((l.length : Int) > 0) = false := decide_eq_false (by omega)
                      have p2 : decide (0 < (l.length : Int)) = false := decide_eq_false (by omega)
                      have p3 : decide (0 < l.length) = false := decide_eq_false (by omega)
                      go_wp2_with fail
                      go_meet
                      exact ⟨_, hX3, fun h => by dsimp only at h ⊢; omega, by dsimp only; exact Nat.zero_le _⟩
                  · have o1 : decide (op ≥ 0) = false := decide_eq_false hop
                    have o2 : decide (0 ≤ op) = false := decide_eq_false hop
                    go_wp2_with fail
                    go_meet
                    exact ⟨_, hX3, fun h => by dsimp only at h ⊢; omega, by dsimp only; exact Nat.zero_le _⟩
              · as_aux_lemma =>
                  by_cases hop : 0 ≤ op
                  · have o1 : decide (op ≥ 0) = true := decide_eq_true hop
                    have o2 : decide (0 ≤ op) = true := decide_eq_true hop
                    by_cases hl0 : 0 < l.length
                    · have p1 : decide ((l.length : Int) > 0) = true := decide_eq_true (by omega)
                      have p2 : decide (0 < (l.length : Int)) = true := decide_eq_true (by omega)
                      have p3 : decide (0 < l.length) = true := decide_eq_true (by omega)
                      have hq := pickB (y3 / 2 ^ fs.length) l.length W3 (shr_i64 _ _ i3) (by omega) (by omega)
                      go_wp2_with fail
                      refine hq.mono ?_
                      rintro e w1 ⟨⟨r6, hr6, rfl⟩, hw⟩
                      subst w1
                      obtain ⟨fb, fo, cap, fa2, fcap2, hv, x0, _, hid6, _, _⟩ := hOb.out r6 hr6
                      injection hv with hv1 _ hv3
                      subst hv1 hv3
                      generalize l[r6]!.id = ix at *
                      have s0 : (0 : Int) ≤ (r6 : Int) := by omega
                      have s1 : (r6 : Int) < (l.length : Int) := by omega
                      go_wp2_with fail
                      go_meet
                      exact ⟨_, hX3.all ⟨5, ix, op, []⟩ (fok ⟨by omega, by omega⟩ hid6 ⟨by omega, by omega⟩ (by simp)) (by simp), fun h => by dsimp only at h ⊢; omega, by dsimp only; exact Nat.zero_le _⟩
                    · have p1 : decide ((l.length : Int) > 0) = false := decide_eq_false (by omega)
                      have p2 : decide (0 < (l.length : Int)) = false := decide_eq_false (by omega)
                      have p3 : decide (0 < l.length) = false := decide_eq_false (by omega)
                      go_wp2_with fail
                      go_meet
                      exact ⟨_, hX3, fun h => by dsimp only at h ⊢; omega, by dsimp only; exact Nat.zero_le _⟩
                  · have o1 : decide (op ≥ 0) = false := decide_eq_false hop
                    have o2 : decide (0 ≤ op) = false := decide_eq_false hop
                    go_wp2_with fail
                    go_meet
                    exact ⟨_, hX3, fun h => by dsimp only at h ⊢; omega, by dsimp only; exact Nat.zero_le _⟩
              · as_aux_lemma =>
                  skip
                  have hq := pickB (y3 / 2 ^ fs.length) 3 W3 (shr_i64 _ _ i3) (by omega) (by omega)
                  go_wp2_with fail
                  refine hq.mono ?_
                  rintro e w1 ⟨⟨r7, hr7, rfl⟩, hw⟩
                  subst w1
                  have hw7 : IntKind.i64.wrap (1 + (r7 : Int)) = (r7 : Int) + 1 := by rw [Int.add_comm]; exact IntWalk.i64_in _ (by omega)
                  go_wp2_with fail
                  go_meet
                  exact ⟨_, hX3.all ⟨6, (r7 : Int) + 1, -1, []⟩ (fok ⟨by omega, by omega⟩ ⟨by omega, by omega⟩ ⟨by omega, by omega⟩ (by simp)) (by simp), fun h => by dsimp only at h ⊢; omega, by dsimp only; exact Nat.zero_le _⟩
              · as_aux_lemma =>
                  go_wp2_with fail
                  go_meet
                  exact ⟨_, hX3, fun h => by dsimp only at h ⊢; omega, by dsimp only; exact Nat.zero_le _⟩
            case rest =>
              as_aux_lemma =>
                obtain ⟨⟨kd, nn, fr, tx⟩, hX, hsm⟩ := hcut
                have hF4 := hF.out.later hX.below
                generalize wc = W4 at *
                obtain ⟨X, hXe⟩ : ∃ X, X = W4.alloc (.cells #[.int .i64 kd, .int .i64 nn, .int .i64 fr, .string (str tx)] 55) := ⟨_, rfl⟩
                have hbX : Below W4.heap.size W4 X := by rw [hXe]; exact (Below.refl _ _).alloc (Nat.le_refl _) _
                have hAX : Arr X W4.heap.size 55 (fldC ⟨kd, nn, fr, tx⟩) := by rw [hXe]; exact Arr.new rfl rfl
                have hFX := hF4.later hbX
                obtain ⟨v6, w6, hrun6, hr6, hg6, ho6⟩ := append_fld X (W1.heap.size + 1) _ fs ⟨kd, nn, fr, tx⟩ hFX.row _ hAX (by omega) (by have := hFX.box.lt; omega)
                have hadd := hFX.add hr6 hg6 hX.ok hsm
                obtain ⟨a6, c6, rfl⟩ := own_val hr6
                obtain ⟨n6, hn6⟩ : ∃ n6, n6 = (fs ++ [(⟨kd, nn, fr, tx⟩ : Fld)]).length := ⟨_, rfl⟩
                rw [← hn6] at hrun6 hadd
                have g1 := hF4.box.cell (j := 1) rfl
                have z0 := hX.arr.cell (j := 0) rfl
                have z1 := hX.arr.cell (j := 1) rfl
                have z2 := hX.arr.cell (j := 2) rfl
                have z3 := hX.arr.cell (j := 3) rfl
                have hb6 : Arr w6 W1.heap.size 34 [.int .i64 id, .slice fa fs.length fc] := (hg6.block _ hFX.box.lt (fun e => by have := (own_block hFX.row e.symm).2.1; omega)).trans hFX.box
                have s1 := hb6.cell (j := 1) rfl
                have t1 := hb6.free 1
                have hwk : IntKind.i64.wrap ((fs.length : Int) + 1) = ((fs.length + 1 : Nat) : Int) := by rw [Int.natCast_succ]; exact IntWalk.i64_in _ (by omega)
                have hll : (fs ++ [(⟨kd, nn, fr, tx⟩ : Fld)]).length = fs.length + 1 := by simp
                have hInew : Hid (∃ fs2 : List Fld, fs2.length = fs.length + 1 ∧ InF W1 id (.slice a6 n6 c6) fs2 (w6.setCell ⟨W1.heap.size, 1, none⟩ (.slice a6 n6 c6))) := ⟨_, hll, hadd⟩
                rw [hXe] at hrun6
                replace hrun6 := Lib.hid hrun6
                clear hn6 hadd hr6 hg6 ho6 hb6 hAX hbX hF4 hX hXe hll hFX
                go_wp2_with (at_builtin; go_loud (refine wpList_append_known rfl _ _ _ _ rfl _ _ rfl rfl hrun6.out ?_))
                obtain ⟨fs2, hfs2, hI2⟩ := hInew.out
                exact ⟨⟨fs.length + 1, _, fs2, by first | rfl | go_num, hfs2, by omega, hI2⟩, by simp [intOf]; omega⟩
          · have hdk : decide ((fs.length : Int) < ((r1 + 1 : Nat) : Int)) = false := decide_eq_false (by omega)
            go_upto_region 28 with fail
            go_cut [13] from 174 to 179 (fun nv wx => ∃ a c, nv = .slice a (l.length + 1) c ∧ NextAt wr fvs l id (.slice fa fs.length fc) (.slice a (l.length + 1) c) wx)
            case first =>
              as_aux_lemma =>
                have g0 := hF.out.box.cell (j := 0) rfl
                have hML : MkL w.heap.size wr (.slice la l.length lc) fvs l := hS.out.2.1.below (hb1.trans (hF.out.below.mono hb1.size))
                have hl7 : l.length ≤ 6 := by omega
                have hbl : W1.heap.size < wr.heap.size := hF.out.box.lt
                have hHold : ∀ w', Below wr.heap.size wr w' → w'.cell? ⟨W1.heap.size, 0, none⟩ = some (.int .i64 id) ∧ w'.cell? ⟨W1.heap.size, 1, none⟩ = some (.slice fa fs.length fc) := fun w' hb => ⟨(hb.cell (p := ⟨W1.heap.size, 0, none⟩) hbl).trans g0, (hb.cell (p := ⟨W1.heap.size, 1, none⟩) hbl).trans f1⟩
                have hbE : Below wr.heap.size wr (wr.alloc (.cells #[] 34)).drew := ((Below.refl _ _).alloc (Nat.le_refl _) _).drew
                have hbF : Below wr.heap.size wr (wr.alloc (.cells #[.int .i64 id, .slice fa fs.length fc] 34)).drew := ((Below.refl _ _).alloc (Nat.le_refl _) _).drew
                refine wp_region_held_drew (S := fun w' => w'.cell? ⟨W1.heap.size, 0, none⟩ = some (.int .i64 id) ∧ w'.cell? ⟨W1.heap.size, 1, none⟩ = some (.slice fa fs.length fc)) (by kernel_rfl) (by exact ⟨g0, f1⟩) (fun hHeld => ?_)
                refine take_l (i := 1) (v := ?_) rfl (by kernel_rfl) (by kernel_rfl) (by kernel_rfl) (fun _ _ _ h => h) (Or.inl ⟨by kernel_rfl, ?_⟩) (by assumption) ?_
                rotate_left
                · intro w hSw; (try dsimp only at hSw); go_simp; (try with_reducible rfl)
                (try simp only [Act.put, List.setIfInBounds_toArray, List.set_cons_zero, List.set_cons_succ])
                refine take_l (i := 3) (v := ?_) rfl (by kernel_rfl) (by kernel_rfl) (by kernel_rfl) (fun _ _ _ h => h) (Or.inl ⟨by kernel_rfl, ?_⟩) (by assumption) ?_
                rotate_left
                · intro w hSw; (try dsimp only at hSw); go_simp; (try with_reducible rfl)
                (try simp only [Act.put, List.setIfInBounds_toArray, List.set_cons_zero, List.set_cons_succ])
                refine wpAnyH_ready (rs := [0, 4]) (by kernel_rfl) (by simp) ?_
                refine ready_l rfl (fun K hK => ?_) (ready_l rfl (fun K hK => ?_) AllReadyH.nil)
                · go_simp
                  refine hK.out _ _ (by exact hHold _ (hbE)) (fun hHeld => ?_)
                  clear hK K
                  (try simp only [Act.put, List.setIfInBounds_toArray, List.set_cons_zero, List.set_cons_succ])
                  refine wpAnyH_ready (rs := [2, 4]) (by kernel_rfl) (by simp) ?_
                  refine ready_l rfl (fun K hK => ?_) (ready_l rfl (fun K hK => ?_) AllReadyH.nil)
                  · obtain ⟨v2, w2, hrun2, r1, r2, r3⟩ := next_row hML hl7 (X := (wr.alloc (.cells #[] 34)).drew) hbE (wr.heap.size) (by first | exact Nat.le_refl _ | exact Nat.le_succ _) (Arr.new rfl rfl)
                    obtain ⟨a2, c2, rfl⟩ := own_val r1
                    refine step_append_known rfl _ _ _ _ rfl _ _ rfl rfl hrun2 ?_
                    (try simp only [Act.put, List.setIfInBounds_toArray, List.set_cons_zero, List.set_cons_succ])
                    refine hK.out _ _ (by exact hHold _ (r2)) (fun hHeld => ?_)
                    clear hK K
                    (try simp only [Act.put, List.setIfInBounds_toArray, List.set_cons_zero, List.set_cons_succ])
                    refine wpAnyH_ready (rs := [4]) (by kernel_rfl) (by simp) ?_
                    refine ready_l rfl (fun K hK => ?_) AllReadyH.nil
                    go_simp
                    refine hK.out _ _ (by exact hHold _ (r2.alloc r2.size _)) (fun hHeld => ?_)
                    clear hK K
                    (try simp only [Act.put, List.setIfInBounds_toArray, List.set_cons_zero, List.set_cons_succ])
                    obtain ⟨v5, w5, hrun5, hN5⟩ := next_snoc (w2 := w2.alloc (.cells #[.int .i64 id, .slice fa fs.length fc] 34)) hl7 (own_below r1 ((Below.refl _ _).alloc (Nat.le_refl _) _)) (r2.alloc r2.size _) _ id _ rfl (Arr.new rfl rfl)
                    refine wpAnyH_ready (rs := [5]) (by kernel_rfl) (by simp) ?_
                    refine ready_l rfl (fun K hK => ?_) AllReadyH.nil
                    refine step_append_known rfl _ _ _ _ rfl _ _ rfl rfl hrun5 ?_
                    (try simp only [Act.put, List.setIfInBounds_toArray, List.set_cons_zero, List.set_cons_succ])
                    refine hK.out _ _ (by exact hHold _ (hN5.below)) (fun hHeld => ?_)
                    clear hK K
                    (try simp only [Act.put, List.setIfInBounds_toArray, List.set_cons_zero, List.set_cons_succ])
                    refine take_l (i := 6) (v := ?_) rfl (by kernel_rfl) (by kernel_rfl) (by kernel_rfl) (fun _ _ _ h => h) (Or.inl ⟨by kernel_rfl, ?_⟩) (by assumption) ?_
                    rotate_left
                    · intro w hSw; (try dsimp only at hSw); go_simp; (try with_reducible rfl)
                    (try simp only [Act.put, List.setIfInBounds_toArray, List.set_cons_zero, List.set_cons_succ])
                    refine wpAnyH_done (by kernel_rfl) ?_ _
                    go_wp2_with fail
                    go_meet
                    obtain ⟨a5, c5, rfl⟩ := own_val hN5.row
                    exact ⟨a5, c5, rfl, hN5⟩
                  · go_simp
                    refine hK.out _ _ (by exact hHold _ ((((Below.refl wr.heap.size wr).alloc (Nat.le_refl _) (.cells #[] 34)).alloc (by simp) (.cells #[.int .i64 id, .slice fa fs.length fc] 34)).drew)) (fun hHeld => ?_)
                    clear hK K
                    (try simp only [Act.put, List.setIfInBounds_toArray, List.set_cons_zero, List.set_cons_succ])
                    refine wpAnyH_ready (rs := [2]) (by kernel_rfl) (by simp) ?_
                    refine ready_l rfl (fun K hK => ?_) AllReadyH.nil
                    have hAe : Arr ((wr.alloc (.cells #[] 34)).alloc (.cells #[.int .i64 id, .slice fa fs.length fc] 34)).drew wr.heap.size 34 [] := ((Arr.new (w := wr) rfl rfl).below ((Below.refl _ _).alloc (Nat.le_refl _) _)).drew
                    have hAf : Arr ((wr.alloc (.cells #[] 34)).alloc (.cells #[.int .i64 id, .slice fa fs.length fc] 34)).drew (wr.heap.size + 1) 34 [.int .i64 id, .slice fa fs.length fc] := by rw [show wr.heap.size + 1 = (wr.alloc (.cells #[] 34)).heap.size by simp]; exact (Arr.new rfl rfl).drew
                    obtain ⟨v2, w2, hrun2, r1, r2, r3⟩ := next_row hML hl7 (X := ((wr.alloc (.cells #[] 34)).alloc (.cells #[.int .i64 id, .slice fa fs.length fc] 34)).drew) (((Below.refl wr.heap.size wr).alloc (Nat.le_refl _) (.cells #[] 34)).alloc (by simp) (.cells #[.int .i64 id, .slice fa fs.length fc] 34)).drew (wr.heap.size) (by first | exact Nat.le_refl _ | exact Nat.le_succ _) hAe
                    obtain ⟨a2, c2, rfl⟩ := own_val r1
                    refine step_append_known rfl _ _ _ _ rfl _ _ rfl rfl hrun2 ?_
                    (try simp only [Act.put, List.setIfInBounds_toArray, List.set_cons_zero, List.set_cons_succ])
                    refine hK.out _ _ (by exact hHold _ (r2)) (fun hHeld => ?_)
                    clear hK K
                    (try simp only [Act.put, List.setIfInBounds_toArray, List.set_cons_zero, List.set_cons_succ])
                    obtain ⟨v5, w5, hrun5, hN5⟩ := next_snoc hl7 r1 r2 (wr.heap.size + 1) id _ rfl (r3 _ _ (by omega) hAf)
                    refine wpAnyH_ready (rs := [5]) (by kernel_rfl) (by simp) ?_
                    refine ready_l rfl (fun K hK => ?_) AllReadyH.nil
                    refine step_append_known rfl _ _ _ _ rfl _ _ rfl rfl hrun5 ?_
                    (try simp only [Act.put, List.setIfInBounds_toArray, List.set_cons_zero, List.set_cons_succ])
                    refine hK.out _ _ (by exact hHold _ (hN5.below)) (fun hHeld => ?_)
                    clear hK K
                    (try simp only [Act.put, List.setIfInBounds_toArray, List.set_cons_zero, List.set_cons_succ])
                    refine take_l (i := 6) (v := ?_) rfl (by kernel_rfl) (by kernel_rfl) (by kernel_rfl) (fun _ _ _ h => h) (Or.inl ⟨by kernel_rfl, ?_⟩) (by assumption) ?_
                    rotate_left
                    · intro w hSw; (try dsimp only at hSw); go_simp; (try with_reducible rfl)
                    (try simp only [Act.put, List.setIfInBounds_toArray, List.set_cons_zero, List.set_cons_succ])
                    refine wpAnyH_done (by kernel_rfl) ?_ _
                    go_wp2_with fail
                    go_meet
                    obtain ⟨a5, c5, rfl⟩ := own_val hN5.row
                    exact ⟨a5, c5, rfl, hN5⟩
                · go_simp
                  refine hK.out _ _ (by exact hHold _ (hbF)) (fun hHeld => ?_)
                  clear hK K
                  (try simp only [Act.put, List.setIfInBounds_toArray, List.set_cons_zero, List.set_cons_succ])
                  refine wpAnyH_ready (rs := [0]) (by kernel_rfl) (by simp) ?_
                  refine ready_l rfl (fun K hK => ?_) AllReadyH.nil
                  go_simp
                  refine hK.out _ _ (by exact hHold _ ((((Below.refl wr.heap.size wr).alloc (Nat.le_refl _) (.cells #[.int .i64 id, .slice fa fs.length fc] 34)).alloc (by simp) (.cells #[] 34)).drew)) (fun hHeld => ?_)
                  clear hK K
                  (try simp only [Act.put, List.setIfInBounds_toArray, List.set_cons_zero, List.set_cons_succ])
                  refine wpAnyH_ready (rs := [2]) (by kernel_rfl) (by simp) ?_
                  refine ready_l rfl (fun K hK => ?_) AllReadyH.nil
                  have hAf : Arr ((wr.alloc (.cells #[.int .i64 id, .slice fa fs.length fc] 34)).alloc (.cells #[] 34)).drew wr.heap.size 34 [.int .i64 id, .slice fa fs.length fc] := ((Arr.new (w := wr) rfl rfl).below ((Below.refl _ _).alloc (Nat.le_refl _) _)).drew
                  have hAe : Arr ((wr.alloc (.cells #[.int .i64 id, .slice fa fs.length fc] 34)).alloc (.cells #[] 34)).drew (wr.heap.size + 1) 34 [] := by rw [show wr.heap.size + 1 = (wr.alloc (.cells #[.int .i64 id, .slice fa fs.length fc] 34)).heap.size by simp]; exact (Arr.new rfl rfl).drew
                  obtain ⟨v2, w2, hrun2, r1, r2, r3⟩ := next_row hML hl7 (X := ((wr.alloc (.cells #[.int .i64 id, .slice fa fs.length fc] 34)).alloc (.cells #[] 34)).drew) (((Below.refl wr.heap.size wr).alloc (Nat.le_refl _) (.cells #[.int .i64 id, .slice fa fs.length fc] 34)).alloc (by simp) (.cells #[] 34)).drew (wr.heap.size + 1) (by first | exact Nat.le_refl _ | exact Nat.le_succ _) hAe
                  obtain ⟨a2, c2, rfl⟩ := own_val r1
                  refine step_append_known rfl _ _ _ _ rfl _ _ rfl rfl hrun2 ?_
                  (try simp only [Act.put, List.setIfInBounds_toArray, List.set_cons_zero, List.set_cons_succ])
                  refine hK.out _ _ (by exact hHold _ (r2)) (fun hHeld => ?_)
                  clear hK K
                  (try simp only [Act.put, List.setIfInBounds_toArray, List.set_cons_zero, List.set_cons_succ])
                  obtain ⟨v5, w5, hrun5, hN5⟩ := next_snoc hl7 r1 r2 wr.heap.size id _ rfl (r3 _ _ (by omega) hAf)
                  refine wpAnyH_ready (rs := [5]) (by kernel_rfl) (by simp) ?_
                  refine ready_l rfl (fun K hK => ?_) AllReadyH.nil
                  refine step_append_known rfl _ _ _ _ rfl _ _ rfl rfl hrun5 ?_
                  (try simp only [Act.put, List.setIfInBounds_toArray, List.set_cons_zero, List.set_cons_succ])
                  refine hK.out _ _ (by exact hHold _ (hN5.below)) (fun hHeld => ?_)
                  clear hK K
                  (try simp only [Act.put, List.setIfInBounds_toArray, List.set_cons_zero, List.set_cons_succ])
                  refine take_l (i := 6) (v := ?_) rfl (by kernel_rfl) (by kernel_rfl) (by kernel_rfl) (fun _ _ _ h => h) (Or.inl ⟨by kernel_rfl, ?_⟩) (by assumption) ?_
                  rotate_left
                  · intro w hSw; (try dsimp only at hSw); go_simp; (try with_reducible rfl)
                  (try simp only [Act.put, List.setIfInBounds_toArray, List.set_cons_zero, List.set_cons_succ])
                  refine wpAnyH_done (by kernel_rfl) ?_ _
                  go_wp2_with fail
                  go_meet
                  obtain ⟨a5, c5, rfl⟩ := own_val hN5.row
                  exact ⟨a5, c5, rfl, hN5⟩
            case rest =>
              as_aux_lemma =>
                obtain ⟨a7, c7, rfl, hN⟩ := hcut
                generalize wc = W5 at *
                have hML : MkL w.heap.size wr (.slice la l.length lc) fvs l := hS.out.2.1.below (hb1.trans (hF.out.below.mono hb1.size))
                have hsz0 : w.heap.size ≤ W1.heap.size := Nat.le_trans hS.out.2.2.size hb1.size
                have hsz : w.heap.size ≤ wr.heap.size := Nat.le_trans hsz0 hF.out.below.size
                have hMN : MkL w.heap.size W5 (.slice a7 (l.length + 1) c7) (fvs ++ [.slice fa fs.length fc]) (l ++ [⟨id, fs⟩]) := hML.snoc (fun i hi => own_below (hML.rows i hi) hN.below) (own_lower hN.row hsz) (own_lower (own_below hF.out.row hN.below) (by omega))
                have hid1 : 1 + 3 * (l.length : Int) ≤ id ∧ id ≤ 3 + 3 * (l.length : Int) := by have := hid.out; omega
                have hL1 := hS.out.1.in_
                have hIn : FmtIn (l ++ [⟨id, fs⟩]) := ⟨by simp; omega, fun f hf => (List.mem_append.1 hf).elim (hL1.id f) fun hf => by rw [List.mem_singleton.1 hf]; exact ⟨by dsimp only; omega, by dsimp only; omega⟩, fun f hf => (List.mem_append.1 hf).elim (hL1.flen f) fun hf => by rw [List.mem_singleton.1 hf]; dsimp only; omega, fun f hf => (List.mem_append.1 hf).elim (hL1.ok f) fun hf => by rw [List.mem_singleton.1 hf]; exact hF.out.ok⟩
                have hv := validR_any _ _ W5 (hMN.fmts hIn)
                have hbw5 : Below w.heap.size w W5 := (hS.out.2.2.trans ((hb1.trans ((hF.out.below.trans (hN.below.mono hF.out.below.size)).mono hb1.size)).mono hS.out.2.2.size))
                have hw5 : Below wr.heap.size wr W5 := hN.below
                have hlen1 : (l ++ [(⟨id, fs⟩ : Fmt)]).length = l.length + 1 := by simp
                have hwi : IntKind.i64.wrap ((l.length : Int) + 1) = ((l.length + 1 : Nat) : Int) := by rw [Int.natCast_succ]; exact IntWalk.i64_in _ (by omega)
                obtain ⟨vb, hvb⟩ : ∃ vb, vb = validR (l ++ [⟨id, fs⟩]) := ⟨_, rfl⟩
                rw [← hvb] at hv
                replace hvb := Lib.hid hvb
                replace hML := Lib.hid hML
                replace hMN := Lib.hid hMN
                replace hbw5 := Lib.hid hbw5
                replace hIn := Lib.hid hIn
                clear hN f1
                go_wp2_with fail
                refine hv.mono ?_
                rintro e W6 ⟨rfl, hb6⟩
                have hbw6 : Hid (Below w.heap.size w W6) := hbw5.out.trans (hb6.mono hbw5.out.size)
                clear hv
                cases vb with
                | true =>
                  have hnew : Hid (MkOk (l ++ [⟨id, fs⟩]) ∧ MkL w.heap.size W6 (.slice a7 (l.length + 1) c7) (fvs ++ [.slice fa fs.length fc]) (l ++ [⟨id, fs⟩]) ∧ Below w.heap.size w W6) := ⟨hS.out.1.more hl6 hid1 (by omega) hF.out.ok hF.out.small hvb.out.symm, hMN.out.below hb6, hbw6.out⟩
                  go_wp2_with fail
                  exact ⟨⟨l.length + 1, _, _, by first | rfl | go_num, by omega, hlen1, hnew⟩, by simp [intOf]; omega⟩
                | false =>
                  have hF6 := hF.out.later (hw5.trans (hb6.mono hw5.size))
                  have hB7 : Arr (W6.alloc (.cells #[.int .i64 3, .int .i64 3, .int .i64 (-1), .string { data := #[] }] 55)) W1.heap.size 34 [.int .i64 id, .slice fa fs.length fc] := hF6.box.below ((Below.refl _ _).alloc (Nat.le_refl _) _)
                  have s0 := hB7.cell (j := 0) rfl
                  have s1 := hB7.cell (j := 1) rfl
                  have t1 := hB7.free 1
                  replace hB7 := Lib.hid hB7
                  have hwr : Below wo.heap.size wo W6 := hb1.trans (((hF.out.below.trans ((hw5.trans (hb6.mono hw5.size)).mono hF.out.below.size))).mono hb1.size)
                  obtain ⟨v8, w8, hrun8, hM8, hb8⟩ := MkL.fallen (id := id) (fB := W1.heap.size) hS.out.2.1 hi6 hS.out.2.2 hwr hb1.size hF6.box.lt
                  obtain ⟨a8, c8, rfl⟩ := own_val hM8.row
                  have hnew : Hid (MkOk (l ++ [⟨id, [fallF]⟩]) ∧ MkL w.heap.size w8 (.slice a8 (l ++ [(⟨id, [fallF]⟩ : Fmt)]).length c8) (fvs ++ [.slice (some ⟨W6.heap.size, 0, none⟩) 1 1]) (l ++ [⟨id, [fallF]⟩]) ∧ Below w.heap.size w w8) := ⟨hS.out.1.fall hl6 hid1, hM8, hb8⟩
                  have hlen2 : (l ++ [(⟨id, [fallF]⟩ : Fmt)]).length = l.length + 1 := by simp
                  obtain ⟨n8, hn8⟩ : ∃ n8, n8 = (l ++ [(⟨id, [fallF]⟩ : Fmt)]).length := ⟨_, rfl⟩
                  rw [← hn8] at hrun8 hnew hlen2
                  replace hrun8 := Lib.hid hrun8
                  replace hn8 := Lib.hid hn8
                  replace hlen2 := Lib.hid hlen2
                  clear hM8 hb8 hF6
                  go_wp2_with (at_builtin; go_loud (refine wpList_append_known rfl _ _ _ _ rfl _ _ rfl rfl hrun8.out ?_))
                  exact ⟨⟨l.length + 1, _, _, by first | rfl | go_num, by omega, by rw [← hlen2.out]; exact hn8.out.symm, hnew⟩, by simp [intOf]; omega⟩
      · have hd6 : decide ((l.length : Int) < 6) = false := decide_eq_false (by omega)
        go_wp2_with fail
        go_ret
        exact ⟨⟨_, fvs, l, rfl, hS.out.1, hS.out.2.1⟩, hS.out.2.2⟩
    · have hd : decide ((l.length : Int) < (n : Int)) = false := decide_eq_false (by omega)
      go_wp2_with fail
      go_ret
      exact ⟨⟨_, fvs, l, rfl, hS.out.1, hS.out.2.1⟩, hS.out.2.2⟩
end Go.Proofs.YtcpfmlaipejfpaaGreatDoor
