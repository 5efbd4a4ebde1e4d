/-
  The contract of digest.Sum: it returns the digest of a string of at most 2000 bytes.
-/
import Derived.Test.YtllofogjojlamaaDoorSha7a
namespace Go.Proofs.YtllofogjojlamaaDoor
open Go.RowKit Go.Shelf

attribute [local go_sem] Oper.semAt_some

theorem Tryd.info_u8 : (Tryd.prog.info? 5).map (fun i => (i.zero, i.size, i.bytes)) = some (some (.int .u8 0), 1, 1) := by kernel_rfl

set_option maxRecDepth 100000 in
set_option maxHeartbeats 2000000 in
theorem Sum_in (s : ByteArray) (w : World) (hs : s.size ≤ 2000) (hG : w.rangeAt 0 0 (u32s KS)) :
    CallsIn Fence.wide 3 Tryd.prog 16 #[.string s] w fun e W' => e = .returned (.string (shaSum s)) ∧ Below w.heap.size w W' := by
  have hB : Below w.heap.size w w := Below.refl _ _
  have h0w : 0 < w.heap.size := World.block_lt_of_cell? w _ (hG 0 _ rfl)
  obtain ⟨i0, hi, hz0, hz1, hz2⟩ := info_parts Tryd.info_u8
  have hcv := fun (W : World) => Lib.run_convert_string_bytes (P := Tryd.prog) W 9 45 5 s Tryd.underlying9 Tryd.underlying45 Tryd.underlying5
  have hbuf : ∀ (W : World) (g : Nat), g = W.heap.size → Buf (Lib.bytesWorld W 5 s) g 5 (.slice (some ⟨g, 0, none⟩) s.size (grownCap W s.size 0 5)) (u8s (strBytes s)) := fun W g hg => by
    have := buf_of_string W 5 s (by omega)
    subst hg
    unfold u8s strBytes
    rw [List.map_map]
    exact this
  have hl1 : (u8s (strBytes s)).length + 1 ≤ 1000000 := by rw [u8s_len, strBytes_len]; omega
  refine callsIn_of_wp_marks Tryd.func16 rfl trivial ?_ rfl
  simp only [Tryd.ntmps16, List.size_toArray, List.length_cons, List.length_nil, Nat.reduceAdd, Nat.reduceSub, Array.replicate_succ, Array.replicate_zero, List.push_toArray, List.append_toArray, List.nil_append, List.cons_append]
  gi_wp2_with (gi_at_builtin; go_loud (refine wpListIn_append_buf rfl _ _ 45 rfl _ 5 i0 (.int .u8 0) Tryd.underlying45 hi hz0 hz1 (by omega) rfl _ (u8s (strBytes s)) rfl ((hbuf _ _ (by simp)).alloc _) _ _ _ rfl (new_cell0 _ _ _) rfl hl1 ?_); intro v1 w1 g1 hg1 hb1 hgrow1)
  have hA1 : Arr w1 w.heap.size 61 (u32s IV) := Arr.grown (((Arr.new rfl rfl).bytesWorld _ _).alloc _) hgrow1 (by simp)
  have hB1 : Below w.heap.size w w1 := Below.grown ((below_bytesWorld ((Below.refl _ w).alloc (Nat.le_refl _) _) (by simp) _ _).alloc (by rw [Lib.bytesWorld_size]; simp; omega) _) hgrow1 (by simp [Lib.bytesWorld_size]; omega) (fun r e => by injection e with e; omega)
  have hg1' : g1 ≠ w.heap.size := by rcases hg1 with rfl | rfl <;> simp [Lib.bytesWorld_size] <;> omega
  have hgb1 : w.heap.size ≤ g1 := by rcases hg1 with rfl | rfl <;> simp [Lib.bytesWorld_size] <;> omega
  have hb1' : Buf w1 g1 5 v1 (u8s (padTo s 0 0)) := by
    have e : u8s (padTo s 0 0) = u8s (strBytes s) ++ [.int .u8 128] := by simp [padTo, u8s]
    rw [e]; exact hb1
  clear hg1 hgrow1 hb1 hbuf hcv hl1 hB
  gi_loopw [4] (fun v wr => ∃ k g : Nat, k ≤ zerosTo s.size ∧ g ≠ w.heap.size ∧ w.heap.size ≤ g ∧ Buf wr g 5 v (u8s (padTo s k 0)) ∧ Below w.heap.size w wr ∧ Arr wr w.heap.size 61 (u32s IV)) (fun v _ => 3000 - lenV v)
  case atStart => exact ⟨0, g1, Nat.zero_le _, hg1', hgb1, hb1', hB1, hA1⟩
  case round =>
    obtain ⟨k, g, hk, hgn, hgb, hb, hBr, hAr⟩ := hrel
    clear hA1 hB1 hb1' hg1'
    have hz : zerosTo s.size < 64 := by unfold zerosTo; omega
    have hzv : zerosTo s.size = (119 - s.size % 64) % 64 := rfl
    obtain ⟨cap, hv, hc1, hc2⟩ := hb.val
    rw [u8s_len, padTo_len] at hv hc1
    obtain ⟨L, hL⟩ : ∃ L, L = s.size + 1 + k + 0 := ⟨_, rfl⟩
    rw [← hL] at hv hc1
    subst hv
    by_cases hlt : k < zerosTo s.size
    · have hd : ((L : Int) % 64 != 56) = true := by rw [bne_iff_ne]; omega
      have hlen : (u8s (padTo s k 0)).length + 1 ≤ 1000000 := by rw [u8s_len, padTo_len]; omega
      have hLb : L ≤ 2100 := by omega
      replace hL := Lib.hid hL
      replace hzv := Lib.hid hzv
      gi_wp2_with (gi_at_builtin; refine wpListIn_append_buf rfl _ _ 45 rfl _ 5 i0 (.int .u8 0) Tryd.underlying45 hi hz0 hz1 (by omega) rfl _ (u8s (padTo s k 0)) rfl (hb.alloc _) _ _ _ rfl (new_cell0 _ _ _) rfl hlen ?_; intro v2 w2 g2 hg2 hb2 hgrow2)
      have hb3 : Buf w2 g2 5 v2 (u8s (padTo s (k + 1) 0)) := by rw [padTo_zero, ← u8s_snoc]; exact hb2
      obtain ⟨cap2, hv2, _, _⟩ := hb3.val
      rw [u8s_len, padTo_len] at hv2
      refine ⟨⟨k + 1, g2, by omega, ?_, ?_, hb3, (hBr.alloc hBr.size _).grown hgrow2 (by simpa using Nat.le_succ_of_le hBr.size) (fun r e => by injection e with e; subst e; exact hgb), (hAr.alloc _).grown hgrow2 (by simpa using hgn)⟩, ?_⟩
      · rcases hg2 with rfl | rfl
        · exact hgn
        · have := hAr.lt; simp; omega
      · rcases hg2 with rfl | rfl
        · exact hgb
        · have := hAr.lt; simp; omega
      · rw [hv2]; have := hL.out; simp only [lenV]; omega
    · have hd : ((L : Int) % 64 != 56) = false := by
        have : (L : Int) % 64 = 56 := by omega
        simp [this]
      obtain rfl : k = zerosTo s.size := by omega
      replace hL := Lib.hid hL
      replace hzv := Lib.hid hzv
      generalize hze : zerosTo s.size = z at *
      replace hze := Lib.hid hze
      clear hc1
      gi_wp2
      gi_loopw [4, 5] (fun v i wr => ∃ k g : Nat, k ≤ 8 ∧ i = .int .i64 (7 - (k : Int)) ∧ g ≠ w.heap.size ∧ w.heap.size ≤ g ∧ Buf wr g 5 v (u8s (padTo s z k)) ∧ Below w.heap.size w wr ∧ Arr wr w.heap.size 61 (u32s IV)) (fun _ i _ => (intOf i + 1).toNat)
      case atStart => exact ⟨0, g, by omega, rfl, hgn, hgb, hb, hBr, hAr⟩
      case round =>
        obtain ⟨k, g, hk, rfl, hgn, hgb, hb, hBr, hAr⟩ := hrel
        clear hd hlt
        obtain ⟨cap, hv, hc1, hc2⟩ := hb.val
        rw [u8s_len, padTo_len] at hv hc1
        obtain ⟨L, hL2⟩ : ∃ L, L = s.size + 1 + z + k := ⟨_, rfl⟩
        rw [← hL2] at hv hc1
        subst hv
        have hlen : (u8s (padTo s z k)).length + 1 ≤ 1000000 := by rw [u8s_len, padTo_len]; omega
        replace hL2 := Lib.hid hL2
        by_cases hlt : k < 8
        · rcases (show k = 0 ∨ k = 1 ∨ k = 2 ∨ k = 3 ∨ k = 4 ∨ k = 5 ∨ k = 6 ∨ k = 7 by omega) with rfl | rfl | rfl | rfl | rfl | rfl | rfl | rfl
          · gi_wp2_with (gi_at_builtin; refine wpListIn_append_buf rfl _ _ 45 rfl _ 5 i0 (.int .u8 0) Tryd.underlying45 hi hz0 hz1 (by omega) rfl _ (u8s (padTo s z 0)) rfl (hb.alloc _) _ _ _ rfl (new_cell0 _ _ _) rfl hlen ?_; intro v2 w2 g2 hg2 hb2 hgrow2)
            have hb3 : Buf w2 g2 5 v2 (u8s (padTo s z (0 + 1))) := by
              rw [padTo_succ, ← u8s_snoc]; exact buf_last hb2 (by simp only [lenByte, Nat.reduceMul, Nat.reduceSub, Int.reducePow]; omega)
            refine ⟨⟨0 + 1, g2, by omega, by rfl, new_ne hg2 hgn hAr.lt, new_le hg2 hgb hAr.lt, hb3, (hBr.alloc hBr.size _).grown hgrow2 (by simpa using Nat.le_succ_of_le hBr.size) (fun r e => by injection e with e; subst e; exact hgb), (hAr.alloc _).grown hgrow2 (by simpa using hgn)⟩, by simp [intOf]⟩
          · gi_wp2_with (gi_at_builtin; refine wpListIn_append_buf rfl _ _ 45 rfl _ 5 i0 (.int .u8 0) Tryd.underlying45 hi hz0 hz1 (by omega) rfl _ (u8s (padTo s z 1)) rfl (hb.alloc _) _ _ _ rfl (new_cell0 _ _ _) rfl hlen ?_; intro v2 w2 g2 hg2 hb2 hgrow2)
            have hb3 : Buf w2 g2 5 v2 (u8s (padTo s z (1 + 1))) := by
              rw [padTo_succ, ← u8s_snoc]; exact buf_last hb2 (by simp only [lenByte, Nat.reduceMul, Nat.reduceSub, Int.reducePow]; omega)
            refine ⟨⟨1 + 1, g2, by omega, by rfl, new_ne hg2 hgn hAr.lt, new_le hg2 hgb hAr.lt, hb3, (hBr.alloc hBr.size _).grown hgrow2 (by simpa using Nat.le_succ_of_le hBr.size) (fun r e => by injection e with e; subst e; exact hgb), (hAr.alloc _).grown hgrow2 (by simpa using hgn)⟩, by simp [intOf]⟩
          · gi_wp2_with (gi_at_builtin; refine wpListIn_append_buf rfl _ _ 45 rfl _ 5 i0 (.int .u8 0) Tryd.underlying45 hi hz0 hz1 (by omega) rfl _ (u8s (padTo s z 2)) rfl (hb.alloc _) _ _ _ rfl (new_cell0 _ _ _) rfl hlen ?_; intro v2 w2 g2 hg2 hb2 hgrow2)
            have hb3 : Buf w2 g2 5 v2 (u8s (padTo s z (2 + 1))) := by
              rw [padTo_succ, ← u8s_snoc]; exact buf_last hb2 (by simp only [lenByte, Nat.reduceMul, Nat.reduceSub, Int.reducePow]; omega)
            refine ⟨⟨2 + 1, g2, by omega, by rfl, new_ne hg2 hgn hAr.lt, new_le hg2 hgb hAr.lt, hb3, (hBr.alloc hBr.size _).grown hgrow2 (by simpa using Nat.le_succ_of_le hBr.size) (fun r e => by injection e with e; subst e; exact hgb), (hAr.alloc _).grown hgrow2 (by simpa using hgn)⟩, by simp [intOf]⟩
          · gi_wp2_with (gi_at_builtin; refine wpListIn_append_buf rfl _ _ 45 rfl _ 5 i0 (.int .u8 0) Tryd.underlying45 hi hz0 hz1 (by omega) rfl _ (u8s (padTo s z 3)) rfl (hb.alloc _) _ _ _ rfl (new_cell0 _ _ _) rfl hlen ?_; intro v2 w2 g2 hg2 hb2 hgrow2)
            have hb3 : Buf w2 g2 5 v2 (u8s (padTo s z (3 + 1))) := by
              rw [padTo_succ, ← u8s_snoc]; exact buf_last hb2 (by simp only [lenByte, Nat.reduceMul, Nat.reduceSub, Int.reducePow]; omega)
            refine ⟨⟨3 + 1, g2, by omega, by rfl, new_ne hg2 hgn hAr.lt, new_le hg2 hgb hAr.lt, hb3, (hBr.alloc hBr.size _).grown hgrow2 (by simpa using Nat.le_succ_of_le hBr.size) (fun r e => by injection e with e; subst e; exact hgb), (hAr.alloc _).grown hgrow2 (by simpa using hgn)⟩, by simp [intOf]⟩
          · gi_wp2_with (gi_at_builtin; refine wpListIn_append_buf rfl _ _ 45 rfl _ 5 i0 (.int .u8 0) Tryd.underlying45 hi hz0 hz1 (by omega) rfl _ (u8s (padTo s z 4)) rfl (hb.alloc _) _ _ _ rfl (new_cell0 _ _ _) rfl hlen ?_; intro v2 w2 g2 hg2 hb2 hgrow2)
            have hb3 : Buf w2 g2 5 v2 (u8s (padTo s z (4 + 1))) := by
              rw [padTo_succ, ← u8s_snoc]; exact buf_last hb2 (by simp only [lenByte, Nat.reduceMul, Nat.reduceSub, Int.reducePow]; omega)
            refine ⟨⟨4 + 1, g2, by omega, by rfl, new_ne hg2 hgn hAr.lt, new_le hg2 hgb hAr.lt, hb3, (hBr.alloc hBr.size _).grown hgrow2 (by simpa using Nat.le_succ_of_le hBr.size) (fun r e => by injection e with e; subst e; exact hgb), (hAr.alloc _).grown hgrow2 (by simpa using hgn)⟩, by simp [intOf]⟩
          · gi_wp2_with (gi_at_builtin; refine wpListIn_append_buf rfl _ _ 45 rfl _ 5 i0 (.int .u8 0) Tryd.underlying45 hi hz0 hz1 (by omega) rfl _ (u8s (padTo s z 5)) rfl (hb.alloc _) _ _ _ rfl (new_cell0 _ _ _) rfl hlen ?_; intro v2 w2 g2 hg2 hb2 hgrow2)
            have hb3 : Buf w2 g2 5 v2 (u8s (padTo s z (5 + 1))) := by
              rw [padTo_succ, ← u8s_snoc]; exact buf_last hb2 (by simp only [lenByte, Nat.reduceMul, Nat.reduceSub, Int.reducePow]; omega)
            refine ⟨⟨5 + 1, g2, by omega, by rfl, new_ne hg2 hgn hAr.lt, new_le hg2 hgb hAr.lt, hb3, (hBr.alloc hBr.size _).grown hgrow2 (by simpa using Nat.le_succ_of_le hBr.size) (fun r e => by injection e with e; subst e; exact hgb), (hAr.alloc _).grown hgrow2 (by simpa using hgn)⟩, by simp [intOf]⟩
          · gi_wp2_with (gi_at_builtin; refine wpListIn_append_buf rfl _ _ 45 rfl _ 5 i0 (.int .u8 0) Tryd.underlying45 hi hz0 hz1 (by omega) rfl _ (u8s (padTo s z 6)) rfl (hb.alloc _) _ _ _ rfl (new_cell0 _ _ _) rfl hlen ?_; intro v2 w2 g2 hg2 hb2 hgrow2)
            have hb3 : Buf w2 g2 5 v2 (u8s (padTo s z (6 + 1))) := by
              rw [padTo_succ, ← u8s_snoc]; exact buf_last hb2 (by simp only [lenByte, Nat.reduceMul, Nat.reduceSub, Int.reducePow]; omega)
            refine ⟨⟨6 + 1, g2, by omega, by rfl, new_ne hg2 hgn hAr.lt, new_le hg2 hgb hAr.lt, hb3, (hBr.alloc hBr.size _).grown hgrow2 (by simpa using Nat.le_succ_of_le hBr.size) (fun r e => by injection e with e; subst e; exact hgb), (hAr.alloc _).grown hgrow2 (by simpa using hgn)⟩, by simp [intOf]⟩
          · gi_wp2_with (gi_at_builtin; refine wpListIn_append_buf rfl _ _ 45 rfl _ 5 i0 (.int .u8 0) Tryd.underlying45 hi hz0 hz1 (by omega) rfl _ (u8s (padTo s z 7)) rfl (hb.alloc _) _ _ _ rfl (new_cell0 _ _ _) rfl hlen ?_; intro v2 w2 g2 hg2 hb2 hgrow2)
            have hb3 : Buf w2 g2 5 v2 (u8s (padTo s z (7 + 1))) := by
              rw [padTo_succ, ← u8s_snoc]; exact buf_last hb2 (by simp only [lenByte, Nat.reduceMul, Nat.reduceSub, Int.reducePow]; omega)
            refine ⟨⟨7 + 1, g2, by omega, by rfl, new_ne hg2 hgn hAr.lt, new_le hg2 hgb hAr.lt, hb3, (hBr.alloc hBr.size _).grown hgrow2 (by simpa using Nat.le_succ_of_le hBr.size) (fun r e => by injection e with e; subst e; exact hgb), (hAr.alloc _).grown hgrow2 (by simpa using hgn)⟩, by simp [intOf]⟩
        · obtain rfl : k = 8 := by omega
          clear hlen hlt
          gi_wp2_with (fail)
          have hpad : padTo s z 8 = padded s := by rw [padded, hze.out]
          have hpl := padded_len s
          obtain ⟨M, hM⟩ : ∃ M, M = (s.size + 8) / 64 := ⟨_, rfl⟩
          have hM2 : M ≤ 10000 := by omega
          have hLM : L = 64 * (M + 1) := by rw [hL2.out, ← padTo_len, hpad, hpl, hM]
          rw [hpad] at hb
          rw [← hM] at hpl
          have hsum : shaSum s = ⟨(((List.range 32).map (byteAt (hashOf (padded s) (List.range (M + 1))))).map fun x => UInt8.ofNat x.toNat).toArray⟩ := by rw [hM]; rfl
          subst hLM
          replace hsum := Lib.hid hsum
          replace hpad := Lib.hid hpad
          replace hM := Lib.hid hM
          generalize padded s = p at *
          replace hpl := Lib.hid hpl
          refine ⟨trivial, (callsIn_wide.2 (Chunk_any g (64 * (M + 1)) cap wr)).mono ?_⟩
          rintro e w3 ⟨rfl, ms, mn, hb3⟩
          have hA3 := hAr.below hb3
          have hB3 := hBr.trans (hb3.mono hBr.size)
          have hP3 := hb.below hb3
          have hlt1 := ms.lt
          have hlt2 := mn.lt
          have hHB := hAr.lt
          have hgl := hb.lt
          clear hb hAr hBr hb3
          gi_wp2_with (fail)
          refine wpIn_rangeFunc_ownF rfl (by omega) (gf := 43) (lb := #[.pointer (some ⟨wr.heap.size, 0, none⟩), .pointer (some ⟨wr.heap.size + 1, 0, none⟩)]) rfl trivial (enters_of Tryd.func43 (by kernel_rfl) rfl)
            (chunk1_stops _ g cap wr.heap.size (wr.heap.size + 1) M w3 hM2 hc1 hc2 hlt1 hlt2 ms.cell mn.cell) keepB_t (keepB_b hlt1 hlt2) (Below.refl _ _) (fun _ => rfl)
            (fun pre W => (Arr W w.heap.size 61 (u32s (hashOf p (pre.map (·.1)))) ∧ Buf W g 5 (.slice (some ⟨g, 0, none⟩) (64 * (M + 1)) cap) (u8s p) ∧ w3.heap.size ≤ W.heap.size) ∧ Below w.heap.size w W)
            (fun _ _ _ => False)
            (OwnFrom.and (Own.from (fun _ _ _ _ ⟨h1, h2, h3⟩ hg hr => ⟨arr_kept h1 hg hr, buf_kept h2 hg hr, Nat.le_trans h3 hg.size⟩) _) (ownFrom_below (Nat.le_refl _) (by omega)))
            (fun _ _ _ _ _ hs _ _ => hs)
            ⟨⟨hA3, hP3, Nat.le_refl _⟩, hB3⟩
            ?a1 ?assign ?body ?done ?stop
          case assign =>
            intro l x W K hK
            gi_wp2
            exact hK
          case body =>
            rintro l pre x W ⟨⟨hA, hP, hS⟩, hB⟩ hlt
            have hx := x.2
            have hbl := blockOf_len hpl.out hx
            have hcs : ∀ i, i < 64 → W.cell? ⟨g, 64 * x.1 + i, none⟩ = some (.int .u8 ((blockOf p x.1).getD i 0)) := fun i hi => hP.cell (blockOf_at hpl.out hx hi)
            have hGW : W.rangeAt 0 0 (u32s KS) := fun j v hv => (hB.cell (p := ⟨0, 0 + j, none⟩) h0w).trans (hG j v hv)
            have hadd := add_any (blockOf p x.1) (hashOf p (pre.map (·.1))) g (64 * x.1) 64 w.heap.size 61 W hbl (hashOf_v8 _ _) hcs hA hGW
            rw [← hashOf_snoc] at hadd
            replace hadd := Lib.hid hadd
            clear hcs hGW
            gi_wp2
            refine ⟨trivial, ?_⟩
            refine (CallsIn.inRound l (callsIn_wide.2 hadd.out)).mono ?_
            rintro e W1 ⟨rfl, hA1, hBB⟩
            gi_wp2
            refine ⟨keepsOthers_of_but hA hBB, ⟨hBB.block _ (by omega) (by omega), hBB.block _ (by omega) (by omega)⟩, ⟨?_, hP.of_block (hBB.block g (by omega) hgn), Nat.le_trans hS hBB.size⟩, hB.trans (hBB.below (Nat.le_refl _) (by omega))⟩
            rw [List.map_append]; exact hA1
          case done =>
            rintro D ys W hD rfl ⟨⟨hA, hP, hS⟩, hB⟩ hK
            have hv8 := hashOf_v8 p ((List.finRange (M + 1)).map (·.1))
            rw [map_finRange] at hA hv8
            have hl8 : (u32s (hashOf p (List.range (M + 1)))).length = 8 := by simp [u32s, hv8.1]
            have hdig := digest_any (hashOf p (List.range (M + 1))) W hv8
            have hDW := (Array.getElem?_eq_some_iff.1 hK).1
            generalize hashOf p (List.range (M + 1)) = H at *
            replace hdig := Lib.hid hdig
            replace hl8 := Lib.hid hl8
            gi_wp2_with (refine wpListIn_load_arr rfl 61 _ rfl w.heap.size rfl hA Tryd.underlying61 rfl (m := 8) (by kernel_rfl) hl8.out ?_)
            refine ⟨trivial, (callsIn_wide.2 hdig.out).mono ?_⟩
            rintro e W2 ⟨rfl, hb2⟩
            have hK2 : W2.heap[D]? = some (.deferred (some [])) := (hb2.block D hDW).trans hK
            have hB2 := hB.trans (hb2.mono hB.size)
            gi_wp2
            refine ⟨by simp, .inl ⟨_, _, rfl, run_takeDeferred hK2, ?_⟩⟩
            exact ⟨_, results_tmp rfl _ _ _, by rw [hsum.out]; rfl, hB2.trans (belowK_b (w := w) (Nat.le_refl _) W2 D _ _ (by have := hB3.size; omega) hK2 rfl rfl)⟩
          case stop =>
            rintro D c pre W _ _ h _
            exact h.elim

/-- P2.1: digest.Sum. -/
theorem Sum_any (s : ByteArray) (w : World) (hs : s.size ≤ 2000) (hG : w.rangeAt 0 0 (u32s KS)) :
    Calls Tryd.prog 16 #[.string s] w fun e W' => e = .returned (.string (shaSum s)) ∧ Below w.heap.size w W' := callsIn_wide.1 (Sum_in s w hs hG)
end Go.Proofs.YtllofogjojlamaaDoor
