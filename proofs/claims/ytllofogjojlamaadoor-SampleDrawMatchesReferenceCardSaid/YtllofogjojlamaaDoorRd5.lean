/-
  The contract of evergreenref02.Sum: it is digest.Sum's.
-/
import Derived.Test.YtllofogjojlamaaDoorRd3
namespace Go.Proofs.YtllofogjojlamaaDoor
open Go.RowKit

/-- The bytes so far. -/
def outTo (hs : List Int) (k : Nat) : List Int := (List.range (4 * k)).map (byteAt hs)
theorem byteAt4 (hs : List Int) (k j : Nat) (hj : j < 4) : byteAt hs (4 * k + j) = hs.getD k 0 / 2 ^ (24 - 8 * j) % 256 := by
  unfold byteAt
  rw [show (4 * k + j) / 4 = k from by omega, show (4 * k + j) % 4 = j from by omega]
theorem outTo_succ (hs : List Int) (k : Nat) : outTo hs (k + 1) = outTo hs k ++ [hs.getD k 0 / 16777216 % 256, hs.getD k 0 / 65536 % 256, hs.getD k 0 / 256 % 256, hs.getD k 0 % 256] := by
  have e : 4 * (k + 1) = 4 * k + 1 + 1 + 1 + 1 := by omega
  unfold outTo
  rw [e, List.range_succ, List.range_succ, List.range_succ, List.range_succ]
  have b0 := byteAt4 hs k 0 (by omega)
  have b1 := byteAt4 hs k 1 (by omega)
  have b2 := byteAt4 hs k 2 (by omega)
  have b3 := byteAt4 hs k 3 (by omega)
  simp at b0 b1 b2 b3
  simp [b0, b1, b2, b3]
theorem u8_wrap (n : Int) : IntKind.u8.wrap n = n % 256 := by simp [IntKind.wrap, IntKind.bits, IntKind.signed]
theorem cells_new (w : World) (L : List Value) (T : TypeId) (j : Nat) (u : Value) (hu : L[j]? = some u) : (w.alloc (.cells L.toArray T)).cell? ((⟨w.heap.size, 0, none⟩ : Addr).add j) = some u := by
  rw [Addr.add_mid, Nat.zero_add]; exact (Arr.new rfl rfl).cell hu
theorem u8s_app (l r : List Int) : u8s l ++ u8s r = u8s (l ++ r) := by simp [u8s]

set_option maxRecDepth 100000 in
set_option maxHeartbeats 2000000 in
theorem refSum_any (s : ByteArray) (w : World) (hs : s.size ≤ 2000) :
    Calls Tryd.prog 21 #[.string s] w fun e W' => e = .returned (.string (shaSum s)) ∧ Below w.heap.size w W' := by
  have hB : Below w.heap.size w w := Below.refl _ _
  obtain ⟨i0, hi, hz0, hz1, hz2⟩ := info_parts Tryd.info_u8
  have hN : ∀ (W : World) (cs : Array Value), cs = (u32s IV).toArray → Arr (W.alloc (.cells cs 59)) W.heap.size 59 (u32s IV) := fun W cs h => Arr.new h rfl
  replace hN := Lib.hid hN
  go_enter Tryd.func21, Tryd.ntmps21
  go_wp2_with fail
  refine name_calls ?_
  intro w1 hw1
  replace hB : Below w.heap.size w w1 := by rw [hw1]; exact (by repeat first | with_reducible exact Below.refl _ _ | with_reducible assumption | with_reducible refine below_drewN ?_ _ | with_reducible refine Below.drew ?_ | with_reducible refine Below.setCell ?_ (by first | exact Nat.le_refl _ | (simp; done) | (simp; omega) | omega) _ | with_reducible refine Below.alloc ?_ (by first | exact Nat.le_refl _ | (simp; done) | (simp; omega) | omega) _ | exact Below.refl _ _ | assumption)
  have hA : Arr w1 w.heap.size 59 (u32s IV) := by rw [hw1]; exact hN.out _ _ rfl
  clear hw1 hN
  refine (extended_any s _ hs).mono ?_
  rintro e w2 ⟨v, rfl, hE, hb2⟩
  have hB2 := hB.trans (hb2.mono hB.size)
  have hA2 := Buf.of_arr (hA.below hb2) (by rw [u32s_len]; show 8 ≤ maxLen; decide)
  obtain ⟨M, hM⟩ : ∃ M, M = (s.size + 8) / 64 := ⟨_, rfl⟩
  have hM2 : M ≤ 10000 := by omega
  have hpl := padded_len s
  rw [← hM] at hE hpl
  have hsum : shaSum s = ⟨(((List.range 32).map (byteAt (hashOf (padded s) (List.range (M + 1))))).map fun x => UInt8.ofNat x.toNat).toArray⟩ := by rw [hM]; rfl
  obtain ⟨gp, hgp, hP⟩ := buf_of_own (n := 64 * M + 63) hE
  obtain ⟨pc, hpv, hpc1, hpc2⟩ := hP.val
  rw [u8s_len, hpl] at hpv hpc1
  subst hpv
  replace hsum := Lib.hid hsum
  replace hM := Lib.hid hM
  clear hA hE hb2 hB
  generalize padded s = p at *
  replace hpl := Lib.hid hpl
  go_wp2_with fail
  go_loopw [3, 5] (fun h i wr => ∃ k g : Nat, k ≤ M + 1 ∧ i = .int .i64 ((64 * k : Nat) : Int) ∧ Below w.heap.size w wr ∧ Buf wr gp 5 (.slice (some ⟨gp, 0, none⟩) (64 * (M + 1)) pc) (u8s p) ∧ w.heap.size ≤ g ∧ Buf wr g 59 h (u32s (hashOf p (List.range k)))) (fun _ i _ => 64 * (M + 1) - (intOf i).toNat)
  case atStart => exact ⟨0, w.heap.size, by omega, rfl, hB2, hP, Nat.le_refl _, hA2⟩
  case round =>
    clear hB2 hP hA2
    obtain ⟨k, g, hk, rfl, hBr, hP, hg, hH⟩ := hrel
    have hv8 := hashOf_v8 p (List.range k)
    obtain ⟨hc, hhv, hhc1, hhc2⟩ := hH.val
    rw [u32s_len, hv8.1] at hhv
    subst hhv
    by_cases hlt : k < M + 1
    · have hd : decide (64 * k < 64 * (M + 1)) = true := by simp; omega
      have hbl := blockOf_len hpl.out hlt
      have hcs : ∀ i, i < 64 → wr.cell? ⟨gp, 64 * k + i, none⟩ = some (.int .u8 ((blockOf p k).getD i 0)) := fun i hi => hP.cell (blockOf_at hpl.out hlt hi)
      have hblk := fun (hc cap : Nat) => refBlock_any (hashOf p (List.range k)) (blockOf p k) g hc gp (64 * k) cap wr hv8 hbl (fun i hi => hH.cell (hv8.at i hi)) hcs
      rw [← hashOf_snoc, ← List.range_succ] at hblk
      replace hblk := Lib.hid hblk
      clear hcs hbl hv8
      go_wp2_with fail
      refine (hblk.out _ _).mono ?_
      rintro e w3 ⟨v, rfl, hO3, hb3⟩
      have hB3 := hBr.trans (hb3.mono hBr.size)
      obtain ⟨g3, hg3, hH3⟩ := buf_of_own (n := 7) hO3
      have hz := hBr.size
      have hP3 := hP.below hb3
      clear hblk hO3 hb3 hBr hH hP
      go_wp2
      exact ⟨⟨k + 1, g3, by omega, by go_num, hB3, hP3, Nat.le_trans hz hg3, hH3⟩, by simp [intOf]; omega⟩
    · have hd : decide (64 * k < 64 * (M + 1)) = false := by simp; omega
      obtain rfl : k = M + 1 := by omega
      clear hd hlt hk hP hhc1 hhc2
      generalize hashOf p (List.range (M + 1)) = H at *
      obtain ⟨W0, rfl⟩ : ∃ W0, W0 = wr := ⟨_, rfl⟩
      obtain ⟨C, hC⟩ : ∃ C, C = W0.heap.size := ⟨_, rfl⟩
      have hB0 : Below C W0 W0 := Below.refl _ _
      have hO0 : W0.ownsRow C 5 1 (.slice none 0 0) (4 * 0) (u8s (outTo H 0)) := World.ownsRow_nil _ _ _ _
      have hCz : C ≤ W0.heap.size := by omega
      have hgC : g < C := by have := hH.lt; omega
      have hwC : w.heap.size ≤ C := by have := hBr.size; omega
      have hcell := fun j (hj : j < 8) => hH.cell (hv8.at j hj)
      replace hcell := Lib.hid hcell
      clear hC hH
      rw [show ((64 * (M + 1) : Nat) : Int) = 64 * ((M : Int) + 1) from rfl]
      go_wp2_with fail
      go_loopw [6, 7] (fun o i wr => ∃ k : Nat, k ≤ 8 ∧ i = .int .i64 k ∧ Below C W0 wr ∧ wr.ownsRow C 5 1 o (4 * k) (u8s (outTo H k))) (fun _ i _ => 8 - (intOf i).toNat)
      case atStart => exact ⟨0, by omega, rfl, hB0, hO0⟩
      case round =>
        clear hB0 hO0
        obtain ⟨k, hk, rfl, hBx, hOx⟩ := hrel
        have hz := Nat.le_trans hCz hBx.size
        by_cases hlt : k < 8
        · have hd : decide ((k : Int) < 8) = true := by simp; omega
          have d0 := hcell.out k hlt
          have c0 := (hBx.cell (p := ⟨g, k, none⟩) hgC).trans d0
          have hn := outTo_succ H k
          generalize H.getD k 0 = x at *
          replace hn := Lib.hid hn
          have s1 : (0 : Int) ≤ (k : Int) := by omega
          have s2 : (k : Int) < 8 := by omega
          go_wp2
          clear hd
          refine wp_region_held_drew (S := fun w' => w'.cell? ⟨g, k, none⟩ = some (.int .u32 x)) (by kernel_rfl) (by first | (dsimp only; go_keep) | go_keep) (fun hHeld => ?_)
          refine take_l (i := 0) (v := ?_) rfl (by kernel_rfl) (by kernel_rfl) (by kernel_rfl) (fun _ _ _ h => h) (Or.inl ⟨by kernel_rfl, ?_⟩) (by assumption) ?_
          rotate_left
          · intro w hSw; (try dsimp only at hSw); go_simp; (try with_reducible rfl)
          (try dsimp only [Act.put, List.setIfInBounds_toArray, List.set_cons_zero, List.set_cons_succ])
          refine take_l (i := 1) (v := ?_) rfl (by kernel_rfl) (by kernel_rfl) (by kernel_rfl) (fun _ _ _ h => h) (Or.inl ⟨by kernel_rfl, ?_⟩) (by assumption) ?_
          rotate_left
          · intro w hSw; (try dsimp only at hSw); go_simp; (try with_reducible rfl)
          (try dsimp only [Act.put, List.setIfInBounds_toArray, List.set_cons_zero, List.set_cons_succ])
          refine take_l (i := 2) (v := ?_) rfl (by kernel_rfl) (by kernel_rfl) (by kernel_rfl) (fun _ _ _ h => h) (Or.inl ⟨by kernel_rfl, ?_⟩) (by assumption) ?_
          rotate_left
          · intro w hSw; (try dsimp only at hSw); go_simp; (try with_reducible rfl)
          (try dsimp only [Act.put, List.setIfInBounds_toArray, List.set_cons_zero, List.set_cons_succ])
          refine take_l (i := 3) (v := ?_) rfl (by kernel_rfl) (by kernel_rfl) (by kernel_rfl) (fun _ _ _ h => h) (Or.inl ⟨by kernel_rfl, ?_⟩) (by assumption) ?_
          rotate_left
          · intro w hSw; (try dsimp only at hSw); go_simp; (try with_reducible rfl)
          (try dsimp only [Act.put, List.setIfInBounds_toArray, List.set_cons_zero, List.set_cons_succ])
          refine take_l (i := 4) (v := ?_) rfl (by kernel_rfl) (by kernel_rfl) (by kernel_rfl) (fun _ _ _ h => h) (Or.inl ⟨by kernel_rfl, ?_⟩) (by assumption) ?_
          rotate_left
          · intro w hSw; (try dsimp only at hSw); go_simp; (try with_reducible rfl)
          (try dsimp only [Act.put, List.setIfInBounds_toArray, List.set_cons_zero, List.set_cons_succ])
          refine take_l (i := 5) (v := ?_) rfl (by kernel_rfl) (by kernel_rfl) (by kernel_rfl) (fun _ _ _ h => h) (Or.inl ⟨by kernel_rfl, ?_⟩) (by assumption) ?_
          rotate_left
          · intro w hSw; (try dsimp only at hSw); go_simp; (try with_reducible rfl)
          (try dsimp only [Act.put, List.setIfInBounds_toArray, List.set_cons_zero, List.set_cons_succ])
          refine take_l (i := 6) (v := ?_) rfl (by kernel_rfl) (by kernel_rfl) (by kernel_rfl) (fun _ _ _ h => h) (Or.inl ⟨by kernel_rfl, ?_⟩) (by assumption) ?_
          rotate_left
          · intro w hSw; (try dsimp only at hSw); go_simp; (try with_reducible rfl)
          (try dsimp only [Act.put, List.setIfInBounds_toArray, List.set_cons_zero, List.set_cons_succ])
          refine take_l (i := 7) (v := ?_) rfl (by kernel_rfl) (by kernel_rfl) (by kernel_rfl) (fun _ _ _ h => h) (Or.inl ⟨by kernel_rfl, ?_⟩) (by assumption) ?_
          rotate_left
          · intro w hSw; (try dsimp only at hSw); go_simp; (try with_reducible rfl)
          (try dsimp only [Act.put, List.setIfInBounds_toArray, List.set_cons_zero, List.set_cons_succ])
          refine take_l (i := 8) (v := ?_) rfl (by kernel_rfl) (by kernel_rfl) (by kernel_rfl) (fun _ _ _ h => h) (Or.inl ⟨by kernel_rfl, ?_⟩) (by assumption) ?_
          rotate_left
          · intro w hSw; (try dsimp only at hSw); go_simp; (try with_reducible rfl)
          (try dsimp only [Act.put, List.setIfInBounds_toArray, List.set_cons_zero, List.set_cons_succ])
          refine take_l (i := 9) (v := ?_) rfl (by kernel_rfl) (by kernel_rfl) (by kernel_rfl) (fun _ _ _ h => h) (Or.inl ⟨by kernel_rfl, ?_⟩) (by assumption) ?_
          rotate_left
          · intro w hSw; (try dsimp only at hSw); go_simp; (try with_reducible rfl)
          (try dsimp only [Act.put, List.setIfInBounds_toArray, List.set_cons_zero, List.set_cons_succ])
          refine take_l (i := 10) (v := ?_) rfl (by kernel_rfl) (by kernel_rfl) (by kernel_rfl) (fun _ _ _ h => h) (Or.inl ⟨by kernel_rfl, ?_⟩) (by assumption) ?_
          rotate_left
          · intro w hSw; (try dsimp only at hSw); go_simp; (try with_reducible rfl)
          (try dsimp only [Act.put, List.setIfInBounds_toArray, List.set_cons_zero, List.set_cons_succ])
          refine take_l (i := 11) (v := ?_) rfl (by kernel_rfl) (by kernel_rfl) (by kernel_rfl) (fun _ _ _ h => h) (Or.inl ⟨by kernel_rfl, ?_⟩) (by assumption) ?_
          rotate_left
          · intro w hSw; (try dsimp only at hSw); go_simp; (try with_reducible rfl)
          (try dsimp only [Act.put, List.setIfInBounds_toArray, List.set_cons_zero, List.set_cons_succ])
          refine take_l (i := 12) (v := ?_) rfl (by kernel_rfl) (by kernel_rfl) (by kernel_rfl) (fun _ _ _ h => h) (Or.inl ⟨by kernel_rfl, ?_⟩) (by assumption) ?_
          rotate_left
          · intro w hSw; (try dsimp only at hSw); go_simp; (try with_reducible rfl)
          (try dsimp only [Act.put, List.setIfInBounds_toArray, List.set_cons_zero, List.set_cons_succ])
          refine take_l (i := 13) (v := ?_) rfl (by kernel_rfl) (by kernel_rfl) (by kernel_rfl) (fun _ _ _ h => h) (Or.inl ⟨by kernel_rfl, ?_⟩) (by assumption) ?_
          rotate_left
          · intro w hSw; (try dsimp only at hSw); go_simp; (try with_reducible rfl)
          (try dsimp only [Act.put, List.setIfInBounds_toArray, List.set_cons_zero, List.set_cons_succ])
          refine take_l (i := 14) (v := ?_) rfl (by kernel_rfl) (by kernel_rfl) (by kernel_rfl) (fun _ _ _ h => h) (Or.inl ⟨by kernel_rfl, ?_⟩) (by assumption) ?_
          rotate_left
          · intro w hSw; (try dsimp only at hSw); go_simp; (try with_reducible rfl)
          (try dsimp only [Act.put, List.setIfInBounds_toArray, List.set_cons_zero, List.set_cons_succ])
          refine take_l (i := 15) (v := ?_) rfl (by kernel_rfl) (by kernel_rfl) (by kernel_rfl) (fun _ _ _ h => h) (Or.inl ⟨by kernel_rfl, ?_⟩) (by assumption) ?_
          rotate_left
          · intro w hSw; (try dsimp only at hSw); go_simp; (try with_reducible rfl)
          (try dsimp only [Act.put, List.setIfInBounds_toArray, List.set_cons_zero, List.set_cons_succ])
          refine take_l (i := 16) (v := ?_) rfl (by kernel_rfl) (by kernel_rfl) (by kernel_rfl) (fun _ _ _ h => h) (Or.inl ⟨by kernel_rfl, ?_⟩) (by assumption) ?_
          rotate_left
          · intro w hSw; (try dsimp only at hSw); go_simp; (try with_reducible rfl)
          (try dsimp only [Act.put, List.setIfInBounds_toArray, List.set_cons_zero, List.set_cons_succ])
          refine take_l (i := 17) (v := ?_) rfl (by kernel_rfl) (by kernel_rfl) (by kernel_rfl) (fun _ _ _ h => h) (Or.inl ⟨by kernel_rfl, ?_⟩) (by assumption) ?_
          rotate_left
          · intro w hSw; (try dsimp only at hSw); go_simp; (try with_reducible rfl)
          (try dsimp only [Act.put, List.setIfInBounds_toArray, List.set_cons_zero, List.set_cons_succ])
          refine take_l (i := 18) (v := ?_) rfl (by kernel_rfl) (by kernel_rfl) (by kernel_rfl) (fun _ _ _ h => h) (Or.inl ⟨by kernel_rfl, ?_⟩) (by assumption) ?_
          rotate_left
          · intro w hSw; (try dsimp only at hSw); go_simp; (try with_reducible rfl)
          (try dsimp only [Act.put, List.setIfInBounds_toArray, List.set_cons_zero, List.set_cons_succ])
          refine take_l (i := 19) (v := ?_) rfl (by kernel_rfl) (by kernel_rfl) (by kernel_rfl) (fun _ _ _ h => h) (Or.inl ⟨by kernel_rfl, ?_⟩) (by assumption) ?_
          rotate_left
          · intro w hSw; (try dsimp only at hSw); go_simp; (try with_reducible rfl)
          (try dsimp only [Act.put, List.setIfInBounds_toArray, List.set_cons_zero, List.set_cons_succ])
          refine take_l (i := 20) (v := ?_) rfl (by kernel_rfl) (by kernel_rfl) (by kernel_rfl) (fun _ _ _ h => h) (Or.inl ⟨by kernel_rfl, ?_⟩) (by assumption) ?_
          rotate_left
          · intro w hSw; (try dsimp only at hSw); go_simp; (try with_reducible rfl)
          (try dsimp only [Act.put, List.setIfInBounds_toArray, List.set_cons_zero, List.set_cons_succ])
          refine take_l (i := 21) (v := ?_) rfl (by kernel_rfl) (by kernel_rfl) (by kernel_rfl) (fun _ _ _ h => h) (Or.inl ⟨by kernel_rfl, ?_⟩) (by assumption) ?_
          rotate_left
          · intro w hSw; (try dsimp only at hSw); go_simp; (try with_reducible rfl)
          (try dsimp only [Act.put, List.setIfInBounds_toArray, List.set_cons_zero, List.set_cons_succ])
          refine take_l (i := 22) (v := ?_) rfl (by kernel_rfl) (by kernel_rfl) (by kernel_rfl) (fun _ _ _ h => h) (Or.inl ⟨by kernel_rfl, ?_⟩) (by assumption) ?_
          rotate_left
          · intro w hSw; (try dsimp only at hSw); go_simp; (try with_reducible rfl)
          (try dsimp only [Act.put, List.setIfInBounds_toArray, List.set_cons_zero, List.set_cons_succ])
          refine take_l (i := 23) (v := ?_) rfl (by kernel_rfl) (by kernel_rfl) (by kernel_rfl) (fun _ _ _ h => h) (Or.inl ⟨by kernel_rfl, ?_⟩) (by assumption) ?_
          rotate_left
          · intro w hSw; (try dsimp only at hSw); go_simp; (try with_reducible rfl)
          (try dsimp only [Act.put, List.setIfInBounds_toArray, List.set_cons_zero, List.set_cons_succ])
          refine wpAnyH_ready (rs := [24]) (by kernel_rfl) (by simp) ?_
          refine ready_l rfl (fun K hK => ?_) AllReadyH.nil
          go_simp
          refine hK.out _ _ (by first | (dsimp only; go_keep) | go_keep) (fun hHeld => ?_)
          clear hK K
          (try dsimp only [Act.put, List.setIfInBounds_toArray, List.set_cons_zero, List.set_cons_succ])
          refine wpAnyH_ready (rs := [25]) (by kernel_rfl) (by simp) ?_
          refine ready_l rfl (fun K hK => ?_) AllReadyH.nil
          refine step_append_lies _ rfl _ _ 45 rfl C 5 i0 (.int .u8 0) 1 1 Tryd.underlying45 hi hz0 hz1 hz2 rfl (by decide) _ _ _ rfl (own_below hOx ((Below.refl _ _).alloc (Nat.le_refl _) _).drew) ⟨wr.heap.size, 0, none⟩ 4 4 [.int .u8 (IntKind.u8.wrap (x / 16777216)), .int .u8 (IntKind.u8.wrap (x / 65536)), .int .u8 (IntKind.u8.wrap (x / 256)), .int .u8 (IntKind.u8.wrap x)] rfl rfl (cells_new wr [.int .u8 (IntKind.u8.wrap (x / 16777216)), .int .u8 (IntKind.u8.wrap (x / 65536)), .int .u8 (IntKind.u8.wrap (x / 256)), .int .u8 (IntKind.u8.wrap x)] 5) (by simp [Value.oneCell']) (by decide) (by unfold maxLen; omega) (by omega) (by first | exact Nat.le_refl _ | (simp; done) | (simp; omega) | omega) _ rfl ?_
          intro g1 cap1 w1 hO1 hg1 _ _
          have hBk : Below C W0 w1 := ((hBx.alloc hz _).drew).grown hg1 (by first | exact Nat.le_refl _ | (simp; done) | (simp; omega) | omega) (fun r e => (hOx.lt r e).1)
          (try dsimp only [Act.put, List.setIfInBounds_toArray, List.set_cons_zero, List.set_cons_succ])
          refine hK.out _ _ (by exact (hBk.cell (p := ⟨g, _, none⟩) hgC).trans d0) (fun hHeld => ?_)
          clear hK K
          (try dsimp only [Act.put, List.setIfInBounds_toArray, List.set_cons_zero, List.set_cons_succ])
          refine take_l (i := 26) (v := ?_) rfl (by kernel_rfl) (by kernel_rfl) (by kernel_rfl) (fun _ _ _ h => h) (Or.inl ⟨by kernel_rfl, ?_⟩) (by assumption) ?_
          rotate_left
          · intro w hSw; (try dsimp only at hSw); go_simp; (try with_reducible rfl)
          (try dsimp only [Act.put, List.setIfInBounds_toArray, List.set_cons_zero, List.set_cons_succ])
          refine wpAnyH_done (by kernel_rfl) ?_ _
          have e1 : u8s (outTo H k) ++ [.int .u8 (IntKind.u8.wrap (x / 16777216)), .int .u8 (IntKind.u8.wrap (x / 65536)), .int .u8 (IntKind.u8.wrap (x / 256)), .int .u8 (IntKind.u8.wrap x)] = u8s (outTo H (k + 1)) := by rw [hn.out, ← u8s_app, u8_wrap, u8_wrap, u8_wrap, u8_wrap]; rfl
          rw [e1] at hO1
          go_wp2
          go_roundw
          case rel => exact ⟨k + 1, by omega, by go_num, hBk, own_len hO1 (by omega)⟩
          case measure => simp [intOf]; omega
        · have hd : decide ((k : Int) < 8) = false := by simp; omega
          obtain rfl : k = 8 := by omega
          rw [show ((8 : Nat) : Int) = 8 from rfl]
          obtain ⟨gf, cf, hvf, hgf, hcf1, hcf2, hgfl, hcf⟩ := own_cells (n := 31) hOx
          subst hvf
          have hcv := run_convert_bytes_arg (P := Tryd.prog) wr 45 5 Tryd.underlying45 Tryd.underlying5 gf 0 32 cf ((List.range 32).map (byteAt H)) (by simp) (fun j hj => by
            rw [Nat.zero_add]
            exact (hcf j _ (by simp [u8s, outTo, List.getD_eq_getElem?_getD, hj])).1) 9 Tryd.underlying9
          have hfin : Hid (strOfNums ((List.range 32).map (byteAt H)) = ⟨(((List.range 32).map (byteAt H)).map fun x => UInt8.ofNat x.toNat).toArray⟩) := by show _ = _; rfl
          generalize strOfNums ((List.range 32).map (byteAt H)) = S at *
          clear hcf hOx
          go_wp2
          go_ret
          exact ⟨by rw [hsum.out, hfin.out]; rfl, hBr.trans (hBx.mono hwC)⟩
end Go.Proofs.YtllofogjojlamaaDoor
