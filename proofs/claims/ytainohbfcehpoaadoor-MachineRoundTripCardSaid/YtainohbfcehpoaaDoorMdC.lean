/-
  MachineRoundTrip: the walk.
-/
import Derived.Test.YtainohbfcehpoaaDoorMdB
namespace Go.Proofs.YtainohbfcehpoaaDoor
open Go.RowKit Go.Shelf

theorem conv_two (V : World) (g c d : Nat) (h : V.cell? ⟨g, 0, none⟩ = some (.int .u8 (c : Int))) (h2 : V.cell? ⟨g, 1, none⟩ = some (.int .u8 (d : Int))) : (convert 46 9 (.slice (some ⟨g, 0, none⟩) 2 2)).run Tryd.prog V = .ok (.string (str [UInt8.ofNat c, UInt8.ofNat d])) V := by
  have := run_convert_bytes_arg (P := Tryd.prog) V 46 5 Tryd.underlying46 Tryd.underlying5 g 0 2 2 [(c : Int), (d : Int)] rfl (fun i hi => by
    rcases (show i = 0 ∨ i = 1 by have : i < 2 := hi; omega) with rfl | rfl
    · exact h
    · exact h2) 9 Tryd.underlying9
  rwa [show strOfNums [(c : Int), (d : Int)] = str [UInt8.ofNat c, UInt8.ofNat d] from strOfNums_nats [c, d]] at this
theorem text_len {code : List UInt8} {l : List Ins} (h : formed code = some l) : (textT l).length ≤ 20480 ∧ code.length ≤ 1024 := by
  obtain ⟨hne, hlen, hdec, hLaid, hForm⟩ := formed_parts h
  have hN := (formed_neat h).1
  have hl : l.length ≤ 1024 := by
    have h1 := (evSeq_dec _ code (Nat.le_refl _) 0).1 l hdec
    have h2 := evSeq_len _ code (Nat.le_refl _) 0
    rw [h1, List.length_map] at h2
    omega
  have := prefT_len hForm hN hl l.length (Nat.le_refl _)
  rw [prefT_all] at this
  exact ⟨by omega, hlen⟩
theorem str_neq {a b : List UInt8} (h : a ≠ b) : ((str a).toList == (str b).toList) = false := by
  rw [ByteArray.toList_eq, ByteArray.toList_eq, str_list, str_list]
  simpa using h
theorem str_eqq (a : List UInt8) : ((str a).toList == (str a).toList) = true := beq_self_eq_true _
/-- The made program is formed, good, short. -/
theorem made_facts (zs : List Int) : (∃ l, formed (madeB 0 0 (prs40 zs)) = some l ∧ Good l) ∧ (madeB 0 0 (prs40 zs)).length ≤ 761 := by
  have h := made_formed (prs40 zs) prs40_len prs40_lt
  have h2 := madeB_len (prs40 zs) 0 0
  have h3 := prs40_len (zs := zs)
  exact ⟨⟨_, h.1, h.2⟩, by omega⟩
set_option maxRecDepth 100000 in
set_option maxHeartbeats 8000000 in
theorem RoundTrip_walk (raw : List UInt8) (v : Value) (n : Nat) (zs : List Int) (at_ : Int) (c : Nat) (w : World) (hr : raw.length ≤ 9223372036854775807) (hs : SliceAt w w.heap.size v n (zs.map (Value.int .i64))) (hz : zs.length = n * 2) (hI : ∀ z ∈ zs, I64 z) (ha : I64 at_) (_ : c < 256) (hE : EnvR w) :
    Calls Tryd.prog 8 #[.string (str raw), v, .int .i64 at_, .int .u8 (c : Int)] w fun e w' => e = .returned (.bool true) ∧ Below w.heap.size w w' := by
  have hsn := Lib.hid (sane_any w hE.env)
  have hmd := fun W (hb : Below w.heap.size w W) => Lib.hid (Made_any v n zs W (hs.later hb) hz hI (hE.below hb))
  obtain ⟨⟨ml, hmf, hmg⟩, hml⟩ := made_facts zs
  generalize madeB 0 0 (prs40 zs) = made at *
  have hcl := changedB_len made at_ c
  have hch := fun W => Lib.hid (changed_any made at_ c W (by omega) ha)
  have hex := extract_take raw
  have hps := str_size raw
  have hmn : (min (raw.length : Int) 60).toNat = min raw.length 60 := by omega
  have hm1 : (0 : Int) ≤ min (raw.length : Int) 60 := by omega
  have hm2 : min (raw.length : Int) 60 ≤ (raw.length : Int) := by omega
  have hexm := hex (min raw.length 60)
  have hrl : (raw.take (min raw.length 60)).length ≤ 60 := by rw [List.length_take]; omega
  generalize raw.take (min raw.length 60) = r2 at *
  generalize changedB made at_ c = chg at *
  clear hex
  go_enter Tryd.func8, Tryd.ntmps8
  go_wp2_with fail
  refine hsn.out.mono ?_
  rintro e w1 ⟨rfl, hb1⟩
  go_wp2_with fail
  refine (hmd w1 hb1).out.mono ?_
  rintro e w2 ⟨rfl, hb2⟩
  have hB2 := hb1.trans (hb2.mono hb1.size)
  clear hsn hmd
  go_wp2_with fail
  refine wp_region_held_drew (S := fun w' => True) (by kernel_rfl) (by trivial) (fun hHeld => ?_)
  refine take_l (i := 0) (v := ?_) rfl (by kernel_rfl) (by kernel_rfl) (by kernel_rfl) (fun _ _ _ h => h) (Or.inl ⟨by kernel_rfl, ?_⟩) (by assumption) ?_
  rotate_left
  · intro w hSw; (try dsimp only at hSw); go_simp; (try with_reducible rfl)
  (try simp only [Act.put, List.setIfInBounds_toArray, List.set_cons_zero, List.set_cons_succ])
  refine take_l (i := 1) (v := ?_) rfl (by kernel_rfl) (by kernel_rfl) (by kernel_rfl) (fun _ _ _ h => h) (Or.inl ⟨by kernel_rfl, ?_⟩) (by assumption) ?_
  rotate_left
  · intro w hSw; (try dsimp only at hSw); go_simp; (try with_reducible rfl)
  (try simp only [Act.put, List.setIfInBounds_toArray, List.set_cons_zero, List.set_cons_succ])
  refine take_l (i := 2) (v := ?_) rfl (by kernel_rfl) (by kernel_rfl) (by kernel_rfl) (fun _ _ _ h => h) (Or.inl ⟨by kernel_rfl, ?_⟩) (by assumption) ?_
  rotate_left
  · intro w hSw; (try dsimp only at hSw); go_simp; (try with_reducible rfl)
  (try simp only [Act.put, List.setIfInBounds_toArray, List.set_cons_zero, List.set_cons_succ])
  refine take_l (i := 3) (v := ?_) rfl (by kernel_rfl) (by kernel_rfl) (by kernel_rfl) (fun _ _ _ h => h) (Or.inl ⟨by kernel_rfl, ?_⟩) (by assumption) ?_
  rotate_left
  · intro w hSw; (try dsimp only at hSw); go_simp; (try with_reducible rfl)
  (try simp only [Act.put, List.setIfInBounds_toArray, List.set_cons_zero, List.set_cons_succ])
  refine take_l (i := 4) (v := ?_) rfl (by kernel_rfl) (by kernel_rfl) (by kernel_rfl) (fun _ _ _ h => h) (Or.inl ⟨by kernel_rfl, ?_⟩) (by assumption) ?_
  rotate_left
  · intro w hSw; (try dsimp only at hSw); go_simp; (try with_reducible rfl)
  (try simp only [Act.put, List.setIfInBounds_toArray, List.set_cons_zero, List.set_cons_succ])
  refine take_l (i := 5) (v := ?_) rfl (by kernel_rfl) (by kernel_rfl) (by kernel_rfl) (fun _ _ _ h => h) (Or.inl ⟨by kernel_rfl, ?_⟩) (by assumption) ?_
  rotate_left
  · intro w hSw; (try dsimp only at hSw); go_simp; (try with_reducible rfl)
  (try simp only [Act.put, List.setIfInBounds_toArray, List.set_cons_zero, List.set_cons_succ])
  refine take_l (i := 6) (v := ?_) rfl (by kernel_rfl) (by kernel_rfl) (by kernel_rfl) (fun _ _ _ h => h) (Or.inl ⟨by kernel_rfl, ?_⟩) (by assumption) ?_
  rotate_left
  · intro w hSw; (try dsimp only at hSw); go_simp; (try with_reducible rfl)
  (try simp only [Act.put, List.setIfInBounds_toArray, List.set_cons_zero, List.set_cons_succ])
  refine take_l (i := 7) (v := ?_) rfl (by kernel_rfl) (by kernel_rfl) (by kernel_rfl) (fun _ _ _ h => h) (Or.inl ⟨by kernel_rfl, ?_⟩) (by assumption) ?_
  rotate_left
  · intro w hSw; (try dsimp only at hSw); go_simp; (try with_reducible rfl)
  (try simp only [Act.put, List.setIfInBounds_toArray, List.set_cons_zero, List.set_cons_succ])
  refine take_l (i := 8) (v := ?_) rfl (by kernel_rfl) (by kernel_rfl) (by kernel_rfl) (fun _ _ _ h => h) (Or.inl ⟨by kernel_rfl, ?_⟩) (by assumption) ?_
  rotate_left
  · intro w hSw; (try dsimp only at hSw); go_simp; (try with_reducible rfl)
  (try simp only [Act.put, List.setIfInBounds_toArray, List.set_cons_zero, List.set_cons_succ])
  refine take_l (i := 12) (v := ?_) rfl (by kernel_rfl) (by kernel_rfl) (by kernel_rfl) (fun _ _ _ h => h) (Or.inl ⟨by kernel_rfl, ?_⟩) (by assumption) ?_
  rotate_left
  · intro w hSw; (try dsimp only at hSw); go_simp; (try with_reducible rfl)
  (try simp only [Act.put, List.setIfInBounds_toArray, List.set_cons_zero, List.set_cons_succ])
  refine wpAnyH_ready (rs := [9]) (by kernel_rfl) (by simp) ?_
  refine ready_l rfl (fun K hK => ?_) AllReadyH.nil
  go_simp
  (go_at_call 13; (with_reducible refine ((hch _).out).mono ?_); rintro e vA ⟨rfl, hbvA⟩; have hBvA : Below w2.heap.size w2 vA := Below.trans (by repeat first | with_reducible exact Below.refl _ _ | with_reducible assumption | with_reducible refine below_drewN ?_ _ | with_reducible refine Below.drew ?_ | with_reducible refine Below.setCell ?_ (by first | exact Nat.le_refl _ | (simp; done) | (simp; omega) | omega) _ | with_reducible refine Below.alloc ?_ (by first | exact Nat.le_refl _ | (simp; done) | (simp; omega) | omega) _ | exact Below.refl _ _ | assumption) (hbvA.mono (by first | exact Nat.le_refl _ | assumption | (simp; done) | (simp; omega) | omega)); have hzvA := hbvA.size; )
  refine hK.out _ _ (by trivial) (fun hHeld => ?_)
  clear hK K
  (try simp only [Act.put, List.setIfInBounds_toArray, List.set_cons_zero, List.set_cons_succ])
  refine wpAnyH_ready (rs := [10]) (by kernel_rfl) (by simp) ?_
  refine ready_l rfl (fun K hK => ?_) AllReadyH.nil
  go_simp
  refine hK.out _ _ (by trivial) (fun hHeld => ?_)
  clear hK K
  (try simp only [Act.put, List.setIfInBounds_toArray, List.set_cons_zero, List.set_cons_succ])
  refine take_l (i := 11) (v := ?_) rfl (by kernel_rfl) (by kernel_rfl) (by kernel_rfl) (fun _ _ _ h => h) (Or.inl ⟨by kernel_rfl, ?_⟩) (by assumption) ?_
  rotate_left
  · intro w hSw; (try dsimp only at hSw); go_simp; (try with_reducible rfl)
  (try simp only [Act.put, List.setIfInBounds_toArray, List.set_cons_zero, List.set_cons_succ])
  refine wpAnyH_done (by kernel_rfl) ?_ _
  have hBA : Below w.heap.size w vA := hB2.trans (hBvA.mono hB2.size)
  have hg1 := hBA.size
  obtain ⟨g, hg⟩ : ∃ g, g = vA.heap.size := ⟨_, rfl⟩
  obtain ⟨W, hW⟩ : ∃ W, W = vA.alloc (Obj.cells #[Value.string (str r2), Value.string (str made), Value.string (str chg)] 9) := ⟨_, rfl⟩
  have hA : Arr W g 9 [.string (str r2), .string (str made), .string (str chg)] := by rw [hW, hg]; exact Arr.new rfl rfl
  have hBW : Below w.heap.size w W := by rw [hW]; exact hBA.alloc hBA.size _
  rw [← hW, ← hg]
  clear hW hg hBA hg1 hBvA hB2 hb2 hb1 hch
  have hgW := hA.lt
  go_wp2_with fail
  go_loopw [39] (fun i wr => ∃ k : Nat, k ≤ 3 ∧ i = .int .i64 (k : Int) ∧ Hid (Below W.heap.size W wr)) (fun i _ => 3 - (intOf i).toNat)
  case atStart => exact ⟨0, Nat.zero_le _, rfl, (show Hid _ from Below.refl _ _)⟩
  case round =>
    obtain ⟨k, hk, rfl, hall⟩ := hrel
    have hBr := hall.out
    clear hall
    by_cases hlt : k < 3
    · have hd : decide ((k : Int) < 3) = true := by simp; omega
      have hAr : Arr wr g 9 [.string (str r2), .string (str made), .string (str chg)] := (hBr.block g hgW).trans hA
      obtain ⟨cd, hcd, hcl2⟩ : ∃ cd, wr.cell? ⟨g, k, none⟩ = some (.string (str cd)) ∧ cd.length ≤ 1000 := by
        rcases (show k = 0 ∨ k = 1 ∨ k = 2 by omega) with rfl | rfl | rfl
        · exact ⟨r2, hAr.cell (j := 0) rfl, by omega⟩
        · exact ⟨made, hAr.cell (j := 1) rfl, by omega⟩
        · exact ⟨chg, hAr.cell (j := 2) rfl, by omega⟩
      have i2 : 0 ≤ (k : Int) := by omega
      have hBT := hBW.trans (hBr.mono hBW.size)
      have hP := Lib.hid (Print_any cd wr (by omega) (hE.below hBT).env)
      have hw1k : IntKind.i64.wrap ((k : Int) + 1) = ((k + 1 : Nat) : Int) := by rw [Int.natCast_succ]; exact IntWalk.i64_in _ (by omega)
      replace hA := Lib.hid hA
      clear hAr
      cases hf : formed cd with
      | none =>
        have hpr : print8 cd = ([], 80) := by unfold print8; rw [hf]
        rw [hpr] at hP
        dsimp only at hP
        have hee : (str []).toList.isEmpty = true := by rw [ByteArray.toList_eq]; rfl
        have hne : cd ≠ made := fun e => by rw [e, hmf] at hf; cases hf
        have heq := str_neq hne
        have hnf : Hid (∀ l, formed cd = some l → ¬ Good l) := fun l h => by rw [hf] at h; cases h
        clear hpr
        replace hf := Lib.hid hf
        replace hmf := Lib.hid hmf
        go_wp2_with fail
        refine hP.out.mono ?_
        rintro e w3 ⟨rfl, hb3⟩
        have hB3 := hBr.trans (hb3.mono hBr.size)
        have hBT3 := hBW.trans (hB3.mono hBW.size)
        have hV := Lib.hid (Verify_any cd w3 (by omega) (hE.below hBT3).env.ops)
        clear hP hb3
        go_wp2_with fail
        refine hV.out.mono ?_
        rintro e w4 ⟨hvp, hb4⟩
        obtain rfl := vfy_no hvp hnf.out
        have hB4 := hB3.trans (hb4.mono hB3.size)
        clear hV hvp hb4
        go_wp2_with fail
        exact ⟨⟨k + 1, by omega, by first | rfl | go_num, hB4⟩, by simp [intOf]; omega⟩
      | some l =>
        have hpr : print8 cd = (textT l, 0) := by unfold print8; rw [hf]
        obtain ⟨htl, hcl3⟩ := text_len hf
        have hps8 := parse_text hf
        have hz1 : formed (cd ++ [UInt8.ofNat 0, UInt8.ofNat c]) = none := formed_more hf (fun a => by simp [dec, longOp])
        have hz2 : formed (cd ++ [UInt8.ofNat 12]) = none := formed_more hf (fun a => by simp [dec])
        have hp1 : print8 (cd ++ [UInt8.ofNat 0, UInt8.ofNat c]) = ([], 80) := by unfold print8; rw [hz1]
        have hp2 : print8 (cd ++ [UInt8.ofNat 12]) = ([], 80) := by unfold print8; rw [hz2]
        obtain ⟨d1, hd1⟩ : ∃ d, d = [UInt8.ofNat 0, UInt8.ofNat c] := ⟨_, rfl⟩
        obtain ⟨d2, hd2⟩ : ∃ d, d = [UInt8.ofNat 12] := ⟨_, rfl⟩
        have hcv1 := fun V g => conv_two V g 0 c
        have hcv2 := fun V g => conv_one V g 12
        rw [← hd1] at hcv1 hp1
        rw [← hd2] at hcv2 hp2
        have hl1 : d1.length = 2 := by rw [hd1]; rfl
        have hl2 : d2.length = 1 := by rw [hd2]; rfl
        have q1 := add_str cd d1 (by omega)
        have q2 := add_str cd d2 (by omega)
        obtain ⟨c1, hc1⟩ : ∃ d, d = cd ++ d1 := ⟨_, rfl⟩
        obtain ⟨c2, hc2⟩ : ∃ d, d = cd ++ d2 := ⟨_, rfl⟩
        rw [← hc1] at q1 hp1
        rw [← hc2] at q2 hp2
        have hlc1 : c1.length ≤ 1002 := by rw [hc1, List.length_append]; omega
        have hlc2 : c2.length ≤ 1002 := by rw [hc2, List.length_append]; omega
        have heq := str_eqq cd
        rw [hpr] at hP
        dsimp only at hP
        replace hp1 := Lib.hid hp1
        replace hp2 := Lib.hid hp2
        replace hd1 := Lib.hid hd1
        replace hd2 := Lib.hid hd2
        replace hc1 := Lib.hid hc1
        replace hc2 := Lib.hid hc2
        replace hmf := Lib.hid hmf
        replace hps8 := Lib.hid hps8
        generalize textT l = tx at *
        clear hpr hz1 hz2 hf
        go_wp2_with fail
        refine hP.out.mono ?_
        rintro e w3 ⟨rfl, hb3⟩
        have hB3 := hBr.trans (hb3.mono hBr.size)
        have hBT3 := hBW.trans (hB3.mono hBW.size)
        have hV := Lib.hid (Verify_any cd w3 (by omega) (hE.below hBT3).env.ops)
        clear hP hb3
        go_wp2_with fail
        refine hV.out.mono ?_
        rintro e w4 ⟨hvp, hb4⟩
        obtain ⟨x1, x2, rfl⟩ : ∃ x1 x2 : Int, e = .returned (.tuple #[.int .i64 x1, .int .i64 x2]) := by
          rcases hvp with ⟨_, m, _, _, _, h⟩ | ⟨_, h⟩
          · exact ⟨_, _, h⟩
          · exact ⟨_, _, h⟩
        have hB4 := hB3.trans (hb4.mono hB3.size)
        have hBT4 := hBW.trans (hB4.mono hBW.size)
        have hQ := Parse_any tx w4 (by omega) (hE.below hBT4).env
        rw [hps8.out] at hQ
        unfold parV at hQ
        dsimp only at hQ
        replace hQ := Lib.hid hQ
        clear hV hvp hb4
        go_wp2_with fail
        refine hQ.out.mono ?_
        rintro e w5 ⟨rfl, hb5⟩
        have hB5 := hB4.trans (hb5.mono hB4.size)
        clear hQ hb5
        go_wp2_with fail
        refine name_calls ?_
        intro w6 hw6
        have hB6 : Below W.heap.size W w6 := by rw [hw6]; exact hB5.alloc hB5.size _
        have hBT6 := hBW.trans (hB6.mono hBW.size)
        have hQ := Print_any c1 w6 (by omega) (hE.below hBT6).env
        rw [hp1.out] at hQ
        dsimp only at hQ
        refine hQ.mono ?_
        clear hw6 hQ
        rintro e w7 ⟨rfl, hb7⟩
        have hB7 := hB6.trans (hb7.mono hB6.size)
        clear hb7
        go_wp2_with fail
        refine name_calls ?_
        intro w8 hw8
        have hB8 : Below W.heap.size W w8 := by rw [hw8]; exact hB7.alloc hB7.size _
        have hBT8 := hBW.trans (hB8.mono hBW.size)
        have hQ := Print_any c2 w8 (by omega) (hE.below hBT8).env
        rw [hp2.out] at hQ
        dsimp only at hQ
        refine hQ.mono ?_
        clear hw8 hQ
        rintro e w9 ⟨rfl, hb9⟩
        have hB9 := hB8.trans (hb9.mono hB8.size)
        clear hb9
        go_wp2_with fail
        exact ⟨⟨k + 1, by omega, by first | rfl | go_num, hB9⟩, by simp [intOf]; omega⟩
    · have hd : decide ((k : Int) < 3) = false := by simp; omega
      have hBT := hBW.trans (hBr.mono hBW.size)
      go_wp2_with fail
      go_ret
      exact ⟨rfl, hBT⟩
end Go.Proofs.YtainohbfcehpoaaDoor
