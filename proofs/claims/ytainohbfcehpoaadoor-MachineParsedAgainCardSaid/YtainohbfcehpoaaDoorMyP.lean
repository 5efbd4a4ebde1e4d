/-
  The contract of the law's helper changed: a text with one byte changed.
  MachineRoundTrip: the walk.
  The reference's digits and Print.
  The reference's Print.
-/
import Derived.Test.YtainohbfcehpoaaDoorMdA
import Derived.Test.YtainohbfcehpoaaDoorMbK
import Derived.Test.YtainohbfcehpoaaDoorMyH
namespace Go.Proofs.YtainohbfcehpoaaDoor
open Go.RowKit Go.Shelf

theorem conv_one (V : World) (g c : Nat) (h : V.cell? ⟨g, 0, none⟩ = some (.int .u8 (c : Int))) : (convert 46 9 (.slice (some ⟨g, 0, none⟩) 1 1)).run Tryd.prog V = .ok (.string (str [UInt8.ofNat c])) V := by
  have := run_convert_bytes_arg (P := Tryd.prog) V 46 5 Tryd.underlying46 Tryd.underlying5 g 0 1 1 [(c : Int)] rfl (fun i hi => by
    obtain rfl : i = 0 := by simp at hi; omega
    exact h) 9 Tryd.underlying9
  rwa [show strOfNums [(c : Int)] = str [UInt8.ofNat c] from strOfNums_nats [c]] at this
def changedB (l : List UInt8) (at_ : Int) (c : Nat) : List UInt8 := if l = [] then [] else l.take (pickv at_ l.length) ++ [UInt8.ofNat c] ++ l.drop (pickv at_ l.length + 1)
theorem changedB_len (l : List UInt8) (at_ : Int) (c : Nat) : (changedB l at_ c).length = l.length := by
  unfold changedB
  split
  · subst_vars; rfl
  · rename_i h
    have h0 : 1 ≤ l.length := by cases l with | nil => exact absurd rfl h | cons => simp
    have := pickv_lt at_ l.length h0
    simp only [List.length_append, List.length_take, List.length_drop, List.length_singleton]
    omega
set_option maxRecDepth 100000 in
set_option maxHeartbeats 4000000 in
theorem changed_any (l : List UInt8) (at_ : Int) (c : Nat) (w : World) (hl : l.length ≤ 1000000) (ha : I64 at_) :
    Calls Tryd.prog 13 #[.string (str l), .int .i64 at_, .int .u8 (c : Int)] w fun e w' => e = .returned (.string (str (changedB l at_ c))) ∧ Below w.heap.size w w' := by
  by_cases h0 : l = []
  · subst h0
    have hv : Hid (changedB [] at_ c = []) := rfl
    have he : (str []).toList.isEmpty = true := by rw [ByteArray.toList_eq]; rfl
    go_enter Tryd.func13, Tryd.ntmps13
    go_wp2_with fail
    go_ret
    exact ⟨by rw [hv.out]; rfl, Below.refl _ _⟩
  · have hn0 : 1 ≤ l.length := by cases l with | nil => exact absurd rfl h0 | cons => simp
    have hps := str_size l
    have hpk := Lib.hid (pick_any at_ l.length w ha hn0 (by omega))
    have hkl := pickv_lt at_ l.length hn0
    have hv : Hid (changedB l at_ c = l.take (pickv at_ l.length) ++ [UInt8.ofNat c] ++ l.drop (pickv at_ l.length + 1)) := by show _ = _; unfold changedB; rw [if_neg h0]
    generalize pickv at_ l.length = k at *
    have hx1 : (str l).extract 0 k = str (l.take k) := extract_take l k
    have hx2 : (str l).extract (k + 1) l.length = str (l.drop (k + 1)) := by
      have := extract_mid l (k + 1) l.length
      rw [this]
      congr 1
      rw [List.take_of_length_le (by simp)]
    have hcv := fun V g => conv_one V g c
    obtain ⟨t1, g1⟩ : ∃ t, t = l.take k := ⟨_, rfl⟩
    obtain ⟨t2, g2⟩ : ∃ t, t = [UInt8.ofNat c] := ⟨_, rfl⟩
    obtain ⟨t3, g3⟩ : ∃ t, t = l.drop (k + 1) := ⟨_, rfl⟩
    obtain ⟨t4, g4⟩ : ∃ t, t = t1 ++ t2 := ⟨_, rfl⟩
    have hl4 : t4.length ≤ k + 1 := by rw [g4, g1, g2]; simp; omega
    have hl1 : t1.length ≤ k := by rw [g1]; simp; omega
    have hl2 : t2.length = 1 := by rw [g2]; rfl
    have hl3 : t3.length ≤ l.length := by rw [g3]; simp
    rw [← g1, ← g2, ← g3, ← g4] at hv
    rw [← g1] at hx1
    rw [← g2] at hcv
    rw [← g3] at hx2
    have q1 := add_str t1 t2 (by omega)
    rw [← g4] at q1
    have q2 := add_str t4 t3 (by omega)
    have hw1 : IntKind.i64.wrap ((k : Int) + 1) = ((k + 1 : Nat) : Int) := by rw [Int.natCast_succ]; exact IntWalk.i64_in _ (by omega)
    have i1 : (0 : Int) ≤ (k : Int) := by omega
    have i2 : (k : Int) ≤ (l.length : Int) := by omega
    have i3 : (0 : Int) ≤ ((k + 1 : Nat) : Int) := by omega
    have i4 : ((k + 1 : Nat) : Int) ≤ (l.length : Int) := by omega
    have hq : (str l).toList.isEmpty = false := by rw [ByteArray.toList_eq, str_list]; simpa using h0
    replace g1 := Lib.hid g1
    replace g2 := Lib.hid g2
    replace g3 := Lib.hid g3
    replace g4 := Lib.hid g4
    go_enter Tryd.func13, Tryd.ntmps13
    go_wp2_with fail
    refine hpk.out.mono ?_
    rintro e _ ⟨rfl, rfl⟩
    go_wp2_with fail
    go_region
    go_wp2_with fail
    go_ret
    refine ⟨by rw [hv.out]; rfl, ?_⟩
    exact (Below.alloc (Below.refl _ _) (Nat.le_refl _) _).drew
end Go.Proofs.YtainohbfcehpoaaDoor
namespace Go.Proofs.YtainohbfcehpoaaDoor
open Go.RowKit Go.Shelf

theorem conv_two (V : World) (g c d : Nat) (h : V.cell? ⟨g, 0, none⟩ = some (.int .u8 (c : Int))) (h2 : V.cell? ⟨g, 1, none⟩ = some (.int .u8 (d : Int))) : (convert 46 9 (.slice (some ⟨g, 0, none⟩) 2 2)).run Tryd.prog V = .ok (.string (str [UInt8.ofNat c, UInt8.ofNat d])) V := by
  have := run_convert_bytes_arg (P := Tryd.prog) V 46 5 Tryd.underlying46 Tryd.underlying5 g 0 2 2 [(c : Int), (d : Int)] rfl (fun i hi => by
    rcases (show i = 0 ∨ i = 1 by have : i < 2 := hi; omega) with rfl | rfl
    · exact h
    · exact h2) 9 Tryd.underlying9
  rwa [show strOfNums [(c : Int), (d : Int)] = str [UInt8.ofNat c, UInt8.ofNat d] from strOfNums_nats [c, d]] at this
theorem text_len {code : List UInt8} {l : List Ins} (h : formed code = some l) : (textT l).length ≤ 20480 ∧ code.length ≤ 1024 := by
  obtain ⟨hne, hlen, hdec, hLaid, hForm⟩ := formed_parts h
  have hN := (formed_neat h).1
  have hl : l.length ≤ 1024 := by
    have h1 := (evSeq_dec _ code (Nat.le_refl _) 0).1 l hdec
    have h2 := evSeq_len _ code (Nat.le_refl _) 0
    rw [h1, List.length_map] at h2
    omega
  have := prefT_len hForm hN hl l.length (Nat.le_refl _)
  rw [prefT_all] at this
  exact ⟨by omega, hlen⟩
theorem str_neq {a b : List UInt8} (h : a ≠ b) : ((str a).toList == (str b).toList) = false := by
  rw [ByteArray.toList_eq, ByteArray.toList_eq, str_list, str_list]
  simpa using h
theorem str_eqq (a : List UInt8) : ((str a).toList == (str a).toList) = true := beq_self_eq_true _
/-- The made program is formed, good, short. -/
theorem made_facts (zs : List Int) : (∃ l, formed (madeB 0 0 (prs40 zs)) = some l ∧ Good l) ∧ (madeB 0 0 (prs40 zs)).length ≤ 761 := by
  have h := made_formed (prs40 zs) prs40_len prs40_lt
  have h2 := madeB_len (prs40 zs) 0 0
  have h3 := prs40_len (zs := zs)
  exact ⟨⟨_, h.1, h.2⟩, by omega⟩
set_option maxRecDepth 100000 in
set_option maxHeartbeats 8000000 in
theorem RoundTrip_walk (raw : List UInt8) (v : Value) (n : Nat) (zs : List Int) (at_ : Int) (c : Nat) (w : World) (hr : raw.length ≤ 9223372036854775807) (hs : SliceAt w w.heap.size v n (zs.map (Value.int .i64))) (hz : zs.length = n * 2) (hI : ∀ z ∈ zs, I64 z) (ha : I64 at_) (_ : c < 256) (hE : EnvR w) :
    Calls Tryd.prog 8 #[.string (str raw), v, .int .i64 at_, .int .u8 (c : Int)] w fun e w' => e = .returned (.bool true) ∧ Below w.heap.size w w' := by
  have hsn := Lib.hid (sane_any w hE.env)
  have hmd := fun W (hb : Below w.heap.size w W) => Lib.hid (Made_any v n zs W (hs.later hb) hz hI (hE.below hb))
  obtain ⟨⟨ml, hmf, hmg⟩, hml⟩ := made_facts zs
  generalize madeB 0 0 (prs40 zs) = made at *
  have hcl := changedB_len made at_ c
  have hch := fun W => Lib.hid (changed_any made at_ c W (by omega) ha)
  have hex := extract_take raw
  have hps := str_size raw
  have hmn : (min (raw.length : Int) 60).toNat = min raw.length 60 := by omega
  have hm1 : (0 : Int) ≤ min (raw.length : Int) 60 := by omega
  have hm2 : min (raw.length : Int) 60 ≤ (raw.length : Int) := by omega
  have hexm := hex (min raw.length 60)
  have hrl : (raw.take (min raw.length 60)).length ≤ 60 := by rw [List.length_take]; omega
  generalize raw.take (min raw.length 60) = r2 at *
  generalize changedB made at_ c = chg at *
  clear hex
  go_enter Tryd.func8, Tryd.ntmps8
  go_wp2_with fail
  refine hsn.out.mono ?_
  rintro e w1 ⟨rfl, hb1⟩
  go_wp2_with fail
  refine (hmd w1 hb1).out.mono ?_
  rintro e w2 ⟨rfl, hb2⟩
  have hB2 := hb1.trans (hb2.mono hb1.size)
  clear hsn hmd
  go_wp2_with fail
  refine wp_region_held_drew (S := fun w' => True) (by kernel_rfl) (by trivial) (fun hHeld => ?_)
  refine take_l (i := 0) (v := ?_) rfl (by kernel_rfl) (by kernel_rfl) (by kernel_rfl) (fun _ _ _ h => h) (Or.inl ⟨by kernel_rfl, ?_⟩) (by assumption) ?_
  rotate_left
  · intro w hSw; (try dsimp only at hSw); go_simp; (try with_reducible rfl)
  (try simp only [Act.put, List.setIfInBounds_toArray, List.set_cons_zero, List.set_cons_succ])
  refine take_l (i := 1) (v := ?_) rfl (by kernel_rfl) (by kernel_rfl) (by kernel_rfl) (fun _ _ _ h => h) (Or.inl ⟨by kernel_rfl, ?_⟩) (by assumption) ?_
  rotate_left
  · intro w hSw; (try dsimp only at hSw); go_simp; (try with_reducible rfl)
  (try simp only [Act.put, List.setIfInBounds_toArray, List.set_cons_zero, List.set_cons_succ])
  refine take_l (i := 2) (v := ?_) rfl (by kernel_rfl) (by kernel_rfl) (by kernel_rfl) (fun _ _ _ h => h) (Or.inl ⟨by kernel_rfl, ?_⟩) (by assumption) ?_
  rotate_left
  · intro w hSw; (try dsimp only at hSw); go_simp; (try with_reducible rfl)
  (try simp only [Act.put, List.setIfInBounds_toArray, List.set_cons_zero, List.set_cons_succ])
  refine take_l (i := 3) (v := ?_) rfl (by kernel_rfl) (by kernel_rfl) (by kernel_rfl) (fun _ _ _ h => h) (Or.inl ⟨by kernel_rfl, ?_⟩) (by assumption) ?_
  rotate_left
  · intro w hSw; (try dsimp only at hSw); go_simp; (try with_reducible rfl)
  (try simp only [Act.put, List.setIfInBounds_toArray, List.set_cons_zero, List.set_cons_succ])
  refine take_l (i := 4) (v := ?_) rfl (by kernel_rfl) (by kernel_rfl) (by kernel_rfl) (fun _ _ _ h => h) (Or.inl ⟨by kernel_rfl, ?_⟩) (by assumption) ?_
  rotate_left
  · intro w hSw; (try dsimp only at hSw); go_simp; (try with_reducible rfl)
  (try simp only [Act.put, List.setIfInBounds_toArray, List.set_cons_zero, List.set_cons_succ])
  refine take_l (i := 5) (v := ?_) rfl (by kernel_rfl) (by kernel_rfl) (by kernel_rfl) (fun _ _ _ h => h) (Or.inl ⟨by kernel_rfl, ?_⟩) (by assumption) ?_
  rotate_left
  · intro w hSw; (try dsimp only at hSw); go_simp; (try with_reducible rfl)
  (try simp only [Act.put, List.setIfInBounds_toArray, List.set_cons_zero, List.set_cons_succ])
  refine take_l (i := 6) (v := ?_) rfl (by kernel_rfl) (by kernel_rfl) (by kernel_rfl) (fun _ _ _ h => h) (Or.inl ⟨by kernel_rfl, ?_⟩) (by assumption) ?_
  rotate_left
  · intro w hSw; (try dsimp only at hSw); go_simp; (try with_reducible rfl)
  (try simp only [Act.put, List.setIfInBounds_toArray, List.set_cons_zero, List.set_cons_succ])
  refine take_l (i := 7) (v := ?_) rfl (by kernel_rfl) (by kernel_rfl) (by kernel_rfl) (fun _ _ _ h => h) (Or.inl ⟨by kernel_rfl, ?_⟩) (by assumption) ?_
  rotate_left
  · intro w hSw; (try dsimp only at hSw); go_simp; (try with_reducible rfl)
  (try simp only [Act.put, List.setIfInBounds_toArray, List.set_cons_zero, List.set_cons_succ])
  refine take_l (i := 8) (v := ?_) rfl (by kernel_rfl) (by kernel_rfl) (by kernel_rfl) (fun _ _ _ h => h) (Or.inl ⟨by kernel_rfl, ?_⟩) (by assumption) ?_
  rotate_left
  · intro w hSw; (try dsimp only at hSw); go_simp; (try with_reducible rfl)
  (try simp only [Act.put, List.setIfInBounds_toArray, List.set_cons_zero, List.set_cons_succ])
  refine take_l (i := 12) (v := ?_) rfl (by kernel_rfl) (by kernel_rfl) (by kernel_rfl) (fun _ _ _ h => h) (Or.inl ⟨by kernel_rfl, ?_⟩) (by assumption) ?_
  rotate_left
  · intro w hSw; (try dsimp only at hSw); go_simp; (try with_reducible rfl)
  (try simp only [Act.put, List.setIfInBounds_toArray, List.set_cons_zero, List.set_cons_succ])
  refine wpAnyH_ready (rs := [9]) (by kernel_rfl) (by simp) ?_
  refine ready_l rfl (fun K hK => ?_) AllReadyH.nil
  go_simp
  (go_at_call 13; (with_reducible refine ((hch _).out).mono ?_); rintro e vA ⟨rfl, hbvA⟩; have hBvA : Below w2.heap.size w2 vA := Below.trans (by repeat first | with_reducible exact Below.refl _ _ | with_reducible assumption | with_reducible refine below_drewN ?_ _ | with_reducible refine Below.drew ?_ | with_reducible refine Below.setCell ?_ (by first | exact Nat.le_refl _ | (simp; done) | (simp; omega) | omega) _ | with_reducible refine Below.alloc ?_ (by first | exact Nat.le_refl _ | (simp; done) | (simp; omega) | omega) _ | exact Below.refl _ _ | assumption) (hbvA.mono (by first | exact Nat.le_refl _ | assumption | (simp; done) | (simp; omega) | omega)); have hzvA := hbvA.size; )
  refine hK.out _ _ (by trivial) (fun hHeld => ?_)
  clear hK K
  (try simp only [Act.put, List.setIfInBounds_toArray, List.set_cons_zero, List.set_cons_succ])
  refine wpAnyH_ready (rs := [10]) (by kernel_rfl) (by simp) ?_
  refine ready_l rfl (fun K hK => ?_) AllReadyH.nil
  go_simp
  refine hK.out _ _ (by trivial) (fun hHeld => ?_)
  clear hK K
  (try simp only [Act.put, List.setIfInBounds_toArray, List.set_cons_zero, List.set_cons_succ])
  refine take_l (i := 11) (v := ?_) rfl (by kernel_rfl) (by kernel_rfl) (by kernel_rfl) (fun _ _ _ h => h) (Or.inl ⟨by kernel_rfl, ?_⟩) (by assumption) ?_
  rotate_left
  · intro w hSw; (try dsimp only at hSw); go_simp; (try with_reducible rfl)
  (try simp only [Act.put, List.setIfInBounds_toArray, List.set_cons_zero, List.set_cons_succ])
  refine wpAnyH_done (by kernel_rfl) ?_ _
  have hBA : Below w.heap.size w vA := hB2.trans (hBvA.mono hB2.size)
  have hg1 := hBA.size
  obtain ⟨g, hg⟩ : ∃ g, g = vA.heap.size := ⟨_, rfl⟩
  obtain ⟨W, hW⟩ : ∃ W, W = vA.alloc (Obj.cells #[Value.string (str r2), Value.string (str made), Value.string (str chg)] 9) := ⟨_, rfl⟩
  have hA : Arr W g 9 [.string (str r2), .string (str made), .string (str chg)] := by rw [hW, hg]; exact Arr.new rfl rfl
  have hBW : Below w.heap.size w W := by rw [hW]; exact hBA.alloc hBA.size _
  rw [← hW, ← hg]
  clear hW hg hBA hg1 hBvA hB2 hb2 hb1 hch
  have hgW := hA.lt
  go_wp2_with fail
  go_loopw [39] (fun i wr => ∃ k : Nat, k ≤ 3 ∧ i = .int .i64 (k : Int) ∧ Hid (Below W.heap.size W wr)) (fun i _ => 3 - (intOf i).toNat)
  case atStart => exact ⟨0, Nat.zero_le _, rfl, (show Hid _ from Below.refl _ _)⟩
  case round =>
    obtain ⟨k, hk, rfl, hall⟩ := hrel
    have hBr := hall.out
    clear hall
    by_cases hlt : k < 3
    · have hd : decide ((k : Int) < 3) = true := by simp; omega
      have hAr : Arr wr g 9 [.string (str r2), .string (str made), .string (str chg)] := (hBr.block g hgW).trans hA
      obtain ⟨cd, hcd, hcl2⟩ : ∃ cd, wr.cell? ⟨g, k, none⟩ = some (.string (str cd)) ∧ cd.length ≤ 1000 := by
        rcases (show k = 0 ∨ k = 1 ∨ k = 2 by omega) with rfl | rfl | rfl
        · exact ⟨r2, hAr.cell (j := 0) rfl, by omega⟩
        · exact ⟨made, hAr.cell (j := 1) rfl, by omega⟩
        · exact ⟨chg, hAr.cell (j := 2) rfl, by omega⟩
      have i2 : 0 ≤ (k : Int) := by omega
      have hBT := hBW.trans (hBr.mono hBW.size)
      have hP := Lib.hid (Print_any cd wr (by omega) (hE.below hBT).env)
      have hw1k : IntKind.i64.wrap ((k : Int) + 1) = ((k + 1 : Nat) : Int) := by rw [Int.natCast_succ]; exact IntWalk.i64_in _ (by omega)
      replace hA := Lib.hid hA
      clear hAr
      cases hf : formed cd with
      | none =>
        have hpr : print8 cd = ([], 80) := by unfold print8; rw [hf]
        rw [hpr] at hP
        dsimp only at hP
        have hee : (str []).toList.isEmpty = true := by rw [ByteArray.toList_eq]; rfl
        have hne : cd ≠ made := fun e => by rw [e, hmf] at hf; cases hf
        have heq := str_neq hne
        have hnf : Hid (∀ l, formed cd = some l → ¬ Good l) := fun l h => by rw [hf] at h; cases h
        clear hpr
        replace hf := Lib.hid hf
        replace hmf := Lib.hid hmf
        go_wp2_with fail
        refine hP.out.mono ?_
        rintro e w3 ⟨rfl, hb3⟩
        have hB3 := hBr.trans (hb3.mono hBr.size)
        have hBT3 := hBW.trans (hB3.mono hBW.size)
        have hV := Lib.hid (Verify_any cd w3 (by omega) (hE.below hBT3).env.ops)
        clear hP hb3
        go_wp2_with fail
        refine hV.out.mono ?_
        rintro e w4 ⟨hvp, hb4⟩
        obtain rfl := vfy_no hvp hnf.out
        have hB4 := hB3.trans (hb4.mono hB3.size)
        clear hV hvp hb4
        go_wp2_with fail
        exact ⟨⟨k + 1, by omega, by first | rfl | go_num, hB4⟩, by simp [intOf]; omega⟩
      | some l =>
        have hpr : print8 cd = (textT l, 0) := by unfold print8; rw [hf]
        obtain ⟨htl, hcl3⟩ := text_len hf
        have hps8 := parse_text hf
        have hz1 : formed (cd ++ [UInt8.ofNat 0, UInt8.ofNat c]) = none := formed_more hf (fun a => by simp [dec, longOp])
        have hz2 : formed (cd ++ [UInt8.ofNat 12]) = none := formed_more hf (fun a => by simp [dec])
        have hp1 : print8 (cd ++ [UInt8.ofNat 0, UInt8.ofNat c]) = ([], 80) := by unfold print8; rw [hz1]
        have hp2 : print8 (cd ++ [UInt8.ofNat 12]) = ([], 80) := by unfold print8; rw [hz2]
        obtain ⟨d1, hd1⟩ : ∃ d, d = [UInt8.ofNat 0, UInt8.ofNat c] := ⟨_, rfl⟩
        obtain ⟨d2, hd2⟩ : ∃ d, d = [UInt8.ofNat 12] := ⟨_, rfl⟩
        have hcv1 := fun V g => conv_two V g 0 c
        have hcv2 := fun V g => conv_one V g 12
        rw [← hd1] at hcv1 hp1
        rw [← hd2] at hcv2 hp2
        have hl1 : d1.length = 2 := by rw [hd1]; rfl
        have hl2 : d2.length = 1 := by rw [hd2]; rfl
        have q1 := add_str cd d1 (by omega)
        have q2 := add_str cd d2 (by omega)
        obtain ⟨c1, hc1⟩ : ∃ d, d = cd ++ d1 := ⟨_, rfl⟩
        obtain ⟨c2, hc2⟩ : ∃ d, d = cd ++ d2 := ⟨_, rfl⟩
        rw [← hc1] at q1 hp1
        rw [← hc2] at q2 hp2
        have hlc1 : c1.length ≤ 1002 := by rw [hc1, List.length_append]; omega
        have hlc2 : c2.length ≤ 1002 := by rw [hc2, List.length_append]; omega
        have heq := str_eqq cd
        rw [hpr] at hP
        dsimp only at hP
        replace hp1 := Lib.hid hp1
        replace hp2 := Lib.hid hp2
        replace hd1 := Lib.hid hd1
        replace hd2 := Lib.hid hd2
        replace hc1 := Lib.hid hc1
        replace hc2 := Lib.hid hc2
        replace hmf := Lib.hid hmf
        replace hps8 := Lib.hid hps8
        generalize textT l = tx at *
        clear hpr hz1 hz2 hf
        go_wp2_with fail
        refine hP.out.mono ?_
        rintro e w3 ⟨rfl, hb3⟩
        have hB3 := hBr.trans (hb3.mono hBr.size)
        have hBT3 := hBW.trans (hB3.mono hBW.size)
        have hV := Lib.hid (Verify_any cd w3 (by omega) (hE.below hBT3).env.ops)
        clear hP hb3
        go_wp2_with fail
        refine hV.out.mono ?_
        rintro e w4 ⟨hvp, hb4⟩
        obtain ⟨x1, x2, rfl⟩ : ∃ x1 x2 : Int, e = .returned (.tuple #[.int .i64 x1, .int .i64 x2]) := by
          rcases hvp with ⟨_, m, _, _, _, h⟩ | ⟨_, h⟩
          · exact ⟨_, _, h⟩
          · exact ⟨_, _, h⟩
        have hB4 := hB3.trans (hb4.mono hB3.size)
        have hBT4 := hBW.trans (hB4.mono hBW.size)
        have hQ := Parse_any tx w4 (by omega) (hE.below hBT4).env
        rw [hps8.out] at hQ
        unfold parV at hQ
        dsimp only at hQ
        replace hQ := Lib.hid hQ
        clear hV hvp hb4
        go_wp2_with fail
        refine hQ.out.mono ?_
        rintro e w5 ⟨rfl, hb5⟩
        have hB5 := hB4.trans (hb5.mono hB4.size)
        clear hQ hb5
        go_wp2_with fail
        refine name_calls ?_
        intro w6 hw6
        have hB6 : Below W.heap.size W w6 := by rw [hw6]; exact hB5.alloc hB5.size _
        have hBT6 := hBW.trans (hB6.mono hBW.size)
        have hQ := Print_any c1 w6 (by omega) (hE.below hBT6).env
        rw [hp1.out] at hQ
        dsimp only at hQ
        refine hQ.mono ?_
        clear hw6 hQ
        rintro e w7 ⟨rfl, hb7⟩
        have hB7 := hB6.trans (hb7.mono hB6.size)
        clear hb7
        go_wp2_with fail
        refine name_calls ?_
        intro w8 hw8
        have hB8 : Below W.heap.size W w8 := by rw [hw8]; exact hB7.alloc hB7.size _
        have hBT8 := hBW.trans (hB8.mono hBW.size)
        have hQ := Print_any c2 w8 (by omega) (hE.below hBT8).env
        rw [hp2.out] at hQ
        dsimp only at hQ
        refine hQ.mono ?_
        clear hw8 hQ
        rintro e w9 ⟨rfl, hb9⟩
        have hB9 := hB8.trans (hb9.mono hB8.size)
        clear hb9
        go_wp2_with fail
        exact ⟨⟨k + 1, by omega, by first | rfl | go_num, hB9⟩, by simp [intOf]; omega⟩
    · have hd : decide ((k : Int) < 3) = false := by simp; omega
      have hBT := hBW.trans (hBr.mono hBW.size)
      go_wp2_with fail
      go_ret
      exact ⟨rfl, hBT⟩
end Go.Proofs.YtainohbfcehpoaaDoor
namespace Go.Proofs.YtainohbfcehpoaaDoor
open Go.RowKit Go.Shelf

/-- How far the digits are written. -/
def DigI (u k : Nat) (l : List UInt8) : Prop := (l = [] ∧ k = u) ∨ (l ≠ [] ∧ ((0 < k ∧ Lib.decDigits u = Lib.decDigits k ++ l) ∨ (k = 0 ∧ Lib.decDigits u = l)))
theorem DigI.step {u k : Nat} {l : List UInt8} (h : DigI u k l) (hc : l = [] ∨ 0 < k) : DigI u (k / 10) (UInt8.ofNat (48 + k % 10) :: l) := by
  refine .inr ⟨by simp, ?_⟩
  have key : ∀ l : List UInt8, Lib.decDigits k ++ l = if k / 10 = 0 then UInt8.ofNat (48 + k % 10) :: l else Lib.decDigits (k / 10) ++ UInt8.ofNat (48 + k % 10) :: l := fun l => by
    by_cases h10 : k < 10
    · rw [if_pos (by omega), Lib.decDigits, dif_pos h10, Nat.mod_eq_of_lt h10]; rfl
    · rw [if_neg (by omega), Lib.decDigits, dif_neg h10]; simp
  have hd : Lib.decDigits u = Lib.decDigits k ++ l := by
    rcases h with ⟨rfl, rfl⟩ | ⟨hl, ⟨_, h⟩ | ⟨h0, _⟩⟩
    · simp
    · exact h
    · rcases hc with hc | hc
      · exact absurd hc hl
      · omega
  rw [key] at hd
  by_cases h0 : k / 10 = 0
  · rw [if_pos h0] at hd; exact .inr ⟨h0, hd⟩
  · rw [if_neg h0] at hd; exact .inl ⟨by omega, hd⟩
theorem DigI.done {u k : Nat} {l : List UInt8} (h : DigI u k l) (hl : l ≠ []) (hk : ¬ 0 < k) : l = Lib.decDigits u := by
  rcases h with ⟨h, _⟩ | ⟨_, ⟨h, _⟩ | ⟨_, h⟩⟩
  · exact absurd h hl
  · exact absurd h hk
  · exact h.symm
theorem DigI.len {u k : Nat} {l : List UInt8} (h : DigI u k l) (hu : u < 100000) : l.length ≤ 20 := by
  have h1 := decDigits_le (u := u) (by omega)
  rcases h with ⟨rfl, _⟩ | ⟨_, ⟨_, h⟩ | ⟨_, h⟩⟩
  · simp
  · rw [h] at h1; simp at h1; omega
  · rw [h] at h1; omega
theorem strOfNums_dig (d : Nat) : strOfNums [((48 + d : Nat) : Int)] = str [UInt8.ofNat (48 + d)] := rfl
def strLen0 : Value → Nat | .string s => if s.size = 0 then 1 else 0 | _ => 0

set_option maxRecDepth 100000 in
set_option maxHeartbeats 1000000 in
theorem digits8_any (u : Nat) (w : World) (hu : u < 100000) :
    Calls Tryd.prog 40 #[.int .i64 u] w fun e w' => e = .returned (.string (str (Lib.decDigits u))) ∧ Below w.heap.size w w' := by
  have hB : Below w.heap.size w w := Below.refl _ _
  go_enter Tryd.func40, Tryd.ntmps40
  go_wp2
  go_loopw [0, 3] (fun n o wr => ∃ (k : Nat) (l : List UInt8), n = .int .i64 k ∧ o = .string (str l) ∧ k < 100000 ∧ l.length ≤ 20 ∧ Hid (DigI u k l) ∧ Below w.heap.size w wr) (fun n o _ => 2 * (intOf n).toNat + strLen0 o)
  case atStart => exact ⟨u, [], rfl, rfl, hu, by simp, (show DigI u u [] from .inl ⟨rfl, rfl⟩), hB⟩
  case round =>
    clear hB
    obtain ⟨k, l, rfl, rfl, hk, hll, hI, hB⟩ := hrel
    have hBz := hB.size
    have hcv := run_convert_bytes_arg (P := Tryd.prog) (wr.alloc (.cells #[.int .u8 (48 + (k : Int) % 10)] 5)) 46 5 Tryd.underlying46 Tryd.underlying5 wr.heap.size 0 1 1 [48 + (k : Int) % 10] rfl (fun j hj => by
      obtain rfl : j = 0 := by omega
      exact (Mine.new rfl).cell) 9 Tryd.underlying9
    obtain ⟨ch, hch⟩ : ∃ ch, ch = UInt8.ofNat (48 + k % 10) := ⟨_, rfl⟩
    have hs1 : strOfNums [48 + (k : Int) % 10] = str [ch] := by
      rw [hch, show 48 + (k : Int) % 10 = ((48 + k % 10 : Nat) : Int) from by omega]; exact strOfNums_dig _
    rw [hs1] at hcv
    clear hs1
    have hadd := add_str [ch] l (by simp; omega)
    rw [show [ch] ++ l = ch :: l from rfl] at hadd
    by_cases hc : l = [] ∨ 0 < k
    · have hI2 := hI.out.step hc
      rw [← hch] at hI2
      replace hI2 := Lib.hid hI2
      clear hch
      have hsm : 2 * (k / 10) + strLen0 (.string (str (ch :: l))) < 2 * k + strLen0 (.string (str l)) := by
        have e : strLen0 (.string (str (ch :: l))) = 0 := by simp [strLen0, str_size]
        rw [e]
        rcases hc with rfl | hc
        · have : strLen0 (.string (str [])) = 1 := by simp [strLen0, str_size]
          omega
        · omega
      have hl2 : (ch :: l).length ≤ 20 := by
        rw [List.length_cons]
        have hlen := DigI.len hI2.out hu
        simpa using hlen
      replace hsm := Lib.hid hsm
      replace hl2 := Lib.hid hl2
      by_cases hl0 : l = []
      · have e1 : (str l).toList.isEmpty = true := by rw [ByteArray.toList_eq, str_list, hl0]; rfl
        clear hc hl0 hI hll
        go_wp2
        go_roundw
        case rel => exact ⟨k / 10, _, by go_num, rfl, by omega, hl2.out, hI2, (by repeat first | with_reducible exact Below.refl _ _ | with_reducible assumption | with_reducible refine below_drewN ?_ _ | with_reducible refine Below.drew ?_ | with_reducible refine Below.setCell ?_ (by first | exact Nat.le_refl _ | (simp; done) | (simp; omega) | omega) _ | with_reducible refine Below.alloc ?_ (by first | exact Nat.le_refl _ | (simp; done) | (simp; omega) | omega) _ | exact Below.refl _ _ | assumption)⟩
        case measure => have := hsm.out; simp only [intOf]; omega
      · have e1 : (str l).toList.isEmpty = false := by rw [ByteArray.toList_eq, str_list]; simpa using hl0
        have hk0 : 0 < k := by
          rcases hc with hc | hc
          · exact absurd hc hl0
          · exact hc
        have e2 : decide (0 < k) = true := by simpa using hk0
        clear hc hl0 hI hll hk0
        go_wp2
        go_roundw
        case rel => exact ⟨k / 10, _, by go_num, rfl, by omega, hl2.out, hI2, (by repeat first | with_reducible exact Below.refl _ _ | with_reducible assumption | with_reducible refine below_drewN ?_ _ | with_reducible refine Below.drew ?_ | with_reducible refine Below.setCell ?_ (by first | exact Nat.le_refl _ | (simp; done) | (simp; omega) | omega) _ | with_reducible refine Below.alloc ?_ (by first | exact Nat.le_refl _ | (simp; done) | (simp; omega) | omega) _ | exact Below.refl _ _ | assumption)⟩
        case measure => have := hsm.out; simp only [intOf]; omega
    · have hl0 : l ≠ [] := fun h => hc (.inl h)
      have hk0 : ¬ 0 < k := fun h => hc (.inr h)
      have hI2 := Lib.hid (hI.out.done hl0 hk0)
      have e1 : (str l).toList.isEmpty = false := by rw [ByteArray.toList_eq, str_list]; simpa using hl0
      have e2 : decide (0 < k) = false := by simpa using hk0
      clear hc hl0 hk0 hI hcv hadd hch
      go_wp2
      go_ret
      exact ⟨by rw [hI2.out]; rfl, hB⟩

end Go.Proofs.YtainohbfcehpoaaDoor
namespace Go.Proofs.YtainohbfcehpoaaDoor
open Go.RowKit Go.Shelf

/-- The table of the names, too. -/
structure EnvN (w : World) : Prop where
  envr : EnvR w
  names : ∀ o, o < 12 → w.cell? ⟨2, o, none⟩ = some (.string (str (opName o)))
theorem EnvN.below {w w' : World} (h : EnvN w) (hb : Below w.heap.size w w') : EnvN w' := ⟨h.envr.below hb, fun o ho => cell_below (h.names o ho) hb⟩
set_option maxRecDepth 100000 in
set_option maxHeartbeats 8000000 in
theorem printR_any (code : List UInt8) (w : World) (hc : code.length ≤ 1000000) (hE : EnvN w) :
    Calls Tryd.prog 20 #[.string (str code)] w fun e w' => e = .returned (.tuple #[.string (str (print8 code).1), .int .i64 (print8 code).2]) ∧ Below w.heap.size w w' := by
  have hP := Lib.hid (insR_any code w hc)
  go_enter Tryd.func20, Tryd.ntmps20
  go_wp2_with fail
  refine hP.out.mono ?_
  rintro e w1 ⟨hyes, hno, hb1⟩
  cases hf : formed code with
  | none =>
    obtain rfl := hno hf
    have hpr : Hid (print8 code = ([], 80)) := by show _ = _; unfold print8; rw [hf]
    clear hyes hno hf hP
    go_wp2_with fail
    go_ret2
    exact ⟨by rw [hpr.out]; rfl, hb1⟩
  | some L =>
    obtain ⟨g, cap, rfl, hg0, hg1, hLc, hcm, hRR⟩ := hyes L hf
    obtain ⟨hne, hlen, hdec, hLaid, hForm⟩ := formed_parts hf
    have hNeat := (formed_neat hf).1
    have hL1 : L.length ≤ 1024 := by
      have h1 := (evSeq_dec _ code (Nat.le_refl _) 0).1 L hdec
      have h2 := evSeq_len _ code (Nat.le_refl _) 0
      rw [h1, List.length_map] at h2
      omega
    have hpr : Hid (print8 code = (prefT L L.length, 0)) := by show _ = _; unfold print8; rw [hf, prefT_all]
    have hOps : ∀ i, i < L.length → L[i]!.op < 12 := hForm.ops
    clear hyes hno hf hP
    go_wp2_with fail
    go_loopw [6, 7] (fun s i wr => ∃ k : Nat, k ≤ L.length ∧ s = .string (str (prefT L k)) ∧ i = .int .i64 (k : Int) ∧ Hid (Below w1.heap.size w1 wr)) (fun _ i _ => L.length - (intOf i).toNat)
    case atStart => exact ⟨0, Nat.zero_le _, rfl, rfl, (show Hid _ from Below.refl _ _)⟩
    case round =>
      obtain ⟨k, hk, rfl, rfl, hall⟩ := hrel
      have hBk := hall.out
      clear hall
      have hBT := hb1.trans (hBk.mono hb1.size)
      by_cases hkl : k < L.length
      · have hdk : decide ((k : Int) < (L.length : Int)) = true := by simpa using hkl
        have hRk := hRR.keep (hBk.block g hg1)
        obtain ⟨_, m1, m2⟩ := hRk k hkl
        simp only [Nat.zero_add] at m1 m2
        have j0 : (0 : Int) ≤ (k : Int) := by omega
        have hw1k : IntKind.i64.wrap ((k : Int) + 1) = ((k + 1 : Nat) : Int) := by rw [Int.natCast_succ]; exact IntWalk.i64_in _ (by omega)
        have hlt := hOps k hkl
        have hnm := (hE.below hBT).names L[k]!.op hlt
        have hLd := Lib.hid (leads_any L[k]!.op wr hlt)
        have hpl := prefT_len hForm hNeat hL1 k hk
        have hsuc := prefT_succ hkl
        have hopd : L[k]!.opd < 65536 := by have := (dec_bnd hdec hkl).2; exact this
        have hto : leadOp L[k]!.op = true → idxOf L L[k]!.opd = some (toOf L L[k]!) ∧ toOf L L[k]! < L.length := fun h => ⟨hForm.to hkl h, (toOf_lt hForm hkl h).1⟩
        have hF := fun W' (hR' : RefRow W' g 0 L) => Lib.hid (find8_any g 0 cap L L[k]!.opd W' (by omega) hR')
        have hnl := opName_len hlt
        have hlo : leadOp L[k]!.op = true → longOp L[k]!.op = true := fun h => by
          unfold leadOp at h
          unfold longOp
          simp only [Bool.or_eq_true, beq_iff_eq] at h ⊢
          omega
        unfold lineT outN at hsuc
        obtain ⟨t, ht⟩ : ∃ t, t = toOf L L[k]! := ⟨_, rfl⟩
        rw [← ht] at hto hsuc
        replace ht := Lib.hid ht
        generalize prefT L k = c0 at *
        generalize hc9 : prefT L (k + 1) = c9 at *
        replace hc9 := Lib.hid hc9
        generalize L[k]! = z at *
        obtain ⟨zo, zop, zd⟩ := z
        dsimp only at *
        have i5 : (0 : Int) ≤ (zop : Int) := by omega
        have i6 : (zop : Int) < 12 := by omega
        generalize opName zop = nm at *
        obtain ⟨c1, h1⟩ : ∃ c, c = c0 ++ nm := ⟨_, rfl⟩
        have q1 := add_str c0 nm (by omega)
        rw [← h1] at q1
        have l1 : c1.length ≤ 30000 := by rw [h1, List.length_append]; omega
        replace h1 := Lib.hid h1
        replace hsuc := Lib.hid hsuc
        replace hto := Lib.hid hto
        replace hlo := Lib.hid hlo
        go_wp2_with fail
        refine hLd.out.mono ?_
        rintro e w2 ⟨rfl, q, rfl⟩
        have hR2 : RefRow (wr.drewN q) g 0 L := hRk
        have hB2 := below_drewN hBk q
        have m1' : (wr.drewN q).cell? ⟨g, k * 3 + 1, none⟩ = some (.int .i64 (zop : Int)) := m1
        have m2' : (wr.drewN q).cell? ⟨g, k * 3 + 2, none⟩ = some (.int .i64 (zd : Int)) := m2
        generalize wr.drewN q = w2 at *
        cases hl : leadOp zop with
        | true =>
          have hlong := hlo.out hl
          obtain ⟨ti, tl⟩ := hto.out hl
          replace hsuc := hsuc.out
          have hfz : findZ L zd = (t : Int) := by rw [findZ, ti]
          rw [hl, hlong, if_pos rfl, if_pos rfl] at hsuc
          have hdl := decDigits_le (u := t) (by omega)
          have hdg := fun W' => Lib.hid (digits8_any t W' (by omega))
          generalize Lib.decDigits t = dg at *
          obtain ⟨c2, h2⟩ : ∃ c, c = c1 ++ [32] := ⟨_, rfl⟩
          have q2 := add_str c1 [32] (by simp; omega)
          rw [← h2, show str [32] = (⟨#[32]⟩ : ByteArray) from rfl] at q2
          have l2 : c2.length ≤ 30001 := by rw [h2, List.length_append]; simp; omega
          obtain ⟨c3, h3⟩ : ∃ c, c = c2 ++ dg := ⟨_, rfl⟩
          have q3 := add_str c2 dg (by omega)
          rw [← h3] at q3
          have l3 : c3.length ≤ 30011 := by rw [h3, List.length_append]; omega
          have q4 := add_str c3 [10] (by simp; omega)
          have hc94 : c3 ++ [10] = c9 := by rw [hsuc, h3, h2, h1.out]; simp
          rw [hc94, show str [10] = (⟨#[10]⟩ : ByteArray) from rfl] at q4
          replace hc94 := Lib.hid hc94
          replace hsuc := Lib.hid hsuc
          replace h2 := Lib.hid h2
          replace h3 := Lib.hid h3
          replace ti := Lib.hid ti
          go_wp2_with fail
          refine (hF _ hR2).out.mono ?_
          rintro e w2 ⟨rfl, rfl⟩
          rw [hfz]
          go_wp2_with fail
          refine (hdg _).out.mono ?_
          rintro e w3 ⟨rfl, hb3⟩
          have hB3 := hB2.trans (hb3.mono hB2.size)
          clear hB2 hb3
          go_wp2_with fail
          exact ⟨⟨k + 1, by omega, by rw [hc9.out], by first | rfl | go_num, hB3⟩, by simp [intOf]; omega⟩
        | false =>
          have hH := Lib.hid (hasOperand_any zop w2 hlt)
          cases hlong : longOp zop with
          | false =>
            rw [hlong] at hH
            have hs2 := hsuc.out
            rw [hlong, if_neg (by decide)] at hs2
            have q4 := add_str c1 [10] (by simp; omega)
            have hc94 : c1 ++ [10] = c9 := by rw [hs2, h1.out]; simp
            rw [hc94, show str [10] = (⟨#[10]⟩ : ByteArray) from rfl] at q4
            replace hc94 := Lib.hid hc94
            replace hs2 := Lib.hid hs2
            go_wp2_with fail
            refine hH.out.mono ?_
            rintro e w3 ⟨rfl, q, rfl⟩
            have hB3 := below_drewN hB2 q
            go_wp2_with fail
            exact ⟨⟨k + 1, by omega, by rw [hc9.out], by first | rfl | go_num, hB3⟩, by simp [intOf]; omega⟩
          | true =>
            rw [hlong] at hH
            have hs2 := hsuc.out
            rw [hlong, if_pos rfl, hl, if_neg (by decide)] at hs2
            have hdl := decDigits_le (u := zd) (by omega)
            have hdg := fun W' => Lib.hid (digits8_any zd W' (by omega))
            generalize Lib.decDigits zd = dg at *
            obtain ⟨c2, h2⟩ : ∃ c, c = c1 ++ [32] := ⟨_, rfl⟩
            have q2 := add_str c1 [32] (by simp; omega)
            rw [← h2, show str [32] = (⟨#[32]⟩ : ByteArray) from rfl] at q2
            have l2 : c2.length ≤ 30001 := by rw [h2, List.length_append]; simp; omega
            obtain ⟨c3, h3⟩ : ∃ c, c = c2 ++ dg := ⟨_, rfl⟩
            have q3 := add_str c2 dg (by omega)
            rw [← h3] at q3
            have l3 : c3.length ≤ 30011 := by rw [h3, List.length_append]; omega
            have q4 := add_str c3 [10] (by simp; omega)
            have hc94 : c3 ++ [10] = c9 := by rw [hs2, h3, h2, h1.out]; simp
            rw [hc94, show str [10] = (⟨#[10]⟩ : ByteArray) from rfl] at q4
            replace hc94 := Lib.hid hc94
            replace hs2 := Lib.hid hs2
            replace h2 := Lib.hid h2
            replace h3 := Lib.hid h3
            go_wp2_with fail
            refine hH.out.mono ?_
            rintro e w3 ⟨rfl, q, rfl⟩
            have hB3 := below_drewN hB2 q
            have m2'' : (w2.drewN q).cell? ⟨g, k * 3 + 2, none⟩ = some (.int .i64 (zd : Int)) := m2'
            generalize w2.drewN q = w3 at *
            go_wp2_with fail
            refine (hdg _).out.mono ?_
            rintro e w4 ⟨rfl, hb4⟩
            have hB4 := hB3.trans (hb4.mono hB3.size)
            clear hB3 hb4
            go_wp2_with fail
            exact ⟨⟨k + 1, by omega, by rw [hc9.out], by first | rfl | go_num, hB4⟩, by simp [intOf]; omega⟩
      · have hdk : decide ((k : Int) < (L.length : Int)) = false := by simpa using hkl
        obtain rfl : k = L.length := by omega
        go_wp2_with fail
        go_ret2
        exact ⟨by rw [hpr.out]; rfl, hBT⟩
end Go.Proofs.YtainohbfcehpoaaDoor
