/-
  MachineSafe: operations 2, 4, 5. (Printed by genmo4.py.)
-/
import Derived.Test.YtainohbfcehpoaaDoorMo4
import Derived.RegionTactic
import Derived.Deep.RegionHeld3
import Derived.BigQuiet
namespace Go.Proofs.YtainohbfcehpoaaDoor
open Go.RowKit Go.Shelf

set_option maxRecDepth 100000 in
set_option maxHeartbeats 8000000 in
theorem safe_op2 {L : List Ins} {inp : List UInt8} {P : ByteArray} {w4 : World} {gL cap m rd n pc : Nat} {st : List Int} {ip out : List UInt8} {sn' : List Int} {zo zd yB : Nat} {sa : Option Addr} {sc : Nat} {u : Nat → Value} {V : World} (hx : SafeCtx L inp P w4 gL cap m u) (h : OpAt L inp w4 gL rd n pc st ip out sn' zo 2 zd yB sa sc u V)
    (J : (Nat → Value) → World → Prop) (K : Act → World → Prop) (Q : Exit → Act → World → Prop) (hJ : ∀ u' W', OpR L inp w4 n sn' u' W' → J u' W') (hK : ∀ a' W', ExF 363 keepO u J a' W' → K a' W') : (Code.block 4 sw4).wp Tryd.prog (Exit.then K Q) (frameOf 363 u) V := by
  have hpc := h.pcl
  have hll := hx.len
  have hwp : IntKind.i64.wrap ((pc : Int) + 1) = (pc : Int) + 1 := IntWalk.i64_in _ (by omega)
  have hzop : L[pc]!.op = 2 := by rw [h.ins]
  have hzd : L[pc]!.opd = zd := by rw [h.ins]
  have y2 := h.y2
  have htk := h.tak
  have h16 := h.l16
  have hsiz := h.siz
  have hT := h.two
  have hnx := h.next
  have hol := h.ol
  have hkp := (keepO_eq u).trans (by rw [hx.s4, hx.s15, hx.s17, hx.s19])
  rw [frame363, hx.s4, hx.s15, hx.s17, hx.s19, h.s20, h.s21, h.s22, h.s25, h.s26, h.s27, h.s158]
  replace hnx := Lib.hid hnx
  replace hkp := Lib.hid hkp
  replace hol := Lib.hid hol
  replace hzop := Lib.hid hzop
  replace hzd := Lib.hid hzd
  conv => arg 2; arg 2; whnf
  cases st with
  | nil => (simp [takesOp] at htk)
  | cons b r =>
  cases r with
  | nil => (simp [takesOp] at htk)
  | cons a r =>
    obtain ⟨sg, sc1, e1, hsc1, hscm, cA, cB, hT1⟩ := hT.pop2
    injection e1 with e1 _ e2
    subst e1 e2
    have hsl := fun W => slice_to (some ⟨sg, 0, none⟩) (r.length + 1 + 1) sc (r.length + 1) (by omega) W
    rw [List.length_cons, List.length_cons] at htk h16
    have hwl : IntKind.i64.wrap ((r.length : Int) + 1 - 1) = (r.length : Int) := by rw [show (r.length : Int) + 1 - 1 = (r.length : Int) by omega]; exact IntWalk.i64_in _ (by omega)
    have hwl2 : (r.length : Int) + 1 - 1 = (r.length : Int) := by omega
    have hwl0 : IntKind.i64.wrap (r.length : Int) = (r.length : Int) := IntWalk.i64_in _ (by omega)
    have l0 : (0 : Int) ≤ (r.length : Int) := by omega
    have l1 : (0 : Int) ≤ (r.length : Int) + 1 := by omega
    have l2 : (r.length : Int) < (r.length : Int) + 1 + 1 := by omega
    have l3 : (r.length : Int) + 1 < (r.length : Int) + 1 + 1 := by omega
    have l4 : ((r.length : Int) + 1).toNat = r.length + 1 := by omega
    replace hT := Lib.hid hT
    replace hT1 := Lib.hid hT1
    simp only [List.length_cons, Int.natCast_add, Int.cast_ofNat_Int, Int.add_sub_cancel]
    have hs : Hid (stepM L ⟨pc, (b :: a :: r), ip, out⟩ = .go ⟨pc + 1, a :: b :: r, ip, out⟩) := by show _ = _; rw [stepc (by rw [hzop.out]; omega), hzop.out, hzd.out]; rfl
    obtain ⟨hT3, hkeep, fA, fB⟩ := hT.out.swap
    replace hT3 := Lib.hid hT3
    replace hkeep := Lib.hid hkeep
    go_wp2_with fail
    refine wp_norm ?_
    refine wp_region_held_drew (S := fun w' => True) (by kernel_rfl) (by exact trivial) (fun hHeld => ?_)
    refine take_l (i := 0) (v := ?_) rfl (by kernel_rfl) (by kernel_rfl) (by kernel_rfl) (fun _ _ _ h => h) (Or.inl ⟨by kernel_rfl, ?_⟩) (by assumption) ?_
    rotate_left
    · intro w hSw; (try dsimp only at hSw); go_simp; (try with_reducible rfl)
    (try simp only [Act.put, List.setIfInBounds_toArray, List.set_cons_zero, List.set_cons_succ])
    refine take_l (i := 1) (v := ?_) rfl (by kernel_rfl) (by kernel_rfl) (by kernel_rfl) (fun _ _ _ h => h) (Or.inl ⟨by kernel_rfl, ?_⟩) (by assumption) ?_
    rotate_left
    · intro w hSw; (try dsimp only at hSw); go_simp; (try with_reducible rfl)
    (try simp only [Act.put, List.setIfInBounds_toArray, List.set_cons_zero, List.set_cons_succ])
    refine take_l (i := 2) (v := ?_) rfl (by kernel_rfl) (by kernel_rfl) (by kernel_rfl) (fun _ _ _ h => h) (Or.inl ⟨by kernel_rfl, ?_⟩) (by assumption) ?_
    rotate_left
    · intro w hSw; (try dsimp only at hSw); go_simp; (try with_reducible rfl)
    (try simp only [Act.put, List.setIfInBounds_toArray, List.set_cons_zero, List.set_cons_succ])
    refine take_l (i := 3) (v := ?_) rfl (by kernel_rfl) (by kernel_rfl) (by kernel_rfl) (fun _ _ _ h => h) (Or.inl ⟨by kernel_rfl, ?_⟩) (by assumption) ?_
    rotate_left
    · intro w hSw; (try dsimp only at hSw); go_simp; (try with_reducible rfl)
    (try simp only [Act.put, List.setIfInBounds_toArray, List.set_cons_zero, List.set_cons_succ])
    refine take_l (i := 4) (v := ?_) rfl (by kernel_rfl) (by kernel_rfl) (by kernel_rfl) (fun _ _ _ h => h) (Or.inl ⟨by kernel_rfl, ?_⟩) (by assumption) ?_
    rotate_left
    · intro w hSw; (try dsimp only at hSw); go_simp; (try with_reducible rfl)
    (try simp only [Act.put, List.setIfInBounds_toArray, List.set_cons_zero, List.set_cons_succ])
    refine take_l (i := 5) (v := ?_) rfl (by kernel_rfl) (by kernel_rfl) (by kernel_rfl) (fun _ _ _ h => h) (Or.inl ⟨by kernel_rfl, ?_⟩) (by assumption) ?_
    rotate_left
    · intro w hSw; (try dsimp only at hSw); go_simp; (try with_reducible rfl)
    (try simp only [Act.put, List.setIfInBounds_toArray, List.set_cons_zero, List.set_cons_succ])
    refine take_l (i := 6) (v := ?_) rfl (by kernel_rfl) (by kernel_rfl) (by kernel_rfl) (fun _ _ _ h => h) (Or.inl ⟨by kernel_rfl, ?_⟩) (by assumption) ?_
    rotate_left
    · intro w hSw; (try dsimp only at hSw); go_simp; (try with_reducible rfl)
    (try simp only [Act.put, List.setIfInBounds_toArray, List.set_cons_zero, List.set_cons_succ])
    refine take_l (i := 7) (v := ?_) rfl (by kernel_rfl) (by kernel_rfl) (by kernel_rfl) (fun _ _ _ h => h) (Or.inl ⟨by kernel_rfl, ?_⟩) (by assumption) ?_
    rotate_left
    · intro w hSw; (try dsimp only at hSw); go_simp; (try with_reducible rfl)
    (try simp only [Act.put, List.setIfInBounds_toArray, List.set_cons_zero, List.set_cons_succ])
    refine take_l (i := 8) (v := ?_) rfl (by kernel_rfl) (by kernel_rfl) (by kernel_rfl) (fun _ _ _ h => h) (Or.inl ⟨by kernel_rfl, ?_⟩) (by assumption) ?_
    rotate_left
    · intro w hSw; (try dsimp only at hSw); go_simp; (try with_reducible rfl)
    (try simp only [Act.put, List.setIfInBounds_toArray, List.set_cons_zero, List.set_cons_succ])
    refine take_l (i := 10) (v := ?_) rfl (by kernel_rfl) (by kernel_rfl) (by kernel_rfl) (fun _ _ _ h => h) (Or.inl ⟨by kernel_rfl, ?_⟩) (by assumption) ?_
    rotate_left
    · intro w hSw; (try dsimp only at hSw); go_simp; (try with_reducible rfl)
    (try simp only [Act.put, List.setIfInBounds_toArray, List.set_cons_zero, List.set_cons_succ])
    refine take_l (i := 11) (v := ?_) rfl (by kernel_rfl) (by kernel_rfl) (by kernel_rfl) (fun _ _ _ h => h) (Or.inl ⟨by kernel_rfl, ?_⟩) (by assumption) ?_
    rotate_left
    · intro w hSw; (try dsimp only at hSw); go_simp; (try with_reducible rfl)
    (try simp only [Act.put, List.setIfInBounds_toArray, List.set_cons_zero, List.set_cons_succ])
    refine take_l (i := 12) (v := ?_) rfl (by kernel_rfl) (by kernel_rfl) (by kernel_rfl) (fun _ _ _ h => h) (Or.inl ⟨by kernel_rfl, ?_⟩) (by assumption) ?_
    rotate_left
    · intro w hSw; (try dsimp only at hSw); go_simp; (try with_reducible rfl)
    (try simp only [Act.put, List.setIfInBounds_toArray, List.set_cons_zero, List.set_cons_succ])
    refine wpAnyH_ready (rs := [9, 13]) (by kernel_rfl) (by simp) ?_
    refine ready_l rfl (fun K hK => ?_) (ready_l rfl (fun K hK => ?_) AllReadyH.nil)
    · go_simp
      refine hK.out _ _ (by exact trivial) (fun hHeld => ?_)
      clear hK K
      (try simp only [Act.put, List.setIfInBounds_toArray, List.set_cons_zero, List.set_cons_succ])
      refine wpAnyH_ready (rs := [13]) (by kernel_rfl) (by simp) ?_
      refine ready_l rfl (fun K hK => ?_) AllReadyH.nil
      go_simp
      refine hK.out _ _ (by exact trivial) (fun hHeld => ?_)
      clear hK K
      (try simp only [Act.put, List.setIfInBounds_toArray, List.set_cons_zero, List.set_cons_succ])
      refine take_l (i := 14) (v := ?_) rfl (by kernel_rfl) (by kernel_rfl) (by kernel_rfl) (fun _ _ _ h => h) (Or.inl ⟨by kernel_rfl, ?_⟩) (by assumption) ?_
      rotate_left
      · intro w hSw; (try dsimp only at hSw); go_simp; (try with_reducible rfl)
      (try simp only [Act.put, List.setIfInBounds_toArray, List.set_cons_zero, List.set_cons_succ])
      refine wpAnyH_ready (rs := [15]) (by kernel_rfl) (by simp) ?_
      refine ready_l rfl (fun K hK => ?_) AllReadyH.nil
      go_simp
      refine hK.out _ _ (by exact trivial) (fun hHeld => ?_)
      clear hK K
      (try simp only [Act.put, List.setIfInBounds_toArray, List.set_cons_zero, List.set_cons_succ])
      refine take_l (i := 16) (v := ?_) rfl (by kernel_rfl) (by kernel_rfl) (by kernel_rfl) (fun _ _ _ h => h) (Or.inl ⟨by kernel_rfl, ?_⟩) (by assumption) ?_
      rotate_left
      · intro w hSw; (try dsimp only at hSw); go_simp; (try with_reducible rfl)
      (try simp only [Act.put, List.setIfInBounds_toArray, List.set_cons_zero, List.set_cons_succ])
      refine wpAnyH_ready (rs := [17]) (by kernel_rfl) (by simp) ?_
      refine ready_l rfl (fun K hK => ?_) AllReadyH.nil
      go_simp
      refine hK.out _ _ (by exact trivial) (fun hHeld => ?_)
      clear hK K
      (try simp only [Act.put, List.setIfInBounds_toArray, List.set_cons_zero, List.set_cons_succ])
      refine wpAnyH_done (by kernel_rfl) ?_ _
      dsimp only [onlyNormal]
      go_wp2_with fail
      first | refine hK _ _ ?_ | skip
      exact ExF.mk rfl rfl (hkp.out.symm ▸ (by kernel_rfl)) (hJ _ _ ⟨rd, ⟨pc + 1, a :: b :: r, ip, out⟩, _, rfl, rfl, by first | rfl | go_num, by first | rfl | go_num, by first | exact hnx.out rd ⟨pc + 1, a :: b :: r, ip, out⟩ _ _ ((Below.refl _ _).drew.trans hT.out.drew.swap.2.1) (hT.out.drew.swap.1) hs.out h.inq h.rle (by have := hol.out; simp; omega) | exact hnx.out rd ⟨pc + 1, a :: b :: r, ip, out⟩ _ _ (hkeep.out.drew) (hT3.out.drew) hs.out h.inq h.rle (by have := hol.out; simp; omega) | exact hnx.out rd ⟨pc + 1, a :: b :: r, ip, out⟩ _ _ (hkeep.out) (hT3.out) hs.out h.inq h.rle (by have := hol.out; simp; omega)⟩)
    · go_simp
      refine hK.out _ _ (by exact trivial) (fun hHeld => ?_)
      clear hK K
      (try simp only [Act.put, List.setIfInBounds_toArray, List.set_cons_zero, List.set_cons_succ])
      refine wpAnyH_ready (rs := [9]) (by kernel_rfl) (by simp) ?_
      refine ready_l rfl (fun K hK => ?_) AllReadyH.nil
      go_simp
      refine hK.out _ _ (by exact trivial) (fun hHeld => ?_)
      clear hK K
      (try simp only [Act.put, List.setIfInBounds_toArray, List.set_cons_zero, List.set_cons_succ])
      refine take_l (i := 14) (v := ?_) rfl (by kernel_rfl) (by kernel_rfl) (by kernel_rfl) (fun _ _ _ h => h) (Or.inl ⟨by kernel_rfl, ?_⟩) (by assumption) ?_
      rotate_left
      · intro w hSw; (try dsimp only at hSw); go_simp; (try with_reducible rfl)
      (try simp only [Act.put, List.setIfInBounds_toArray, List.set_cons_zero, List.set_cons_succ])
      refine wpAnyH_ready (rs := [15]) (by kernel_rfl) (by simp) ?_
      refine ready_l rfl (fun K hK => ?_) AllReadyH.nil
      go_simp
      refine hK.out _ _ (by exact trivial) (fun hHeld => ?_)
      clear hK K
      (try simp only [Act.put, List.setIfInBounds_toArray, List.set_cons_zero, List.set_cons_succ])
      refine take_l (i := 16) (v := ?_) rfl (by kernel_rfl) (by kernel_rfl) (by kernel_rfl) (fun _ _ _ h => h) (Or.inl ⟨by kernel_rfl, ?_⟩) (by assumption) ?_
      rotate_left
      · intro w hSw; (try dsimp only at hSw); go_simp; (try with_reducible rfl)
      (try simp only [Act.put, List.setIfInBounds_toArray, List.set_cons_zero, List.set_cons_succ])
      refine wpAnyH_ready (rs := [17]) (by kernel_rfl) (by simp) ?_
      refine ready_l rfl (fun K hK => ?_) AllReadyH.nil
      go_simp
      refine hK.out _ _ (by exact trivial) (fun hHeld => ?_)
      clear hK K
      (try simp only [Act.put, List.setIfInBounds_toArray, List.set_cons_zero, List.set_cons_succ])
      refine wpAnyH_done (by kernel_rfl) ?_ _
      dsimp only [onlyNormal]
      go_wp2_with fail
      first | refine hK _ _ ?_ | skip
      exact ExF.mk rfl rfl (hkp.out.symm ▸ (by kernel_rfl)) (hJ _ _ ⟨rd, ⟨pc + 1, a :: b :: r, ip, out⟩, _, rfl, rfl, by first | rfl | go_num, by first | rfl | go_num, by first | exact hnx.out rd ⟨pc + 1, a :: b :: r, ip, out⟩ _ _ ((Below.refl _ _).drew.trans hT.out.drew.swap.2.1) (hT.out.drew.swap.1) hs.out h.inq h.rle (by have := hol.out; simp; omega) | exact hnx.out rd ⟨pc + 1, a :: b :: r, ip, out⟩ _ _ (hkeep.out.drew) (hT3.out.drew) hs.out h.inq h.rle (by have := hol.out; simp; omega) | exact hnx.out rd ⟨pc + 1, a :: b :: r, ip, out⟩ _ _ (hkeep.out) (hT3.out) hs.out h.inq h.rle (by have := hol.out; simp; omega)⟩)
set_option maxRecDepth 100000 in
set_option maxHeartbeats 8000000 in
theorem safe_op4 {L : List Ins} {inp : List UInt8} {P : ByteArray} {w4 : World} {gL cap m rd n pc : Nat} {st : List Int} {ip out : List UInt8} {sn' : List Int} {zo zd yB : Nat} {sa : Option Addr} {sc : Nat} {u : Nat → Value} {V : World} (hx : SafeCtx L inp P w4 gL cap m u) (h : OpAt L inp w4 gL rd n pc st ip out sn' zo 4 zd yB sa sc u V)
    (J : (Nat → Value) → World → Prop) (K : Act → World → Prop) (Q : Exit → Act → World → Prop) (hJ : ∀ u' W', OpR L inp w4 n sn' u' W' → J u' W') (hK : ∀ a' W', ExF 363 keepO u J a' W' → K a' W') : (Code.block 4 sw4).wp Tryd.prog (Exit.then K Q) (frameOf 363 u) V := by
  have hpc := h.pcl
  have hll := hx.len
  have hwp : IntKind.i64.wrap ((pc : Int) + 1) = (pc : Int) + 1 := IntWalk.i64_in _ (by omega)
  have hzop : L[pc]!.op = 4 := by rw [h.ins]
  have hzd : L[pc]!.opd = zd := by rw [h.ins]
  have y2 := h.y2
  have htk := h.tak
  have h16 := h.l16
  have hsiz := h.siz
  have hT := h.two
  have hnx := h.next
  have hol := h.ol
  have hkp := (keepO_eq u).trans (by rw [hx.s4, hx.s15, hx.s17, hx.s19])
  rw [frame363, hx.s4, hx.s15, hx.s17, hx.s19, h.s20, h.s21, h.s22, h.s25, h.s26, h.s27, h.s158]
  replace hnx := Lib.hid hnx
  replace hkp := Lib.hid hkp
  replace hol := Lib.hid hol
  replace hzop := Lib.hid hzop
  replace hzd := Lib.hid hzd
  conv => arg 2; arg 2; whnf
  cases st with
  | nil => (simp [takesOp] at htk)
  | cons b r =>
  cases r with
  | nil => (simp [takesOp] at htk)
  | cons a r =>
    obtain ⟨sg, sc1, e1, hsc1, hscm, cA, cB, hT1⟩ := hT.pop2
    injection e1 with e1 _ e2
    subst e1 e2
    have hsl := fun W => slice_to (some ⟨sg, 0, none⟩) (r.length + 1 + 1) sc (r.length + 1) (by omega) W
    rw [List.length_cons, List.length_cons] at htk h16
    have hwl : IntKind.i64.wrap ((r.length : Int) + 1 - 1) = (r.length : Int) := by rw [show (r.length : Int) + 1 - 1 = (r.length : Int) by omega]; exact IntWalk.i64_in _ (by omega)
    have hwl2 : (r.length : Int) + 1 - 1 = (r.length : Int) := by omega
    have hwl0 : IntKind.i64.wrap (r.length : Int) = (r.length : Int) := IntWalk.i64_in _ (by omega)
    have l0 : (0 : Int) ≤ (r.length : Int) := by omega
    have l1 : (0 : Int) ≤ (r.length : Int) + 1 := by omega
    have l2 : (r.length : Int) < (r.length : Int) + 1 + 1 := by omega
    have l3 : (r.length : Int) + 1 < (r.length : Int) + 1 + 1 := by omega
    have l4 : ((r.length : Int) + 1).toNat = r.length + 1 := by omega
    replace hT := Lib.hid hT
    replace hT1 := Lib.hid hT1
    simp only [List.length_cons, Int.natCast_add, Int.cast_ofNat_Int, Int.add_sub_cancel]
    obtain ⟨sm, hsm⟩ : ∃ s, s = w64 (a + b) := ⟨_, rfl⟩
    have hw1 : IntKind.i64.wrap (a + b) = sm := hsm.symm
    have hw2 : wrap64 (a + b) = sm := by rw [hsm, w64_wrap]
    have hs : Hid (stepM L ⟨pc, (b :: a :: r), ip, out⟩ = .go ⟨pc + 1, sm :: r, ip, out⟩) := by show _ = _; rw [stepc (by rw [hzop.out]; omega), hzop.out, hzd.out, hsm]; rfl
    replace hsm := Lib.hid hsm
    obtain ⟨hT3, hkeep, fA⟩ := hT.out.calc sm
    replace hT3 := Lib.hid hT3
    replace hkeep := Lib.hid hkeep
    go_wp2_with fail
    refine wp_norm ?_
    refine wp_region_held_drew (S := fun w' => w'.cell? ⟨sg, r.length + 1, none⟩ = some (.int .i64 b)) (by kernel_rfl) (by go_keep) (fun hHeld => ?_)
    refine take_l (i := 0) (v := ?_) rfl (by kernel_rfl) (by kernel_rfl) (by kernel_rfl) (fun _ _ _ h => h) (Or.inl ⟨by kernel_rfl, ?_⟩) (by assumption) ?_
    rotate_left
    · intro w hSw; (try dsimp only at hSw); go_simp; (try with_reducible rfl)
    (try simp only [Act.put, List.setIfInBounds_toArray, List.set_cons_zero, List.set_cons_succ])
    refine take_l (i := 1) (v := ?_) rfl (by kernel_rfl) (by kernel_rfl) (by kernel_rfl) (fun _ _ _ h => h) (Or.inl ⟨by kernel_rfl, ?_⟩) (by assumption) ?_
    rotate_left
    · intro w hSw; (try dsimp only at hSw); go_simp; (try with_reducible rfl)
    (try simp only [Act.put, List.setIfInBounds_toArray, List.set_cons_zero, List.set_cons_succ])
    refine take_l (i := 2) (v := ?_) rfl (by kernel_rfl) (by kernel_rfl) (by kernel_rfl) (fun _ _ _ h => h) (Or.inl ⟨by kernel_rfl, ?_⟩) (by assumption) ?_
    rotate_left
    · intro w hSw; (try dsimp only at hSw); go_simp; (try with_reducible rfl)
    (try simp only [Act.put, List.setIfInBounds_toArray, List.set_cons_zero, List.set_cons_succ])
    refine take_l (i := 3) (v := ?_) rfl (by kernel_rfl) (by kernel_rfl) (by kernel_rfl) (fun _ _ _ h => h) (Or.inl ⟨by kernel_rfl, ?_⟩) (by assumption) ?_
    rotate_left
    · intro w hSw; (try dsimp only at hSw); go_simp; (try with_reducible rfl)
    (try simp only [Act.put, List.setIfInBounds_toArray, List.set_cons_zero, List.set_cons_succ])
    refine take_l (i := 4) (v := ?_) rfl (by kernel_rfl) (by kernel_rfl) (by kernel_rfl) (fun _ _ _ h => h) (Or.inl ⟨by kernel_rfl, ?_⟩) (by assumption) ?_
    rotate_left
    · intro w hSw; (try dsimp only at hSw); go_simp; (try with_reducible rfl)
    (try simp only [Act.put, List.setIfInBounds_toArray, List.set_cons_zero, List.set_cons_succ])
    refine take_l (i := 5) (v := ?_) rfl (by kernel_rfl) (by kernel_rfl) (by kernel_rfl) (fun _ _ _ h => h) (Or.inl ⟨by kernel_rfl, ?_⟩) (by assumption) ?_
    rotate_left
    · intro w hSw; (try dsimp only at hSw); go_simp; (try with_reducible rfl)
    (try simp only [Act.put, List.setIfInBounds_toArray, List.set_cons_zero, List.set_cons_succ])
    refine take_l (i := 6) (v := ?_) rfl (by kernel_rfl) (by kernel_rfl) (by kernel_rfl) (fun _ _ _ h => h) (Or.inl ⟨by kernel_rfl, ?_⟩) (by assumption) ?_
    rotate_left
    · intro w hSw; (try dsimp only at hSw); go_simp; (try with_reducible rfl)
    (try simp only [Act.put, List.setIfInBounds_toArray, List.set_cons_zero, List.set_cons_succ])
    refine take_l (i := 8) (v := ?_) rfl (by kernel_rfl) (by kernel_rfl) (by kernel_rfl) (fun _ _ _ h => h) (Or.inl ⟨by kernel_rfl, ?_⟩) (by assumption) ?_
    rotate_left
    · intro w hSw; (try dsimp only at hSw); go_simp; (try with_reducible rfl)
    (try simp only [Act.put, List.setIfInBounds_toArray, List.set_cons_zero, List.set_cons_succ])
    refine take_l (i := 9) (v := ?_) rfl (by kernel_rfl) (by kernel_rfl) (by kernel_rfl) (fun _ _ _ h => h) (Or.inl ⟨by kernel_rfl, ?_⟩) (by assumption) ?_
    rotate_left
    · intro w hSw; (try dsimp only at hSw); go_simp; (try with_reducible rfl)
    (try simp only [Act.put, List.setIfInBounds_toArray, List.set_cons_zero, List.set_cons_succ])
    refine take_l (i := 10) (v := ?_) rfl (by kernel_rfl) (by kernel_rfl) (by kernel_rfl) (fun _ _ _ h => h) (Or.inl ⟨by kernel_rfl, ?_⟩) (by assumption) ?_
    rotate_left
    · intro w hSw; (try dsimp only at hSw); go_simp; (try with_reducible rfl)
    (try simp only [Act.put, List.setIfInBounds_toArray, List.set_cons_zero, List.set_cons_succ])
    refine take_l (i := 11) (v := ?_) rfl (by kernel_rfl) (by kernel_rfl) (by kernel_rfl) (fun _ _ _ h => h) (Or.inl ⟨by kernel_rfl, ?_⟩) (by assumption) ?_
    rotate_left
    · intro w hSw; (try dsimp only at hSw); go_simp; (try with_reducible rfl)
    (try simp only [Act.put, List.setIfInBounds_toArray, List.set_cons_zero, List.set_cons_succ])
    refine wpAnyH_ready (rs := [7]) (by kernel_rfl) (by simp) ?_
    refine ready_l rfl (fun K hK => ?_) AllReadyH.nil
    go_simp
    refine hK.out _ _ (by go_keep) (fun hHeld => ?_)
    clear hK K
    (try simp only [Act.put, List.setIfInBounds_toArray, List.set_cons_zero, List.set_cons_succ])
    refine take_l (i := 12) (v := ?_) rfl (by kernel_rfl) (by kernel_rfl) (by kernel_rfl) (fun _ _ _ h => h) (Or.inl ⟨by kernel_rfl, ?_⟩) (by assumption) ?_
    rotate_left
    · intro w hSw; (try dsimp only at hSw); go_simp; (try with_reducible rfl)
    (try simp only [Act.put, List.setIfInBounds_toArray, List.set_cons_zero, List.set_cons_succ])
    refine take_l (i := 13) (v := ?_) rfl (by kernel_rfl) (by kernel_rfl) (by kernel_rfl) (fun _ _ _ h => h) (Or.inl ⟨by kernel_rfl, ?_⟩) (by assumption) ?_
    rotate_left
    · intro w hSw; (try dsimp only at hSw); go_simp; (try with_reducible rfl)
    (try simp only [Act.put, List.setIfInBounds_toArray, List.set_cons_zero, List.set_cons_succ])
    refine wpAnyH_ready (rs := [14]) (by kernel_rfl) (by simp) ?_
    refine ready_l rfl (fun K hK => ?_) AllReadyH.nil
    go_simp
    refine hK.out _ _ (by (show (World.setCell _ _ _).cell? _ = _; rw [World.cell?_setCell_other _ _ _ _ (by intro e; injection e with _ e; omega)]; exact cB)) (fun hHeld => ?_)
    clear hK K
    (try simp only [Act.put, List.setIfInBounds_toArray, List.set_cons_zero, List.set_cons_succ])
    refine wpAnyH_done (by kernel_rfl) ?_ _
    dsimp only [onlyNormal]
    go_wp2_with fail
    first | refine hK _ _ ?_ | skip
    exact ExF.mk rfl rfl (hkp.out.symm ▸ (by kernel_rfl)) (hJ _ _ ⟨rd, ⟨pc + 1, sm :: r, ip, out⟩, _, rfl, rfl, by first | rfl | go_num, by first | rfl | go_num, by first | exact hnx.out rd ⟨pc + 1, sm :: r, ip, out⟩ _ _ ((Below.refl _ _).drew.trans (hT.out.drew.calc sm).2.1) ((hT.out.drew.calc sm).1) hs.out h.inq h.rle (by have := hol.out; simp; omega) | exact hnx.out rd ⟨pc + 1, sm :: r, ip, out⟩ _ _ (hkeep.out.drew) (hT3.out.drew) hs.out h.inq h.rle (by have := hol.out; simp; omega) | exact hnx.out rd ⟨pc + 1, sm :: r, ip, out⟩ _ _ (hkeep.out) (hT3.out) hs.out h.inq h.rle (by have := hol.out; simp; omega)⟩)
set_option maxRecDepth 100000 in
set_option maxHeartbeats 8000000 in
theorem safe_op5 {L : List Ins} {inp : List UInt8} {P : ByteArray} {w4 : World} {gL cap m rd n pc : Nat} {st : List Int} {ip out : List UInt8} {sn' : List Int} {zo zd yB : Nat} {sa : Option Addr} {sc : Nat} {u : Nat → Value} {V : World} (hx : SafeCtx L inp P w4 gL cap m u) (h : OpAt L inp w4 gL rd n pc st ip out sn' zo 5 zd yB sa sc u V)
    (J : (Nat → Value) → World → Prop) (K : Act → World → Prop) (Q : Exit → Act → World → Prop) (hJ : ∀ u' W', OpR L inp w4 n sn' u' W' → J u' W') (hK : ∀ a' W', ExF 363 keepO u J a' W' → K a' W') : (Code.block 4 sw4).wp Tryd.prog (Exit.then K Q) (frameOf 363 u) V := by
  have hpc := h.pcl
  have hll := hx.len
  have hwp : IntKind.i64.wrap ((pc : Int) + 1) = (pc : Int) + 1 := IntWalk.i64_in _ (by omega)
  have hzop : L[pc]!.op = 5 := by rw [h.ins]
  have hzd : L[pc]!.opd = zd := by rw [h.ins]
  have y2 := h.y2
  have htk := h.tak
  have h16 := h.l16
  have hsiz := h.siz
  have hT := h.two
  have hnx := h.next
  have hol := h.ol
  have hkp := (keepO_eq u).trans (by rw [hx.s4, hx.s15, hx.s17, hx.s19])
  rw [frame363, hx.s4, hx.s15, hx.s17, hx.s19, h.s20, h.s21, h.s22, h.s25, h.s26, h.s27, h.s158]
  replace hnx := Lib.hid hnx
  replace hkp := Lib.hid hkp
  replace hol := Lib.hid hol
  replace hzop := Lib.hid hzop
  replace hzd := Lib.hid hzd
  conv => arg 2; arg 2; whnf
  cases st with
  | nil => (simp [takesOp] at htk)
  | cons b r =>
  cases r with
  | nil => (simp [takesOp] at htk)
  | cons a r =>
    obtain ⟨sg, sc1, e1, hsc1, hscm, cA, cB, hT1⟩ := hT.pop2
    injection e1 with e1 _ e2
    subst e1 e2
    have hsl := fun W => slice_to (some ⟨sg, 0, none⟩) (r.length + 1 + 1) sc (r.length + 1) (by omega) W
    rw [List.length_cons, List.length_cons] at htk h16
    have hwl : IntKind.i64.wrap ((r.length : Int) + 1 - 1) = (r.length : Int) := by rw [show (r.length : Int) + 1 - 1 = (r.length : Int) by omega]; exact IntWalk.i64_in _ (by omega)
    have hwl2 : (r.length : Int) + 1 - 1 = (r.length : Int) := by omega
    have hwl0 : IntKind.i64.wrap (r.length : Int) = (r.length : Int) := IntWalk.i64_in _ (by omega)
    have l0 : (0 : Int) ≤ (r.length : Int) := by omega
    have l1 : (0 : Int) ≤ (r.length : Int) + 1 := by omega
    have l2 : (r.length : Int) < (r.length : Int) + 1 + 1 := by omega
    have l3 : (r.length : Int) + 1 < (r.length : Int) + 1 + 1 := by omega
    have l4 : ((r.length : Int) + 1).toNat = r.length + 1 := by omega
    replace hT := Lib.hid hT
    replace hT1 := Lib.hid hT1
    simp only [List.length_cons, Int.natCast_add, Int.cast_ofNat_Int, Int.add_sub_cancel]
    obtain ⟨sm, hsm⟩ : ∃ s, s = w64 (a - b) := ⟨_, rfl⟩
    have hw1 : IntKind.i64.wrap (a - b) = sm := hsm.symm
    have hw2 : wrap64 (a - b) = sm := by rw [hsm, w64_wrap]
    have hs : Hid (stepM L ⟨pc, (b :: a :: r), ip, out⟩ = .go ⟨pc + 1, sm :: r, ip, out⟩) := by show _ = _; rw [stepc (by rw [hzop.out]; omega), hzop.out, hzd.out, hsm]; rfl
    replace hsm := Lib.hid hsm
    obtain ⟨hT3, hkeep, fA⟩ := hT.out.calc sm
    replace hT3 := Lib.hid hT3
    replace hkeep := Lib.hid hkeep
    go_wp2_with fail
    refine wp_norm ?_
    refine wp_region_held_drew (S := fun w' => w'.cell? ⟨sg, r.length + 1, none⟩ = some (.int .i64 b)) (by kernel_rfl) (by go_keep) (fun hHeld => ?_)
    refine take_l (i := 0) (v := ?_) rfl (by kernel_rfl) (by kernel_rfl) (by kernel_rfl) (fun _ _ _ h => h) (Or.inl ⟨by kernel_rfl, ?_⟩) (by assumption) ?_
    rotate_left
    · intro w hSw; (try dsimp only at hSw); go_simp; (try with_reducible rfl)
    (try simp only [Act.put, List.setIfInBounds_toArray, List.set_cons_zero, List.set_cons_succ])
    refine take_l (i := 1) (v := ?_) rfl (by kernel_rfl) (by kernel_rfl) (by kernel_rfl) (fun _ _ _ h => h) (Or.inl ⟨by kernel_rfl, ?_⟩) (by assumption) ?_
    rotate_left
    · intro w hSw; (try dsimp only at hSw); go_simp; (try with_reducible rfl)
    (try simp only [Act.put, List.setIfInBounds_toArray, List.set_cons_zero, List.set_cons_succ])
    refine take_l (i := 2) (v := ?_) rfl (by kernel_rfl) (by kernel_rfl) (by kernel_rfl) (fun _ _ _ h => h) (Or.inl ⟨by kernel_rfl, ?_⟩) (by assumption) ?_
    rotate_left
    · intro w hSw; (try dsimp only at hSw); go_simp; (try with_reducible rfl)
    (try simp only [Act.put, List.setIfInBounds_toArray, List.set_cons_zero, List.set_cons_succ])
    refine take_l (i := 3) (v := ?_) rfl (by kernel_rfl) (by kernel_rfl) (by kernel_rfl) (fun _ _ _ h => h) (Or.inl ⟨by kernel_rfl, ?_⟩) (by assumption) ?_
    rotate_left
    · intro w hSw; (try dsimp only at hSw); go_simp; (try with_reducible rfl)
    (try simp only [Act.put, List.setIfInBounds_toArray, List.set_cons_zero, List.set_cons_succ])
    refine take_l (i := 4) (v := ?_) rfl (by kernel_rfl) (by kernel_rfl) (by kernel_rfl) (fun _ _ _ h => h) (Or.inl ⟨by kernel_rfl, ?_⟩) (by assumption) ?_
    rotate_left
    · intro w hSw; (try dsimp only at hSw); go_simp; (try with_reducible rfl)
    (try simp only [Act.put, List.setIfInBounds_toArray, List.set_cons_zero, List.set_cons_succ])
    refine take_l (i := 5) (v := ?_) rfl (by kernel_rfl) (by kernel_rfl) (by kernel_rfl) (fun _ _ _ h => h) (Or.inl ⟨by kernel_rfl, ?_⟩) (by assumption) ?_
    rotate_left
    · intro w hSw; (try dsimp only at hSw); go_simp; (try with_reducible rfl)
    (try simp only [Act.put, List.setIfInBounds_toArray, List.set_cons_zero, List.set_cons_succ])
    refine take_l (i := 6) (v := ?_) rfl (by kernel_rfl) (by kernel_rfl) (by kernel_rfl) (fun _ _ _ h => h) (Or.inl ⟨by kernel_rfl, ?_⟩) (by assumption) ?_
    rotate_left
    · intro w hSw; (try dsimp only at hSw); go_simp; (try with_reducible rfl)
    (try simp only [Act.put, List.setIfInBounds_toArray, List.set_cons_zero, List.set_cons_succ])
    refine take_l (i := 8) (v := ?_) rfl (by kernel_rfl) (by kernel_rfl) (by kernel_rfl) (fun _ _ _ h => h) (Or.inl ⟨by kernel_rfl, ?_⟩) (by assumption) ?_
    rotate_left
    · intro w hSw; (try dsimp only at hSw); go_simp; (try with_reducible rfl)
    (try simp only [Act.put, List.setIfInBounds_toArray, List.set_cons_zero, List.set_cons_succ])
    refine take_l (i := 9) (v := ?_) rfl (by kernel_rfl) (by kernel_rfl) (by kernel_rfl) (fun _ _ _ h => h) (Or.inl ⟨by kernel_rfl, ?_⟩) (by assumption) ?_
    rotate_left
    · intro w hSw; (try dsimp only at hSw); go_simp; (try with_reducible rfl)
    (try simp only [Act.put, List.setIfInBounds_toArray, List.set_cons_zero, List.set_cons_succ])
    refine take_l (i := 10) (v := ?_) rfl (by kernel_rfl) (by kernel_rfl) (by kernel_rfl) (fun _ _ _ h => h) (Or.inl ⟨by kernel_rfl, ?_⟩) (by assumption) ?_
    rotate_left
    · intro w hSw; (try dsimp only at hSw); go_simp; (try with_reducible rfl)
    (try simp only [Act.put, List.setIfInBounds_toArray, List.set_cons_zero, List.set_cons_succ])
    refine take_l (i := 11) (v := ?_) rfl (by kernel_rfl) (by kernel_rfl) (by kernel_rfl) (fun _ _ _ h => h) (Or.inl ⟨by kernel_rfl, ?_⟩) (by assumption) ?_
    rotate_left
    · intro w hSw; (try dsimp only at hSw); go_simp; (try with_reducible rfl)
    (try simp only [Act.put, List.setIfInBounds_toArray, List.set_cons_zero, List.set_cons_succ])
    refine wpAnyH_ready (rs := [7]) (by kernel_rfl) (by simp) ?_
    refine ready_l rfl (fun K hK => ?_) AllReadyH.nil
    go_simp
    refine hK.out _ _ (by go_keep) (fun hHeld => ?_)
    clear hK K
    (try simp only [Act.put, List.setIfInBounds_toArray, List.set_cons_zero, List.set_cons_succ])
    refine take_l (i := 12) (v := ?_) rfl (by kernel_rfl) (by kernel_rfl) (by kernel_rfl) (fun _ _ _ h => h) (Or.inl ⟨by kernel_rfl, ?_⟩) (by assumption) ?_
    rotate_left
    · intro w hSw; (try dsimp only at hSw); go_simp; (try with_reducible rfl)
    (try simp only [Act.put, List.setIfInBounds_toArray, List.set_cons_zero, List.set_cons_succ])
    refine take_l (i := 13) (v := ?_) rfl (by kernel_rfl) (by kernel_rfl) (by kernel_rfl) (fun _ _ _ h => h) (Or.inl ⟨by kernel_rfl, ?_⟩) (by assumption) ?_
    rotate_left
    · intro w hSw; (try dsimp only at hSw); go_simp; (try with_reducible rfl)
    (try simp only [Act.put, List.setIfInBounds_toArray, List.set_cons_zero, List.set_cons_succ])
    refine wpAnyH_ready (rs := [14]) (by kernel_rfl) (by simp) ?_
    refine ready_l rfl (fun K hK => ?_) AllReadyH.nil
    go_simp
    refine hK.out _ _ (by (show (World.setCell _ _ _).cell? _ = _; rw [World.cell?_setCell_other _ _ _ _ (by intro e; injection e with _ e; omega)]; exact cB)) (fun hHeld => ?_)
    clear hK K
    (try simp only [Act.put, List.setIfInBounds_toArray, List.set_cons_zero, List.set_cons_succ])
    refine wpAnyH_done (by kernel_rfl) ?_ _
    dsimp only [onlyNormal]
    go_wp2_with fail
    first | refine hK _ _ ?_ | skip
    exact ExF.mk rfl rfl (hkp.out.symm ▸ (by kernel_rfl)) (hJ _ _ ⟨rd, ⟨pc + 1, sm :: r, ip, out⟩, _, rfl, rfl, by first | rfl | go_num, by first | rfl | go_num, by first | exact hnx.out rd ⟨pc + 1, sm :: r, ip, out⟩ _ _ ((Below.refl _ _).drew.trans (hT.out.drew.calc sm).2.1) ((hT.out.drew.calc sm).1) hs.out h.inq h.rle (by have := hol.out; simp; omega) | exact hnx.out rd ⟨pc + 1, sm :: r, ip, out⟩ _ _ (hkeep.out.drew) (hT3.out.drew) hs.out h.inq h.rle (by have := hol.out; simp; omega) | exact hnx.out rd ⟨pc + 1, sm :: r, ip, out⟩ _ _ (hkeep.out) (hT3.out) hs.out h.inq h.rle (by have := hol.out; simp; omega)⟩)
end Go.Proofs.YtainohbfcehpoaaDoor
