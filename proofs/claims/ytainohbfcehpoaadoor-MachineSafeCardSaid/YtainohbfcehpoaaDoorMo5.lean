/-
  MachineSafe: operations 0, 1, 3. (Printed by genmo4.py.)
-/
import Derived.Test.YtainohbfcehpoaaDoorMo4
import Derived.RegionTactic
import Derived.BigRegion
import Derived.BigQuiet
namespace Go.Proofs.YtainohbfcehpoaaDoor
open Go.RowKit Go.Shelf

set_option maxRecDepth 100000 in
set_option maxHeartbeats 8000000 in
theorem safe_op0 {L : List Ins} {inp : List UInt8} {P : ByteArray} {w4 : World} {gL cap m rd n pc : Nat} {st : List Int} {ip out : List UInt8} {sn' : List Int} {zo zd yB : Nat} {sa : Option Addr} {sc : Nat} {u : Nat → Value} {V : World} (hx : SafeCtx L inp P w4 gL cap m u) (h : OpAt L inp w4 gL rd n pc st ip out sn' zo 0 zd yB sa sc u V)
    (J : (Nat → Value) → World → Prop) (K : Act → World → Prop) (Q : Exit → Act → World → Prop) (hJ : ∀ u' W', OpR L inp w4 n sn' u' W' → J u' W') (hK : ∀ a' W', ExF 363 keepO u J a' W' → K a' W') : (Code.block 4 sw4).wp Tryd.prog (Exit.then K Q) (frameOf 363 u) V := by
  have hpc := h.pcl
  have hll := hx.len
  have hwp : IntKind.i64.wrap ((pc : Int) + 1) = (pc : Int) + 1 := IntWalk.i64_in _ (by omega)
  have hzop : L[pc]!.op = 0 := by rw [h.ins]
  have hzd : L[pc]!.opd = zd := by rw [h.ins]
  have y2 := h.y2
  have htk := h.tak
  have h16 := h.l16
  have hsiz := h.siz
  have hT := h.two
  have hnx := h.next
  have hol := h.ol
  have hkp := (keepO_eq u).trans (by rw [hx.s4, hx.s15, hx.s17, hx.s19])
  rw [frame363, hx.s4, hx.s15, hx.s17, hx.s19, h.s20, h.s21, h.s22, h.s25, h.s26, h.s27, h.s158]
  replace hnx := Lib.hid hnx
  replace hkp := Lib.hid hkp
  replace hol := Lib.hid hol
  replace hzop := Lib.hid hzop
  replace hzd := Lib.hid hzd
  conv => arg 2; arg 2; whnf
  have hwl : IntKind.i64.wrap (st.length : Int) = (st.length : Int) := IntWalk.i64_in _ (by omega)
  obtain ⟨sa', sc', e1, hsl1⟩ := hT.le
  have hs : Hid (stepM L ⟨pc, st, ip, out⟩ = .go ⟨pc + 1, (zd : Int) :: st, ip, out⟩) := by show _ = _; rw [stepc (by rw [hzop.out]; omega), hzop.out, hzd.out]; rfl
  have hal : Below V.heap.size V (V.alloc (.cells #[.int .i64 (zd : Int)] 3)) := (Below.refl _ _).alloc (Nat.le_refl _) _
  obtain ⟨v3, W3, hrun3, ⟨a3, c3, rfl⟩, hT3, hBf3⟩ := (hT.below hal).push [(zd : Int)] V.heap.size (Arr.new rfl rfl) (by first | omega | (simp at h16 ⊢; omega)) (by simp) (by simp; omega)
  have hkeep := hBf3 V ((Below.refl _ _).alloc (by omega) _)
  obtain ⟨k3, hk3⟩ : ∃ k3, k3 = st.length + [(zd : Int)].length := ⟨_, rfl⟩
  rw [← hk3] at hrun3 hT3
  replace hrun3 := Lib.hid hrun3
  replace hk3 := Lib.hid hk3
  clear hal hBf3
  replace hT3 := Lib.hid hT3
  replace hkeep := Lib.hid hkeep
  go_wp2_with (at_builtin; go_loud (refine wpList_append_known rfl _ _ _ _ rfl _ _ rfl rfl hrun3.out ?_))
  first | refine hK _ _ ?_ | skip
  exact ExF.mk rfl rfl (hkp.out.symm ▸ (by kernel_rfl)) (hJ _ _ ⟨rd, ⟨pc + 1, (zd : Int) :: st, ip, out⟩, _, rfl, rfl, by first | rfl | go_num, by first | rfl | go_num, hnx.out rd ⟨pc + 1, (zd : Int) :: st, ip, out⟩ _ _ hkeep.out hT3.out hs.out h.inq h.rle (by have := hol.out; simp; omega)⟩)
set_option maxRecDepth 100000 in
set_option maxHeartbeats 8000000 in
theorem safe_op1 {L : List Ins} {inp : List UInt8} {P : ByteArray} {w4 : World} {gL cap m rd n pc : Nat} {st : List Int} {ip out : List UInt8} {sn' : List Int} {zo zd yB : Nat} {sa : Option Addr} {sc : Nat} {u : Nat → Value} {V : World} (hx : SafeCtx L inp P w4 gL cap m u) (h : OpAt L inp w4 gL rd n pc st ip out sn' zo 1 zd yB sa sc u V)
    (J : (Nat → Value) → World → Prop) (K : Act → World → Prop) (Q : Exit → Act → World → Prop) (hJ : ∀ u' W', OpR L inp w4 n sn' u' W' → J u' W') (hK : ∀ a' W', ExF 363 keepO u J a' W' → K a' W') : (Code.block 4 sw4).wp Tryd.prog (Exit.then K Q) (frameOf 363 u) V := by
  have hpc := h.pcl
  have hll := hx.len
  have hwp : IntKind.i64.wrap ((pc : Int) + 1) = (pc : Int) + 1 := IntWalk.i64_in _ (by omega)
  have hzop : L[pc]!.op = 1 := by rw [h.ins]
  have hzd : L[pc]!.opd = zd := by rw [h.ins]
  have y2 := h.y2
  have htk := h.tak
  have h16 := h.l16
  have hsiz := h.siz
  have hT := h.two
  have hnx := h.next
  have hol := h.ol
  have hkp := (keepO_eq u).trans (by rw [hx.s4, hx.s15, hx.s17, hx.s19])
  rw [frame363, hx.s4, hx.s15, hx.s17, hx.s19, h.s20, h.s21, h.s22, h.s25, h.s26, h.s27, h.s158]
  replace hnx := Lib.hid hnx
  replace hkp := Lib.hid hkp
  replace hol := Lib.hid hol
  replace hzop := Lib.hid hzop
  replace hzd := Lib.hid hzd
  conv => arg 2; arg 2; whnf
  cases st with
  | nil => (simp [takesOp] at htk)
  | cons a r =>
    obtain ⟨sg, sc1, e1, hsc1, hscm, cA, hT1⟩ := hT.pop1
    injection e1 with e1 _ e2
    subst e1 e2
    have hsl := fun W => slice_to (some ⟨sg, 0, none⟩) (r.length + 1) sc r.length (by omega) W
    rw [List.length_cons] at htk h16
    have hwl : IntKind.i64.wrap ((r.length : Int) + 1 - 1) = (r.length : Int) := by rw [show (r.length : Int) + 1 - 1 = (r.length : Int) by omega]; exact IntWalk.i64_in _ (by omega)
    have hwe : (r.length : Int) + 1 - 1 = (r.length : Int) := by omega
    have l0 : (0 : Int) ≤ (r.length : Int) := by omega
    have l1 : (r.length : Int) < (r.length : Int) + 1 := by omega
    replace hT := Lib.hid hT
    replace hT1 := Lib.hid hT1
    simp only [List.length_cons, Int.natCast_add, Int.cast_ofNat_Int, Int.add_sub_cancel]
    have hs : Hid (stepM L ⟨pc, (a :: r), ip, out⟩ = .go ⟨pc + 1, a :: a :: r, ip, out⟩) := by show _ = _; rw [stepc (by rw [hzop.out]; omega), hzop.out, hzd.out]; rfl
    have hal : Below V.heap.size V (V.alloc (.cells #[.int .i64 a] 3)) := (Below.refl _ _).alloc (Nat.le_refl _) _
    obtain ⟨v3, W3, hrun3, ⟨a3, c3, rfl⟩, hT3, hBf3⟩ := (hT.out.below hal).push [a] V.heap.size (Arr.new rfl rfl) (by first | omega | (simp at h16 ⊢; omega)) (by simp) (by simp; omega)
    have hkeep := hBf3 V ((Below.refl _ _).alloc (by omega) _)
    obtain ⟨k3, hk3⟩ : ∃ k3, k3 = (a :: r).length + [a].length := ⟨_, rfl⟩
    rw [← hk3] at hrun3 hT3
    replace hrun3 := Lib.hid hrun3
    replace hk3 := Lib.hid hk3
    clear hal hBf3
    replace hT3 := Lib.hid hT3
    replace hkeep := Lib.hid hkeep
    go_wp2_with (at_builtin; go_loud (refine wpList_append_known rfl _ _ _ _ rfl _ _ rfl rfl hrun3.out ?_))
    first | refine hK _ _ ?_ | skip
    exact ExF.mk rfl rfl (hkp.out.symm ▸ (by kernel_rfl)) (hJ _ _ ⟨rd, ⟨pc + 1, a :: a :: r, ip, out⟩, _, rfl, rfl, by first | rfl | go_num, by first | rfl | go_num, hnx.out rd ⟨pc + 1, a :: a :: r, ip, out⟩ _ _ hkeep.out hT3.out hs.out h.inq h.rle (by have := hol.out; simp; omega)⟩)
set_option maxRecDepth 100000 in
set_option maxHeartbeats 8000000 in
theorem safe_op3 {L : List Ins} {inp : List UInt8} {P : ByteArray} {w4 : World} {gL cap m rd n pc : Nat} {st : List Int} {ip out : List UInt8} {sn' : List Int} {zo zd yB : Nat} {sa : Option Addr} {sc : Nat} {u : Nat → Value} {V : World} (hx : SafeCtx L inp P w4 gL cap m u) (h : OpAt L inp w4 gL rd n pc st ip out sn' zo 3 zd yB sa sc u V)
    (J : (Nat → Value) → World → Prop) (K : Act → World → Prop) (Q : Exit → Act → World → Prop) (hJ : ∀ u' W', OpR L inp w4 n sn' u' W' → J u' W') (hK : ∀ a' W', ExF 363 keepO u J a' W' → K a' W') : (Code.block 4 sw4).wp Tryd.prog (Exit.then K Q) (frameOf 363 u) V := by
  have hpc := h.pcl
  have hll := hx.len
  have hwp : IntKind.i64.wrap ((pc : Int) + 1) = (pc : Int) + 1 := IntWalk.i64_in _ (by omega)
  have hzop : L[pc]!.op = 3 := by rw [h.ins]
  have hzd : L[pc]!.opd = zd := by rw [h.ins]
  have y2 := h.y2
  have htk := h.tak
  have h16 := h.l16
  have hsiz := h.siz
  have hT := h.two
  have hnx := h.next
  have hol := h.ol
  have hkp := (keepO_eq u).trans (by rw [hx.s4, hx.s15, hx.s17, hx.s19])
  rw [frame363, hx.s4, hx.s15, hx.s17, hx.s19, h.s20, h.s21, h.s22, h.s25, h.s26, h.s27, h.s158]
  replace hnx := Lib.hid hnx
  replace hkp := Lib.hid hkp
  replace hol := Lib.hid hol
  replace hzop := Lib.hid hzop
  replace hzd := Lib.hid hzd
  conv => arg 2; arg 2; whnf
  cases st with
  | nil => (simp [takesOp] at htk)
  | cons a r =>
    obtain ⟨sg, sc1, e1, hsc1, hscm, cA, hT1⟩ := hT.pop1
    injection e1 with e1 _ e2
    subst e1 e2
    have hsl := fun W => slice_to (some ⟨sg, 0, none⟩) (r.length + 1) sc r.length (by omega) W
    rw [List.length_cons] at htk h16
    have hwl : IntKind.i64.wrap ((r.length : Int) + 1 - 1) = (r.length : Int) := by rw [show (r.length : Int) + 1 - 1 = (r.length : Int) by omega]; exact IntWalk.i64_in _ (by omega)
    have hwe : (r.length : Int) + 1 - 1 = (r.length : Int) := by omega
    have l0 : (0 : Int) ≤ (r.length : Int) := by omega
    have l1 : (r.length : Int) < (r.length : Int) + 1 := by omega
    replace hT := Lib.hid hT
    replace hT1 := Lib.hid hT1
    simp only [List.length_cons, Int.natCast_add, Int.cast_ofNat_Int, Int.add_sub_cancel]
    have hs : Hid (stepM L ⟨pc, (a :: r), ip, out⟩ = .go ⟨pc + 1, r, ip, out⟩) := by show _ = _; rw [stepc (by rw [hzop.out]; omega), hzop.out, hzd.out]; rfl
    go_wp2_with fail
    first | refine hK _ _ ?_ | skip
    exact ExF.mk rfl rfl (hkp.out.symm ▸ (by kernel_rfl)) (hJ _ _ ⟨rd, ⟨pc + 1, r, ip, out⟩, _, rfl, rfl, by first | rfl | go_num, by first | rfl | go_num, hnx.out rd ⟨pc + 1, r, ip, out⟩ _ _ (Below.refl _ _) hT1.out hs.out h.inq h.rle (by have := hol.out; simp; omega)⟩)
end Go.Proofs.YtainohbfcehpoaaDoor
