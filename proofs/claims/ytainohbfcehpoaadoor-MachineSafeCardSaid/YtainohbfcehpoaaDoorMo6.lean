/-
  MachineSafe: operations 7, 8. (Printed by genmo4.py.)
-/
import Derived.Test.YtainohbfcehpoaaDoorMo4
import Derived.RegionTactic
import Derived.BigRegion
import Derived.BigQuiet
namespace Go.Proofs.YtainohbfcehpoaaDoor
open Go.RowKit Go.Shelf

set_option maxRecDepth 100000 in
set_option maxHeartbeats 8000000 in
theorem safe_op7 {L : List Ins} {inp : List UInt8} {P : ByteArray} {w4 : World} {gL cap m rd n pc : Nat} {st : List Int} {ip out : List UInt8} {sn' : List Int} {zo zd yB : Nat} {sa : Option Addr} {sc : Nat} {u : Nat → Value} {V : World} (hx : SafeCtx L inp P w4 gL cap m u) (h : OpAt L inp w4 gL rd n pc st ip out sn' zo 7 zd yB sa sc u V)
    (J : (Nat → Value) → World → Prop) (K : Act → World → Prop) (Q : Exit → Act → World → Prop) (hJ : ∀ u' W', OpR L inp w4 n sn' u' W' → J u' W') (hK : ∀ a' W', ExF 363 keepO u J a' W' → K a' W') : (Code.block 4 sw4).wp Tryd.prog (Exit.then K Q) (frameOf 363 u) V := by
  have hpc := h.pcl
  have hll := hx.len
  have hwp : IntKind.i64.wrap ((pc : Int) + 1) = (pc : Int) + 1 := IntWalk.i64_in _ (by omega)
  have hzop : L[pc]!.op = 7 := by rw [h.ins]
  have hzd : L[pc]!.opd = zd := by rw [h.ins]
  have y2 := h.y2
  have htk := h.tak
  have h16 := h.l16
  have hsiz := h.siz
  have hT := h.two
  have hnx := h.next
  have hol := h.ol
  have hkp := (keepO_eq u).trans (by rw [hx.s4, hx.s15, hx.s17, hx.s19])
  rw [frame363, hx.s4, hx.s15, hx.s17, hx.s19, h.s20, h.s21, h.s22, h.s25, h.s26, h.s27, h.s158]
  replace hnx := Lib.hid hnx
  replace hkp := Lib.hid hkp
  replace hol := Lib.hid hol
  replace hzop := Lib.hid hzop
  replace hzd := Lib.hid hzd
  conv => arg 2; arg 2; whnf
  have hwl : IntKind.i64.wrap (st.length : Int) = (st.length : Int) := IntWalk.i64_in _ (by omega)
  obtain ⟨sa', sc', e1, hsl1⟩ := hT.le
  have hto := (hx.form.to hpc (by rw [hzop.out]; rfl))
  have hF := Lib.hid (at2_any gL 0 cap L zd V (by omega) h.row)
  obtain ⟨tz, htz⟩ : ∃ t, t = toOf L L[pc]! := ⟨_, rfl⟩
  have hfz : findZ L zd = (tz : Int) := by rw [findZ, ← hzd.out, hto, htz]
  rw [hfz] at hF
  have hs : Hid (stepM L ⟨pc, st, ip, out⟩ = .go ⟨tz, st, ip, out⟩) := by show _ = _; rw [step7 hzop.out, htz]
  replace htz := Lib.hid htz
  replace hto := Lib.hid hto
  replace hfz := Lib.hid hfz
  go_wp2_with fail
  refine hF.out.mono ?_
  rintro e w6 ⟨rfl, rfl⟩
  go_wp2_with fail
  first | refine hK _ _ ?_ | skip
  exact ExF.mk rfl rfl (hkp.out.symm ▸ (by kernel_rfl)) (hJ _ _ ⟨rd, ⟨tz, st, ip, out⟩, _, rfl, rfl, by first | rfl | go_num, by first | rfl | go_num, hnx.out rd ⟨tz, st, ip, out⟩ _ _ (Below.refl _ _) hT hs.out h.inq h.rle (by have := hol.out; simp; omega)⟩)
set_option maxRecDepth 100000 in
set_option maxHeartbeats 8000000 in
theorem safe_op8 {L : List Ins} {inp : List UInt8} {P : ByteArray} {w4 : World} {gL cap m rd n pc : Nat} {st : List Int} {ip out : List UInt8} {sn' : List Int} {zo zd yB : Nat} {sa : Option Addr} {sc : Nat} {u : Nat → Value} {V : World} (hx : SafeCtx L inp P w4 gL cap m u) (h : OpAt L inp w4 gL rd n pc st ip out sn' zo 8 zd yB sa sc u V)
    (J : (Nat → Value) → World → Prop) (K : Act → World → Prop) (Q : Exit → Act → World → Prop) (hJ : ∀ u' W', OpR L inp w4 n sn' u' W' → J u' W') (hK : ∀ a' W', ExF 363 keepO u J a' W' → K a' W') : (Code.block 4 sw4).wp Tryd.prog (Exit.then K Q) (frameOf 363 u) V := by
  have hpc := h.pcl
  have hll := hx.len
  have hwp : IntKind.i64.wrap ((pc : Int) + 1) = (pc : Int) + 1 := IntWalk.i64_in _ (by omega)
  have hzop : L[pc]!.op = 8 := by rw [h.ins]
  have hzd : L[pc]!.opd = zd := by rw [h.ins]
  have y2 := h.y2
  have htk := h.tak
  have h16 := h.l16
  have hsiz := h.siz
  have hT := h.two
  have hnx := h.next
  have hol := h.ol
  have hkp := (keepO_eq u).trans (by rw [hx.s4, hx.s15, hx.s17, hx.s19])
  rw [frame363, hx.s4, hx.s15, hx.s17, hx.s19, h.s20, h.s21, h.s22, h.s25, h.s26, h.s27, h.s158]
  replace hnx := Lib.hid hnx
  replace hkp := Lib.hid hkp
  replace hol := Lib.hid hol
  replace hzop := Lib.hid hzop
  replace hzd := Lib.hid hzd
  conv => arg 2; arg 2; whnf
  cases st with
  | nil => (simp [takesOp] at htk)
  | cons a r =>
    obtain ⟨sg, sc1, e1, hsc1, hscm, cA, hT1⟩ := hT.pop1
    injection e1 with e1 _ e2
    subst e1 e2
    have hsl := fun W => slice_to (some ⟨sg, 0, none⟩) (r.length + 1) sc r.length (by omega) W
    rw [List.length_cons] at htk h16
    have hwl : IntKind.i64.wrap ((r.length : Int) + 1 - 1) = (r.length : Int) := by rw [show (r.length : Int) + 1 - 1 = (r.length : Int) by omega]; exact IntWalk.i64_in _ (by omega)
    have hwe : (r.length : Int) + 1 - 1 = (r.length : Int) := by omega
    have l0 : (0 : Int) ≤ (r.length : Int) := by omega
    have l1 : (r.length : Int) < (r.length : Int) + 1 := by omega
    replace hT := Lib.hid hT
    replace hT1 := Lib.hid hT1
    simp only [List.length_cons, Int.natCast_add, Int.cast_ofNat_Int, Int.add_sub_cancel]
    have hto := (hx.form.to hpc (by rw [hzop.out]; rfl))
    have hF := Lib.hid (at2_any gL 0 cap L zd V (by omega) h.row)
    obtain ⟨tz, htz⟩ : ∃ t, t = toOf L L[pc]! := ⟨_, rfl⟩
    have hfz : findZ L zd = (tz : Int) := by rw [findZ, ← hzd.out, hto, htz]
    rw [hfz] at hF
    by_cases ha0 : a = 0
    · have hq : (a == 0) = true := by rw [ha0]; rfl
      have hq2 : (a != 0) = false := by rw [ha0]; rfl
      have hs : Hid (stepM L ⟨pc, (a :: r), ip, out⟩ = .go ⟨pc + 1, r, ip, out⟩) := by show _ = _; rw [step8 hzop.out, if_pos ha0]
      replace htz := Lib.hid htz
      replace hto := Lib.hid hto
      replace hfz := Lib.hid hfz
      replace ha0 := Lib.hid ha0
      go_wp2_with fail
      first | refine hK _ _ ?_ | skip
      exact ExF.mk rfl rfl (hkp.out.symm ▸ (by kernel_rfl)) (hJ _ _ ⟨rd, ⟨pc + 1, r, ip, out⟩, _, rfl, rfl, by first | rfl | go_num, by first | rfl | go_num, hnx.out rd ⟨pc + 1, r, ip, out⟩ _ _ (Below.refl _ _) hT1.out hs.out h.inq h.rle (by have := hol.out; simp; omega)⟩)
    · have hq : (a == 0) = false := by rw [beq_eq_false_iff_ne]; exact ha0
      have hq2 : (a != 0) = true := by rw [bne, hq]; rfl
      have hs : Hid (stepM L ⟨pc, (a :: r), ip, out⟩ = .go ⟨tz, r, ip, out⟩) := by show _ = _; rw [step8 hzop.out, if_neg ha0, htz]
      replace htz := Lib.hid htz
      replace hto := Lib.hid hto
      replace hfz := Lib.hid hfz
      replace ha0 := Lib.hid ha0
      go_wp2_with fail
      refine hF.out.mono ?_
      rintro e w6 ⟨rfl, rfl⟩
      go_wp2_with fail
      first | refine hK _ _ ?_ | skip
      exact ExF.mk rfl rfl (hkp.out.symm ▸ (by kernel_rfl)) (hJ _ _ ⟨rd, ⟨tz, r, ip, out⟩, _, rfl, rfl, by first | rfl | go_num, by first | rfl | go_num, hnx.out rd ⟨tz, r, ip, out⟩ _ _ (Below.refl _ _) hT1.out hs.out h.inq h.rle (by have := hol.out; simp; omega)⟩)
end Go.Proofs.YtainohbfcehpoaaDoor
