/-
  MachineSafe: operations 6. (Printed by genmo4.py.)
-/
import Derived.Test.YtainohbfcehpoaaDoorMo4
import Derived.RegionTactic
import Derived.BigRegion
import Derived.BigQuiet
namespace Go.Proofs.YtainohbfcehpoaaDoor
open Go.RowKit Go.Shelf

set_option maxRecDepth 100000 in
set_option maxHeartbeats 8000000 in
theorem safe_op6 {L : List Ins} {inp : List UInt8} {P : ByteArray} {w4 : World} {gL cap m rd n pc : Nat} {st : List Int} {ip out : List UInt8} {sn' : List Int} {zo zd yB : Nat} {sa : Option Addr} {sc : Nat} {u : Nat → Value} {V : World} (hx : SafeCtx L inp P w4 gL cap m u) (h : OpAt L inp w4 gL rd n pc st ip out sn' zo 6 zd yB sa sc u V)
    (J : (Nat → Value) → World → Prop) (K : Act → World → Prop) (Q : Exit → Act → World → Prop) (hJ : ∀ u' W', OpR L inp w4 n sn' u' W' → J u' W') (hK : ∀ a' W', ExF 363 keepO u J a' W' → K a' W') : (Code.block 4 sw4).wp Tryd.prog (Exit.then K Q) (frameOf 363 u) V := by
  have hpc := h.pcl
  have hll := hx.len
  have hwp : IntKind.i64.wrap ((pc : Int) + 1) = (pc : Int) + 1 := IntWalk.i64_in _ (by omega)
  have hzop : L[pc]!.op = 6 := by rw [h.ins]
  have hzd : L[pc]!.opd = zd := by rw [h.ins]
  have y2 := h.y2
  have htk := h.tak
  have h16 := h.l16
  have hsiz := h.siz
  have hT := h.two
  have hnx := h.next
  have hol := h.ol
  have hkp := (keepO_eq u).trans (by rw [hx.s4, hx.s15, hx.s17, hx.s19])
  rw [frame363, hx.s4, hx.s15, hx.s17, hx.s19, h.s20, h.s21, h.s22, h.s25, h.s26, h.s27, h.s158]
  replace hnx := Lib.hid hnx
  replace hkp := Lib.hid hkp
  replace hol := Lib.hid hol
  replace hzop := Lib.hid hzop
  replace hzd := Lib.hid hzd
  conv => arg 2; arg 2; whnf
  cases st with
  | nil => (simp [takesOp] at htk)
  | cons b r =>
  cases r with
  | nil => (simp [takesOp] at htk)
  | cons a r =>
    obtain ⟨sg, sc1, e1, hsc1, hscm, cA, cB, hT1⟩ := hT.pop2
    injection e1 with e1 _ e2
    subst e1 e2
    have hsl := fun W => slice_to (some ⟨sg, 0, none⟩) (r.length + 1 + 1) sc (r.length + 1) (by omega) W
    rw [List.length_cons, List.length_cons] at htk h16
    have hwl : IntKind.i64.wrap ((r.length : Int) + 1 - 1) = (r.length : Int) := by rw [show (r.length : Int) + 1 - 1 = (r.length : Int) by omega]; exact IntWalk.i64_in _ (by omega)
    have hwl2 : (r.length : Int) + 1 - 1 = (r.length : Int) := by omega
    have l0 : (0 : Int) ≤ (r.length : Int) := by omega
    have l1 : (0 : Int) ≤ (r.length : Int) + 1 := by omega
    have l2 : (r.length : Int) < (r.length : Int) + 1 + 1 := by omega
    have l3 : (r.length : Int) + 1 < (r.length : Int) + 1 + 1 := by omega
    have l4 : ((r.length : Int) + 1).toNat = r.length + 1 := by omega
    replace hT := Lib.hid hT
    replace hT1 := Lib.hid hT1
    simp only [List.length_cons, Int.natCast_add, Int.cast_ofNat_Int, Int.add_sub_cancel]
    by_cases hab : a < b
    · have hdab : decide (a < b) = true := by simpa using hab
      have hs : Hid (stepM L ⟨pc, (b :: a :: r), ip, out⟩ = .go ⟨pc + 1, 1 :: r, ip, out⟩) := by show _ = _; rw [stepc (by rw [hzop.out]; omega), hzop.out, hzd.out]; show Res.go ⟨pc + 1, (if a < b then 1 else 0) :: r, ip, out⟩ = _; rw [if_pos hab]
      obtain ⟨hT3, hkeep, fA⟩ := hT.out.calc 1
      replace hT3 := Lib.hid hT3
      replace hkeep := Lib.hid hkeep
      go_wp2_with fail
      go_quiet (fail)
      go_wp2_with fail
      first | refine hK _ _ ?_ | skip
      exact ExF.mk rfl rfl (hkp.out.symm ▸ (by kernel_rfl)) (hJ _ _ ⟨rd, ⟨pc + 1, 1 :: r, ip, out⟩, _, rfl, rfl, by first | rfl | go_num, by first | rfl | go_num, hnx.out rd ⟨pc + 1, 1 :: r, ip, out⟩ _ _ ((below_drewQ (Below.refl _ _) _).trans ((hT.out.drewN _).calc 1).2.1) ((hT.out.drewN _).calc 1).1 hs.out h.inq h.rle (by have := hol.out; simp; omega)⟩)
    · have hdab : decide (a < b) = false := by simpa using hab
      have hs : Hid (stepM L ⟨pc, (b :: a :: r), ip, out⟩ = .go ⟨pc + 1, 0 :: r, ip, out⟩) := by show _ = _; rw [stepc (by rw [hzop.out]; omega), hzop.out, hzd.out]; show Res.go ⟨pc + 1, (if a < b then 1 else 0) :: r, ip, out⟩ = _; rw [if_neg hab]
      obtain ⟨hT3, hkeep, fA⟩ := hT.out.calc 0
      replace hT3 := Lib.hid hT3
      replace hkeep := Lib.hid hkeep
      go_wp2_with fail
      go_quiet (fail)
      go_wp2_with fail
      first | refine hK _ _ ?_ | skip
      exact ExF.mk rfl rfl (hkp.out.symm ▸ (by kernel_rfl)) (hJ _ _ ⟨rd, ⟨pc + 1, 0 :: r, ip, out⟩, _, rfl, rfl, by first | rfl | go_num, by first | rfl | go_num, hnx.out rd ⟨pc + 1, 0 :: r, ip, out⟩ _ _ ((below_drewQ (Below.refl _ _) _).trans ((hT.out.drewN _).calc 0).2.1) ((hT.out.drewN _).calc 0).1 hs.out h.inq h.rle (by have := hol.out; simp; omega)⟩)
end Go.Proofs.YtainohbfcehpoaaDoor
