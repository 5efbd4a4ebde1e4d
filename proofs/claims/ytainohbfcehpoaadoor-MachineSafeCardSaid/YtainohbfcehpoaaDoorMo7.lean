/-
  MachineSafe: operations 9, 10. (Printed by genmo4.py.)
-/
import Derived.Test.YtainohbfcehpoaaDoorMo4
import Derived.RegionTactic
import Derived.BigRegion
import Derived.BigQuiet
namespace Go.Proofs.YtainohbfcehpoaaDoor
open Go.RowKit Go.Shelf

set_option maxRecDepth 100000 in
set_option maxHeartbeats 8000000 in
theorem safe_op9 {L : List Ins} {inp : List UInt8} {P : ByteArray} {w4 : World} {gL cap m rd n pc : Nat} {st : List Int} {ip out : List UInt8} {sn' : List Int} {zo zd yB : Nat} {sa : Option Addr} {sc : Nat} {u : Nat → Value} {V : World} (hx : SafeCtx L inp P w4 gL cap m u) (h : OpAt L inp w4 gL rd n pc st ip out sn' zo 9 zd yB sa sc u V)
    (J : (Nat → Value) → World → Prop) (K : Act → World → Prop) (Q : Exit → Act → World → Prop) (hJ : ∀ u' W', OpR L inp w4 n sn' u' W' → J u' W') (hK : ∀ a' W', ExF 363 keepO u J a' W' → K a' W') : (Code.block 4 sw4).wp Tryd.prog (Exit.then K Q) (frameOf 363 u) V := by
  have hpc := h.pcl
  have hll := hx.len
  have hwp : IntKind.i64.wrap ((pc : Int) + 1) = (pc : Int) + 1 := IntWalk.i64_in _ (by omega)
  have hzop : L[pc]!.op = 9 := by rw [h.ins]
  have hzd : L[pc]!.opd = zd := by rw [h.ins]
  have y2 := h.y2
  have htk := h.tak
  have h16 := h.l16
  have hsiz := h.siz
  have hT := h.two
  have hnx := h.next
  have hol := h.ol
  have hkp := (keepO_eq u).trans (by rw [hx.s4, hx.s15, hx.s17, hx.s19])
  rw [frame363, hx.s4, hx.s15, hx.s17, hx.s19, h.s20, h.s21, h.s22, h.s25, h.s26, h.s27, h.s158]
  replace hnx := Lib.hid hnx
  replace hkp := Lib.hid hkp
  replace hol := Lib.hid hol
  replace hzop := Lib.hid hzop
  replace hzd := Lib.hid hzd
  conv => arg 2; arg 2; whnf
  have hwl : IntKind.i64.wrap (st.length : Int) = (st.length : Int) := IntWalk.i64_in _ (by omega)
  obtain ⟨sa', sc', e1, hsl1⟩ := hT.le
  have hpsz := hx.psz
  have hil := hx.il
  have hinl : IntKind.i64.wrap (inp.length : Int) = (inp.length : Int) := IntWalk.i64_in _ (by omega)
  by_cases hrl : rd < inp.length
  · have hdr : decide ((rd : Int) < (inp.length : Int)) = true := by simpa using hrl
    have hj0 : rd < P.size := by omega
    have hgx := hx.pg rd hj0
    have i1 : (0 : Int) ≤ (rd : Int) := by omega
    have i3 : (rd : Int) < (inp.length : Int) := by omega
    have hwr : IntKind.i64.wrap ((rd : Int) + 1) = ((rd + 1 : Nat) : Int) := by rw [Int.natCast_succ]; exact IntWalk.i64_in _ (by omega)
    have hipe : ip = inp[rd]! :: inp.drop (rd + 1) := by rw [← h.inq, drop_cons inp rd hrl]
    have hxl := (inp[rd]!).toNat_lt
    obtain ⟨y, hy⟩ : ∃ y, y = (inp[rd]!).toNat := ⟨_, rfl⟩
    have hs : Hid (stepM L ⟨pc, st, ip, out⟩ = .go ⟨pc + 1, (y : Int) :: st, inp.drop (rd + 1), out⟩) := by show _ = _; rw [step9 hzop.out, hipe, hy]; rfl
    rw [← hy] at hgx hxl
    have hwy : IntKind.i64.wrap (y : Int) = (y : Int) := IntWalk.i64_in _ (by omega)
    replace hy := Lib.hid hy
    replace hipe := Lib.hid hipe
    have hal : Below V.heap.size V (V.alloc (.cells #[.int .i64 (y : Int)] 3)) := (Below.refl _ _).alloc (Nat.le_refl _) _
    obtain ⟨v3, W3, hrun3, ⟨a3, c3, rfl⟩, hT3, hBf3⟩ := (hT.below hal).push [(y : Int)] V.heap.size (Arr.new rfl rfl) (by first | omega | (simp at h16 ⊢; omega)) (by simp) (by simp; omega)
    have hkeep := hBf3 V ((Below.refl _ _).alloc (by omega) _)
    obtain ⟨k3, hk3⟩ : ∃ k3, k3 = st.length + [(y : Int)].length := ⟨_, rfl⟩
    rw [← hk3] at hrun3 hT3
    replace hrun3 := Lib.hid hrun3
    replace hk3 := Lib.hid hk3
    clear hal hBf3
    replace hT3 := Lib.hid hT3
    replace hkeep := Lib.hid hkeep
    go_wp2_with (at_builtin; go_loud (refine wpList_append_known rfl _ _ _ _ rfl _ _ rfl rfl hrun3.out ?_))
    first | refine hK _ _ ?_ | skip
    exact ExF.mk rfl rfl (hkp.out.symm ▸ (by kernel_rfl)) (hJ _ _ ⟨rd + 1, ⟨pc + 1, (y : Int) :: st, inp.drop (rd + 1), out⟩, _, rfl, rfl, by first | rfl | go_num, by first | rfl | go_num, hnx.out (rd + 1) ⟨pc + 1, (y : Int) :: st, inp.drop (rd + 1), out⟩ _ _ hkeep.out hT3.out hs.out rfl hrl (by have := hol.out; simp; omega)⟩)
  · have hdr : decide ((rd : Int) < (inp.length : Int)) = false := by simpa using hrl
    have hipe : ip = [] := by rw [← h.inq]; exact List.drop_eq_nil_of_le (by omega)
    have hs : Hid (stepM L ⟨pc, st, ip, out⟩ = .go ⟨pc + 1, -1 :: st, ip, out⟩) := by show _ = _; rw [step9 hzop.out, hipe]; rfl
    replace hipe := Lib.hid hipe
    have hal : Below V.heap.size V (V.alloc (.cells #[.int .i64 (-1)] 3)) := (Below.refl _ _).alloc (Nat.le_refl _) _
    obtain ⟨v3, W3, hrun3, ⟨a3, c3, rfl⟩, hT3, hBf3⟩ := (hT.below hal).push [(-1)] V.heap.size (Arr.new rfl rfl) (by first | omega | (simp at h16 ⊢; omega)) (by simp) (by simp; omega)
    have hkeep := hBf3 V ((Below.refl _ _).alloc (by omega) _)
    obtain ⟨k3, hk3⟩ : ∃ k3, k3 = st.length + [(-1)].length := ⟨_, rfl⟩
    rw [← hk3] at hrun3 hT3
    replace hrun3 := Lib.hid hrun3
    replace hk3 := Lib.hid hk3
    clear hal hBf3
    replace hT3 := Lib.hid hT3
    replace hkeep := Lib.hid hkeep
    go_wp2_with (at_builtin; go_loud (refine wpList_append_known rfl _ _ _ _ rfl _ _ rfl rfl hrun3.out ?_))
    first | refine hK _ _ ?_ | skip
    exact ExF.mk rfl rfl (hkp.out.symm ▸ (by kernel_rfl)) (hJ _ _ ⟨rd, ⟨pc + 1, -1 :: st, ip, out⟩, _, rfl, rfl, by first | rfl | go_num, by first | rfl | go_num, hnx.out rd ⟨pc + 1, -1 :: st, ip, out⟩ _ _ hkeep.out hT3.out hs.out h.inq h.rle (by have := hol.out; simp; omega)⟩)
set_option maxRecDepth 100000 in
set_option maxHeartbeats 8000000 in
theorem safe_op10 {L : List Ins} {inp : List UInt8} {P : ByteArray} {w4 : World} {gL cap m rd n pc : Nat} {st : List Int} {ip out : List UInt8} {sn' : List Int} {zo zd yB : Nat} {sa : Option Addr} {sc : Nat} {u : Nat → Value} {V : World} (hx : SafeCtx L inp P w4 gL cap m u) (h : OpAt L inp w4 gL rd n pc st ip out sn' zo 10 zd yB sa sc u V)
    (J : (Nat → Value) → World → Prop) (K : Act → World → Prop) (Q : Exit → Act → World → Prop) (hJ : ∀ u' W', OpR L inp w4 n sn' u' W' → J u' W') (hK : ∀ a' W', ExF 363 keepO u J a' W' → K a' W') : (Code.block 4 sw4).wp Tryd.prog (Exit.then K Q) (frameOf 363 u) V := by
  have hpc := h.pcl
  have hll := hx.len
  have hwp : IntKind.i64.wrap ((pc : Int) + 1) = (pc : Int) + 1 := IntWalk.i64_in _ (by omega)
  have hzop : L[pc]!.op = 10 := by rw [h.ins]
  have hzd : L[pc]!.opd = zd := by rw [h.ins]
  have y2 := h.y2
  have htk := h.tak
  have h16 := h.l16
  have hsiz := h.siz
  have hT := h.two
  have hnx := h.next
  have hol := h.ol
  have hkp := (keepO_eq u).trans (by rw [hx.s4, hx.s15, hx.s17, hx.s19])
  rw [frame363, hx.s4, hx.s15, hx.s17, hx.s19, h.s20, h.s21, h.s22, h.s25, h.s26, h.s27, h.s158]
  replace hnx := Lib.hid hnx
  replace hkp := Lib.hid hkp
  replace hol := Lib.hid hol
  replace hzop := Lib.hid hzop
  replace hzd := Lib.hid hzd
  conv => arg 2; arg 2; whnf
  cases st with
  | nil => (simp [takesOp] at htk)
  | cons a r =>
    obtain ⟨sg, sc1, e1, hsc1, hscm, cA, hT1⟩ := hT.pop1
    injection e1 with e1 _ e2
    subst e1 e2
    have hsl := fun W => slice_to (some ⟨sg, 0, none⟩) (r.length + 1) sc r.length (by omega) W
    rw [List.length_cons] at htk h16
    have hwl : IntKind.i64.wrap ((r.length : Int) + 1 - 1) = (r.length : Int) := by rw [show (r.length : Int) + 1 - 1 = (r.length : Int) by omega]; exact IntWalk.i64_in _ (by omega)
    have hwe : (r.length : Int) + 1 - 1 = (r.length : Int) := by omega
    have l0 : (0 : Int) ≤ (r.length : Int) := by omega
    have l1 : (r.length : Int) < (r.length : Int) + 1 := by omega
    replace hT := Lib.hid hT
    replace hT1 := Lib.hid hT1
    simp only [List.length_cons, Int.natCast_add, Int.cast_ofNat_Int, Int.add_sub_cancel]
    have hs0 := step10 (a := a) (st := r) (ip := ip) (out := out) hzop.out
    have hfull : ¬ out.length = 65536 := by have := hol.out; have := h.n15; omega
    rw [if_neg hfull] at hs0
    obtain ⟨b, hb⟩ : ∃ b, b = UInt8.ofNat (a % 256).toNat := ⟨_, rfl⟩
    rw [← hb] at hs0
    have hs : Hid (stepM L ⟨pc, a :: r, ip, out⟩ = .go ⟨pc + 1, r, ip, out ++ [b]⟩) := hs0
    have hbn : ((b.toNat : Nat) : Int) = a % 256 := by rw [hb, UInt8.toNat_ofNat']; omega
    have hw8 : IntKind.u8.wrap a = ((b.toNat : Nat) : Int) := by rw [hbn]; simp [IntKind.wrap, IntKind.bits, IntKind.signed]
    have hw9 : a % 256 = ((b.toNat : Nat) : Int) := hbn.symm
    have hbt : UInt8.ofNat b.toNat = b := by simp
    have hcv := fun X g (h : X.cell? ⟨g, 0, none⟩ = some (.int .u8 (b.toNat : Int))) => conv_one X g b.toNat h
    rw [hbt] at hcv
    have hap := str_append out [b]
    replace hb := Lib.hid hb
    replace hbn := Lib.hid hbn
    replace hbt := Lib.hid hbt
    have hal : Hid (Below V.heap.size V (V.alloc (.cells #[.int .u8 (b.toNat : Int)] 5))) := (Below.refl _ _).alloc (Nat.le_refl _) _
    have hkeep : Hid (Below (w4.heap.size + 1) V (V.alloc (.cells #[.int .u8 (b.toNat : Int)] 5))) := (Below.refl _ _).alloc (by omega) _
    replace hfull := Lib.hid hfull
    clear hs0
    have hps1 := str_size out
    have hps2 : (str [b]).size = 1 := str_size [b]
    have hps3 : out.length + 1 < 9223372036854775808 := by have := hol.out; have := h.n15; omega
    have hps4 : ¬ 9223372036854775808 ≤ out.length + 1 := by omega
    go_wp2_with fail
    first | refine hK _ _ ?_ | skip
    exact ExF.mk rfl rfl (hkp.out.symm ▸ (by kernel_rfl)) (hJ _ _ ⟨rd, ⟨pc + 1, r, ip, out ++ [b]⟩, _, rfl, rfl, by first | rfl | go_num, by first | rfl | go_num, hnx.out rd ⟨pc + 1, r, ip, out ++ [b]⟩ _ _ hkeep.out (hT1.out.below hal.out) hs.out h.inq h.rle (by have := hol.out; simp; omega)⟩)
end Go.Proofs.YtainohbfcehpoaaDoor
