/-
  MachineSafe: the round, the loop. (Printed by genmo4.py.)
-/
import Derived.Test.YtainohbfcehpoaaDoorMo5
import Derived.Deep.Cut
import Derived.Test.YtainohbfcehpoaaDoorMo6
import Derived.Test.YtainohbfcehpoaaDoorMo7
import Derived.Test.YtainohbfcehpoaaDoorMo8
import Derived.Test.YtainohbfcehpoaaDoorMo9
namespace Go.Proofs.YtainohbfcehpoaaDoor
open Go.RowKit Go.Shelf

set_option maxRecDepth 100000 in
set_option maxRecDepth 100000 in
theorem keep_IO : ∀ i ∈ keepI, i ∈ keepO := by decide
noncomputable def body1 : Code := (Tryd.f5.body.bind firstLoop).getD .skip
noncomputable def body2 : Code := (firstLoop body1).getD .skip
/-- The relation of the inner loop. -/
def SafeR (L : List Ins) (inp : List UInt8) (w4 : World) (k : Nat) (u : Nat → Value) (W : World) : Prop :=
  ∃ (s : Value) (rd n : Nat) (c : Conf) (sn : List Int), u 20 = s ∧ u 21 = .string (str c.out) ∧ u 22 = .int .i64 (rd : Int) ∧ u 23 = .int .i64 (c.pc : Int) ∧ u 24 = .int .i64 (n : Int) ∧ k + n = 1500 ∧ SafeAt L w4 inp rd n c s sn W
/-- Where the inner loop ends: the own machine has halted, or 1500 steps have gone. -/
def SafeE (L : List Ins) (inp : List UInt8) (w4 : World) (u : Nat → Value) (W : World) : Prop :=
  ∃ (n : Nat) (c : Conf) (zp : Nat), u 21 = .string (str c.out) ∧ u 23 = .int .i64 (c.pc : Int) ∧ u 24 = .int .i64 (n : Int) ∧ Below w4.heap.size w4 W ∧ c.pc < L.length ∧ L[c.pc]!.op = zp ∧ goK L n ⟨0, [], inp, []⟩ c ∧ ((n < 1500 ∧ zp = 11) ∨ n = 1500)
theorem SafeCtx.keep {L : List Ins} {inp : List UInt8} {P : ByteArray} {w4 : World} {gL cap m : Nat} {u v : Nat → Value} (h : SafeCtx L inp P w4 gL cap m u) (hk : keepI.map v = keepI.map u) : SafeCtx L inp P w4 gL cap m v :=
  ⟨(keep_at hk (by decide)).trans h.s4, (keep_at hk (by decide)).trans h.s15, (keep_at hk (by decide)).trans h.s17, (keep_at hk (by decide)).trans h.s19, h.psz, h.pg, h.row, h.gl, h.len, h.form, h.good, h.il⟩
theorem end_tests {l m p d : Nat} (h1 : p < l) (h2 : d ≤ m) : decide ((p : Int) < 0) = false ∧ decide (l ≤ p) = false ∧ decide (m < d) = false := ⟨by simp, by simp; omega, by simp; omega⟩
theorem end_count {n : Nat} (h : n < 1500) : 1500 - (n + 1) + (n + 1) = 1500 := by omega
theorem end_less {n k : Nat} (h : n < 1500) (hk : k + n = 1500) : 1500 - (n + 1) < k := by omega
theorem safe_ops {L : List Ins} {inp : List UInt8} {P : ByteArray} {w4 : World} {gL cap m rd n pc : Nat} {st : List Int} {ip out : List UInt8} {sn' : List Int} {zo zp zd yB : Nat} {sa : Option Addr} {sc : Nat} {u : Nat → Value} {V : World} (hz : zp < 12) (h11 : ¬ zp = 11) (hx : SafeCtx L inp P w4 gL cap m u) (h : OpAt L inp w4 gL rd n pc st ip out sn' zo zp zd yB sa sc u V)
    (J : (Nat → Value) → World → Prop) (K : Act → World → Prop) (Q : Exit → Act → World → Prop) (hJ : ∀ u' W', OpR L inp w4 n sn' u' W' → J u' W') (hK : ∀ a' W', ExF 363 keepO u J a' W' → K a' W') : (Code.block 4 sw4).wp Tryd.prog (Exit.then K Q) (frameOf 363 u) V := by
  have h12 : zp = 0 ∨ zp = 1 ∨ zp = 2 ∨ zp = 3 ∨ zp = 4 ∨ zp = 5 ∨ zp = 6 ∨ zp = 7 ∨ zp = 8 ∨ zp = 9 ∨ zp = 10 := by omega
  rcases h12 with rfl | rfl | rfl | rfl | rfl | rfl | rfl | rfl | rfl | rfl | rfl
  · exact safe_op0 hx h J K Q hJ hK
  · exact safe_op1 hx h J K Q hJ hK
  · exact safe_op2 hx h J K Q hJ hK
  · exact safe_op3 hx h J K Q hJ hK
  · exact safe_op4 hx h J K Q hJ hK
  · exact safe_op5 hx h J K Q hJ hK
  · exact safe_op6 hx h J K Q hJ hK
  · exact safe_op7 hx h J K Q hJ hK
  · exact safe_op8 hx h J K Q hJ hK
  · exact safe_op9 hx h J K Q hJ hK
  · exact safe_op10 hx h J K Q hJ hK
set_option maxRecDepth 100000 in
set_option maxHeartbeats 20000000 in
theorem safe_round {L : List Ins} {inp : List UInt8} {P : ByteArray} {w4 : World} {gL cap m : Nat} (hm : MostOf L m) (k : Nat) {u : Nat → Value} (hx : SafeCtx L inp P w4 gL cap m u) (hE : EnvR w4) {wr : World} (hR : SafeR L inp w4 k u wr)
    (J : Nat → (Nat → Value) → World → Prop) (K : Act → World → Prop) (E : (Nat → Value) → World → Prop) (Q : Exit → Act → World → Prop) (hJ : ∀ k u' W', SafeR L inp w4 k u' W' → J k u' W') (hK : ∀ a' W', HandF 363 keepI u J k a' W' → K a' W')
    (hEx : ∀ u' W', SafeE L inp w4 u' W' → E u' W') (hQ : ∀ a' W', ExF 363 keepI u E a' W' → Q (.exit 2) a' W') : body2.wp Tryd.prog (Exit.then K Q) (frameOf 363 u) wr := by
  obtain ⟨sv, rd, n, c, sn, s20, s21, s22, s23, s24, hkn, hS⟩ := hR
  obtain ⟨pc, st, ip, out⟩ := c
  dsimp only at s21 s23
  have hgood := hx.good
  have hForm := hx.form
  have hlen := hx.len
  have hBq := hS.bel
  have hpc := hgood.inside _ _ hS.rch
  have htk := hgood.takes _ _ hS.rch
  have h16 := reach_le hgood hS.rch
  have hmle := (hm.le _ _ hS.rch).1
  have hinp := hS.inq
  have hrle := hS.rle
  have hol := hS.ol
  have hsle := hS.sle
  have hsiz := hS.siz
  dsimp only at hpc htk h16 hmle hinp hrle hol hsle
  obtain ⟨⟨sa, sc, rfl⟩, _⟩ := hS.two.sval
  dsimp only at s20
  have hRw := hx.row.keep (hBq.block gL hx.gl)
  obtain ⟨n0, n1, n2⟩ := hRw pc hpc
  simp only [Nat.zero_add] at n0 n1 n2
  have hop := hForm.ops pc hpc
  have hEw := hE.below hBq
  have hwn : IntKind.i64.wrap ((n : Int) + 1) = (n : Int) + 1 := IntWalk.i64_in _ (by omega)
  have hwp : IntKind.i64.wrap ((pc : Int) + 1) = (pc : Int) + 1 := IntWalk.i64_in _ (by omega)
  have hwt : IntKind.i64.wrap ((st.length : Int) - 1) = (st.length : Int) - 1 := IntWalk.i64_in _ (by omega)
  have j0 : (0 : Int) ≤ (pc : Int) := by omega
  have j1 : (pc : Int) < (L.length : Int) := by omega
  obtain ⟨z, hz⟩ : ∃ z, z = L[pc]! := ⟨_, rfl⟩
  rw [← hz] at n0 n1 n2 hop htk
  obtain ⟨zo, zp, zd⟩ := z
  dsimp only at n0 n1 n2 hop htk
  have hzop : L[pc]!.op = zp := by rw [← hz]
  have hzz : Hid (L[pc]! = ⟨zo, zp, zd⟩) := hz.symm
  clear hz
  obtain ⟨sz, hsz, hsc, hsf⟩ := hS.cellSeen hgood
  dsimp only at hsz hsc hsf
  have hkp : Hid (_ = _) := (keepI_eq u).trans (by rw [hx.s4, hx.s15, hx.s17, hx.s19])
  have hkf : Hid (∀ a', a'.defers = [] → a'.tmps.size = 363 → keepI.map (slotOf a') = keepI.map u → SafeE L inp w4 (slotOf a') wr → Q (.exit 2) a' wr) := fun a' h1 h2 h3 h4 => hQ _ _ (ExF.mk h1 h2 h3 (hEx _ _ h4))
  rw [frame363, hx.s4, hx.s15, hx.s17, hx.s19, s20, s21, s22, s23, s24]
  replace hsz := Lib.hid hsz
  replace hinp := Lib.hid hinp
  replace hRw := Lib.hid hRw
  replace hkn := Lib.hid hkn
  replace hol := Lib.hid hol
  replace hzop := Lib.hid hzop
  conv => arg 2; whnf
  by_cases h15 : n < 1500
  · have hd15 : decide ((n : Int) < 1500) = true := by simp; omega
    by_cases h11 : zp = 11
    · have hq11 : ((zp : Int) == 11) = true := by rw [h11]; rfl
      have hq11n : ((zp : Int) != 11) = false := by rw [bne, hq11]; rfl
      have hA1 : Hid (Arr (wr.alloc (.cells #[.int .i64 (zo : Int), .int .i64 (zp : Int), .int .i64 (zd : Int)] 43)) wr.heap.size 43 [.int .i64 (zo : Int), .int .i64 (zp : Int), .int .i64 (zd : Int)]) := Arr.new rfl rfl
      have hal1 : Below wr.heap.size wr (wr.alloc (.cells #[.int .i64 (zo : Int), .int .i64 (zp : Int), .int .i64 (zd : Int)] 43)) := (Below.refl _ _).alloc (Nat.le_refl _) _
      obtain ⟨m1, m2, m3, m4, m5⟩ := hS.mark #[.int .i64 (zo : Int), .int .i64 (zp : Int), .int .i64 (zd : Int)] (.int .i64 (1 + (st.length : Int)))
      have y1 := hA1.out.cell (j := 1) rfl
      have c1 := cell_below hsc hal1
      have f1 := (hS.seen.below hal1).free pc
      have t1 := cell_below (hEw.takes zp (by omega)) hal1
      have z0 : (0 : Int) ≤ (zp : Int) := by omega
      have z1 : (zp : Int) < 12 := by omega
      have d1 : decide (st.length < takesOp zp) = false := by simp; omega
      have d3 : decide (m < st.length) = false := by simp; omega
      have hwl0 : IntKind.i64.wrap (1 + (st.length : Int)) = 1 + (st.length : Int) := IntWalk.i64_in _ (by omega)
      have hfin : Hid (SafeE L inp w4 (slotOf ⟨#[], []⟩) wr → True) := fun _ => trivial
      have hend : Hid (∀ u' W', u' 21 = .string (str out) → u' 23 = .int .i64 (pc : Int) → u' 24 = .int .i64 (n : Int) → Below w4.heap.size w4 W' → E u' W') := fun u' W' h1 h2 h3 h4 => hEx _ _ ⟨n, ⟨pc, st, ip, out⟩, zp, h1, h2, h3, h4, hpc, hzop.out, hS.went, .inl ⟨h15, h11⟩⟩
      replace h11 := Lib.hid h11
      replace hS := Lib.hid hS
      clear hfin hal1 hsc hEw
      by_cases hn : n = 0
      · have hqn : ((n : Int) == 0) = true := by rw [hn]; rfl
        replace hn := Lib.hid hn
        rcases hsz.out with e | e
        · have s1 : (sz == 0) = true := by rw [e]; rfl
          have s2 : (sz != 0) = false := by rw [e]; rfl
          replace e := Lib.hid e
          go_wp2_with fail
          exact ExF.mk rfl rfl (hkp.out.symm ▸ (by kernel_rfl)) (hend.out _ _ rfl rfl rfl m3)
        · have s1 : (sz == 0) = false := by rw [beq_eq_false_iff_ne]; omega
          have s2 : (sz != 0) = true := by rw [bne, s1]; rfl
          have s3 : (sz == 1 + (st.length : Int)) = true := by rw [beq_iff_eq]; exact e
          have s4 : (sz != 1 + (st.length : Int)) = false := by rw [bne, s3]; rfl
          replace e := Lib.hid e
          go_wp2_with fail
          exact ExF.mk rfl rfl (hkp.out.symm ▸ (by kernel_rfl)) (hend.out _ _ rfl rfl rfl m3)
      · have hqn : ((n : Int) == 0) = false := by rw [beq_eq_false_iff_ne]; omega
        go_wp2_with fail
        exact ExF.mk rfl rfl (hkp.out.symm ▸ (by kernel_rfl)) (hend.out _ _ rfl rfl rfl hBq)
    · have hq11 : ((zp : Int) == 11) = false := by rw [beq_eq_false_iff_ne]; omega
      have hq11n : ((zp : Int) != 11) = true := by rw [bne, hq11]; rfl
      have z0 : (0 : Int) ≤ (zp : Int) := by omega
      have z1 : (zp : Int) < 12 := by omega
      have d1 : decide (st.length < takesOp zp) = false := by simp; omega
      have d3 : decide (m < st.length) = false := by simp; omega
      have hwl0 : IntKind.i64.wrap (1 + (st.length : Int)) = 1 + (st.length : Int) := IntWalk.i64_in _ (by omega)
      have hqf : ¬ n = 0 → ((n : Int) == 0) = false := fun h => by rw [beq_eq_false_iff_ne]; omega
      have htk0 := hEw.takes zp (by omega)
      have a1 : ((1 : Int) == 1) = true := rfl
      have s1b : sz = 1 + (st.length : Int) → (sz == 0) = false := fun e => by rw [beq_eq_false_iff_ne]; omega
      go_upto_region 20 with fail
      refine wp_cut_frame 363 keepI u (fun u' W' => u' 106 = .bool true ∧ u' 20 = .slice sa st.length sc ∧ u' 21 = .string (str out) ∧ u' 22 = .int .i64 (rd : Int) ∧ u' 23 = .int .i64 (pc : Int) ∧ u' 24 = .int .i64 (n : Int) ∧ wr = W') ?_ ?_
      · intro J' K' hJ' hK'
        by_cases hn : n = 0
        · have hqn : ((n : Int) == 0) = true := by rw [hn]; rfl
          replace hn := Lib.hid hn
          go_wp2_with fail
          exact ExF.mk rfl rfl (hkp.out.symm ▸ (by kernel_rfl)) (hJ' _ _ ⟨rfl, rfl, rfl, rfl, rfl, rfl, rfl⟩)
        · have hqn : ((n : Int) == 0) = false := hqf hn
          go_wp2_with fail
          exact ExF.mk rfl rfl (hkp.out.symm ▸ (by kernel_rfl)) (hJ' _ _ ⟨rfl, rfl, rfl, rfl, rfl, rfl, rfl⟩)
      rintro u1 _ hk1 ⟨e106, g20, g21, g22, g23, g24, rfl⟩
      have hx1 := hx.keep hk1
      have hkp1 : Hid (_ = _) := (keepI_eq u1).trans (by rw [hx1.s4, hx1.s15, hx1.s17, hx1.s19])
      rw [frame363, hx1.s4, hx1.s15, hx1.s17, hx1.s19, g20, g21, g22, g23, g24, e106]
      replace hk1 := Lib.hid hk1
      clear g20 g21 g22 g23 g24 e106 s20 s21 s22 s23 s24
      replace hx1 := Lib.hid hx1
      go_upto_region 22 with fail
      refine name_wp ?_
      intro W1 hW1
      have hal1 : Below wr.heap.size wr W1 := by rw [hW1]; exact (Below.refl _ _).alloc (Nat.le_refl _) _
      have hA1 : Arr W1 wr.heap.size 43 [.int .i64 (zo : Int), .int .i64 (zp : Int), .int .i64 (zd : Int)] := by rw [hW1]; exact Arr.new rfl rfl
      have y1 := hA1.cell (j := 1) rfl
      have c1 := cell_below hsc hal1
      have f1 := (hS.seen.below hal1).free pc
      have t1 := cell_below htk0 hal1
      replace hW1 := Lib.hid hW1
      replace hA1 := Lib.hid hA1
      replace hS := Lib.hid hS
      refine wp_cut_frame 363 keepI u1 (fun u' W' => u' 140 = .bool false ∧ u' 20 = .slice sa st.length sc ∧ u' 21 = .string (str out) ∧ u' 22 = .int .i64 (rd : Int) ∧ u' 23 = .int .i64 (pc : Int) ∧ u' 24 = .int .i64 (n : Int) ∧ u' 25 = .pointer (some ⟨wr.heap.size, 0, none⟩) ∧ W1 = W') ?_ ?_
      · intro J' K' hJ' hK'
        rcases hsz.out with e | e
        · have s1 : (sz == 0) = true := by rw [e]; rfl
          have s2 : (sz != 0) = false := by rw [e]; rfl
          replace e := Lib.hid e
          go_wp2_with fail
          exact ExF.mk rfl rfl (hkp1.out.symm ▸ (by kernel_rfl)) (hJ' _ _ ⟨rfl, rfl, rfl, rfl, rfl, rfl, rfl, rfl⟩)
        · have s1 : (sz == 0) = false := s1b e
          have s2 : (sz != 0) = true := by rw [bne, s1]; rfl
          have s3 : (sz == 1 + (st.length : Int)) = true := by rw [beq_iff_eq]; exact e
          have s4 : (sz != 1 + (st.length : Int)) = false := by rw [bne, s3]; rfl
          replace e := Lib.hid e
          go_wp2_with fail
          exact ExF.mk rfl rfl (hkp1.out.symm ▸ (by kernel_rfl)) (hJ' _ _ ⟨rfl, rfl, rfl, rfl, rfl, rfl, rfl, rfl⟩)
      rintro u2 _ hk2 ⟨e140, q20, q21, q22, q23, q24, q25, rfl⟩
      have hx2 := hx1.out.keep hk2
      have hkI2 : Hid (keepI.map u2 = keepI.map u) := hk2.trans hk1.out
      have hkp2 : Hid (_ = _) := (keepI_eq u2).trans (by rw [hx2.s4, hx2.s15, hx2.s17, hx2.s19])
      rw [frame363, hx2.s4, hx2.s15, hx2.s17, hx2.s19, q20, q21, q22, q23, q24, q25, e140]
      clear hk2 q20 q21 q22 q23 q24 q25 e140
      replace hx2 := Lib.hid hx2
      go_upto_region 29 with fail
      refine name_wp ?_
      intro V hV
      obtain ⟨m1, m2, m3, m4, m5⟩ := hS.out.mark #[.int .i64 (zo : Int), .int .i64 (zp : Int), .int .i64 (zd : Int)] (.int .i64 (1 + (st.length : Int)))
      rw [← hW1.out] at m1 m2 m3 m4 m5
      have hnext : Hid (∀ rd' c' sv' W', Below (w4.heap.size + 1) V W' → Two (w4.heap.size + 1) c'.st [] sv' (.slice none 0 0) W' → stepM L ⟨pc, st, ip, out⟩ = .go c' → inp.drop rd' = c'.inp → rd' ≤ inp.length → c'.out.length ≤ n + 1 → SafeAt L w4 inp rd' (n + 1) c' sv' (sn.set pc (1 + (st.length : Int))) W') := fun rd' c' sv' W' hb hT hs hi hr ho => SafeAt.next hForm hgood hS.out (V := V) (hV ▸ m2) (hV ▸ m3) hb hT hs hi hr ho h15
      have hTV : Two (w4.heap.size + 1) st [] (.slice sa st.length sc) (.slice none 0 0) V := hV ▸ m1
      have hyV : V.cell? ⟨wr.heap.size, 2, none⟩ = some (.int .i64 (zd : Int)) := hV ▸ m5.cell (j := 2) rfl
      have hrV : RefRow V gL 0 L := hx.row.keep ((show Below w4.heap.size w4 V from hV ▸ m3).block gL hx.gl)
      have hsV : w4.heap.size + 1 ≤ V.heap.size := by rw [hV, m4]; omega
      replace hV := Lib.hid hV
      refine wp_cut_frame 363 keepI u2 (fun u' W' => u' 158 = .int .i64 (zp : Int) ∧ u' 20 = .slice sa st.length sc ∧ u' 21 = .string (str out) ∧ u' 22 = .int .i64 (rd : Int) ∧ u' 23 = .int .i64 (pc : Int) ∧ u' 24 = .int .i64 ((n : Int) + 1) ∧ u' 25 = .pointer (some ⟨wr.heap.size, 0, none⟩) ∧ u' 26 = .int .i64 ((pc : Int) + 1) ∧ u' 27 = .int .i64 ((st.length : Int) - 1) ∧ V = W') ?_ ?_
      · intro J' K' hJ' hK'
        have y1V : V.cell? ⟨wr.heap.size, 1, none⟩ = some (.int .i64 (zp : Int)) := hV.out ▸ m5.cell (j := 1) rfl
        clear m1 m2 m3 m4 m5
        go_wp2_with fail
        exact ExF.mk rfl rfl (hkp2.out.symm ▸ (by kernel_rfl)) (hJ' _ _ ⟨rfl, rfl, rfl, rfl, rfl, rfl, rfl, rfl, rfl, rfl⟩)
      rintro u3 _ hk3 ⟨e158, p20, p21, p22, p23, p24, p25, p26, p27, rfl⟩
      have hx3 := hx2.out.keep hk3
      have hkI3 : Hid (keepI.map u3 = keepI.map u) := hk3.trans hkI2.out
      go_step
      refine wp_cut_frame 363 keepO u3 (OpR L inp w4 n (sn.set pc (1 + (st.length : Int)))) ?_ ?_
      · intro J' K' hJ' hK'
        exact safe_ops hop h11 hx3 ⟨p20, p21, p22, p25, p26, p27, e158, hyV, hTV, hrV, hsV, hzz.out, hpc, htk, h16, hol.out, h15, hrle, hinp.out, hnext.out⟩ J' K' _ hJ' hK'
      rintro u4 W6 hk4 ⟨rd', ⟨pc', st', ip', out'⟩, sv', r20, r21, r22, r26, hS'⟩
      dsimp only at r21 r26
      have hkI4 : Hid (keepI.map u4 = keepI.map u) := (keep_sub hk4 keep_IO).trans hkI3.out
      have hx4 := hx.keep hkI4.out
      have r24 : u4 24 = .int .i64 ((n : Int) + 1) := (keep_at hk4 (by decide)).trans p24
      have hkp4 : Hid (_ = _) := (keepI_eq u4).trans (by rw [hx4.s4, hx4.s15, hx4.s17, hx4.s19])
      obtain ⟨⟨sa', sc', rfl⟩, _⟩ := hS'.two.sval
      have hpc' := hgood.inside _ _ hS'.rch
      have hml' := (hm.le _ _ hS'.rch).1
      dsimp only at hpc' hml' r20
      rw [frame363, hx4.s4, hx4.s15, hx4.s17, hx4.s19, r20, r21, r22, r26, r24]
      clear r20 r21 r22 r26 r24 hk4 hk3 p20 p21 p22 p23 p24 p25 p26 p27 e158
      replace hx3 := Lib.hid hx3
      replace hx4 := Lib.hid hx4
      obtain ⟨e1, e2, e3⟩ := end_tests hpc' hml'
      replace hS' := Lib.hid hS'
      replace hpc' := Lib.hid hpc'
      replace hml' := Lib.hid hml'
      go_step
      go_wp2_with fail
      exact HandF.mk (1500 - (n + 1)) rfl rfl (hkI4.out ▸ (hkp4.out.symm ▸ (by kernel_rfl))) (end_less h15 hkn.out) (hJ _ _ _ ⟨_, rd', n + 1, ⟨pc', st', ip', out'⟩, _, rfl, rfl, rfl, rfl, rfl, end_count h15, hS'.out⟩)
  · have hd15 : decide ((n : Int) < 1500) = false := by simp; omega
    have hend : Hid (∀ u' W', u' 21 = .string (str out) → u' 23 = .int .i64 (pc : Int) → u' 24 = .int .i64 (n : Int) → Below w4.heap.size w4 W' → E u' W') := fun u' W' h1 h2 h3 h4 => hEx _ _ ⟨n, ⟨pc, st, ip, out⟩, zp, h1, h2, h3, h4, hpc, hzop.out, hS.went, .inr (by omega)⟩
    replace hS := Lib.hid hS
    go_wp2_with fail
    exact ExF.mk rfl rfl (hkp.out.symm ▸ (by kernel_rfl)) (hend.out _ _ rfl rfl rfl hBq)
end Go.Proofs.YtainohbfcehpoaaDoor
