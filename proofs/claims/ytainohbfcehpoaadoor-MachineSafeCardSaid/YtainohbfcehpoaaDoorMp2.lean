/-
  MachineSafe: the inner loop, the outer round. (Printed by genmo4.py.)
-/
import Derived.Test.YtainohbfcehpoaaDoorMp1
import Derived.Deep.Cut
namespace Go.Proofs.YtainohbfcehpoaaDoor
open Go.RowKit Go.Shelf

theorem inBlock_same {id : Nat} {Q : Exit → Act → World → Prop} {a : Act} {w : World} : Exit.inBlock id Q (.exit id) a w = Q .normal a w := by simp [Exit.inBlock]
theorem formed_len {cd : List UInt8} {L : List Ins} (hf : formed cd = some L) : L.length ≤ 1024 := by
  have hlen := (formed_parts hf).2.1
  have h1 := (evSeq_dec _ cd (Nat.le_refl _) 0).1 L (formed_parts hf).2.2.1
  have h2 := evSeq_len _ cd (Nat.le_refl _) 0
  rw [h1, List.length_map] at h2
  omega
/-- The inner loop. -/
theorem safe_loop {L : List Ins} {inp : List UInt8} {P : ByteArray} {w4 : World} {gL cap m : Nat} (hm : MostOf L m) {a : Act} (hd : a.defers = []) (hn : a.tmps.size = 363) (hx : SafeCtx L inp P w4 gL cap m (slotOf a)) (hE : EnvR w4) {W : World} (hR : SafeR L inp w4 1500 (slotOf a) W)
    (Q : Exit → Act → World → Prop) (hQ : ∀ u' W', keepI.map u' = keepI.map (slotOf a) → SafeE L inp w4 u' W' → Q (.exit 2) (frameOf 363 u') W') : (Code.loop body2).wp Tryd.prog Q a W := by
  refine wp_loop_frame 363 keepI (SafeR L inp w4) 1500 hd hn hR ?_
  intro k u w' hR' hk J K hJ hK
  refine safe_round hm k (hx.keep hk) hE hR' J K (SafeE L inp w4) Q hJ hK (fun _ _ h => h) ?_
  rintro a' W' ⟨h1, h2, h3, h4⟩
  rw [act_frame h1 h2]
  exact hQ _ _ (h3.trans hk) h4
def keep1 : List Nat := [0, 1, 2, 3, 4, 5, 6, 7, 8, 9, 11, 12, 13, 33, 34, 35, 36, 37, 38, 39, 40, 41, 42, 43, 44, 45, 46, 47, 48, 49, 50, 51, 52]
set_option maxRecDepth 100000 in
theorem keep1_eq (u : Nat → Value) : keep1.map u = [u 0, u 1, u 2, u 3, u 4, u 5, u 6, u 7, u 8, u 9, u 11, u 12, u 13, u 33, u 34, u 35, u 36, u 37, u 38, u 39, u 40, u 41, u 42, u 43, u 44, u 45, u 46, u 47, u 48, u 49, u 50, u 51, u 52] := by kernel_rfl
set_option maxRecDepth 100000 in
theorem keep_1I : ∀ i ∈ keep1, i ∈ keepI := by decide
/-- What lies in the slots that the outer loop leaves. -/
structure OutCtx (made : List UInt8) (P : ByteArray) (g : Nat) (u : Nat → Value) : Prop where
  s4 : u 4 = .string P
  s11 : u 11 = .bool true
  s12 : u 12 = .string (str made)
  s51 : u 51 = .slice (some ⟨g, 0, none⟩) 3 3
  s52 : u 52 = .int .i64 3
theorem OutCtx.keep {made : List UInt8} {P : ByteArray} {g : Nat} {u v : Nat → Value} (h : OutCtx made P g u) (hk : keep1.map v = keep1.map u) : OutCtx made P g v :=
  ⟨(keep_at hk (by decide)).trans h.s4, (keep_at hk (by decide)).trans h.s11, (keep_at hk (by decide)).trans h.s12, (keep_at hk (by decide)).trans h.s51, (keep_at hk (by decide)).trans h.s52⟩
def OutR (W : World) (k : Nat) (u : Nat → Value) (W' : World) : Prop := ∃ j : Nat, k + j = 3 ∧ u 53 = .int .i64 (j : Int) ∧ Below W.heap.size W W'
set_option maxRecDepth 100000 in
set_option maxHeartbeats 20000000 in
theorem out_round {made chg r2 inp : List UInt8} {P : ByteArray} {w W : World} {g : Nat} (hE : EnvR w) (hBW : Below w.heap.size w W) (hA : Arr W g 9 [.string (str made), .string (str chg), .string (str r2)]) (hl1 : made.length ≤ 761) (hl2 : chg.length ≤ 761) (hl3 : r2.length ≤ 60) (hil : inp.length ≤ 30)
    (hmade : ∃ l, formed made = some l ∧ Good l) (hP : P = str inp) (k : Nat) {u : Nat → Value} (hx : OutCtx made P g u) {wr : World} (hR : OutR W k u wr)
    (J : Nat → (Nat → Value) → World → Prop) (K : Act → World → Prop) (E : (Nat → Value) → World → Prop) (Q : Exit → Act → World → Prop) (hJ : ∀ k u' W', OutR W k u' W' → J k u' W') (hK : ∀ a' W', HandF 363 keep1 u J k a' W' → K a' W')
    (hEx : ∀ u' W', Below W.heap.size W W' → E u' W') (hQ : ∀ a' W', ExF 363 keep1 u E a' W' → Q (.exit 0) a' W') : body1.wp Tryd.prog (Exit.then K Q) (frameOf 363 u) wr := by
  obtain ⟨j, hkj, s53, hBr⟩ := hR
  have hBT := hBW.trans (hBr.mono hBW.size)
  have hkp : Hid (_ = _) := (keep1_eq u).trans (by rw [hx.s4, hx.s11, hx.s12, hx.s51, hx.s52])
  rw [frame363, hx.s4, hx.s11, hx.s12, hx.s51, hx.s52, s53]
  clear s53
  replace hx := Lib.hid hx
  conv => arg 2; whnf
  by_cases hlt : j < 3
  · have hd : decide ((j : Int) < 3) = true := by simp; omega
    have hAr : Arr wr g 9 [.string (str made), .string (str chg), .string (str r2)] := (hBr.block g hA.lt).trans hA
    obtain ⟨cd, hcd, hcl2⟩ : ∃ cd, wr.cell? ⟨g, j, none⟩ = some (.string (str cd)) ∧ cd.length ≤ 1000 := by
      rcases (show j = 0 ∨ j = 1 ∨ j = 2 by omega) with rfl | rfl | rfl
      · exact ⟨made, hAr.cell (j := 0) rfl, by omega⟩
      · exact ⟨chg, hAr.cell (j := 1) rfl, by omega⟩
      · exact ⟨r2, hAr.cell (j := 2) rfl, by omega⟩
    have i2 : 0 ≤ (j : Int) := by omega
    have i3 : (j : Int) < 3 := by omega
    have hV := Lib.hid (Verify_any cd wr (by omega) (hE.below hBT).env.ops)
    have hIns := fun W' => Lib.hid (insR_any cd W' (by omega))
    have hRu := fun W' (hb : Below w.heap.size w W') => Lib.hid (Run_any cd inp 1500 W' (by omega) (by omega) (hE.below hb).env.ops ⟨by omega, by omega⟩)
    rw [← hP] at hRu
    have hw1j : IntKind.i64.wrap ((j : Int) + 1) = ((j + 1 : Nat) : Int) := by rw [Int.natCast_succ]; exact IntWalk.i64_in _ (by omega)
    have hneq := fun h : cd ≠ made => str_neq h
    have hPG : ∀ i (h : i < P.size), (((P)[i].toNat : Nat) : Int) = (inp[i]!.toNat : Nat) := by
      subst hP
      intro i h
      rw [getElem!_pos inp i (by rw [str_size] at h; exact h)]
      show (((str inp).data[i]'_ : UInt8).toNat : Int) = _
      simp [str]
    have hps : P.size = inp.length := by rw [hP]; exact str_size inp
    have hcnt : 3 - (j + 1) < k ∧ 3 - (j + 1) + (j + 1) = 3 := by omega
    have hEfin := fun u' W' (h1 : u' 53 = .int .i64 ((j + 1 : Nat) : Int)) (h2 : Below W.heap.size W W') => hJ (3 - (j + 1)) u' W' ⟨j + 1, hcnt.2, h1, h2⟩
    replace hEfin := Lib.hid hEfin
    replace hPG := Lib.hid hPG
    replace hneq := Lib.hid hneq
    replace hcnt := Lib.hid hcnt
    replace hA := Lib.hid hA
    replace hmade := Lib.hid hmade
    replace hP := Lib.hid hP
    clear hAr
    go_wp2_with fail
    refine hV.out.mono ?_
    rintro e w3 ⟨hv1, hb3⟩
    have hB3 := hBr.trans (hb3.mono hBr.size)
    have hBT3 := hBW.trans (hB3.mono hBW.size)
    rcases hv1 with ⟨L, m, hf, hgood, hmost, rfl⟩ | ⟨hnot, rfl⟩
    · have hm16 := most_le16 hgood hmost
      have hd1 : decide ((m : Int) < 0) = false := by simp
      have hd2 : decide ((16 : Int) < (m : Int)) = false := by simp; omega
      replace hf := Lib.hid hf
      clear hV
      go_wp2_with fail
      refine (hIns _).out.mono ?_
      rintro e w4 ⟨hyes, _, hb4⟩
      obtain ⟨gL, cap, rfl, hg0, hg1, hLc, hcm, hRR⟩ := hyes L hf.out
      have hB4 := hB3.trans (hb4.mono hB3.size)
      have hBT4 := hBW.trans (hB4.mono hBW.size)
      have hForm := (formed_parts hf.out).2.2.2.2
      have hL1 := formed_len hf.out
      have hmk := fun W => make_ints W L.length (Nat.le_trans hL1 (by decide))
      clear hyes hIns
      go_wp2_with fail
      refine safe_loop hmost rfl rfl (by exact ⟨rfl, rfl, rfl, rfl, hps, hPG.out, hRR, hg1, hL1, hForm, hgood, hil⟩) (hE.below hBT4) (by exact ⟨_, 0, 0, ⟨0, [], inp, []⟩, _, rfl, rfl, rfl, rfl, rfl, rfl, SafeAt.start L w4 inp⟩) _ ?_
      rintro u' W6 hk' ⟨n, ⟨pc, st, ip, out⟩, zp, r21, r23, r24, hb6, hpc, hzop, hwent, hcase⟩
      dsimp only at r21 r23 hpc hzop
      have hk1 : Hid (keep1.map u' = keep1.map u) := (keep_sub hk' keep_1I).trans (hkp.out.symm ▸ (by kernel_rfl))
      have r4 : u' 4 = .string P := keep_at hk' (by decide)
      have r11 : u' 11 = .bool true := keep_at hk' (by decide)
      have r12 : u' 12 = .string (str made) := keep_at hk' (by decide)
      have r14 : u' 14 = .string (str cd) := keep_at hk' (by decide)
      have r17 : u' 17 = .slice (some ⟨gL, 0, none⟩) L.length cap := keep_at hk' (by decide)
      have r51 : u' 51 = .slice (some ⟨g, 0, none⟩) 3 3 := keep_at hk' (by decide)
      have r52 : u' 52 = .int .i64 3 := keep_at hk' (by decide)
      have r53 : u' 53 = .int .i64 (j : Int) := keep_at hk' (by decide)
      rw [inBlock_same]
      show (_ : Act → World → Prop) _ _
      have hkp6 : Hid (_ = _) := (keep1_eq u').trans (by rw [r4, r11, r12, r51, r52])
      have hB6 := hB4.trans (hb6.mono hB4.size)
      have hBT6 := hBW.trans (hB6.mono hBW.size)
      have hrq := hRu W6 hBT6
      have hRow6 : RefRow W6 gL 0 L := hRR.keep (hb6.block gL hg1)
      clear hk'
      rw [frame363, r4, r11, r12, r14, r17, r21, r23, r24, r51, r52, r53]
      clear r4 r11 r12 r14 r17 r21 r23 r24 r51 r52 r53 hRu hmk
      obtain ⟨x0, x1, x2⟩ := hRow6 pc hpc
      simp only [Nat.zero_add] at x0 x1 x2
      rw [hzop] at x1
      have j0 : (0 : Int) ≤ (pc : Int) := by omega
      have j1 : (pc : Int) < (L.length : Int) := by omega
      dsimp only [Exit.then]
      clear hRow6 x0 x2 hRR
      rcases hcase with ⟨h15, h11⟩ | h15
      · have hst : Hid (stepM L ⟨pc, st, ip, out⟩ = .halt) := step11 (hzop.trans h11)
        have hq11 : ((zp : Int) == 11) = true := by rw [h11]; rfl
        have hd15 : decide ((n : Int) < 1500) = true := by simp; omega
        have hwn : IntKind.i64.wrap ((n : Int) + 1) = (n : Int) + 1 := IntWalk.i64_in _ (by omega)
        have heq := str_eqq out
        replace h11 := Lib.hid h11
        replace hwent := Lib.hid hwent
        replace hzop := Lib.hid hzop
        go_step
        go_wp2_with fail
        refine hrq.out.mono ?_
        rintro e w7 hp7
        obtain rfl := run_halts hp7 hf.out hgood hwent.out hst.out h15
        have x7 := cell_below x1 hp7.2
        have hBX := hB6.trans (hp7.2.mono hB6.size)
        clear hp7 hrq
        go_wp2_with fail
        exact HandF.mk (3 - (j + 1)) rfl rfl (hk1.out ▸ (hkp6.out.symm ▸ (by kernel_rfl))) hcnt.out.1 (hEfin.out _ _ (by first | rfl | go_num) hBX)
      · have hd15 : decide ((n : Int) < 1500) = false := by simp; omega
        have hs0 : (str []).toList = [] := by rw [ByteArray.toList_eq]; rfl
        replace hwent := Lib.hid hwent
        replace hzop := Lib.hid hzop
        replace h15 := Lib.hid h15
        have hqe : ∃ b : Bool, ((zp : Int) == 11) = b := ⟨_, rfl⟩
        obtain ⟨b11, hb11⟩ := hqe
        go_step
        go_wp2_with fail
        refine hrq.out.mono ?_
        rintro e w7 hp7
        obtain rfl := run_goes_on hp7 hf.out hgood hwent.out h15.out
        have x7 := cell_below x1 hp7.2
        have hBX := hB6.trans (hp7.2.mono hB6.size)
        clear hp7 hrq
        cases b11
        · go_wp2_with fail
          exact HandF.mk (3 - (j + 1)) rfl rfl (hk1.out ▸ (hkp6.out.symm ▸ (by kernel_rfl))) hcnt.out.1 (hEfin.out _ _ (by first | rfl | go_num) hBX)
        · go_wp2_with fail
          exact HandF.mk (3 - (j + 1)) rfl rfl (hk1.out ▸ (hkp6.out.symm ▸ (by kernel_rfl))) hcnt.out.1 (hEfin.out _ _ (by first | rfl | go_num) hBX)
    · have hne : cd ≠ made := fun e => by
        obtain ⟨l, h1, h2⟩ := hmade.out
        exact hnot l (by rw [e]; exact h1) h2
      have heq := hneq.out hne
      replace hne := Lib.hid hne
      clear hV hIns hRu hnot
      go_wp2_with fail
      exact HandF.mk (3 - (j + 1)) rfl rfl (hkp.out.symm ▸ (by kernel_rfl)) hcnt.out.1 (hEfin.out _ _ (by first | rfl | go_num) hB3)
  · have hd : decide ((j : Int) < 3) = false := by simp; omega
    have hEx2 := hEx
    replace hEx2 := Lib.hid hEx2
    clear hP hmade
    go_wp2_with fail
    exact ExF.mk rfl rfl (hkp.out.symm ▸ (by kernel_rfl)) (hEx2.out _ _ hBr)
end Go.Proofs.YtainohbfcehpoaaDoor
