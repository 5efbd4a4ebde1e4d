/-
  Formats of chapter 4: read.
  Formats of chapter 4: readAll.
  Formats of chapter 4: Parse.
-/
import Derived.Test.YtcpfmlaipejfpaaGreatDoorK8
import Derived.Deep.Cut
import Derived.Deep.CutRange
import Derived.Deep.CutBlock
import Derived.Lib.CountLaws
namespace Go.Proofs.YtcpfmlaipejfpaaGreatDoor
open Go.RowKit Go.Shelf

attribute [local go_sem] Oper.semAt_some

set_option maxRecDepth 100000 in
/-- The kind's struct, taken out of the table by value, by its last function. -/
theorem kind_index2 (b1 b2 : Nat) (k : Int) (hk : withinZ k 1 6 = true) {z : Value} (hz : (kindsL b1 b2)[k.toNat * 3 + 2]? = some z) : ∃ x y, ∀ W, (Instr.index 82 (.agg (kindsL b1 b2).toArray) (.int .i64 k)).run Tryz.prog W = .ok (.agg #[x, y, z]) W := by
  have h6 : k = 1 ∨ k = 2 ∨ k = 3 ∨ k = 4 ∨ k = 5 ∨ k = 6 := by have := withinZ_iff.1 hk; omega
  rcases h6 with rfl | rfl | rfl | rfl | rfl | rfl
  · injection hz with hz; subst hz; exact ⟨(kindsL b1 b2).getD 3 .nilFunc, (kindsL b1 b2).getD 4 .nilFunc, fun W => by kernel_rfl⟩
  · injection hz with hz; subst hz; exact ⟨(kindsL b1 b2).getD 6 .nilFunc, (kindsL b1 b2).getD 7 .nilFunc, fun W => by kernel_rfl⟩
  · injection hz with hz; subst hz; exact ⟨(kindsL b1 b2).getD 9 .nilFunc, (kindsL b1 b2).getD 10 .nilFunc, fun W => by kernel_rfl⟩
  · injection hz with hz; subst hz; exact ⟨(kindsL b1 b2).getD 12 .nilFunc, (kindsL b1 b2).getD 13 .nilFunc, fun W => by kernel_rfl⟩
  · injection hz with hz; subst hz; exact ⟨(kindsL b1 b2).getD 15 .nilFunc, (kindsL b1 b2).getD 16 .nilFunc, fun W => by kernel_rfl⟩
  · injection hz with hz; subst hz; exact ⟨(kindsL b1 b2).getD 18 .nilFunc, (kindsL b1 b2).getD 19 .nilFunc, fun W => by kernel_rfl⟩
theorem cut_len (l sep : List UInt8) : (Lib.cut l sep).1.length ≤ l.length ∧ (Lib.cut l sep).2.1.length ≤ l.length := by
  unfold Lib.cut
  split
  · exact ⟨by rw [List.length_take]; omega, by rw [List.length_drop]; omega⟩
  · exact ⟨Nat.le_refl _, by simp⟩
theorem unhex_len : ∀ (s t : List UInt8), unhexF s = some t → t.length ≤ s.length
  | [], t, h => by simp only [unhexF] at h; injection h with h; rw [← h]; exact Nat.le_refl _
  | [a], t, h => by
    simp only [unhexF] at h
    cases ha : hexV a with
    | none => rw [ha] at h; cases h
    | some d => rw [ha] at h; injection h with h; rw [← h]; simp
  | a :: b :: r, t, h => by
    simp only [unhexF] at h
    cases ha : hexV a with
    | none => rw [ha] at h; cases h
    | some d =>
      rw [ha] at h
      dsimp only at h
      cases hb : hexV b with
      | none => rw [hb] at h; cases h
      | some e =>
        rw [hb] at h
        dsimp only at h
        cases hr : unhexF r with
        | none => rw [hr] at h; cases h
        | some u =>
          rw [hr] at h
          have := unhex_len r u hr
          injection h with h
          rw [← h]
          simp only [List.length_cons]
          omega
theorem fieldOf_kind {word rest : List UInt8} {f : Fld} (h : fieldOf word rest = some f) : withinZ f.kind 1 6 = true := by
  unfold fieldOf at h
  cases hm : fromOf rest with
  | none => rw [hm] at h; cases h
  | some m =>
    rw [hm] at h
    dsimp only at h
    split at h
    · obtain ⟨_, _, rfl⟩ := Option.map_eq_some_iff.1 h; rfl
    · split at h
      · obtain ⟨_, _, rfl⟩ := Option.map_eq_some_iff.1 h; rfl
      · split at h
        · split at h
          · obtain ⟨_, _, rfl⟩ := Option.map_eq_some_iff.1 h; rfl
          · obtain ⟨_, _, rfl⟩ := Option.map_eq_some_iff.1 h; rfl
        · split at h
          · obtain ⟨_, _, rfl⟩ := Option.map_eq_some_iff.1 h; rfl
          · split at h
            · obtain ⟨_, _, rfl⟩ := Option.map_eq_some_iff.1 h; rfl
            · split at h
              · obtain ⟨_, _, rfl⟩ := Option.map_eq_some_iff.1 h; rfl
              · cases h
/-- A box with a field in it, on its way. -/
structure BoxF (W0 : World) (f : Fld) (wx : World) : Prop where
  ok : FldOk f
  txt : f.text.length ≤ 100000
  arr : Arr wx W0.heap.size 55 (fldC f)
  below : Below W0.heap.size W0 wx
theorem BoxF.later {W0 wx wy : World} {f : Fld} (h : BoxF W0 f wx) (hb : Below wx.heap.size wx wy) : BoxF W0 f wy := ⟨h.ok, h.txt, h.arr.below hb, h.below.trans (hb.mono h.below.size)⟩
theorem BoxF.set {W0 wx : World} {f g : Fld} (h : BoxF W0 f wx) (j : Nat) (u : Value) (hg : (fldC f).set j u = fldC g) (ho : FldOk g) (ht : g.text.length ≤ 100000) : BoxF W0 g (wx.setCell ⟨W0.heap.size, j, none⟩ u) :=
  ⟨ho, ht, by rw [← hg]; exact h.arr.set j u, h.below.setCell (p := ⟨W0.heap.size, j, none⟩) (Nat.le_refl _) u⟩
theorem keepFar_pre {tB mB : Nat} {lv lv' : Value} {fvs fvs' : List Value} {w w1 w' : World} (hb : Below w.heap.size w w1) (h : KeepFar tB mB lv fvs lv' fvs' w1 w') : KeepFar tB mB lv fvs lv' fvs' w w' := fun b hlt h1 h2 h3 h4 => by
  obtain ⟨q1, q2⟩ := h b (Nat.lt_of_lt_of_le hlt hb.size) h1 h2 h3 h4
  exact ⟨q1.trans (hb.block b hlt), q2⟩
theorem i64_small (n : Int) (h0 : -10 ≤ n) (h1 : n ≤ 10) : I64 n := ⟨by omega, by omega⟩
set_option maxRecDepth 100000 in
set_option maxHeartbeats 16000000 in
theorem read_any {B tB n H mB : Nat} {t : Tab} {lv : Value} {fvs : List Value} {w : World} (h : TabS B tB t n H mB lv fvs w) (hn : n ≤ t.list.length) (line : List UInt8) (hl : line.length ≤ 100000) (hE : Env w) :
    Calls Tryz.prog 80 #[.pointer (some ⟨tB, 0, none⟩), .string (str line)] w fun e w' => Below B w w' ∧ ((∃ t' n' H' lv' fvs', readL t line = some t' ∧ e = .returned (.tuple #[]) ∧ n' ≤ t'.list.length ∧ TabS B tB t' n' H' mB lv' fvs' w' ∧ KeepFar tB mB lv fvs lv' fvs' w w') ∨ (readL t line = none ∧ e = errE ∧ FarStay tB mB lv fvs w w')) := by
  have hc1 := cut_any line [32] w (by omega) hE
  rw [show str [32] = ⟨#[32]⟩ from rfl] at hc1
  replace hc1 := Lib.hid hc1
  have hlw : (str (Lib.cut line [32]).1).toList = (Lib.cut line [32]).1 := by rw [ByteArray.toList_eq, str_list]
  have hrs := (cut_len line [32]).2
  have hBw : B ≤ w.heap.size := Nat.le_trans h.bt (Nat.le_of_lt h.blk.lt)
  by_cases hfm : (Lib.cut line [32]).1 = formatT
  · have hq0 : ((Lib.cut line [32]).1 == [102, 111, 114, 109, 97, 116]) = true := by rw [hfm]; rfl
    have hrl : Hid (readL t line = match numF (Lib.cut line [32]).2.1 with
      | none => none
      | some id => t.beginT id) := by show _ = _; unfold readL; rw [if_pos hfm]; rfl
    replace hfm := Lib.hid hfm
    generalize (Lib.cut line [32]).1 = word at *
    generalize (Lib.cut line [32]).2.1 = rest at *
    generalize (Lib.cut line [32]).2.2 = more at *
    go_enter Tryz.func80, Tryz.ntmps80
    go_wp2_with fail
    refine hc1.out.mono ?_
    rintro e w1 ⟨rfl, q, rfl⟩
    have hb0 : Below w.heap.size w (w.drewN q) := below_drewN (Below.refl _ _) q
    have h0 := h.below hb0
    have hE0 := hE.below hb0
    generalize w.drewN q = W0 at *
    have hnu := Lib.hid (number_any rest W0 (by omega) hE0)
    go_wp2_with fail
    refine hnu.out.mono ?_
    rintro e w2 ⟨hp, hb2, hI⟩
    have hB2 : Below B w w2 := (hb0.trans (hb2.mono hb0.size)).mono hBw
    have h2 := h0.below hb2
    rcases hp with ⟨id, hid, rfl⟩ | ⟨hno, rfl⟩
    · have hbe := Lib.hid (begin_any h2 (by have := h.len; omega) id (hI id hid))
      replace hid := Lib.hid hid
      clear hI hnu
      go_wp2_with fail
      refine hbe.out.mono ?_
      rintro e w3 ⟨hb3, ⟨t', n', H', lv', fvs', ht, rfl, hn', hT, hKF⟩ | ⟨ht, rfl, hFS⟩⟩
      · have hlen : t'.list.length = t.list.length + 1 := by
          unfold Tab.beginT at ht
          cases hf : t.fin with
          | none => rw [hf] at ht; cases ht
          | some u =>
            rw [hf] at ht
            have hu := fin_list hf
            dsimp only at ht
            split at ht
            · injection ht with ht
              rw [← ht]
              simp [hu]
            · cases ht
        replace ht := Lib.hid ht
        replace hT := Lib.hid hT
        replace hKF := Lib.hid (keepFar_pre (hb0.trans (hb2.mono hb0.size)) hKF)
        go_wp2_with fail
        refine bodyPost_ret (results_none rfl _ _ _) rfl ?_
        exact ⟨hB2.trans hb3, .inl ⟨t', n', H', lv', fvs', by rw [hrl.out, hid.out]; exact ht.out, rfl, by omega, hT.out, hKF.out⟩⟩
      · dsimp only [errE, errV]
        exact ⟨rfl, hB2.trans hb3, .inr ⟨by rw [hrl.out, hid.out]; exact ht, rfl, FarStay.pre (hb0.trans (hb2.mono hb0.size)) hFS⟩⟩
    · dsimp only [errE, errV]
      exact ⟨rfl, hB2, .inr ⟨by rw [hrl.out, hno], rfl, FarStay.of_below (hb0.trans (hb2.mono hb0.size))⟩⟩
  · have hq0 : ((Lib.cut line [32]).1 == [102, 111, 114, 109, 97, 116]) = false := by simpa [formatT] using hfm
    have hrl : Hid (readL t line = match fieldOf (Lib.cut line [32]).1 (Lib.cut line [32]).2.1 with
      | none => none
      | some f => if lineF f = line then t.addT f else none) := by show _ = _; unfold readL; rw [if_neg hfm]; rfl
    replace hfm := Lib.hid hfm
    generalize (Lib.cut line [32]).1 = word at *
    generalize (Lib.cut line [32]).2.1 = rest at *
    generalize (Lib.cut line [32]).2.2 = more at *
    go_enter Tryz.func80, Tryz.ntmps80
    go_wp2_with fail
    refine hc1.out.mono ?_
    rintro e w1 ⟨rfl, q, rfl⟩
    have hb0 : Below w.heap.size w (w.drewN q) := below_drewN (Below.refl _ _) q
    have h0 := h.below hb0
    have hE0 := hE.below hb0
    generalize w.drewN q = W0 at *
    have hz0 := hb0.size
    obtain ⟨W1, hW1⟩ : ∃ W1, W1 = W0.alloc (.cells #[.int .i64 0, .int .i64 0, .int .i64 (-1), .string ⟨#[]⟩] 55) := ⟨_, rfl⟩
    have hb1 : Below W0.heap.size W0 W1 := by rw [hW1]; exact (Below.refl _ _).alloc (Nat.le_refl _) _
    have hA1 : Arr W1 W0.heap.size 55 [.int .i64 0, .int .i64 0, .int .i64 (-1), .string ⟨#[]⟩] := by rw [hW1]; exact Arr.new rfl rfl
    have hX1 : BoxF W0 ⟨0, 0, -1, []⟩ W1 := ⟨⟨i64_small _ (by decide) (by decide), i64_small _ (by decide) (by decide), i64_small _ (by decide) (by decide), by simp⟩, by simp, hA1, hb1⟩
    have hc2 := cut_any rest fromT W1 (by omega) (hE0.below hb1)
    have hfo : Hid (fromOf rest = if (Lib.cut rest fromT).2.2 then numF (Lib.cut rest fromT).2.1 else some (-1)) := rfl
    have hcl := cut_len rest fromT
    rw [show str fromT = ⟨#[32, 102, 114, 111, 109, 32]⟩ from rfl, hW1] at hc2
    replace hc2 := Lib.hid hc2
    have hcount : Hid ((Lib.cut rest fromT).1 = (Lib.cut rest fromT).1) := rfl
    obtain ⟨count, hcnt⟩ : ∃ c, c = (Lib.cut rest fromT).1 := ⟨_, rfl⟩
    obtain ⟨byW, hbyW⟩ : ∃ c, c = (Lib.cut rest fromT).2.1 := ⟨_, rfl⟩
    obtain ⟨cnt, hcn⟩ : ∃ c, c = (Lib.cut rest fromT).2.2 := ⟨_, rfl⟩
    rw [← hbyW, ← hcn] at hfo
    rw [← hcnt, ← hbyW] at hcl
    rw [← hcnt, ← hbyW, ← hcn] at hc2
    replace hcnt := Lib.hid hcnt
    replace hbyW := Lib.hid hbyW
    replace hcn := Lib.hid hcn
    go_upto_region 4 with fail
    go_wp2_with fail
    refine hc2.out.mono ?_
    rintro e w2 ⟨rfl, q2, rfl⟩
    rw [← hW1]
    have hX2 : BoxF W0 ⟨0, 0, -1, []⟩ (W1.drewN q2) := hX1.later (below_drewN (Below.refl _ _) q2)
    clear hA1 hX1 hW1 hb1
    generalize W1.drewN q2 = W2 at *
    go_upto_if 32 with fail
    go_cut [] from 33 to 35 (fun wx => ∃ m, fromOf rest = some m ∧ BoxF W0 ⟨0, 0, m, []⟩ wx)
    case first =>
      cases cnt with
      | false =>
        go_wp2_with fail
        go_meet
        exact ⟨-1, by rw [hfo.out]; rfl, hX2⟩
      | true =>
        have hnu := Lib.hid (number_any byW W2 (by omega) (hE0.below hX2.below))
        go_wp2_with fail
        refine hnu.out.mono ?_
        rintro e w3 ⟨hp, hb3, hI⟩
        have hX3 := hX2.later hb3
        rcases hp with ⟨m, hm, rfl⟩ | ⟨hno, rfl⟩
        · have c2 := hX3.arr.cell (j := 2) rfl
          have f2 := hX3.arr.free 2
          have hX4 := hX3.set (g := ⟨0, 0, m, []⟩) 2 (.int .i64 m) rfl ⟨hX3.ok.k, hX3.ok.n, hI m hm, hX3.ok.t⟩ hX3.txt
          replace hm := Lib.hid hm
          clear hI hnu
          go_wp2_with fail
          go_meet
          exact ⟨m, by rw [hfo.out]; exact hm.out, hX4⟩
        · dsimp only [errE, errV]
          have hfo2 : fromOf rest = none := hfo.out.trans hno
          have hff : fieldOf word rest = none := by unfold fieldOf; rw [hfo2]
          exact ⟨rfl, (hb0.trans (hX3.below.mono hz0)).mono hBw, .inr ⟨by rw [hrl.out, hff], rfl, FarStay.of_below (hb0.trans (hX3.below.mono hz0))⟩⟩
    case rest =>
      obtain ⟨m, hm, hX3⟩ := hcut
      have hmI := hX3.ok.m
      have hfd : Hid (fieldOf word rest = (if word = literalT then (unhexF rest).map fun t => ⟨1, 0, m, t⟩
    else if word = numberT then (numF rest).map fun n => ⟨2, n, m, []⟩
    else if word = bytesT then (if Lib.hasPrefix rest fromP then (numF (Lib.trimPrefix rest fromP)).map fun b => ⟨3, 0, b, []⟩ else (numF rest).map fun n => ⟨3, n, m, []⟩)
    else if word = listT then (numF (Lib.cut rest fromT).1).map fun n => ⟨4, n, m, []⟩
    else if word = insideT then (numF (Lib.cut rest fromT).1).map fun n => ⟨5, n, m, []⟩
    else if word = checkT then (numF rest).map fun n => ⟨6, n, m, []⟩
    else none : Option Fld)) := by show _ = _; unfold fieldOf; rw [hm]
      rw [← hcnt.out] at hfd
      replace hm := Lib.hid hm
      replace hfo := Lib.hid hfo
      clear hX2 hc2
      generalize wc = W3 at *
      have hE3 := hE0.below hX3.below
      have hB3 : ∀ {w' : World}, Below W0.heap.size W0 w' → Below B w w' := fun hb => (hb0.trans (hb.mono hz0)).mono hBw
      have hbad : fieldOf word rest = none → readL t line = none := fun h => by rw [hrl.out, h]
      go_upto_block 0 with fail
      go_cut [] from 37 to 80 (fun wx => ∃ f, fieldOf word rest = some f ∧ BoxF W0 f wx)
      case first =>
        by_cases hw : word = literalT
        · have q0 : (word == [108, 105, 116, 101, 114, 97, 108]) = true := by rw [hw]; rfl
          have q1 : (word == [110, 117, 109, 98, 101, 114]) = false := by rw [hw]; rfl
          have q2 : (word == [98, 121, 116, 101, 115]) = false := by rw [hw]; rfl
          have q3 : (word == [108, 105, 115, 116]) = false := by rw [hw]; rfl
          have q4 : (word == [105, 110, 115, 105, 100, 101]) = false := by rw [hw]; rfl
          have q5 : (word == [99, 104, 101, 99, 107]) = false := by rw [hw]; rfl
          replace hw := Lib.hid hw
          have hhx := Lib.hid (fromHex_any rest W3 (by omega) hE3)
          go_wp2_with fail
          refine hhx.out.mono ?_
          rintro e w4 ⟨⟨tx, htx, rfl⟩ | ⟨hno, rfl⟩, hb4⟩
          · have hX4 := hX3.later hb4
            have htl := unhex_len rest tx htx
            have c0 := hX4.arr.cell (j := 0) rfl
            have f0 := hX4.arr.free 0
            have hX5 := hX4.set (g := ⟨1, 0, m, []⟩) 0 (.int .i64 1) rfl ⟨i64_small 1 (by decide) (by decide), hX4.ok.n, hX4.ok.m, hX4.ok.t⟩ hX4.txt
            have c3 := hX5.arr.cell (j := 3) rfl
            have f3 := hX5.arr.free 3
            have hX6 := hX5.set (g := ⟨1, 0, m, tx⟩) 3 (.string (str tx)) rfl ⟨hX5.ok.k, hX5.ok.n, hX5.ok.m, by show tx.length ≤ _; omega⟩ (by show tx.length ≤ _; omega)
            replace htx := Lib.hid htx
            clear hhx
            go_wp2_with fail
            go_meet
            exact ⟨⟨1, 0, m, tx⟩, by rw [hfd.out, if_pos hw.out, htx.out]; rfl, hX6⟩
          · have hX4 := hX3.later hb4
            dsimp only [errE, errV]
            have hff : fieldOf word rest = none := by rw [hfd.out, if_pos hw.out, hno]; rfl
            exact ⟨rfl, hB3 hX4.below, .inr ⟨hbad hff, rfl, FarStay.of_below (hb0.trans (hX4.below.mono hz0))⟩⟩
        · have q0 : (word == [108, 105, 116, 101, 114, 97, 108]) = false := by simpa [literalT] using hw
          have hn0 := Lib.hid hw
          clear hw
          by_cases hw : word = numberT
          · have q1 : (word == [110, 117, 109, 98, 101, 114]) = true := by rw [hw]; rfl
            have q2 : (word == [98, 121, 116, 101, 115]) = false := by rw [hw]; rfl
            have q3 : (word == [108, 105, 115, 116]) = false := by rw [hw]; rfl
            have q4 : (word == [105, 110, 115, 105, 100, 101]) = false := by rw [hw]; rfl
            have q5 : (word == [99, 104, 101, 99, 107]) = false := by rw [hw]; rfl
            replace hw := Lib.hid hw
            have hnu := Lib.hid (number_any rest W3 (by omega) hE3)
            go_wp2_with fail
            refine hnu.out.mono ?_
            rintro e w4 ⟨hp, hb4, hI⟩
            have hX4 := hX3.later hb4
            rcases hp with ⟨nn, hnn, rfl⟩ | ⟨hno, rfl⟩
            · have c0 := hX4.arr.cell (j := 0) rfl
              have f0 := hX4.arr.free 0
              have hX5 := hX4.set (g := ⟨2, 0, m, []⟩) 0 (.int .i64 2) rfl ⟨i64_small 2 (by decide) (by decide), hX4.ok.n, hX4.ok.m, hX4.ok.t⟩ hX4.txt
              have c1 := hX5.arr.cell (j := 1) rfl
              have f1 := hX5.arr.free 1
              have hX6 := hX5.set (g := ⟨2, nn, m, []⟩) 1 (.int .i64 nn) rfl ⟨hX5.ok.k, hI nn hnn, hX5.ok.m, hX5.ok.t⟩ hX5.txt
              replace hnn := Lib.hid hnn
              clear hI hnu
              go_wp2_with fail
              go_meet
              exact ⟨⟨2, nn, m, []⟩, by rw [hfd.out, if_neg hn0.out, if_pos hw.out, hnn.out]; rfl, hX6⟩
            · dsimp only [errE, errV]
              have hff : fieldOf word rest = none := by rw [hfd.out, if_neg hn0.out, if_pos hw.out, hno]; rfl
              exact ⟨rfl, hB3 hX4.below, .inr ⟨hbad hff, rfl, FarStay.of_below (hb0.trans (hX4.below.mono hz0))⟩⟩
          · have q1 : (word == [110, 117, 109, 98, 101, 114]) = false := by simpa [numberT] using hw
            have hn1 := Lib.hid hw
            clear hw
            by_cases hw : word = bytesT
            · have q2 : (word == [98, 121, 116, 101, 115]) = true := by rw [hw]; rfl
              have q3 : (word == [108, 105, 115, 116]) = false := by rw [hw]; rfl
              have q4 : (word == [105, 110, 115, 105, 100, 101]) = false := by rw [hw]; rfl
              have q5 : (word == [99, 104, 101, 99, 107]) = false := by rw [hw]; rfl
              replace hw := Lib.hid hw
              have c0 := hX3.arr.cell (j := 0) rfl
              have f0 := hX3.arr.free 0
              have hX5 := hX3.set (g := ⟨3, 0, m, []⟩) 0 (.int .i64 3) rfl ⟨i64_small 3 (by decide) (by decide), hX3.ok.n, hX3.ok.m, hX3.ok.t⟩ hX3.txt
              obtain ⟨W5, hW5⟩ : ∃ W5, W5 = W3.setCell ⟨W0.heap.size, 0, none⟩ (.int .i64 3) := ⟨_, rfl⟩
              have hpx := prefix_any rest fromP W5
              rw [← hW5] at hX5
              rw [show str fromP = ⟨#[102, 114, 111, 109, 32]⟩ from rfl] at hpx
              have htl := Lib.trimPrefix_le rest fromP
              replace hpx := Lib.hid hpx
              have hE5 := hE0.below hX5.below
              replace hW5 := Lib.hid hW5
              cases hpf : Lib.hasPrefix rest fromP with
              | true =>
                rw [hpf] at hpx
                have hnu := Lib.hid (number_any (Lib.trimPrefix rest fromP) W5 (by omega) hE5)
                replace hpf := Lib.hid hpf
                replace htl := Lib.hid htl
                go_wp2_with (first | (rw [← hW5.out]; refine hpx.out.mono ?_; rintro e w4 ⟨rfl, rfl⟩) | fail)
                refine hnu.out.mono ?_
                rintro e w4 ⟨hp, hb4, hI⟩
                have hX6 := hX5.later hb4
                rcases hp with ⟨nn, hnn, rfl⟩ | ⟨hno, rfl⟩
                · have c2 := hX6.arr.cell (j := 2) rfl
                  have f2 := hX6.arr.free 2
                  have hX7 := hX6.set (g := ⟨3, 0, nn, []⟩) 2 (.int .i64 nn) rfl ⟨hX6.ok.k, hX6.ok.n, hI nn hnn, hX6.ok.t⟩ hX6.txt
                  replace hnn := Lib.hid hnn
                  clear hI hnu
                  go_wp2_with fail
                  go_meet
                  exact ⟨⟨3, 0, nn, []⟩, by rw [hfd.out, if_neg hn0.out, if_neg hn1.out, if_pos hw.out, hpf.out, if_pos rfl, hnn.out]; rfl, hX7⟩
                · dsimp only [errE, errV]
                  have hff : fieldOf word rest = none := by rw [hfd.out, if_neg hn0.out, if_neg hn1.out, if_pos hw.out, hpf.out, if_pos rfl, hno]; rfl
                  exact ⟨rfl, hB3 hX6.below, .inr ⟨hbad hff, rfl, FarStay.of_below (hb0.trans (hX6.below.mono hz0))⟩⟩
              | false =>
                rw [hpf] at hpx
                have hnu := Lib.hid (number_any rest W5 (by omega) hE5)
                replace hpf := Lib.hid hpf
                replace htl := Lib.hid htl
                go_wp2_with (first | (rw [← hW5.out]; refine hpx.out.mono ?_; rintro e w4 ⟨rfl, rfl⟩) | fail)
                refine hnu.out.mono ?_
                rintro e w4 ⟨hp, hb4, hI⟩
                have hX6 := hX5.later hb4
                rcases hp with ⟨nn, hnn, rfl⟩ | ⟨hno, rfl⟩
                · have c1 := hX6.arr.cell (j := 1) rfl
                  have f1 := hX6.arr.free 1
                  have hX7 := hX6.set (g := ⟨3, nn, m, []⟩) 1 (.int .i64 nn) rfl ⟨hX6.ok.k, hI nn hnn, hX6.ok.m, hX6.ok.t⟩ hX6.txt
                  replace hnn := Lib.hid hnn
                  clear hI hnu
                  go_wp2_with fail
                  go_meet
                  exact ⟨⟨3, nn, m, []⟩, by rw [hfd.out, if_neg hn0.out, if_neg hn1.out, if_pos hw.out, hpf.out, if_neg (by decide), hnn.out]; rfl, hX7⟩
                · dsimp only [errE, errV]
                  have hff : fieldOf word rest = none := by rw [hfd.out, if_neg hn0.out, if_neg hn1.out, if_pos hw.out, hpf.out, if_neg (by decide), hno]; rfl
                  exact ⟨rfl, hB3 hX6.below, .inr ⟨hbad hff, rfl, FarStay.of_below (hb0.trans (hX6.below.mono hz0))⟩⟩
            · have q2 : (word == [98, 121, 116, 101, 115]) = false := by simpa [bytesT] using hw
              have hn2 := Lib.hid hw
              clear hw
              by_cases hw : word = listT
              · have q3 : (word == [108, 105, 115, 116]) = true := by rw [hw]; rfl
                have q4 : (word == [105, 110, 115, 105, 100, 101]) = false := by rw [hw]; rfl
                have q5 : (word == [99, 104, 101, 99, 107]) = false := by rw [hw]; rfl
                replace hw := Lib.hid hw
                have hnu := Lib.hid (number_any count W3 (by omega) hE3)
                go_wp2_with fail
                refine hnu.out.mono ?_
                rintro e w4 ⟨hp, hb4, hI⟩
                have hX4 := hX3.later hb4
                rcases hp with ⟨nn, hnn, rfl⟩ | ⟨hno, rfl⟩
                · have c0 := hX4.arr.cell (j := 0) rfl
                  have f0 := hX4.arr.free 0
                  have hX5 := hX4.set (g := ⟨4, 0, m, []⟩) 0 (.int .i64 4) rfl ⟨i64_small 4 (by decide) (by decide), hX4.ok.n, hX4.ok.m, hX4.ok.t⟩ hX4.txt
                  have c1 := hX5.arr.cell (j := 1) rfl
                  have f1 := hX5.arr.free 1
                  have hX6 := hX5.set (g := ⟨4, nn, m, []⟩) 1 (.int .i64 nn) rfl ⟨hX5.ok.k, hI nn hnn, hX5.ok.m, hX5.ok.t⟩ hX5.txt
                  replace hnn := Lib.hid hnn
                  clear hI hnu
                  go_wp2_with fail
                  go_meet
                  exact ⟨⟨4, nn, m, []⟩, by rw [hfd.out, if_neg hn0.out, if_neg hn1.out, if_neg hn2.out, if_pos hw.out, hnn.out]; rfl, hX6⟩
                · dsimp only [errE, errV]
                  have hff : fieldOf word rest = none := by rw [hfd.out, if_neg hn0.out, if_neg hn1.out, if_neg hn2.out, if_pos hw.out, hno]; rfl
                  exact ⟨rfl, hB3 hX4.below, .inr ⟨hbad hff, rfl, FarStay.of_below (hb0.trans (hX4.below.mono hz0))⟩⟩
              · have q3 : (word == [108, 105, 115, 116]) = false := by simpa [listT] using hw
                have hn3 := Lib.hid hw
                clear hw
                by_cases hw : word = insideT
                · have q4 : (word == [105, 110, 115, 105, 100, 101]) = true := by rw [hw]; rfl
                  have q5 : (word == [99, 104, 101, 99, 107]) = false := by rw [hw]; rfl
                  replace hw := Lib.hid hw
                  have hnu := Lib.hid (number_any count W3 (by omega) hE3)
                  go_wp2_with fail
                  refine hnu.out.mono ?_
                  rintro e w4 ⟨hp, hb4, hI⟩
                  have hX4 := hX3.later hb4
                  rcases hp with ⟨nn, hnn, rfl⟩ | ⟨hno, rfl⟩
                  · have c0 := hX4.arr.cell (j := 0) rfl
                    have f0 := hX4.arr.free 0
                    have hX5 := hX4.set (g := ⟨4, 0, m, []⟩) 0 (.int .i64 4) rfl ⟨i64_small 4 (by decide) (by decide), hX4.ok.n, hX4.ok.m, hX4.ok.t⟩ hX4.txt
                    have c1 := hX5.arr.cell (j := 1) rfl
                    have f1 := hX5.arr.free 1
                    have hX6 := hX5.set (g := ⟨4, nn, m, []⟩) 1 (.int .i64 nn) rfl ⟨hX5.ok.k, hI nn hnn, hX5.ok.m, hX5.ok.t⟩ hX5.txt
                    have d0 := hX6.arr.cell (j := 0) rfl
                    have e0 := hX6.arr.free 0
                    have hX7 := hX6.set (g := ⟨5, nn, m, []⟩) 0 (.int .i64 5) rfl ⟨i64_small 5 (by decide) (by decide), hX6.ok.n, hX6.ok.m, hX6.ok.t⟩ hX6.txt
                    replace hnn := Lib.hid hnn
                    clear hI hnu
                    go_wp2_with fail
                    go_meet
                    exact ⟨⟨5, nn, m, []⟩, by rw [hfd.out, if_neg hn0.out, if_neg hn1.out, if_neg hn2.out, if_neg hn3.out, if_pos hw.out, hnn.out]; rfl, hX7⟩
                  · dsimp only [errE, errV]
                    have hff : fieldOf word rest = none := by rw [hfd.out, if_neg hn0.out, if_neg hn1.out, if_neg hn2.out, if_neg hn3.out, if_pos hw.out, hno]; rfl
                    exact ⟨rfl, hB3 hX4.below, .inr ⟨hbad hff, rfl, FarStay.of_below (hb0.trans (hX4.below.mono hz0))⟩⟩
                · have q4 : (word == [105, 110, 115, 105, 100, 101]) = false := by simpa [insideT] using hw
                  have hn4 := Lib.hid hw
                  clear hw
                  by_cases hw : word = checkT
                  · have q5 : (word == [99, 104, 101, 99, 107]) = true := by rw [hw]; rfl
                    replace hw := Lib.hid hw
                    have hnu := Lib.hid (number_any rest W3 (by omega) hE3)
                    go_wp2_with fail
                    refine hnu.out.mono ?_
                    rintro e w4 ⟨hp, hb4, hI⟩
                    have hX4 := hX3.later hb4
                    rcases hp with ⟨nn, hnn, rfl⟩ | ⟨hno, rfl⟩
                    · have c0 := hX4.arr.cell (j := 0) rfl
                      have f0 := hX4.arr.free 0
                      have hX5 := hX4.set (g := ⟨6, 0, m, []⟩) 0 (.int .i64 6) rfl ⟨i64_small 6 (by decide) (by decide), hX4.ok.n, hX4.ok.m, hX4.ok.t⟩ hX4.txt
                      have c1 := hX5.arr.cell (j := 1) rfl
                      have f1 := hX5.arr.free 1
                      have hX6 := hX5.set (g := ⟨6, nn, m, []⟩) 1 (.int .i64 nn) rfl ⟨hX5.ok.k, hI nn hnn, hX5.ok.m, hX5.ok.t⟩ hX5.txt
                      replace hnn := Lib.hid hnn
                      clear hI hnu
                      go_wp2_with fail
                      go_meet
                      exact ⟨⟨6, nn, m, []⟩, by rw [hfd.out, if_neg hn0.out, if_neg hn1.out, if_neg hn2.out, if_neg hn3.out, if_neg hn4.out, if_pos hw.out, hnn.out]; rfl, hX6⟩
                    · dsimp only [errE, errV]
                      have hff : fieldOf word rest = none := by rw [hfd.out, if_neg hn0.out, if_neg hn1.out, if_neg hn2.out, if_neg hn3.out, if_neg hn4.out, if_pos hw.out, hno]; rfl
                      exact ⟨rfl, hB3 hX4.below, .inr ⟨hbad hff, rfl, FarStay.of_below (hb0.trans (hX4.below.mono hz0))⟩⟩
                  · have q5 : (word == [99, 104, 101, 99, 107]) = false := by simpa [checkT] using hw
                    have hn5 := Lib.hid hw
                    clear hw
                    go_wp2_with fail
                    refine (must_false W3).mono ?_
                    rintro e w4 ⟨rfl, rfl⟩
                    dsimp only [errE, errV]
                    have hff : fieldOf word rest = none := by rw [hfd.out, if_neg hn0.out, if_neg hn1.out, if_neg hn2.out, if_neg hn3.out, if_neg hn4.out, if_neg hn5.out]
                    exact ⟨rfl, hB3 hX3.below, .inr ⟨hbad hff, rfl, FarStay.of_below (hb0.trans (hX3.below.mono hz0))⟩⟩
      case rest =>
        obtain ⟨f, hf, hX⟩ := hcut
        have hkd := fieldOf_kind hf
        have hrl2 : Hid (readL t line = if lineF f = line then t.addT f else none) := by show _ = _; rw [hrl.out, hf]
        have hok := hX.ok
        have htx := hX.txt
        have hADD := fun V (hV : Below W0.heap.size W0 V) => add_any (h0.below hV) f hok
        have hln := fun b1 b2 => line_fn f b1 b2 hkd hok.n hok.m htx
        obtain ⟨hk0, hk6⟩ := withinZ_iff.1 hkd
        have hki2 := fun b1 b2 => @kind_index2 b1 b2 f.kind hkd
        have hlf : (str (lineF f)).toList = lineF f := by rw [ByteArray.toList_eq, str_list]
        have hll : (str line).toList = line := by rw [ByteArray.toList_eq, str_list]
        obtain ⟨LN, hLN⟩ : ∃ LN, LN = lineF f := ⟨_, rfl⟩
        rw [← hLN] at hrl2 hlf
        have hA := hX.arr
        have hBX := hX.below
        have hEX := hE0.below hBX
        replace hf := Lib.hid hf
        replace hkd := Lib.hid hkd
        clear hX hX3 hfd hrl hE3
        generalize wc = W4 at *
        obtain ⟨kd, nn, fr, tx⟩ := f
        unfold fldC at hA
        dsimp only at hA hk0 hk6 hki2 hln
        obtain ⟨κ, rfl⟩ : ∃ κ : Nat, kd = (κ : Int) := ⟨kd.toNat, by omega⟩
        rw [← hLN] at hln
        unfold fldV fldC at hADD hln
        dsimp only at hADD hln
        replace hln := Lib.hid hln
        replace hki2 := Lib.hid hki2
        replace hADD := Lib.hid hADD
        replace hLN := Lib.hid hLN
        have s0 := hA.cell (j := 0) rfl
        have s1 := hA.cell (j := 1) rfl
        have s2 := hA.cell (j := 2) rfl
        have s3 := hA.cell (j := 3) rfl
        have zA := hA.lt
        have hzd : W4.heap.size ≤ W4.drew.heap.size := Nat.le_refl _
        have hEd : Env W4.drew := hEX.below (Below.refl _ _).drew
        have hkn := Lib.hid (kinds_any W4.drew)
        have kk0 : (0 : Int) ≤ (κ : Int) := by omega
        have kk1 : (κ : Int) < 7 := by omega
        have hkf2 := kind_field2
        go_upto_region 26 with fail
        by_cases hle : LN = line
        · have hqq : (LN == line) = true := by simpa using hle
          rw [if_pos hle] at hrl2
          replace hle := Lib.hid hle
          have hmt := Lib.hid fun V => must_true V
          refine wp_region_held_drew (S := fun w' => w'.cell? ⟨W0.heap.size, 0, none⟩ = some (.int .i64 (κ : Int)) ∧ w'.cell? ⟨W0.heap.size, 1, none⟩ = some (.int .i64 nn) ∧ w'.cell? ⟨W0.heap.size, 2, none⟩ = some (.int .i64 fr) ∧ w'.cell? ⟨W0.heap.size, 3, none⟩ = some (.string (str tx))) (by kernel_rfl) (by exact ⟨s0, s1, s2, s3⟩) (fun hHeld => ?_)
          refine take_l (i := 1) (v := ?_) rfl (by kernel_rfl) (by kernel_rfl) (by kernel_rfl) (fun _ _ _ h => h) (Or.inl ⟨by kernel_rfl, ?_⟩) (by assumption) ?_
          rotate_left
          · intro w hSw; (try dsimp only at hSw); go_simp; (try with_reducible rfl)
          (try simp only [Act.put, List.setIfInBounds_toArray, List.set_cons_zero, List.set_cons_succ])
          refine take_l (i := 2) (v := ?_) rfl (by kernel_rfl) (by kernel_rfl) (by kernel_rfl) (fun _ _ _ h => h) (Or.inl ⟨by kernel_rfl, ?_⟩) (by assumption) ?_
          rotate_left
          · intro w hSw; (try dsimp only at hSw); go_simp; (try with_reducible rfl)
          (try simp only [Act.put, List.setIfInBounds_toArray, List.set_cons_zero, List.set_cons_succ])
          refine take_l (i := 5) (v := ?_) rfl (by kernel_rfl) (by kernel_rfl) (by kernel_rfl) (fun _ _ _ h => h) (Or.inl ⟨by kernel_rfl, ?_⟩) (by assumption) ?_
          rotate_left
          · intro w hSw; (try dsimp only at hSw); go_simp; (try with_reducible rfl)
          (try simp only [Act.put, List.setIfInBounds_toArray, List.set_cons_zero, List.set_cons_succ])
          refine take_l (i := 7) (v := ?_) rfl (by kernel_rfl) (by kernel_rfl) (by kernel_rfl) (fun _ _ _ h => h) (Or.inl ⟨by kernel_rfl, ?_⟩) (by assumption) ?_
          rotate_left
          · intro w hSw; (try dsimp only at hSw); go_simp; (try with_reducible rfl)
          (try simp only [Act.put, List.setIfInBounds_toArray, List.set_cons_zero, List.set_cons_succ])
          refine wpAnyH_ready (rs := [0]) (by kernel_rfl) (by simp) ?_
          refine ready_l rfl (fun K hK => ?_) AllReadyH.nil
          go_simp
          ((with_reducible refine ((hkn.out)).mono ?_); rintro e vA ⟨b1, b2, rfl, hK1, hK2, hbvA⟩; have hBvA : Below W4.heap.size W4 vA := Below.trans (by repeat first | with_reducible exact Below.refl _ _ | with_reducible assumption | with_reducible refine below_drewN ?_ _ | with_reducible refine Below.drew ?_ | with_reducible refine Below.setCell ?_ (by first | exact Nat.le_refl _ | (simp; done) | (simp; omega) | omega) _ | with_reducible refine Below.alloc ?_ (by first | exact Nat.le_refl _ | (simp; done) | (simp; omega) | omega) _ | exact Below.refl _ _ | assumption) (hbvA.mono (by first | exact Nat.le_refl _ | assumption | (simp; done) | (simp; omega) | omega)); have hzvA := hbvA.size; have hEA := hEd.below hbvA; have q0 := (hbvA.cell (p := ⟨_, 0, none⟩) zA).trans s0; have q1 := (hbvA.cell (p := ⟨_, 1, none⟩) zA).trans s1; have q2 := (hbvA.cell (p := ⟨_, 2, none⟩) zA).trans s2; have q3 := (hbvA.cell (p := ⟨_, 3, none⟩) zA).trans s3; have hzA := Nat.lt_of_lt_of_le zA hbvA.size; obtain ⟨fid, caps, hfk, hen, hca⟩ := hln.out b1 b2; rw [Int.toNat_natCast] at hfk; obtain ⟨kx, ky, hkk⟩ := hki2.out b1 b2 (z := .func (.func fid) #[] caps) (by rw [Int.toNat_natCast]; exact hfk); replace hca := Lib.hid hca; replace hfk := Lib.hid hfk; have hBA := hBX.drew.trans (hbvA.mono hBX.drew.size))
          refine hK.out _ _ (by exact ⟨q0, q1, q2, q3⟩) (fun hHeld => ?_)
          clear hK K
          (try simp only [Act.put, List.setIfInBounds_toArray, List.set_cons_zero, List.set_cons_succ])
          refine take_l (i := 3) (v := ?_) rfl (by kernel_rfl) (by kernel_rfl) (by kernel_rfl) (fun _ _ _ h => h) (Or.inl ⟨by kernel_rfl, ?_⟩) (by assumption) ?_
          rotate_left
          · intro w hSw; (try dsimp only at hSw); go_simp; (try with_reducible rfl)
          (try simp only [Act.put, List.setIfInBounds_toArray, List.set_cons_zero, List.set_cons_succ])
          refine take_l (i := 4) (v := ?_) rfl (by kernel_rfl) (by kernel_rfl) (by kernel_rfl) (fun _ _ _ h => h) (Or.inl ⟨by kernel_rfl, ?_⟩) (by assumption) ?_
          rotate_left
          · intro w hSw; (try dsimp only at hSw); go_simp; (try with_reducible rfl)
          (try simp only [Act.put, List.setIfInBounds_toArray, List.set_cons_zero, List.set_cons_succ])
          refine wpAnyH_ready (rs := [6]) (by kernel_rfl) (by simp) ?_
          refine ready_l rfl (fun K hK => ?_) AllReadyH.nil
          go_simp
          ((with_reducible refine ((hca.out _ hEA hK1 hK2)).mono ?_); rintro e vB ⟨rfl, hbvB⟩; have hBvB : Below W4.heap.size W4 vB := Below.trans (by repeat first | with_reducible exact Below.refl _ _ | with_reducible assumption | with_reducible refine below_drewN ?_ _ | with_reducible refine Below.drew ?_ | with_reducible refine Below.setCell ?_ (by first | exact Nat.le_refl _ | (simp; done) | (simp; omega) | omega) _ | with_reducible refine Below.alloc ?_ (by first | exact Nat.le_refl _ | (simp; done) | (simp; omega) | omega) _ | exact Below.refl _ _ | assumption) (hbvB.mono (by first | exact Nat.le_refl _ | assumption | (simp; done) | (simp; omega) | omega)); have hzvB := hbvB.size; have r0 := (hbvB.cell (p := ⟨_, 0, none⟩) hzA).trans q0; have r1 := (hbvB.cell (p := ⟨_, 1, none⟩) hzA).trans q1; have r2 := (hbvB.cell (p := ⟨_, 2, none⟩) hzA).trans q2; have r3 := (hbvB.cell (p := ⟨_, 3, none⟩) hzA).trans q3; have hBB := hBA.trans (hbvB.mono hBA.size))
          refine hK.out _ _ (by exact ⟨r0, r1, r2, r3⟩) (fun hHeld => ?_)
          clear hK K
          (try simp only [Act.put, List.setIfInBounds_toArray, List.set_cons_zero, List.set_cons_succ])
          refine take_l (i := 8) (v := ?_) rfl (by kernel_rfl) (by kernel_rfl) (by kernel_rfl) (fun _ _ _ h => h) (Or.inl ⟨by kernel_rfl, ?_⟩) (by assumption) ?_
          rotate_left
          · intro w hSw; (try dsimp only at hSw); go_simp; (try with_reducible rfl)
          (try simp only [Act.put, List.setIfInBounds_toArray, List.set_cons_zero, List.set_cons_succ])
          refine wpAnyH_ready (rs := [9]) (by kernel_rfl) (by simp) ?_
          refine ready_l rfl (fun K hK => ?_) AllReadyH.nil
          go_simp
          with_reducible refine (hmt.out vB).mono ?_
          rintro e w8 ⟨rfl, rfl⟩
          (try simp only [Act.put, List.setIfInBounds_toArray, List.set_cons_zero, List.set_cons_succ])
          refine hK.out _ _ (by exact ⟨r0, r1, r2, r3⟩) (fun hHeld => ?_)
          clear hK K
          (try simp only [Act.put, List.setIfInBounds_toArray, List.set_cons_zero, List.set_cons_succ])
          refine wpAnyH_done (by kernel_rfl) ?_ _
          go_wp2_with fail
          refine (hADD.out _ hBB).mono ?_
          rintro e w9 ⟨hb9, ⟨t', fvs', ht, rfl, hT, hKF⟩ | ⟨ht, rfl, hFS⟩⟩
          · have hlen : n ≤ t'.list.length := by
              unfold Tab.addT at ht
              cases hg : t.list.getLast? with
              | none => rw [hg] at ht; cases ht
              | some g =>
                rw [hg] at ht
                dsimp only at ht
                have hpos := List.length_pos_of_mem (List.mem_of_getLast? hg)
                split at ht
                · injection ht with ht
                  rw [← ht]
                  simp
                  omega
                · cases ht
            replace ht := Lib.hid ht
            replace hT := Lib.hid hT
            replace hKF := Lib.hid (keepFar_pre (hb0.trans (hBB.mono hz0)) hKF)
            go_wp2_with fail
            refine bodyPost_end (results_none rfl _ _ _) rfl ?_
            exact ⟨(hB3 hBB).trans hb9, .inl ⟨t', n, H, lv, fvs', by rw [hrl2.out]; exact ht.out, rfl, hlen, hT.out, hKF.out⟩⟩
          · dsimp only [errE, errV]
            exact ⟨rfl, (hB3 hBB).trans hb9, .inr ⟨by rw [hrl2.out]; exact ht, rfl, FarStay.pre (hb0.trans (hBB.mono hz0)) hFS⟩⟩
        · have hqq : (LN == line) = false := by simpa using hle
          rw [if_neg hle] at hrl2
          replace hle := Lib.hid hle
          have hmt := Lib.hid fun V => must_false V
          refine wp_region_held_drew (S := fun w' => w'.cell? ⟨W0.heap.size, 0, none⟩ = some (.int .i64 (κ : Int)) ∧ w'.cell? ⟨W0.heap.size, 1, none⟩ = some (.int .i64 nn) ∧ w'.cell? ⟨W0.heap.size, 2, none⟩ = some (.int .i64 fr) ∧ w'.cell? ⟨W0.heap.size, 3, none⟩ = some (.string (str tx))) (by kernel_rfl) (by exact ⟨s0, s1, s2, s3⟩) (fun hHeld => ?_)
          refine take_l (i := 1) (v := ?_) rfl (by kernel_rfl) (by kernel_rfl) (by kernel_rfl) (fun _ _ _ h => h) (Or.inl ⟨by kernel_rfl, ?_⟩) (by assumption) ?_
          rotate_left
          · intro w hSw; (try dsimp only at hSw); go_simp; (try with_reducible rfl)
          (try simp only [Act.put, List.setIfInBounds_toArray, List.set_cons_zero, List.set_cons_succ])
          refine take_l (i := 2) (v := ?_) rfl (by kernel_rfl) (by kernel_rfl) (by kernel_rfl) (fun _ _ _ h => h) (Or.inl ⟨by kernel_rfl, ?_⟩) (by assumption) ?_
          rotate_left
          · intro w hSw; (try dsimp only at hSw); go_simp; (try with_reducible rfl)
          (try simp only [Act.put, List.setIfInBounds_toArray, List.set_cons_zero, List.set_cons_succ])
          refine take_l (i := 5) (v := ?_) rfl (by kernel_rfl) (by kernel_rfl) (by kernel_rfl) (fun _ _ _ h => h) (Or.inl ⟨by kernel_rfl, ?_⟩) (by assumption) ?_
          rotate_left
          · intro w hSw; (try dsimp only at hSw); go_simp; (try with_reducible rfl)
          (try simp only [Act.put, List.setIfInBounds_toArray, List.set_cons_zero, List.set_cons_succ])
          refine take_l (i := 7) (v := ?_) rfl (by kernel_rfl) (by kernel_rfl) (by kernel_rfl) (fun _ _ _ h => h) (Or.inl ⟨by kernel_rfl, ?_⟩) (by assumption) ?_
          rotate_left
          · intro w hSw; (try dsimp only at hSw); go_simp; (try with_reducible rfl)
          (try simp only [Act.put, List.setIfInBounds_toArray, List.set_cons_zero, List.set_cons_succ])
          refine wpAnyH_ready (rs := [0]) (by kernel_rfl) (by simp) ?_
          refine ready_l rfl (fun K hK => ?_) AllReadyH.nil
          go_simp
          ((with_reducible refine ((hkn.out)).mono ?_); rintro e vA ⟨b1, b2, rfl, hK1, hK2, hbvA⟩; have hBvA : Below W4.heap.size W4 vA := Below.trans (by repeat first | with_reducible exact Below.refl _ _ | with_reducible assumption | with_reducible refine below_drewN ?_ _ | with_reducible refine Below.drew ?_ | with_reducible refine Below.setCell ?_ (by first | exact Nat.le_refl _ | (simp; done) | (simp; omega) | omega) _ | with_reducible refine Below.alloc ?_ (by first | exact Nat.le_refl _ | (simp; done) | (simp; omega) | omega) _ | exact Below.refl _ _ | assumption) (hbvA.mono (by first | exact Nat.le_refl _ | assumption | (simp; done) | (simp; omega) | omega)); have hzvA := hbvA.size; have hEA := hEd.below hbvA; have q0 := (hbvA.cell (p := ⟨_, 0, none⟩) zA).trans s0; have q1 := (hbvA.cell (p := ⟨_, 1, none⟩) zA).trans s1; have q2 := (hbvA.cell (p := ⟨_, 2, none⟩) zA).trans s2; have q3 := (hbvA.cell (p := ⟨_, 3, none⟩) zA).trans s3; have hzA := Nat.lt_of_lt_of_le zA hbvA.size; obtain ⟨fid, caps, hfk, hen, hca⟩ := hln.out b1 b2; rw [Int.toNat_natCast] at hfk; obtain ⟨kx, ky, hkk⟩ := hki2.out b1 b2 (z := .func (.func fid) #[] caps) (by rw [Int.toNat_natCast]; exact hfk); replace hca := Lib.hid hca; replace hfk := Lib.hid hfk; have hBA := hBX.drew.trans (hbvA.mono hBX.drew.size))
          refine hK.out _ _ (by exact ⟨q0, q1, q2, q3⟩) (fun hHeld => ?_)
          clear hK K
          (try simp only [Act.put, List.setIfInBounds_toArray, List.set_cons_zero, List.set_cons_succ])
          refine take_l (i := 3) (v := ?_) rfl (by kernel_rfl) (by kernel_rfl) (by kernel_rfl) (fun _ _ _ h => h) (Or.inl ⟨by kernel_rfl, ?_⟩) (by assumption) ?_
          rotate_left
          · intro w hSw; (try dsimp only at hSw); go_simp; (try with_reducible rfl)
          (try simp only [Act.put, List.setIfInBounds_toArray, List.set_cons_zero, List.set_cons_succ])
          refine take_l (i := 4) (v := ?_) rfl (by kernel_rfl) (by kernel_rfl) (by kernel_rfl) (fun _ _ _ h => h) (Or.inl ⟨by kernel_rfl, ?_⟩) (by assumption) ?_
          rotate_left
          · intro w hSw; (try dsimp only at hSw); go_simp; (try with_reducible rfl)
          (try simp only [Act.put, List.setIfInBounds_toArray, List.set_cons_zero, List.set_cons_succ])
          refine wpAnyH_ready (rs := [6]) (by kernel_rfl) (by simp) ?_
          refine ready_l rfl (fun K hK => ?_) AllReadyH.nil
          go_simp
          ((with_reducible refine ((hca.out _ hEA hK1 hK2)).mono ?_); rintro e vB ⟨rfl, hbvB⟩; have hBvB : Below W4.heap.size W4 vB := Below.trans (by repeat first | with_reducible exact Below.refl _ _ | with_reducible assumption | with_reducible refine below_drewN ?_ _ | with_reducible refine Below.drew ?_ | with_reducible refine Below.setCell ?_ (by first | exact Nat.le_refl _ | (simp; done) | (simp; omega) | omega) _ | with_reducible refine Below.alloc ?_ (by first | exact Nat.le_refl _ | (simp; done) | (simp; omega) | omega) _ | exact Below.refl _ _ | assumption) (hbvB.mono (by first | exact Nat.le_refl _ | assumption | (simp; done) | (simp; omega) | omega)); have hzvB := hbvB.size; have r0 := (hbvB.cell (p := ⟨_, 0, none⟩) hzA).trans q0; have r1 := (hbvB.cell (p := ⟨_, 1, none⟩) hzA).trans q1; have r2 := (hbvB.cell (p := ⟨_, 2, none⟩) hzA).trans q2; have r3 := (hbvB.cell (p := ⟨_, 3, none⟩) hzA).trans q3; have hBB := hBA.trans (hbvB.mono hBA.size))
          refine hK.out _ _ (by exact ⟨r0, r1, r2, r3⟩) (fun hHeld => ?_)
          clear hK K
          (try simp only [Act.put, List.setIfInBounds_toArray, List.set_cons_zero, List.set_cons_succ])
          refine take_l (i := 8) (v := ?_) rfl (by kernel_rfl) (by kernel_rfl) (by kernel_rfl) (fun _ _ _ h => h) (Or.inl ⟨by kernel_rfl, ?_⟩) (by assumption) ?_
          rotate_left
          · intro w hSw; (try dsimp only at hSw); go_simp; (try with_reducible rfl)
          (try simp only [Act.put, List.setIfInBounds_toArray, List.set_cons_zero, List.set_cons_succ])
          refine wpAnyH_ready (rs := [9]) (by kernel_rfl) (by simp) ?_
          refine ready_l rfl (fun K hK => ?_) AllReadyH.nil
          go_simp
          with_reducible refine (hmt.out vB).mono ?_
          rintro e w8 ⟨rfl, rfl⟩
          dsimp only [errE, errV]
          exact ⟨rfl, hB3 hBB, .inr ⟨hrl2.out, rfl, FarStay.of_below (hb0.trans (hBB.mono hz0))⟩⟩
end Go.Proofs.YtcpfmlaipejfpaaGreatDoor
namespace Go.Proofs.YtcpfmlaipejfpaaGreatDoor
open Go.RowKit Go.Shelf

attribute [local go_sem] Oper.semAt_some

theorem allL_last (t : Tab) (p : List UInt8) (k : Nat) : allL t [p] k = if p = [] then (match t.fin with
    | none => .inl k
    | some t => .inr t) else .inl k := rfl
theorem allL_more (t : Tab) (L : List (List UInt8)) (i k : Nat) (h : i + 1 < L.length) : allL t (L.drop i) k = match readL t L[i]! with
    | none => .inl k
    | some t => allL t (L.drop (i + 1)) (k + 1) := by
  rw [List.drop_eq_getElem_cons (show i < L.length by omega), List.drop_eq_getElem_cons h, getElem!_pos L i (by omega)]
  rfl
/-- A block is nobody's. -/
structure FarB (tB mB : Nat) (lv : Value) (fvs : List Value) (b : Nat) : Prop where
  t : b ≠ tB
  m : b ≠ mB
  l : lv.ownBlock ≠ some b
  f : ∀ v ∈ fvs, v.ownBlock ≠ some b
theorem FarB.keep {tB mB b : Nat} {lv lv' : Value} {fvs fvs' : List Value} {w w' : World} (h : FarB tB mB lv fvs b) (hk : KeepFar tB mB lv fvs lv' fvs' w w') (hb : b < w.heap.size) : FarB tB mB lv' fvs' b ∧ w'.heap[b]? = w.heap[b]? := by
  obtain ⟨q1, q2, q3⟩ := hk b hb h.t h.m h.l h.f
  exact ⟨⟨h.t, h.m, q2, q3⟩, q1⟩
theorem FarB.stay {tB mB b : Nat} {lv : Value} {fvs : List Value} {w w' : World} (h : FarB tB mB lv fvs b) (hk : FarStay tB mB lv fvs w w') (hb : b < w.heap.size) : w'.heap[b]? = w.heap[b]? := hk b hb h.t h.m h.l h.f
theorem TabS.setFar {B tB n H mB : Nat} {t : Tab} {lv : Value} {fvs : List Value} {w : World} (h : TabS B tB t n H mB lv fvs w) {b : Nat} (hf : FarB tB mB lv fvs b) (o : Nat) (u : Value) : TabS B tB t n H mB lv fvs (w.setCell ⟨b, o, none⟩ u) := by
  have hsz : (w.setCell ⟨b, o, none⟩ u).heap.size = w.heap.size := by simp [World.setCell]
  have hmem : ∀ i, i < t.list.length → fvs[i]! ∈ fvs := fun i hi => by
    rw [← h.fl] at hi
    rw [getElem!_pos fvs i hi]
    exact List.getElem_mem hi
  refine ⟨h.blk.other u hf.t, h.bt, h.bm, h.map.of_block (heap_setCell_other _ _ _ _ (fun e => hf.m e.symm)), h.fl, ownsRow_setCell_other h.row (fun e => hf.l e) u, by rw [hsz]; exact h.hH, h.tH, h.mH, h.lH, fun i hi => ⟨ownsRow_setCell_other (h.old i hi).1 (fun e => hf.f _ (hmem i (by omega)) e) u, (h.old i hi).2⟩, fun i hi => ownsRow_setCell_other (h.new i hi) (fun e => hf.f _ (hmem i (by omega)) e) u, h.ok, h.len, h.num⟩
/-- The lines lie in block g. -/
def LinesAt (w : World) (g : Nat) (L : List (List UInt8)) : Prop := g < w.heap.size ∧ ∀ j p, L[j]? = some p → w.cell? ⟨g, j, none⟩ = some (.string (str p))
theorem LinesAt.same {w w' : World} {g : Nat} {L : List (List UInt8)} (h : LinesAt w g L) (hb : w'.heap[g]? = w.heap[g]?) : LinesAt w' g L := by
  have hlt : g < w'.heap.size := by
    have h1 := Array.getElem?_eq_getElem h.1
    rw [h1] at hb
    exact (Array.getElem?_eq_some_iff.1 hb).1
  exact ⟨hlt, fun j p hp => (World.cell?_of_block (a := ⟨g, j, none⟩) hb).trans (h.2 j p hp)⟩
/-- What lies while readAll's loop runs. -/
structure RdAt (B tB mB gL okB : Nat) (t0 : Tab) (L : List (List UInt8)) (w : World) (i : Nat) (t : Tab) (n H : Nat) (lv : Value) (fvs : List Value) (wr : World) : Prop where
  eq : allL t0 L 1 = allL t (L.drop i) (i + 1)
  len : n ≤ t.list.length
  tab : TabS B tB t n H mB lv fvs wr
  below : Below B w wr
  env : Env wr
  ok : Arr wr okB 4 [.bool true]
  lines : LinesAt wr gL L
  far1 : FarB tB mB lv fvs okB
  far2 : FarB tB mB lv fvs gL
set_option maxRecDepth 100000 in
set_option maxHeartbeats 8000000 in
theorem readAll_any {B tB n H mB gL c : Nat} {t : Tab} {lv : Value} {fvs : List Value} {w : World} (h : TabS B tB t n H mB lv fvs w) (hn : n ≤ t.list.length) (L : List (List UInt8)) (hL0 : 0 < L.length) (hLm : L.length ≤ 1000000) (hll : ∀ p ∈ L, p.length ≤ 100000) (hEB : ∀ w' : World, Below B w w' → Env w') (hlines : LinesAt w gL L) (hfar : FarB tB mB lv fvs gL) :
    Calls Tryz.prog 46 #[.pointer (some ⟨tB, 0, none⟩), .slice (some ⟨gL, 0, none⟩) L.length c] w fun e w' => Below B w w' ∧ ((∃ t' n' H' lv' fvs', allL t L 1 = .inr t' ∧ e = .returned (.tuple #[.int .i64 0, .bool true]) ∧ TabS B tB t' n' H' mB lv' fvs' w') ∨ (∃ k : Nat, allL t L 1 = .inl k ∧ e = .returned (.tuple #[.int .i64 (k : Int), .bool false]))) := by
  obtain ⟨m, hm⟩ : ∃ m, L.length = m + 1 := ⟨L.length - 1, by omega⟩
  rw [hm]
  have hwm : IntKind.i64.wrap ((m : Int) + 1 - 1) = (m : Int) := by rw [show (m : Int) + 1 - 1 = (m : Int) by omega]; exact IntWalk.i64_in _ (by omega)
  have hBw : B ≤ w.heap.size := Nat.le_trans h.bt (Nat.le_of_lt h.blk.lt)
  have hL0 : LinesAt (w.alloc (.cells #[.bool true] 4)) gL L := hlines.same (Below.heap_alloc _ _ _ hlines.1)
  have hA0 : Arr (w.alloc (.cells #[.bool true] 4)) w.heap.size 4 [.bool true] := Arr.new rfl rfl
  have hbx : Below w.heap.size w (w.alloc (.cells #[.bool true] 4)) := (Below.refl _ _).alloc (Nat.le_refl _) _
  have hf0 := h.far (Nat.le_refl _)
  have hR0 : Hid (RdAt B tB mB gL w.heap.size t L w 0 t n H lv fvs (w.alloc (.cells #[.bool true] 4))) := (show RdAt _ _ _ _ _ _ _ _ _ _ _ _ _ _ _ from
    ⟨rfl, hn, h.below hbx, hbx.mono hBw, hEB _ (hbx.mono hBw), hA0, hL0, ⟨hf0.1, hf0.2.1, hf0.2.2.1, hf0.2.2.2⟩, hfar⟩)
  have hmL := Lib.hid hm
  replace h := Lib.hid h
  replace hlines := Lib.hid hlines
  clear hA0 hL0 hbx hf0 hn
  go_enter_defers Tryz.func46, Tryz.ntmps46
  go_wp2_with fail
  generalize w.alloc (.cells #[.bool true] 4) = W0 at *
  go_loopw [4] (fun av wr => ∃ i : Nat, i ≤ m ∧ av = .int .i64 ((i : Int) + 1) ∧ Hid (∃ t' n' H' lv' fvs', RdAt B tB mB gL w.heap.size t L w i t' n' H' lv' fvs' wr)) (fun av _ => m + 1 - (intOf av).toNat)
  case atStart => exact ⟨0, Nat.zero_le _, rfl, (show Hid _ from ⟨_, _, _, _, _, hR0.out⟩)⟩
  case round =>
    obtain ⟨i, hi, rfl, hall⟩ := hrel
    obtain ⟨t', n', H', lv', fvs', hR⟩ := hall.out
    clear hall hR0
    by_cases hlt : i < m
    · have hd : decide ((i : Int) + 1 ≤ (m : Int)) = true := by simp; omega
      have hiL : i < L.length := by omega
      have hmem : L[i]! ∈ L := by rw [getElem!_pos L i hiL]; exact List.getElem_mem hiL
      have x0 := hR.lines.2 i L[i]! (by rw [List.getElem?_eq_getElem hiL, getElem!_pos L i hiL])
      have hpl := hll _ hmem
      have hst := hR.eq.trans (allL_more t' L i (i + 1) (by omega))
      have hrd := Lib.hid (read_any hR.tab hR.len L[i]! hpl hR.env)
      generalize L[i]! = p at *
      have hw1 : IntKind.i64.wrap ((i : Int) + 1 - 1) = (i : Int) := by rw [show (i : Int) + 1 - 1 = (i : Int) by omega]; exact IntWalk.i64_in _ (by omega)
      have hw2 : IntKind.i64.wrap ((i : Int) + 1 + 1) = (i : Int) + 1 + 1 := IntWalk.i64_in _ (by omega)
      have i0 : (0 : Int) ≤ (i : Int) := by omega
      have i1 : (i : Int) < (m : Int) + 1 := by omega
      replace hst := Lib.hid hst
      replace hR := Lib.hid hR
      replace hm := Lib.hid hm
      go_wp2_with fail
      refine hrd.out.mono ?_
      rintro e w2 ⟨hb2, hcase⟩
      have hB2 : Below B w w2 := hR.out.below.trans hb2
      rcases hcase with ⟨t1, n1, H1, lv1, fv1, hr1, rfl, hn1, hT1, hkf⟩ | ⟨hr1, rfl, hfs⟩
      · have hkok := hR.out.far1.keep hkf hR.out.ok.lt
        have hkln := hR.out.far2.keep hkf hR.out.lines.1
        have hR2 : Hid (RdAt B tB mB gL w.heap.size t L w (i + 1) t1 n1 H1 lv1 fv1 w2) := (show RdAt _ _ _ _ _ _ _ _ _ _ _ _ _ _ _ from
          ⟨by rw [hst.out, hr1], hn1, hT1, hB2, hEB _ hB2, hkok.2.trans hR.out.ok, hR.out.lines.same hkln.2, hkok.1, hkln.1⟩)
        clear hkok hkln hkf hT1 hr1
        go_wp2_with fail
        exact ⟨⟨i + 1, by omega, by first | rfl | go_num, (show Hid _ from ⟨_, _, _, _, _, hR2.out⟩)⟩, by simp [intOf]; omega⟩
      · have hno : Hid (allL t L 1 = .inl (i + 1)) := by show _ = _; rw [hst.out, hr1]
        dsimp only [errE, errV]
        have hA9 : Arr w2 w.heap.size 4 [.bool true] := (hR.out.far1.stay hfs hR.out.ok.lt).trans hR.out.ok
        have hc9 : (w2.setCell ⟨w.heap.size, 0, none⟩ (.bool false)).cell? ⟨w.heap.size, 0, none⟩ = some (.bool false) := World.cell?_setCell_same' _ _ _ (by rw [hA9.cell (j := 0) rfl]; rfl)
        have hBe : Below B w (w2.setCell ⟨w.heap.size, 0, none⟩ (.bool false)) := hB2.setCell (p := ⟨w.heap.size, 0, none⟩) hBw _
        refine leaves_cons (f := 52) (args := #[.pointer (some ⟨w.heap.size, 0, none⟩)]) (by simp) (by simp [go_sem]) ?_
        refine (caught_error ⟨w.heap.size, 0, none⟩ true 40 [] _ ?_ ?_).mono ?_
        · exact hA9.cell (j := 0) rfl
        · exact hA9.free 0
        rintro e u' w'' ⟨rfl, rfl, rfl⟩
        simp [Leaves, settle, results, Tryz.results46, go_sem]
        rw [hc9]
        exact ⟨_, rfl, hBe, .inr ⟨i + 1, hno.out, rfl⟩⟩
    · obtain rfl : i = m := by omega
      have hd : decide ((i : Int) + 1 ≤ (i : Int)) = false := by simp; omega
      have hiL : i < L.length := by omega
      have hmem : L[i]! ∈ L := by rw [getElem!_pos L i hiL]; exact List.getElem_mem hiL
      have x0 := hR.lines.2 i L[i]! (by rw [List.getElem?_eq_getElem hiL, getElem!_pos L i hiL])
      have hst : allL t L 1 = allL t' [L[i]!] (i + 1) := by
        rw [hR.eq, List.drop_eq_getElem_cons hiL, List.drop_eq_nil_of_le (by omega), getElem!_pos L i hiL]
      rw [allL_last] at hst
      have hemp : (str L[i]!).toList.isEmpty = L[i]!.isEmpty := str_empty _
      generalize L[i]! = p at *
      have i0 : (0 : Int) ≤ (i : Int) := by omega
      have i1 : (i : Int) < (i : Int) + 1 := by omega
      have hR9 := Lib.hid hR
      have hend := Lib.hid (end_any hR.tab (by have := hR.tab.len; have := hR.len; omega))
      have hA0 := Lib.hid hR.ok
      have hBr := Lib.hid hR.below
      replace hR := Lib.hid hR
      replace hm := Lib.hid hm
      cases p with
      | cons x r =>
        have hno : Hid (allL t L 1 = .inl (i + 1)) := by show _ = _; rw [hst, if_neg (by simp)]
        replace hst := Lib.hid hst
        have hemp2 : (str (x :: r)).toList.isEmpty = false := hemp
        clear hemp
        go_wp2_with fail
        refine (must_false _).mono ?_
        rintro e w2 ⟨rfl, hw2⟩
        subst w2
        dsimp only [errE, errV]
        have hA9 : Arr wr w.heap.size 4 [.bool true] := hA0.out
        have hc9 : (wr.setCell ⟨w.heap.size, 0, none⟩ (.bool false)).cell? ⟨w.heap.size, 0, none⟩ = some (.bool false) := World.cell?_setCell_same' _ _ _ (by rw [hA9.cell (j := 0) rfl]; rfl)
        have hBe : Below B w (wr.setCell ⟨w.heap.size, 0, none⟩ (.bool false)) := hBr.out.setCell (p := ⟨w.heap.size, 0, none⟩) hBw _
        refine leaves_cons (f := 52) (args := #[.pointer (some ⟨w.heap.size, 0, none⟩)]) (by simp) (by simp [go_sem]) ?_
        refine (caught_error ⟨w.heap.size, 0, none⟩ true 40 [] _ ?_ ?_).mono ?_
        · exact hA9.cell (j := 0) rfl
        · exact hA9.free 0
        rintro e u' w'' ⟨rfl, rfl, rfl⟩
        simp [Leaves, settle, results, Tryz.results46, go_sem]
        rw [hc9]
        exact ⟨_, rfl, hBe, .inr ⟨i + 1, hno.out, rfl⟩⟩
      | nil =>
        have hst2 : Hid (allL t L 1 = match t'.fin with
          | none => .inl (i + 1)
          | some t => .inr t) := by show _ = _; rw [hst, if_pos rfl]
        replace hst := Lib.hid hst
        have hemp2 : (str []).toList.isEmpty = true := hemp
        clear hemp
        go_wp2_with fail
        refine (must_true _).mono ?_
        rintro e w2 ⟨rfl, hw2⟩
        subst w2
        go_wp2_with fail
        refine hend.out.mono ?_
        rintro e w4 ⟨hb4, hcase⟩
        have hB4 : Below B w w4 := hBr.out.trans hb4
        rcases hcase with ⟨t1, n1, hf1, rfl, hn1, h1, hkf⟩ | ⟨hf1, rfl, hfs⟩
        · have hA9 : Arr w4 w.heap.size 4 [.bool true] := (hR9.out.far1.keep hkf hA0.out.lt).2.trans hA0.out
          have hfar9 := (hR9.out.far1.keep hkf hA0.out.lt).1
          have c9 := hA9.cell (j := 0) rfl
          have f9 := hA9.free 0
          have hyes : Hid (allL t L 1 = .inr t1) := by show _ = _; rw [hst2.out, hf1]
          replace h1 := Lib.hid h1
          replace hB4 := Lib.hid hB4
          clear hf1 hend hkf
          go_wp2_with fail
          have k9 : (w4.drew.setCell ⟨w.heap.size, 0, none⟩ (.bool true)).cell? ⟨w.heap.size, 0, none⟩ = some (.bool true) := World.cell?_setCell_same' _ _ _ (by rw [show w4.drew.cell? ⟨w.heap.size, 0, none⟩ = some (.bool true) from c9]; rfl)
          have hBe : Below B w (w4.drew.setCell ⟨w.heap.size, 0, none⟩ (.bool true)) := hB4.out.drew.setCell (p := ⟨w.heap.size, 0, none⟩) hBw _
          have hTe : TabS B tB t1 n1 H' mB lv' fvs' (w4.drew.setCell ⟨w.heap.size, 0, none⟩ (.bool true)) := (h1.out.below (Below.refl _ _).drew).setFar hfar9 0 _
          replace k9 := Lib.hid k9
          replace hBe := Lib.hid hBe
          replace hTe := Lib.hid hTe
          refine wp_norm ?_
          refine wp_region_held_drew (S := fun w' => w'.cell? ⟨w.heap.size, 0, none⟩ = some (.bool true)) (by kernel_rfl) (by exact c9) (fun hHeld => ?_)
          refine take_l (i := 0) (v := ?_) rfl (by kernel_rfl) (by kernel_rfl) (by kernel_rfl) (fun _ _ _ h => h) (Or.inl ⟨by kernel_rfl, ?_⟩) (by assumption) ?_
          rotate_left
          · intro w hSw; (try dsimp only at hSw); go_simp; (try with_reducible rfl)
          (try simp only [Act.put, List.setIfInBounds_toArray, List.set_cons_zero, List.set_cons_succ])
          refine take_l (i := 1) (v := ?_) rfl (by kernel_rfl) (by kernel_rfl) (by kernel_rfl) (fun _ _ _ h => h) (Or.inl ⟨by kernel_rfl, ?_⟩) (by assumption) ?_
          rotate_left
          · intro w hSw; (try dsimp only at hSw); go_simp; (try with_reducible rfl)
          (try simp only [Act.put, List.setIfInBounds_toArray, List.set_cons_zero, List.set_cons_succ])
          refine wpAnyH_ready (rs := [2]) (by kernel_rfl) (by simp) ?_
          refine ready_l rfl (fun K hK => ?_) AllReadyH.nil
          go_simp
          refine hK.out _ _ (by exact k9.out) (fun hHeld => ?_)
          clear hK K
          (try simp only [Act.put, List.setIfInBounds_toArray, List.set_cons_zero, List.set_cons_succ])
          refine wpAnyH_done (by kernel_rfl) ?_ _
          dsimp only [onlyNormal]
          go_wp2_with fail
          refine leaves_cons (f := 52) (args := #[.pointer (some ⟨w.heap.size, 0, none⟩)]) (by simp) (by simp [go_sem]) ?_
          refine (caught_idle ⟨w.heap.size, 0, none⟩ _).mono ?_
          rintro e u' w'' ⟨rfl, rfl, rfl⟩
          simp [Leaves, settle, results, Tryz.results46, go_sem]
          rw [show (w4.setCell ⟨w.heap.size, 0, none⟩ (.bool true)).cell? ⟨w.heap.size, 0, none⟩ = some (.bool true) from k9.out]
          exact ⟨_, rfl, hBe.out, .inl ⟨_, hyes.out, rfl, _, _, _, _, hTe.out⟩⟩
        · have hno : Hid (allL t L 1 = .inl (i + 1)) := by show _ = _; rw [hst2.out, hf1]
          dsimp only [errE, errV]
          have hA9 : Arr w4 w.heap.size 4 [.bool true] := (hR9.out.far1.stay hfs hA0.out.lt).trans hA0.out
          have hc9 : (w4.setCell ⟨w.heap.size, 0, none⟩ (.bool false)).cell? ⟨w.heap.size, 0, none⟩ = some (.bool false) := World.cell?_setCell_same' _ _ _ (by rw [hA9.cell (j := 0) rfl]; rfl)
          have hBe : Below B w (w4.setCell ⟨w.heap.size, 0, none⟩ (.bool false)) := hB4.setCell (p := ⟨w.heap.size, 0, none⟩) hBw _
          refine leaves_cons (f := 52) (args := #[.pointer (some ⟨w.heap.size, 0, none⟩)]) (by simp) (by simp [go_sem]) ?_
          refine (caught_error ⟨w.heap.size, 0, none⟩ true 40 [] _ ?_ ?_).mono ?_
          · exact hA9.cell (j := 0) rfl
          · exact hA9.free 0
          rintro e u' w'' ⟨rfl, rfl, rfl⟩
          simp [Leaves, settle, results, Tryz.results46, go_sem]
          rw [hc9]
          exact ⟨_, rfl, hBe, .inr ⟨i + 1, hno.out, rfl⟩⟩
end Go.Proofs.YtcpfmlaipejfpaaGreatDoor
namespace Go.Proofs.YtcpfmlaipejfpaaGreatDoor
section
open Go.Lib
/-- What strings.Split gives at a separator of one byte. -/
theorem splitK_one (c : UInt8) : ∀ l : List UInt8, splitK [c] 0 (count l [c]) l = cutAll c l
  | [] => by rw [count_miss (by simp [index])]; rfl
  | b :: l => by
    have ih := splitK_one c l
    by_cases h : b = c
    · subst h
      have hix : index (b :: l) [b] = 0 := by rw [index]; simp [List.isPrefixOf]
      rw [count_cons_eq, Nat.add_comm, splitK, hix, cutAll, if_pos rfl]
      simpa using ih
    · have hp : ([c] : List UInt8).isPrefixOf (b :: l) = false := by simp [List.isPrefixOf, Ne.symm h]
      have hix : index (b :: l) [c] = if index l [c] == -1 then -1 else index l [c] + 1 := by rw [index, hp]; simp
      rw [count_cons_ne b c l h, cutAll, if_neg h]
      by_cases hm : index l [c] = -1
      · rw [count_miss hm, splitK] at ih ⊢
        rw [← ih]
      · have hge := index_ge l [c]
        obtain ⟨j, hj⟩ : ∃ j : Nat, index l [c] = j := ⟨(index l [c]).toNat, by omega⟩
        have hc : count l [c] = 1 + count (l.drop (j + 1)) [c] := by
          have := count_hit (s := l) (sub := [c]) (by simp) hj
          simpa using this
        have e1 : ((j : Int) + 1).toNat = j + 1 := by omega
        have hix2 : index (b :: l) [c] = (j : Int) + 1 := by rw [hix, if_neg (fun e => hm (beq_iff_eq.1 e)), hj]
        rw [hc, Nat.add_comm 1, splitK, hj, if_neg (by simp)] at ih
        rw [hc, Nat.add_comm 1, splitK, hix2, if_neg (by simp; omega), ← ih]
        simp [e1]
end
open Go.RowKit Go.Shelf Go.Maps

attribute [local go_sem] Oper.semAt_some

theorem str_of (s : ByteArray) : str s.data.toList = s := rfl
def wordCells (ws : List (List UInt8)) : List Value := ws.map fun l => .string (str l)
theorem wordCells_of (l : List ByteArray) : l.map Value.string = wordCells (l.map (·.data.toList)) := by
  unfold wordCells
  rw [List.map_map]
  exact List.map_congr_left fun x _ => by show _ = Value.string (str x.data.toList); rw [str_of]
theorem Split_any (s : List UInt8) (c : UInt8) (w : World) (hs : s.length ≤ 1000000) (hE : Env w) :
    Calls Tryz.prog 47 #[.string (str s), .string ⟨#[c]⟩] w fun e w' =>
      ∃ g, e = .returned (.slice (some ⟨g, 0, none⟩) (cutAll c s).length (cutAll c s).length) ∧ w.heap.size ≤ g ∧ Arr w' g 9 (wordCells (cutAll c s)) ∧ Below w.heap.size w w' := by
  obtain ⟨m, hm⟩ := hE.max
  have h := Any.strings_Split { Tryz.laysM146 with } Tryz.laysM146.i9 (str s) ⟨#[c]⟩ m w (by rw [str_size]; omega) hm (Nat.le_refl 1)
  have hd := Lib.splitB_data ⟨#[c]⟩ 0 (Lib.countB (str s) ⟨#[c]⟩) (str s)
  have hk : Lib.splitK (⟨#[c]⟩ : ByteArray).data.toList 0 (Lib.countB (str s) ⟨#[c]⟩) (str s).data.toList = cutAll c s := splitK_one c s
  rw [hk] at hd
  have hall := Lib.splitB_all ⟨#[c]⟩ (Nat.le_refl 1) 0 (Lib.countB (str s) ⟨#[c]⟩) (str s) rfl
  have hlen : Lib.countB (str s) ⟨#[c]⟩ + 1 = (cutAll c s).length := by rw [← hall, ← hd, List.length_map]
  rw [hlen, wordCells_of, hd] at h
  refine Calls.mono h ?_
  rintro e w' ⟨rfl, rfl⟩
  exact ⟨_, rfl, Nat.le_refl _, Arr.new rfl rfl, (Below.refl _ _).alloc (Nat.le_refl _) _⟩
theorem TabS.fmts {B tB n H mB : Nat} {t : Tab} {lv : Value} {fvs : List Value} {w : World} (h : TabS B tB t n H mB lv fvs w) : FmtsAt w w.heap.size lv t.list ∧ FmtIn t.list := by
  refine ⟨⟨fvs, h.fl, sliceAt_of_own h.row, fun i hi => ?_⟩, ⟨by have := h.len; omega, fun f hf => (h.ok f hf).id, fun f hf => by have := (h.ok f hf).len; omega, fun f hf x hx => ((h.ok f hf).all x hx).2⟩⟩
  by_cases hl : i + 1 < t.list.length
  · exact sliceAt_of_own (h.old i hl).1
  · exact sliceAt_of_own (h.new i (by omega))
set_option maxRecDepth 100000 in
set_option maxHeartbeats 4000000 in
theorem Parse_any (s : List UInt8) (w : World) (hs : s.length ≤ 100000) (hE : Env w) :
    Calls Tryz.prog 25 #[.string (str s)] w fun e w' => Below w.heap.size w w' ∧ ((∃ l v, parse4 s = (l, 0, 0) ∧ e = .returned (.tuple #[v, .int .i64 0, .int .i64 0]) ∧ FmtsAt w' w'.heap.size v l ∧ FmtIn l) ∨ (∃ k : Nat, parse4 s = ([], k, 40) ∧ e = .returned (.tuple #[.slice none 0 0, .int .i64 (k : Int), .int .i64 40]))) := by
  have hmm := @run_makeMap Tryz.prog
  obtain ⟨W0, hW0⟩ : ∃ W0, W0 = (w.alloc (.map #[] 0)).alloc (.cells #[.slice none 0 0, .map (some w.heap.size)] 69) := ⟨_, rfl⟩
  have hT0 : TabS w.heap.size (w.heap.size + 1) ⟨[], fun _ => none⟩ 0 (w.heap.size + 2) w.heap.size (.slice none 0 0) [] W0 := by
    rw [hW0]; exact TabS.first w w.heap.size (Nat.le_refl _)
  have hB0 : Below w.heap.size w W0 := by
    rw [hW0]; exact ((Below.refl w.heap.size w).alloc (Nat.le_refl _) _).alloc (by simp) _
  have hs0 : W0.heap.size = w.heap.size + 2 := by rw [hW0]; simp
  have hsp := Lib.hid (Split_any s 10 W0 (by omega) (hE.below hB0))
  have hln := cutAll_len 10 s
  have hle := cutAll_le 10 s
  have hne := cutAll_ne 10 s
  have hp4 : Hid (parse4 s = match allL ⟨[], fun _ => none⟩ (cutAll 10 s) 1 with
    | .inl k => ([], k, 40)
    | .inr t => (t.list, 0, 0)) := rfl
  generalize cutAll 10 s = L at *
  have hL0 : 0 < L.length := by cases L with | nil => exact absurd rfl hne | cons x r => simp
  replace hs0 := Lib.hid hs0
  go_enter Tryz.func25, Tryz.ntmps25
  go_wp2_with fail
  rw [← hW0]
  refine hsp.out.mono ?_
  rintro e w1 ⟨g, rfl, hg, hA, hb1⟩
  have hB1 := hB0.trans (hb1.mono hB0.size)
  have hT1 := hT0.below hb1
  have hra := Lib.hid (readAll_any (gL := g) (c := L.length) hT1 (Nat.zero_le _) L hL0 (by omega) (fun p hp => by have := hle p hp; omega) (fun w' hb => hE.below (hB1.trans hb)) ⟨hA.lt, fun j p hp => hA.cell (by unfold wordCells; rw [List.getElem?_map, hp]; rfl)⟩ ⟨by have := hs0.out; omega, by have := hs0.out; omega, by simp [Value.ownBlock], fun v hv => (by cases hv)⟩)
  clear hW0 hsp
  go_wp2_with fail
  refine hra.out.mono ?_
  rintro e w2 ⟨hb2, ⟨t', n', H', lv', fvs', hal, rfl, hT2⟩ | ⟨k, hal, rfl⟩⟩
  · have hB2 := hB1.trans hb2
    have c0 := hT2.blk.cell (j := 0) rfl
    have hf := hT2.fmts
    have hr : Hid (parse4 s = (t'.list, 0, 0)) := by show _ = _; rw [hp4.out, hal]
    obtain ⟨a, c, hlv⟩ := own_val hT2.row
    rw [hlv] at c0 hf
    clear hT2 hlv hal hra hT1 hT0
    go_wp2_with fail
    exact bodyPost_ret (v := .tuple #[.slice a t'.list.length c, .int .i64 0, .int .i64 0]) (by simp [results, Tryz.f25, go_sem]) rfl ⟨hB2, .inl ⟨_, _, hr.out, rfl, hf⟩⟩
  · have hB2 := hB1.trans hb2
    have hr : Hid (parse4 s = ([], k, 40)) := by show _ = _; rw [hp4.out, hal]
    clear hal hra hT1 hT0
    go_wp2_with fail
    exact bodyPost_ret (v := .tuple #[.slice none 0 0, .int .i64 (k : Int), .int .i64 40]) (by simp [results, Tryz.f25, go_sem]) rfl ⟨hB2, .inr ⟨k, hr.out, rfl⟩⟩
end Go.Proofs.YtcpfmlaipejfpaaGreatDoor
