/-
 Routes of chapter 11: the reference's Valid and Steps (migrations).
 Routes of chapter 11: the reference's Steps (migrations).
 Routes of chapter 11: the reference's Claims (migrations).
-/
import Derived.Test.YtpeandbcdaikbaaGreatDoorZB
namespace Go.Proofs.YtpeandbcdaikbaaGreatDoor
open Go.RowKit Go.Shelf Go.Maps

attribute [local go_sem] Oper.semAt_some

theorem validM_iff (m : Mig) : validM m = (isIdM m.id && isIdM m.frm && isIdM m.to && !(m.back && decide (0 < m.keep.length)) && decide (∀ i, i < m.keep.length → isKeepM m.keep[i]! = true ∧ (0 < i → m.keep[i - 1]!.1 < m.keep[i]!.1))) := by
 have hd : decide (m.keep ≠ []) = decide (0 < m.keep.length) := by
  rw [Bool.eq_iff_iff, decide_eq_true_eq, decide_eq_true_eq, ← List.length_pos_iff]
 have ha : (ascM m.keep && m.keep.all isKeepM) = decide (∀ i, i < m.keep.length → isKeepM m.keep[i]! = true ∧ (0 < i → m.keep[i - 1]!.1 < m.keep[i]!.1)) := by
  rw [Bool.eq_iff_iff, Bool.and_eq_true, asc_iff, List.all_eq_true, decide_eq_true_eq]
  constructor
  ·
   rintro ⟨h1, h2⟩ i hi
   exact ⟨h2 _ (by rw [getElem!_pos m.keep i hi]; exact List.getElem_mem hi), fun h0 => h1 i h0 hi⟩
  ·
   intro h
   refine ⟨fun i h0 hi => (h i hi).2 h0, fun x hx => ?_⟩
   obtain ⟨i, hi, rfl⟩ := List.mem_iff_getElem.1 hx
   have := (h i hi).1
   rwa [getElem!_pos m.keep i hi] at this
 rw [← ha]
 unfold validM
 rw [hd]
 generalize ascM m.keep = a1
 generalize m.keep.all isKeepM = a2
 generalize isIdM m.id = a3
 generalize isIdM m.frm = a4
 generalize isIdM m.to = a5
 generalize (m.back && decide (0 < m.keep.length)) = a6
 cases a1 <;> cases a2 <;> cases a3 <;> cases a4 <;> cases a5 <;> cases a6 <;> rfl
set_option maxRecDepth 100000 in
set_option maxHeartbeats 8000000 in
theorem mValid9_any (m : Mig) (v : Value) (w : World) (hv : ClaimsAt w w.heap.size v m.keep) :
  Calls Tryz.prog 39 #[.agg #[.int .i64 m.id, .int .i64 m.frm, .int .i64 m.to, .bool m.back, v]] w fun e w' => e = .returned (.bool (validM m)) ∧ Below w.heap.size w w' := by
 obtain ⟨R, hR⟩ : ∃ R, validM m = R := ⟨_, rfl⟩
 rw [hR]
 rw [validM_iff] at hR
 have hcell := Lib.hid fun i (hi : i < m.keep.length) => ClaimsAt.cells hv hi
 obtain ⟨id, frm, tg, back, l⟩ := m
 dsimp only at hv hcell hR ⊢
 obtain ⟨vs, _, ⟨a, c, rfl, _, hn2, _⟩, _⟩ := hv
 have hi1 := Lib.hid fun W => id9_any id _ rfl W
 have hi2 := Lib.hid fun W => id9_any frm _ rfl W
 have hi3 := Lib.hid fun W => id9_any tg _ rfl W
 generalize isIdM id = I1 at *
 generalize isIdM frm = I2 at *
 generalize isIdM tg = I3 at *
 obtain ⟨W, hW⟩ : ∃ W, W = w.alloc (.cells #[.int .i64 id, .int .i64 frm, .int .i64 tg, .bool back, .slice a l.length c] 28) := ⟨_, rfl⟩
 have hA : Arr W w.heap.size 28 [.int .i64 id, .int .i64 frm, .int .i64 tg, .bool back, .slice a l.length c] := by rw [hW]; exact Arr.new rfl rfl
 have hbW : Below w.heap.size w W := by rw [hW]; exact (Below.refl _ _).alloc (Nat.le_refl _) _
 have c0 := hA.cell (j := 0) rfl
 have c1 := hA.cell (j := 1) rfl
 have c2 := hA.cell (j := 2) rfl
 have c3 := hA.cell (j := 3) rfl
 have c4 := hA.cell (j := 4) rfl
 replace hA := Lib.hid hA
 replace hbW := Lib.hid hbW
 go_enter Tryz.func39, Tryz.ntmps39
 go_upto_region 1 with fail
 rw [← hW]
 clear hW
 go_wp2_with fail
 refine (hi1.out _).mono ?_
 rintro e w1 ⟨rfl, rfl⟩
 cases I1 with
 | false =>
  obtain rfl : R = false := by rw [← hR]; rfl
  replace hR := Lib.hid hR
  go_wp2_with fail
  go_ret
  exact ⟨rfl, hbW.out⟩
 | true =>
  rw [Bool.true_and] at hR
  replace hR := Lib.hid hR
  go_wp2_with fail
  refine (hi2.out _).mono ?_
  rintro e w2 ⟨rfl, rfl⟩
  cases I2 with
  | false =>
   obtain rfl : R = false := by rw [← hR.out]; rfl
   go_wp2_with fail
   go_ret
   exact ⟨rfl, hbW.out⟩
  | true =>
   have hR2 := hR.out
   rw [Bool.true_and] at hR2
   replace hR := Lib.hid hR2
   clear hR2
   go_wp2_with fail
   refine (hi3.out _).mono ?_
   rintro e w3 ⟨rfl, rfl⟩
   cases I3 with
   | false =>
    obtain rfl : R = false := by rw [← hR.out]; rfl
    go_wp2_with fail
    go_ret
    exact ⟨rfl, hbW.out⟩
   | true =>
    have hR2 := hR.out
    rw [Bool.true_and] at hR2
    replace hR := Lib.hid hR2
    clear hR2
    by_cases hbk : back = true ∧ 0 < l.length
    ·
     obtain ⟨rfl, h0⟩ := hbk
     have e1 : decide ((l.length : Int) > 0) = true := decide_eq_true (by omega)
     have e2 : decide ((0 : Int) < (l.length : Int)) = true := decide_eq_true (by omega)
     have e3 : decide (0 < l.length) = true := decide_eq_true h0
     obtain rfl : R = false := by rw [← hR.out, e3]; rfl
     replace h0 := Lib.hid h0
     go_wp2_with fail
     go_ret
     exact ⟨rfl, hbW.out⟩
    ·
     have hbx : (back && decide (0 < l.length)) = false := by
      rw [Bool.eq_false_iff]
      intro h
      rw [Bool.and_eq_true, decide_eq_true_eq] at h
      exact hbk h
     have hR2 := hR.out
     rw [hbx, Bool.not_false, Bool.true_and] at hR2
     replace hR := Lib.hid hR2
     clear hR2 hbx
     cases back with
     | true =>
      have h0 : l.length = 0 := by
       rcases Nat.eq_zero_or_pos l.length with h | h
       ·
        exact h
       ·
        exact absurd ⟨rfl, h⟩ hbk
      have e1 : decide ((l.length : Int) > 0) = false := decide_eq_false (by omega)
      have e2 : decide ((0 : Int) < (l.length : Int)) = false := decide_eq_false (by omega)
      have e3 : decide (0 < l.length) = false := decide_eq_false (by omega)
      obtain rfl : R = true := by
       rw [← hR.out]
       exact decide_eq_true (fun i hi => absurd hi (by omega))
      replace h0 := Lib.hid h0
      replace hbk := Lib.hid hbk
      have hbw := Lib.hid (Below.refl w3.heap.size w3)
      go_wp2_with fail
      go_loopw [3] (fun iv wr => iv = .int .i64 0 ∧ Hid (Below w3.heap.size w3 wr)) (fun _ _ => 0)
      case atStart => exact ⟨rfl, hbw⟩
      case round =>
       obtain ⟨rfl, hb⟩ := hrel
       have c4' := (hA.out.below hb.out).cell (j := 4) rfl
       have hbf := Lib.hid (hbW.out.trans (hb.out.mono hbW.out.size))
       go_wp2_with fail
       go_ret
       exact ⟨rfl, hbf.out⟩
     | false =>
      replace hbk := Lib.hid hbk
      have hst : Hid (∀ j, j < 0 → isKeepM l[j]! = true ∧ (0 < j → l[j - 1]!.1 < l[j]!.1)) := fun j hj => absurd hj (Nat.not_lt_zero j)
      have hbw := Lib.hid (Below.refl w3.heap.size w3)
      go_wp2_with fail
      go_loopw [3] (fun iv wr => ∃ i : Nat, i ≤ l.length ∧ iv = .int .i64 (i : Int) ∧ Hid (∀ j, j < i → isKeepM l[j]! = true ∧ (0 < j → l[j - 1]!.1 < l[j]!.1)) ∧ Hid (Below w3.heap.size w3 wr)) (fun iv _ => l.length - (intOf iv).toNat)
      case atStart => exact ⟨0, Nat.zero_le _, rfl, hst, hbw⟩
      case round =>
       obtain ⟨i, hi, rfl, heq, hb⟩ := hrel
       clear hst hbw c0 c1 c2 c3 c4
       have c4 := (hA.out.below hb.out).cell (j := 4) rfl
       by_cases hlt : i < l.length
       ·
        have hyes : decide ((i : Int) < (l.length : Int)) = true := decide_eq_true (by omega)
        have hw1 : IntKind.i64.wrap ((i : Int) + 1) = (i : Int) + 1 := IntWalk.i64_in _ (by unfold maxLen at hn2; omega)
        have k0 : (0 : Int) ≤ (i : Int) := by omega
        have k1 : (i : Int) < (l.length : Int) := by omega
        obtain ⟨b1, o1, cp, u, hv1, hbl, x0, x1, hs⟩ := hcell.out i hlt
        cases hv1
        have hbw' := hbW.out.trans (hb.out.mono hbW.out.size)
        replace x0 := (hbw'.cell (p := ⟨b1, o1 + i * 2, none⟩) hbl).trans x0
        replace x1 := (hbw'.cell (p := ⟨b1, o1 + i * 2 + 1, none⟩) hbl).trans x1
        have hkp := keep9_any l[i]!.1 l[i]!.2 u wr (hs.later hbw')
        obtain ⟨ua, uc, rfl, _, _, _⟩ := _root_.id hs
        have hxn : isKeepM l[i]! = true → (0 < i → l[i - 1]!.1 < l[i]!.1) → ∀ j, j < i + 1 → isKeepM l[j]! = true ∧ (0 < j → l[j - 1]!.1 < l[j]!.1) := fun h1 h2 j hj => by
         by_cases q : j = i
         ·
          rw [q]; exact ⟨h1, h2⟩
         ·
          exact heq.out j (by omega)
        have hxf : ¬(isKeepM l[i]! = true ∧ (0 < i → l[i - 1]!.1 < l[i]!.1)) → R = false := fun h => by
         rw [← hR.out]
         exact decide_eq_false fun hall => h (hall i hlt)
        generalize hx : l[i]! = x at *
        obtain ⟨pi, pl⟩ := x
        dsimp only at x0 x1 hkp hxn hxf
        replace hx := Lib.hid hx
        generalize hKI : isKeepM (pi, pl) = KI at *
        replace hKI := Lib.hid hKI
        replace hkp := Lib.hid hkp
        replace hs := Lib.hid hs
        replace hxn := Lib.hid hxn
        replace hxf := Lib.hid hxf
        replace hbw' := Lib.hid hbw'
        have hblr : Hid (b1 < w.heap.size) := hbl
        go_wp2_with fail
        refine hkp.out.mono ?_
        clear hkp
        rintro e w4 ⟨rfl, hb4⟩
        have hbw4 := Lib.hid (hb.out.trans (hb4.mono hb.out.size))
        have hbf := Lib.hid (hbW.out.trans (hbw4.out.mono hbW.out.size))
        have y4 := (hA.out.below hbw4.out).cell (j := 4) rfl
        have hsz : b1 < wr.heap.size := Nat.lt_of_lt_of_le hbl hbw'.out.size
        have y0 := (hb4.cell (p := ⟨b1, o1 + i * 2, none⟩) hsz).trans x0
        clear x0 x1 c4 hb4 hsz
        cases KI with
        | false =>
         obtain rfl : R = false := hxf.out (fun h => (by cases h.1))
         go_upto_region 7 with fail
         go_quiet (fail)
         have hbg := Lib.hid (below_drewN hbf.out nq)
         go_wp2_with fail
         go_ret
         exact ⟨rfl, hbg.out⟩
        | true =>
         by_cases h0 : i = 0
         ·
          have e1 : decide ((i : Int) > 0) = false := decide_eq_false (by omega)
          have e2 : decide ((0 : Int) < (i : Int)) = false := decide_eq_false (by omega)
          have e3 : decide (0 < i) = false := decide_eq_false (by omega)
          have hn := Lib.hid (hxn.out rfl (fun h => absurd h (by omega)))
          replace h0 := Lib.hid h0
          go_upto_region 7 with fail
          go_quiet (fail)
          have hbg := Lib.hid (below_drewN hbw4.out nq)
          go_wp2_with fail
          exact ⟨⟨i + 1, by omega, rfl, hn, hbg⟩, by simp [intOf]; omega⟩
         ·
          obtain ⟨j, hj⟩ : ∃ j, i = j + 1 := ⟨i - 1, by omega⟩
          have e1 : decide ((i : Int) > 0) = true := decide_eq_true (by omega)
          have e2 : decide ((0 : Int) < (i : Int)) = true := decide_eq_true (by omega)
          have e3 : decide (0 < i) = true := decide_eq_true (by omega)
          have hwj : IntKind.i64.wrap ((i : Int) - 1) = (j : Int) := by rw [show (i : Int) - 1 = (j : Int) by omega]; exact IntWalk.i64_in _ (by unfold maxLen at hn2; omega)
          obtain ⟨b2, o2, cp2, u2, hv2, hbl2, z0, _, _⟩ := hcell.out j (by omega)
          cases hv2
          replace z0 := (hbf.out.cell (p := ⟨b1, o1 + j * 2, none⟩) hbl2).trans z0
          have q0 : (0 : Int) ≤ (j : Int) := by omega
          have q1 : (j : Int) < (l.length : Int) := by omega
          have hprev : l[i - 1]! = l[j]! := by rw [hj, Nat.add_sub_cancel]
          rw [hprev] at hxn hxf
          generalize l[j]!.1 = pj at *
          clear hprev
          replace hj := Lib.hid hj
          replace h0 := Lib.hid h0
          by_cases hpp : pj < pi
          ·
           have f1 : decide (pj ≥ pi) = false := decide_eq_false (by omega)
           have f2 : decide (pi ≤ pj) = false := decide_eq_false (by omega)
           have hn := Lib.hid (hxn.out rfl (fun _ => hpp))
           replace hpp := Lib.hid hpp
           go_upto_region 7 with fail
           go_quiet (fail)
           have hbg := Lib.hid (below_drewN hbw4.out nq)
           go_wp2_with fail
           exact ⟨⟨i + 1, by omega, rfl, hn, hbg⟩, by simp [intOf]; omega⟩
          ·
           have f1 : decide (pj ≥ pi) = true := decide_eq_true (by omega)
           have f2 : decide (pi ≤ pj) = true := decide_eq_true (by omega)
           obtain rfl : R = false := hxf.out (fun h => hpp (h.2 (by have := hj.out; omega)))
           replace hpp := Lib.hid hpp
           go_upto_region 7 with fail
           go_quiet (fail)
           have hbg := Lib.hid (below_drewN hbf.out nq)
           go_wp2_with fail
           go_ret
           exact ⟨rfl, hbg.out⟩
       ·
        have hno : decide ((i : Int) < (l.length : Int)) = false := decide_eq_false (by omega)
        obtain rfl : i = l.length := by omega
        obtain rfl : R = true := by
         rw [← hR.out]
         exact decide_eq_true heq.out
        have hbf := Lib.hid (hbW.out.trans (hb.out.mono hbW.out.size))
        go_wp2_with fail
        go_ret
        exact ⟨rfl, hbf.out⟩
end Go.Proofs.YtpeandbcdaikbaaGreatDoor
namespace Go.Proofs.YtpeandbcdaikbaaGreatDoor
open Go.RowKit Go.Shelf Go.Maps

attribute [local go_sem] Oper.semAt_some

set_option maxRecDepth 100000 in
set_option maxHeartbeats 4000000 in
theorem Steps9_any (m : Mig) (p : Int) (v : Value) (w : World) (hf : FewK m) (hlen : m.keep.length ≤ 1000000) (hv : ClaimsAt w w.heap.size v m.keep) :
  Calls Tryz.prog 73 #[.agg #[.int .i64 m.id, .int .i64 m.frm, .int .i64 m.to, .bool m.back, v], .int .i64 p] w fun e w' => ∃ v', e = .returned v' ∧ StepsT w' v' (stepsM m p) ∧ Below w.heap.size w w' := by
 have hcell := Lib.hid fun i (hi : i < m.keep.length) => ClaimsAt.cells hv hi
 have hat := Lib.hid fun i (hi : i < m.keep.length) h1 h2 => stepsM_at (m := m) (p := p) (i := i) hi h1 h2
 have hnone := Lib.hid (stepsM_none (m := m) (p := p))
 obtain ⟨i0, hi_, hz0, hz1, hz2⟩ := info_parts Tryz.info_step
 replace hi_ := Lib.hid hi_
 replace hf := Lib.hid hf
 obtain ⟨R, hR⟩ : ∃ R, R = stepsM m p := ⟨_, rfl⟩
 rw [← hR] at hat hnone ⊢
 clear hR
 obtain ⟨id, frm, tg, back, l⟩ := m
 unfold FewK at hf
 dsimp only at hv hcell hat hnone hlen hf ⊢
 obtain ⟨vs, hvl, ⟨a, c, rfl, hn1, hn2, _⟩, _⟩ := hv
 obtain ⟨W, hW⟩ : ∃ W, W = w.alloc (.cells #[.int .i64 id, .int .i64 frm, .int .i64 tg, .bool back, .slice a l.length c] 28) := ⟨_, rfl⟩
 have hA : Arr W w.heap.size 28 [.int .i64 id, .int .i64 frm, .int .i64 tg, .bool back, .slice a l.length c] := by rw [hW]; exact Arr.new rfl rfl
 have hbW : Below w.heap.size w W := by rw [hW]; exact (Below.refl _ _).alloc (Nat.le_refl _) _
 replace hA := Lib.hid hA
 have hst : Hid ((∀ j, j < 0 → l[j]!.1 ≠ p) ∧ Below W.heap.size W W) := ⟨fun j hj => absurd hj (Nat.not_lt_zero j), Below.refl _ _⟩
 replace hbW := Lib.hid hbW
 go_enter Tryz.func73, Tryz.ntmps73
 go_upto_region 1 with fail
 rw [← hW]
 clear hW
 go_wp2_with fail
 go_loopw [5] (fun iv wr => ∃ i : Nat, i ≤ l.length ∧ iv = .int .i64 (i : Int) ∧ Hid ((∀ j, j < i → l[j]!.1 ≠ p) ∧ Below W.heap.size W wr)) (fun iv _ => l.length - (intOf iv).toNat)
 case atStart => exact ⟨0, Nat.zero_le _, rfl, hst⟩
 case round =>
  obtain ⟨i, hi, rfl, hall⟩ := hrel
  obtain ⟨hno, hbr⟩ := hall.out
  clear hall hst
  have c4 := (hA.out.below hbr).cell (j := 4) rfl
  have hbwr := hbW.out.trans (hbr.mono hbW.out.size)
  by_cases hlt : i < l.length
  ·
   obtain ⟨b, o, cp, u, hv1, hb, x0, x1, hs⟩ := hcell.out i hlt
   injection hv1 with hv1 _ hv3
   subst hv1 hv3
   have y0 := (hbwr.cell (p := ⟨b, o + i * 2, none⟩) hb).trans x0
   have y1 := (hbwr.cell (p := ⟨b, o + i * 2 + 1, none⟩) hb).trans x1
   have hmem : l[i]! ∈ l := by rw [getElem!_pos l i hlt]; exact List.getElem_mem hlt
   have hf1 := hf.out l[i]! hmem
   have hr : l[i]!.1 = p → R = l[i]!.2 := fun e => hat.out i hlt e hno
   have hnx : l[i]!.1 ≠ p → ∀ j, j < i + 1 → l[j]!.1 ≠ p := fun e j hj => by
    by_cases h : j = i
    ·
     rw [h]; exact e
    ·
     exact hno j (by omega)
   have hba : Below wr.heap.size wr (wr.alloc (.cells #[] 73)) := (Below.refl _ _).alloc (Nat.le_refl _) _
   have hsW := hbwr.trans (hba.mono hbwr.size)
   have hsu := hs.later hsW
   have c4e := (hA.out.below (hbr.trans (hba.mono hbr.size))).cell (j := 4) rfl
   have y1e := (hsW.cell (p := ⟨b, o + i * 2 + 1, none⟩) hb).trans x1
   obtain ⟨ua, uc, rfl, _, _, _⟩ := hs
   clear x0 x1 hcell hat hnone hmem
   generalize l[i]!.1 = px at *
   generalize l[i]!.2 = pl at *
   have k0 : (0 : Int) ≤ (i : Int) := by omega
   have k1 : (i : Int) < (l.length : Int) := by omega
   have hw1 : IntKind.i64.wrap ((i : Int) + 1) = (i : Int) + 1 := IntWalk.i64_in _ (by omega)
   have hone : Hid (∀ q ∈ stL pl, q.oneCell' = true) := stL_one _
   have hsl : Hid ((stL pl).length = pl.length * 2) := stL_len _
   generalize hpl : pl.length = n at *
   by_cases hp : px = p
   ·
    have hd : (px == p) = true := by simpa using hp
    have hd2 : decide (px = p) = true := decide_eq_true hp
    have hres := Lib.hid (hr hp)
    have hsu2 : Hid (SliceAt (wr.alloc (.cells #[] 73)) (wr.alloc (.cells #[] 73)).heap.size (.slice ua n uc) n (stL pl)) := by
     have := hsu
     unfold StepsAt at this
     rw [hpl] at this
     exact this
    replace hp := Lib.hid hp
    replace hpl := Lib.hid hpl
    replace hsW := Lib.hid hsW
    replace hbwr := Lib.hid hbwr
    replace hba := Lib.hid hba
    replace hbr := Lib.hid hbr
    clear hsu hr hnx hno
    go_wp2_with (at_builtin; refine wpList_append_src rfl _ _ 55 rfl wr.heap.size 73 i0 (.agg #[.int .i64 0, .int .i64 0]) 2 16 Tryz.underlying55 hi_.out hz0 hz1 hz2 rfl (by decide) _ _ _ rfl (World.ownsRow_made wr #[] 0 (Nat.le_refl _) (Nat.zero_le _) (by simp)) _ n _ (stL pl) rfl hsu2.out hsl.out hone.out ?qa ?qb ?qc ?_)
    case qa => unfold maxLen; omega
    case qb => omega
    intro v' w2 hown hgrow
    have hown2 : w2.ownsRow wr.heap.size 73 2 v' n (stL pl) := by simpa using hown
    replace hown2 := Lib.hid hown2
    have hbf : Hid (Below w.heap.size w w2) := hbwr.out.trans ((hba.out.grown hgrow (by simp) (by intro k hk; simp [Value.ownBlock] at hk; omega)).mono hbwr.out.size)
    clear hown hgrow hsu2 hone hsl
    go_wp2_with fail
    go_ret
    exact ⟨v', rfl, by rw [hres.out]; have := RowT.of_own hown2.out; unfold StepsT; rw [hpl.out]; exact this, hbf.out⟩
   ·
    have hd : (px == p) = false := by simpa using hp
    have hd2 : decide (px = p) = false := decide_eq_false hp
    have hn := hnx hp
    have hkk : Hid ((∀ j, j < i + 1 → l[j]!.1 ≠ p) ∧ Below W.heap.size W wr) := ⟨hn, hbr⟩
    replace hp := Lib.hid hp
    replace hpl := Lib.hid hpl
    clear hsW hr hnx hn hsu hba hone hsl hno hbr c4e y1e
    go_wp2_with fail
    exact ⟨⟨i + 1, by omega, rfl, hkk⟩, by simp [intOf]; omega⟩
  ·
   have hres := Lib.hid (hnone.out fun j hj => hno j (by omega))
   have hd : decide ((i : Int) < (l.length : Int)) = false := decide_eq_false (by omega)
   replace hbwr := Lib.hid hbwr
   clear hcell hat hnone hno hbr
   go_wp2_with fail
   go_ret
   exact ⟨_, rfl, by rw [hres.out]; exact StepsT.nil _ _ _ (Nat.zero_le _), hbwr.out⟩
end Go.Proofs.YtpeandbcdaikbaaGreatDoor
namespace Go.Proofs.YtpeandbcdaikbaaGreatDoor
open Go.RowKit Go.Shelf Go.Maps

attribute [local go_sem] Oper.semAt_some

theorem steps_unknown {m : Mig} (h : validM m = true) {p : Int} (hp : p ≠ 1 ∧ p ≠ 2 ∧ p ≠ 3 ∧ p ≠ 4 ∧ p ≠ 7) : stepsM m p = [] := by
 refine stepsM_none fun j hj e => ?_
 rw [validM_iff, Bool.and_eq_true, decide_eq_true_eq] at h
 have hk := (h.2 j hj).1
 unfold isKeepM at hk
 simp only [Bool.and_eq_true, Bool.or_eq_true, beq_iff_eq] at hk
 have h1 := hk.1.1.1.1
 unfold Kp.prop at h1
 omega
/-- A claim's box, beside the claims that have been appended. -/
structure CBox (w3 wx : World) (B : Nat) (ov : Value) (lo : Clms) (us : List Value) (p : Int) (u : Value) : Prop where
 box : Arr wx B 59 [.int .i64 p, u]
 row : ClOwn w3.heap.size wx ov lo us
 apart : ov.ownBlock ≠ some B
 below : Below w3.heap.size w3 wx
 ge : w3.heap.size ≤ B
theorem CBox.new {w3 wr : World} {ov : Value} {lo : Clms} {us : List Value} (p : Int) (u : Value) (h : ClOwn w3.heap.size wr ov lo us) (hb : Below w3.heap.size w3 wr) : CBox w3 (wr.alloc (.cells #[.int .i64 p, u] 59)) wr.heap.size ov lo us p u := by
 have hba : Below wr.heap.size wr (wr.alloc (.cells #[.int .i64 p, u] 59)) := (Below.refl _ _).alloc (Nat.le_refl _) _
 exact ⟨Arr.new rfl rfl, h.below hba, fun e => by have := (own_block h.own e).1; omega, hb.trans (hba.mono hb.size), hb.size⟩
theorem CBox.later {w3 wx wy : World} {B : Nat} {ov : Value} {lo : Clms} {us : List Value} {p : Int} {u : Value} (h : CBox w3 wx B ov lo us p u) (hb : Below wx.heap.size wx wy) : CBox w3 wy B ov lo us p u :=
 ⟨h.box.below hb, h.row.below hb, h.apart, h.below.trans (hb.mono h.below.size), h.ge⟩
theorem CBox.put {w3 wx : World} {B : Nat} {ov : Value} {lo : Clms} {us : List Value} {p : Int} {u : Value} (h : CBox w3 wx B ov lo us p u) (x : Value) : CBox w3 (wx.setCell ⟨B, 1, none⟩ x) B ov lo us p x := by
 have hk : KeepTy [59] wx (wx.setCell ⟨B, 1, none⟩ x) := KeepTy.setArr h.box (by decide)
 exact ⟨h.box.set 1 x, ⟨h.row.len, ownsRow_setCell_other h.row.own h.apart x, fun i hi => (h.row.steps i hi).keepTy (by decide) hk⟩, h.apart, h.below.setCell (p := ⟨B, 1, none⟩) h.ge x, h.ge⟩
theorem CBox.keepS {w3 wx : World} {B : Nat} {ov : Value} {lo : Clms} {us : List Value} {p : Int} {u x v : Value} {s : List Stp} (h : CBox w3 wx B ov lo us p u) (hs : StepsT wx v s) : StepsT (wx.setCell ⟨B, 1, none⟩ x) v s := by
 have hk : KeepTy [59] wx (wx.setCell ⟨B, 1, none⟩ x) := KeepTy.setArr h.box (by decide)
 exact RowT.keepTy hs (by decide) hk
theorem lit_below (w : World) (o : Obj) : Below w.heap.size w (w.alloc o) := (Below.refl _ _).alloc (Nat.le_refl _) _
set_option maxRecDepth 100000 in
set_option maxHeartbeats 8000000 in
theorem Claims9_any (m : Mig) (v : Value) (w : World) (hv : ClaimsAt w w.heap.size v m.keep) :
  Calls Tryz.prog 44 #[.agg #[.int .i64 m.id, .int .i64 m.frm, .int .i64 m.to, .bool m.back, v]] w fun e w' => ∃ v', e = .returned (.tuple #[v', .int .i64 (errM (validM m))]) ∧ (∃ us, ClOwn w.heap.size w' v' (if validM m then claimsM m else []) us) ∧ Below w.heap.size w w' := by
 obtain ⟨i0, hi_, hz0, hz1, hz2⟩ := info_parts Tryz.info_claim
 obtain ⟨s0, hs_, hy0, hy1, hy2⟩ := info_parts Tryz.info_step
 replace hi_ := Lib.hid hi_
 replace hs_ := Lib.hid hs_
 obtain ⟨W, hW⟩ : ∃ W, W = w.alloc (.cells #[.int .i64 m.id, .int .i64 m.frm, .int .i64 m.to, .bool m.back, v] 28) := ⟨_, rfl⟩
 have hA : Arr W w.heap.size 28 [.int .i64 m.id, .int .i64 m.frm, .int .i64 m.to, .bool m.back, v] := by rw [hW]; exact Arr.new rfl rfl
 have hbW : Below w.heap.size w W := by rw [hW]; exact (Below.refl _ _).alloc (Nat.le_refl _) _
 have hva := Lib.hid (mValid9_any m v W (hv.later hbW))
 have hst := fun (h : validM m = true) => Lib.hid fun q w1 (hb : Below w.heap.size w w1) => Steps9_any m q v w1 (valid_few h).1 (by have := (valid_few h).2; omega) (hv.later hb)
 have hcm := Lib.hid fun i (hi : i < 8) => claimsM_at m hi
 have hcn := Lib.hid (claimsM_len m)
 have e3 := Lib.hid (claim_lost3 (m := m))
 have e5 := Lib.hid (claim_lost5 (m := m))
 have e3' := Lib.hid (claim_3 (m := m))
 have e5' := Lib.hid (claim_5 (m := m))
 have e6 := Lib.hid (claim_6 m)
 have ep := Lib.hid fun p h3 h5 h6 => claim_p m (p := p) h3 h5 h6
 have hun := fun (h : validM m = true) => Lib.hid fun p hp => steps_unknown h (p := p) hp
 obtain ⟨vs, _, ⟨a, c, rfl, _, _, _⟩, _⟩ := hv
 generalize hS : stepsM m = S at *
 generalize hLL : claimsM m = LL at *
 generalize hCl : claimM m = Cl at *
 have hSl : Hid (validM m = true → ∀ q, (S q).length ≤ 64) := fun h q => by
  rw [← hS]
  unfold stepsM
  cases hf : m.keep.find? (·.prop == q) with
  | none => simp
  | some k => exact (valid_few h).1 k (List.mem_of_find?_eq_some hf)
 clear hS hLL hCl
 cases hvl : validM m with
 | false =>
  rw [hvl] at hva
  obtain ⟨id, frm, tg, back, l⟩ := m
  have c0 := hA.cell (j := 0) rfl
  have c1 := hA.cell (j := 1) rfl
  have c2 := hA.cell (j := 2) rfl
  have c3 := hA.cell (j := 3) rfl
  have c4 := hA.cell (j := 4) rfl
  replace hvl := Lib.hid hvl
  replace hA := Lib.hid hA
  replace hbW := Lib.hid hbW
  dsimp only at hva hW c0 c1 c2 c3 c4 ⊢
  clear hst hun
  go_enter Tryz.func44, Tryz.ntmps44
  go_upto_region 1 with fail
  rw [← hW]
  clear hW
  go_wp2_with fail
  refine hva.out.mono ?_
  rintro e w1 ⟨rfl, hb1⟩
  have hbf := Lib.hid (hbW.out.trans (hb1.mono hbW.out.size))
  go_wp2_with fail
  go_ret2
  exact ⟨_, rfl, ⟨[], rfl, World.ownsRow_nil _ _ _ _, fun i hi => absurd hi (Nat.not_lt_zero i)⟩, hbf.out⟩
 | true =>
  rw [hvl] at hva
  replace hst := hst hvl
  replace hun := hun hvl
  replace hSl := Lib.hid (hSl.out hvl)
  obtain ⟨id, frm, tg, back, l⟩ := m
  have c0 := hA.cell (j := 0) rfl
  have c1 := hA.cell (j := 1) rfl
  have c2 := hA.cell (j := 2) rfl
  have c3 := hA.cell (j := 3) rfl
  have c4 := hA.cell (j := 4) rfl
  replace hvl := Lib.hid hvl
  dsimp only at hva hst hW hA c0 c1 c2 c3 c4 ⊢
  replace hA := Lib.hid hA
  replace hbW := Lib.hid hbW
  go_enter Tryz.func44, Tryz.ntmps44
  go_upto_region 1 with fail
  rw [← hW]
  clear hW
  go_wp2_with fail
  refine hva.out.mono ?_
  clear hva
  rintro e w1 ⟨rfl, hb1⟩
  obtain ⟨w3, hw3⟩ : ∃ w3, w3 = w1.alloc (.cells #[.int .i64 6, .int .i64 0] 73) := ⟨_, rfl⟩
  have hb3 : Below w1.heap.size w1 w3 := by rw [hw3]; exact lit_below _ _
  have hG : Hid (StepsT w3 (.slice (some ⟨w1.heap.size, 0, none⟩) 1 1) [⟨6, 0⟩]) := by
   rw [hw3]
   exact RowT.of_own (World.ownsRow_lit (size := 2) w1 #[.int .i64 6, .int .i64 0] 1 (Nat.le_refl w1.heap.size) (by unfold maxLen; omega) rfl)
  have hA3 := Lib.hid ((hA.out.below hb1).below hb3)
  have hbw3 := Lib.hid (hbW.out.trans ((hb1.trans (hb3.mono hb1.size)).mono hbW.out.size))
  have hst0 : Hid (Below w3.heap.size w3 w3 ∧ ∃ us, ClOwn w3.heap.size w3 (.slice none 0 0) (LL.take 0) us) := ⟨Below.refl _ _, [], ⟨rfl, World.ownsRow_nil _ _ _ _, fun i hi => absurd hi (by simp)⟩⟩
  clear hA hb1 hb3 hbW c0 c1 c2 c3 c4
  go_upto_region 5 with fail
  rw [← hw3]
  clear hw3
  go_wp2_with fail
  go_loopw [6, 7] (fun ov iv wr => ∃ i : Nat, i ≤ 8 ∧ iv = .int .i64 ((i : Int) + 1) ∧ Hid (Below w3.heap.size w3 wr ∧ ∃ us, ClOwn w3.heap.size wr ov (LL.take i) us)) (fun _ iv _ => 9 - (intOf iv).toNat)
  case atStart => exact ⟨0, by omega, by first | rfl | go_num, hst0⟩
  case round =>
   obtain ⟨i, hi8, rfl, hall⟩ := hrel
   clear hst0
   obtain ⟨hbr, us, hO⟩ := hall.out
   clear hall
   obtain ⟨wo, hwo⟩ : ∃ wo, wo = wr := ⟨_, rfl⟩
   subst hwo
   by_cases hlt : i < 8
   ·
    have hw1 : IntKind.i64.wrap ((i : Int) + 1 + 1) = (i : Int) + 1 + 1 := IntWalk.i64_in _ (by omega)
    have htk : LL.take (i + 1) = LL.take i ++ [((i : Int) + 1, Cl ((i : Int) + 1))] := by
     have hcl := hcn.out
     rw [List.take_succ_eq_append_getElem (by omega), ← getElem!_pos LL i (by omega), hcm.out i hlt]
    have hlen : (LL.take i).length = i := by rw [List.length_take, hcn.out]; omega
    have hX := Lib.hid (CBox.new ((i : Int) + 1) (.slice none 0 0) hO hbr)
    have hba := lit_below wo (.cells #[.int .i64 ((i : Int) + 1), .slice none 0 0] 59)
    have hAb := Lib.hid ((hA3.out.below hbr).below hba)
    generalize hlo : LL.take i = lo at *
    obtain ⟨wb, hwb⟩ : ∃ wb, wb = wo.alloc (.cells #[.int .i64 ((i : Int) + 1), .slice none 0 0] 59) := ⟨_, rfl⟩
    rw [← hwb] at hX hAb hba
    replace htk := Lib.hid htk
    replace hlo := Lib.hid hlo
    replace hlen := Lib.hid hlen
    have hBge : Hid (w3.heap.size ≤ wo.heap.size) := hbr.size
    generalize hBB : wo.heap.size = BB at *
    replace hBB := Lib.hid hBB
    clear hO hba
    obtain rfl | rfl | rfl | rfl | rfl | rfl | rfl | rfl : i = 0 ∨ i = 1 ∨ i = 2 ∨ i = 3 ∨ i = 4 ∨ i = 5 ∨ i = 6 ∨ i = 7 := by omega
    ·
     have hd1 : decide ((((0 : Nat) : Int) + 1) ≤ 8) = true := by decide
     have hAlt : Hid (w.heap.size < w3.heap.size) := hA3.out.lt
     change Hid (CBox w3 wb BB u6 lo us 1 (.slice none 0 0)) at hX
     change Hid (LL.take (0 + 1) = lo ++ [(1, Cl 1)]) at htk
     change wb = wo.alloc (.cells #[.int .i64 1, .slice none 0 0] 59) at hwb
     replace hwb : wo.alloc (.cells #[.int .i64 1, .slice none 0 0] 59) = wb := hwb.symm
     replace hwb := Lib.hid hwb
     go_upto_region 10 with fail
     rw [hwb.out]
     (try rw [hBB.out])
     clear hwb
     have a0 := hAb.out.cell (j := 0) rfl
     have a1 := hAb.out.cell (j := 1) rfl
     have a2 := hAb.out.cell (j := 2) rfl
     have a3 := hAb.out.cell (j := 3) rfl
     have a4 := hAb.out.cell (j := 4) rfl
     have hsp := Lib.hid (hst.out 1 wb (hbw3.out.trans (hX.out.below.mono hbw3.out.size)))
     go_wp2_with fail
     refine hsp.out.mono ?_
     clear hsp a0 a1 a2 a3 a4
     rintro e w4 ⟨uv, rfl, hU, hbx⟩
     obtain ⟨ux4, uc4, rfl, _⟩ := StepsT.lenR hU
     replace hX := Lib.hid (hX.out.later hbx)
     replace hAb := Lib.hid (hAb.out.below hbx)
     replace hU := Lib.hid hU
     have p1 := hX.out.box.cell (j := 1) rfl
     have f1 := hX.out.box.free 1
     have hX2 := Lib.hid (hX.out.put (.slice ux4 (S 1).length uc4))
     have hU2 := Lib.hid (hX.out.keepS (x := .slice ux4 (S 1).length uc4) hU.out)
     have hbs : Hid (Below BB w4 (w4.setCell ⟨BB, 1, none⟩ (.slice ux4 (S 1).length uc4))) := (Below.refl BB w4).setCell (p := ⟨BB, 1, none⟩) (Nat.le_refl _) _
     have hA2 := Lib.hid (hAb.out.belowAt hbs.out (by have := hbw3.out.size; have := hBge.out; have := hAlt.out; omega))
     replace hX := hX2
     replace hU := hU2
     replace hAb := hA2
     clear hX2 hU2 hA2 hbs
     go_upto_region 25 with fail
     clear p1 f1
     generalize w4.setCell ⟨BB, 1, none⟩ (.slice ux4 (S 1).length uc4) = w5 at *
     have hEq : Hid (S 1 = Cl 1) := (ep.out 1 (by decide) (by decide) (by decide)).symm
     have x0 := hX.out.box.cell (j := 0) rfl
     have x1 := hX.out.box.cell (j := 1) rfl
     have hbl := lit_below w5 (.cells #[.int .i64 1, .slice ux4 (S 1).length uc4] 59)
     have hO3 := hX.out.row.below hbl
     have hU3 := Lib.hid (StepsT.belowR hU.out hbl)
     have hb13 := Lib.hid (hX.out.below.trans (hbl.mono hX.out.below.size))
     have hown3 := hO3.own
     rw [hlen.out] at hown3
     replace hown3 := Lib.hid hown3
     replace hO3 := Lib.hid hO3
     have hnews : ∀ q y, [Value.int .i64 1, .slice ux4 (S 1).length uc4][q]? = some y → (w5.alloc (.cells #[.int .i64 1, .slice ux4 (S 1).length uc4] 59)).cell? ((⟨w5.heap.size, 0, none⟩ : Addr).add q) = some y := fun q y hy => cells_new w5 [.int .i64 1, .slice ux4 (S 1).length uc4] 59 q y hy
     have hsz : Hid (w3.heap.size ≤ w5.heap.size) := hX.out.below.size
     replace hX := Lib.hid hX
     clear hbl
     go_wp2_with (at_builtin; refine wpList_append_own _ rfl _ _ 31 rfl w3.heap.size 59 i0 (.agg #[.int .i64 0, .slice none 0 0]) 2 32 Tryz.underlying31 hi_.out hz0 hz1 hz2 rfl (by decide) _ 0 _ rfl hown3.out ⟨w5.heap.size, 0, none⟩ 1 1 [.int .i64 1, .slice ux4 (S 1).length uc4] rfl rfl hnews (by simp [Value.oneCell']) ?qa ?qb ?qc ?_)
     case qa => unfold maxLen; omega
     case qb => omega
     case qc => have := hsz.out; (try simp only [World.size_alloc]); omega
     intro v2 wz hown4 hgrow hnil
     have hOn := hO3.out.snoc 1 _ _ hU3.out (by rw [hlen.out]; exact hown4) hgrow
     rw [hEq.out] at hOn
     have hkk : Hid (Below w3.heap.size w3 wz ∧ ∃ us, ClOwn w3.heap.size wz v2 (LL.take (0 + 1)) us) := ⟨hb13.out.grown hgrow hb13.out.size (fun g hq => (own_block hO3.out.own hq).2.1), _, by rw [htk.out]; exact hOn⟩
     clear hgrow hown4 hnil hown3 hO3 hnews hOn hb13 hU3 hsz x0 x1
     go_wp2_with fail
     exact ⟨⟨0 + 1, by omega, by first | rfl | go_num, hkk⟩, by simp [intOf]⟩
    ·
     have hd1 : decide ((((1 : Nat) : Int) + 1) ≤ 8) = true := by decide
     have hAlt : Hid (w.heap.size < w3.heap.size) := hA3.out.lt
     change Hid (CBox w3 wb BB u6 lo us 2 (.slice none 0 0)) at hX
     change Hid (LL.take (1 + 1) = lo ++ [(2, Cl 2)]) at htk
     change wb = wo.alloc (.cells #[.int .i64 2, .slice none 0 0] 59) at hwb
     replace hwb : wo.alloc (.cells #[.int .i64 2, .slice none 0 0] 59) = wb := hwb.symm
     replace hwb := Lib.hid hwb
     go_upto_region 10 with fail
     rw [hwb.out]
     (try rw [hBB.out])
     clear hwb
     have a0 := hAb.out.cell (j := 0) rfl
     have a1 := hAb.out.cell (j := 1) rfl
     have a2 := hAb.out.cell (j := 2) rfl
     have a3 := hAb.out.cell (j := 3) rfl
     have a4 := hAb.out.cell (j := 4) rfl
     have hsp := Lib.hid (hst.out 2 wb (hbw3.out.trans (hX.out.below.mono hbw3.out.size)))
     go_wp2_with fail
     refine hsp.out.mono ?_
     clear hsp a0 a1 a2 a3 a4
     rintro e w4 ⟨uv, rfl, hU, hbx⟩
     obtain ⟨ux4, uc4, rfl, _⟩ := StepsT.lenR hU
     replace hX := Lib.hid (hX.out.later hbx)
     replace hAb := Lib.hid (hAb.out.below hbx)
     replace hU := Lib.hid hU
     have p1 := hX.out.box.cell (j := 1) rfl
     have f1 := hX.out.box.free 1
     have hX2 := Lib.hid (hX.out.put (.slice ux4 (S 2).length uc4))
     have hU2 := Lib.hid (hX.out.keepS (x := .slice ux4 (S 2).length uc4) hU.out)
     have hbs : Hid (Below BB w4 (w4.setCell ⟨BB, 1, none⟩ (.slice ux4 (S 2).length uc4))) := (Below.refl BB w4).setCell (p := ⟨BB, 1, none⟩) (Nat.le_refl _) _
     have hA2 := Lib.hid (hAb.out.belowAt hbs.out (by have := hbw3.out.size; have := hBge.out; have := hAlt.out; omega))
     replace hX := hX2
     replace hU := hU2
     replace hAb := hA2
     clear hX2 hU2 hA2 hbs
     go_upto_region 25 with fail
     clear p1 f1
     generalize w4.setCell ⟨BB, 1, none⟩ (.slice ux4 (S 2).length uc4) = w5 at *
     have hEq : Hid (S 2 = Cl 2) := (ep.out 2 (by decide) (by decide) (by decide)).symm
     have x0 := hX.out.box.cell (j := 0) rfl
     have x1 := hX.out.box.cell (j := 1) rfl
     have hbl := lit_below w5 (.cells #[.int .i64 2, .slice ux4 (S 2).length uc4] 59)
     have hO3 := hX.out.row.below hbl
     have hU3 := Lib.hid (StepsT.belowR hU.out hbl)
     have hb13 := Lib.hid (hX.out.below.trans (hbl.mono hX.out.below.size))
     have hown3 := hO3.own
     rw [hlen.out] at hown3
     replace hown3 := Lib.hid hown3
     replace hO3 := Lib.hid hO3
     have hnews : ∀ q y, [Value.int .i64 2, .slice ux4 (S 2).length uc4][q]? = some y → (w5.alloc (.cells #[.int .i64 2, .slice ux4 (S 2).length uc4] 59)).cell? ((⟨w5.heap.size, 0, none⟩ : Addr).add q) = some y := fun q y hy => cells_new w5 [.int .i64 2, .slice ux4 (S 2).length uc4] 59 q y hy
     have hsz : Hid (w3.heap.size ≤ w5.heap.size) := hX.out.below.size
     replace hX := Lib.hid hX
     clear hbl
     go_wp2_with (at_builtin; refine wpList_append_own _ rfl _ _ 31 rfl w3.heap.size 59 i0 (.agg #[.int .i64 0, .slice none 0 0]) 2 32 Tryz.underlying31 hi_.out hz0 hz1 hz2 rfl (by decide) _ 1 _ rfl hown3.out ⟨w5.heap.size, 0, none⟩ 1 1 [.int .i64 2, .slice ux4 (S 2).length uc4] rfl rfl hnews (by simp [Value.oneCell']) ?qa ?qb ?qc ?_)
     case qa => unfold maxLen; omega
     case qb => omega
     case qc => have := hsz.out; (try simp only [World.size_alloc]); omega
     intro v2 wz hown4 hgrow hnil
     have hOn := hO3.out.snoc 2 _ _ hU3.out (by rw [hlen.out]; exact hown4) hgrow
     rw [hEq.out] at hOn
     have hkk : Hid (Below w3.heap.size w3 wz ∧ ∃ us, ClOwn w3.heap.size wz v2 (LL.take (1 + 1)) us) := ⟨hb13.out.grown hgrow hb13.out.size (fun g hq => (own_block hO3.out.own hq).2.1), _, by rw [htk.out]; exact hOn⟩
     clear hgrow hown4 hnil hown3 hO3 hnews hOn hb13 hU3 hsz x0 x1
     go_wp2_with fail
     exact ⟨⟨1 + 1, by omega, by first | rfl | go_num, hkk⟩, by simp [intOf]⟩
    ·
     have hd1 : decide ((((2 : Nat) : Int) + 1) ≤ 8) = true := by decide
     have hAlt : Hid (w.heap.size < w3.heap.size) := hA3.out.lt
     change Hid (CBox w3 wb BB u6 lo us 3 (.slice none 0 0)) at hX
     change Hid (LL.take (2 + 1) = lo ++ [(3, Cl 3)]) at htk
     change wb = wo.alloc (.cells #[.int .i64 3, .slice none 0 0] 59) at hwb
     replace hwb : wo.alloc (.cells #[.int .i64 3, .slice none 0 0] 59) = wb := hwb.symm
     replace hwb := Lib.hid hwb
     go_upto_region 10 with fail
     rw [hwb.out]
     (try rw [hBB.out])
     clear hwb
     have a0 := hAb.out.cell (j := 0) rfl
     have a1 := hAb.out.cell (j := 1) rfl
     have a2 := hAb.out.cell (j := 2) rfl
     have a3 := hAb.out.cell (j := 3) rfl
     have a4 := hAb.out.cell (j := 4) rfl
     have hsp := Lib.hid (hst.out 3 wb (hbw3.out.trans (hX.out.below.mono hbw3.out.size)))
     go_wp2_with fail
     refine hsp.out.mono ?_
     clear hsp a0 a1 a2 a3 a4
     rintro e w4 ⟨uv, rfl, hU, hbx⟩
     obtain ⟨ux4, uc4, rfl, _⟩ := StepsT.lenR hU
     replace hX := Lib.hid (hX.out.later hbx)
     replace hAb := Lib.hid (hAb.out.below hbx)
     replace hU := Lib.hid hU
     have p1 := hX.out.box.cell (j := 1) rfl
     have f1 := hX.out.box.free 1
     have hX2 := Lib.hid (hX.out.put (.slice ux4 (S 3).length uc4))
     have hU2 := Lib.hid (hX.out.keepS (x := .slice ux4 (S 3).length uc4) hU.out)
     have hbs : Hid (Below BB w4 (w4.setCell ⟨BB, 1, none⟩ (.slice ux4 (S 3).length uc4))) := (Below.refl BB w4).setCell (p := ⟨BB, 1, none⟩) (Nat.le_refl _) _
     have hA2 := Lib.hid (hAb.out.belowAt hbs.out (by have := hbw3.out.size; have := hBge.out; have := hAlt.out; omega))
     replace hX := hX2
     replace hU := hU2
     replace hAb := hA2
     clear hX2 hU2 hA2 hbs
     go_upto_region 18 with fail
     clear p1 f1
     generalize w4.setCell ⟨BB, 1, none⟩ (.slice ux4 (S 3).length uc4) = w5 at *
     have hU5 := hU
     have a0 := hAb.out.cell (j := 0) rfl
     have a1 := hAb.out.cell (j := 1) rfl
     have a2 := hAb.out.cell (j := 2) rfl
     have a3 := hAb.out.cell (j := 3) rfl
     have a4 := hAb.out.cell (j := 4) rfl
     have hsp := Lib.hid (hst.out 4 w5 (hbw3.out.trans (hX.out.below.mono hbw3.out.size)))
     go_wp2_with fail
     refine hsp.out.mono ?_
     clear hsp a0 a1 a2 a3 a4
     rintro e w6 ⟨uv, rfl, hU, hbx⟩
     obtain ⟨ux6, uc6, rfl, _⟩ := StepsT.lenR hU
     replace hX := Lib.hid (hX.out.later hbx)
     replace hAb := Lib.hid (hAb.out.below hbx)
     replace hU := Lib.hid hU
     replace hU5 := Lib.hid (StepsT.belowR hU5.out hbx)
     by_cases hq : S 4 = []
     ·
      have h0 : (S 4).length = 0 := by rw [hq]; rfl
      have d1 : decide (((S 4).length : Int) > 0) = false := decide_eq_false (by omega)
      have d2 : decide ((0 : Int) < ((S 4).length : Int)) = false := decide_eq_false (by omega)
      have d3 : decide (0 < (S 4).length) = false := decide_eq_false (by omega)
      replace h0 := Lib.hid h0
      have hcl := e3'.out hq
      replace hq := Lib.hid hq
      replace hU := hU5
      clear hU5
      replace hcl := Lib.hid hcl
      have hEq : Hid (S 3 = Cl 3) := hcl.out.symm
      have x0 := hX.out.box.cell (j := 0) rfl
      have x1 := hX.out.box.cell (j := 1) rfl
      have hbl := lit_below w6 (.cells #[.int .i64 3, .slice ux4 (S 3).length uc4] 59)
      have hO3 := hX.out.row.below hbl
      have hU3 := Lib.hid (StepsT.belowR hU.out hbl)
      have hb13 := Lib.hid (hX.out.below.trans (hbl.mono hX.out.below.size))
      have hown3 := hO3.own
      rw [hlen.out] at hown3
      replace hown3 := Lib.hid hown3
      replace hO3 := Lib.hid hO3
      have hnews : ∀ q y, [Value.int .i64 3, .slice ux4 (S 3).length uc4][q]? = some y → (w6.alloc (.cells #[.int .i64 3, .slice ux4 (S 3).length uc4] 59)).cell? ((⟨w6.heap.size, 0, none⟩ : Addr).add q) = some y := fun q y hy => cells_new w6 [.int .i64 3, .slice ux4 (S 3).length uc4] 59 q y hy
      have hsz : Hid (w3.heap.size ≤ w6.heap.size) := hX.out.below.size
      replace hX := Lib.hid hX
      clear hbl
      go_wp2_with (at_builtin; refine wpList_append_own _ rfl _ _ 31 rfl w3.heap.size 59 i0 (.agg #[.int .i64 0, .slice none 0 0]) 2 32 Tryz.underlying31 hi_.out hz0 hz1 hz2 rfl (by decide) _ 2 _ rfl hown3.out ⟨w6.heap.size, 0, none⟩ 1 1 [.int .i64 3, .slice ux4 (S 3).length uc4] rfl rfl hnews (by simp [Value.oneCell']) ?qa ?qb ?qc ?_)
      case qa => unfold maxLen; omega
      case qb => omega
      case qc => have := hsz.out; (try simp only [World.size_alloc]); omega
      intro v2 wz hown4 hgrow hnil
      have hOn := hO3.out.snoc 3 _ _ hU3.out (by rw [hlen.out]; exact hown4) hgrow
      rw [hEq.out] at hOn
      have hkk : Hid (Below w3.heap.size w3 wz ∧ ∃ us, ClOwn w3.heap.size wz v2 (LL.take (2 + 1)) us) := ⟨hb13.out.grown hgrow hb13.out.size (fun g hq => (own_block hO3.out.own hq).2.1), _, by rw [htk.out]; exact hOn⟩
      clear hgrow hown4 hnil hown3 hO3 hnews hOn hb13 hU3 hsz x0 x1
      go_wp2_with fail
      exact ⟨⟨2 + 1, by omega, by first | rfl | go_num, hkk⟩, by simp [intOf]⟩
     ·
      have h0 : 0 < (S 4).length := List.length_pos_iff.2 hq
      have d1 : decide (((S 4).length : Int) > 0) = true := decide_eq_true (by omega)
      have d2 : decide ((0 : Int) < ((S 4).length : Int)) = true := decide_eq_true (by omega)
      have d3 : decide (0 < (S 4).length) = true := decide_eq_true h0
      replace h0 := Lib.hid h0
      have hcl := e3.out hq
      replace hq := Lib.hid hq
      replace hcl := Lib.hid hcl
      clear hU hU5
      have hba := lit_below w6 (.cells #[] 73)
      have hsrc : Hid (SliceAt (w6.alloc (.cells #[] 73)) (w6.alloc (.cells #[] 73)).heap.size (.slice (some ⟨w1.heap.size, 0, none⟩) 1 1) 1 (stL [⟨6, 0⟩])) := (stepsT_at3 (StepsT.belowR hG.out hX.out.below)).later hba
      replace hba := Lib.hid hba
      go_upto_region 25 with (at_builtin; refine wpList_append_src rfl _ _ 55 rfl w6.heap.size 73 s0 (.agg #[.int .i64 0, .int .i64 0]) 2 16 Tryz.underlying55 hs_.out hy0 hy1 hy2 rfl (by decide) _ _ _ rfl (World.ownsRow_made w6 #[] 0 (Nat.le_refl _) (Nat.zero_le _) (by simp)) _ 1 _ (stL [⟨6, 0⟩]) rfl hsrc.out rfl (stL_one _) ?qa ?qb ?qc ?_)
      case qa => unfold maxLen; omega
      case qb => omega
      all_goals (try (case qc => simp))
      intro gv w7 hown hgrow
      replace hown : w7.ownsRow w6.heap.size 73 2 gv 1 (stL [⟨6, 0⟩]) := by simpa using hown
      have hbx2 : Below w6.heap.size w6 w7 := hba.out.grown hgrow (by simp) (by intro k hk; simp [Value.ownBlock] at hk; omega)
      replace hX := Lib.hid (hX.out.later hbx2)
      replace hAb := Lib.hid (hAb.out.below hbx2)
      have hU : Hid (StepsT w7 gv [⟨6, 0⟩]) := RowT.of_own hown
      obtain ⟨gx, gc, rfl⟩ := own_val hown
      clear hown hgrow hsrc hba hbx2
      have p1 := hX.out.box.cell (j := 1) rfl
      have f1 := hX.out.box.free 1
      have hX2 := Lib.hid (hX.out.put (.slice gx 1 gc))
      have hU2 := Lib.hid (hX.out.keepS (x := .slice gx 1 gc) hU.out)
      have hbs : Hid (Below BB w7 (w7.setCell ⟨BB, 1, none⟩ (.slice gx 1 gc))) := (Below.refl BB w7).setCell (p := ⟨BB, 1, none⟩) (Nat.le_refl _) _
      have hA2 := Lib.hid (hAb.out.belowAt hbs.out (by have := hbw3.out.size; have := hBge.out; have := hAlt.out; omega))
      replace hX := hX2
      replace hU := hU2
      replace hAb := hA2
      clear hX2 hU2 hA2 hbs
      go_upto_region 25 with fail
      clear p1 f1
      generalize w7.setCell ⟨BB, 1, none⟩ (.slice gx 1 gc) = w8 at *
      have hEq : Hid (([⟨6, 0⟩] : List Stp) = Cl 3) := hcl.out.symm
      have x0 := hX.out.box.cell (j := 0) rfl
      have x1 := hX.out.box.cell (j := 1) rfl
      have hbl := lit_below w8 (.cells #[.int .i64 3, .slice gx 1 gc] 59)
      have hO3 := hX.out.row.below hbl
      have hU3 := Lib.hid (StepsT.belowR hU.out hbl)
      have hb13 := Lib.hid (hX.out.below.trans (hbl.mono hX.out.below.size))
      have hown3 := hO3.own
      rw [hlen.out] at hown3
      replace hown3 := Lib.hid hown3
      replace hO3 := Lib.hid hO3
      have hnews : ∀ q y, [Value.int .i64 3, .slice gx 1 gc][q]? = some y → (w8.alloc (.cells #[.int .i64 3, .slice gx 1 gc] 59)).cell? ((⟨w8.heap.size, 0, none⟩ : Addr).add q) = some y := fun q y hy => cells_new w8 [.int .i64 3, .slice gx 1 gc] 59 q y hy
      have hsz : Hid (w3.heap.size ≤ w8.heap.size) := hX.out.below.size
      replace hX := Lib.hid hX
      clear hbl
      go_wp2_with (at_builtin; refine wpList_append_own _ rfl _ _ 31 rfl w3.heap.size 59 i0 (.agg #[.int .i64 0, .slice none 0 0]) 2 32 Tryz.underlying31 hi_.out hz0 hz1 hz2 rfl (by decide) _ 2 _ rfl hown3.out ⟨w8.heap.size, 0, none⟩ 1 1 [.int .i64 3, .slice gx 1 gc] rfl rfl hnews (by simp [Value.oneCell']) ?qa ?qb ?qc ?_)
      case qa => unfold maxLen; omega
      case qb => omega
      case qc => have := hsz.out; (try simp only [World.size_alloc]); omega
      intro v2 wz hown4 hgrow hnil
      have hOn := hO3.out.snoc 3 _ _ hU3.out (by rw [hlen.out]; exact hown4) hgrow
      rw [hEq.out] at hOn
      have hkk : Hid (Below w3.heap.size w3 wz ∧ ∃ us, ClOwn w3.heap.size wz v2 (LL.take (2 + 1)) us) := ⟨hb13.out.grown hgrow hb13.out.size (fun g hq => (own_block hO3.out.own hq).2.1), _, by rw [htk.out]; exact hOn⟩
      clear hgrow hown4 hnil hown3 hO3 hnews hOn hb13 hU3 hsz x0 x1
      go_wp2_with fail
      exact ⟨⟨2 + 1, by omega, by first | rfl | go_num, hkk⟩, by simp [intOf]⟩
    ·
     have hd1 : decide ((((3 : Nat) : Int) + 1) ≤ 8) = true := by decide
     have hAlt : Hid (w.heap.size < w3.heap.size) := hA3.out.lt
     change Hid (CBox w3 wb BB u6 lo us 4 (.slice none 0 0)) at hX
     change Hid (LL.take (3 + 1) = lo ++ [(4, Cl 4)]) at htk
     change wb = wo.alloc (.cells #[.int .i64 4, .slice none 0 0] 59) at hwb
     replace hwb : wo.alloc (.cells #[.int .i64 4, .slice none 0 0] 59) = wb := hwb.symm
     replace hwb := Lib.hid hwb
     go_upto_region 10 with fail
     rw [hwb.out]
     (try rw [hBB.out])
     clear hwb
     have a0 := hAb.out.cell (j := 0) rfl
     have a1 := hAb.out.cell (j := 1) rfl
     have a2 := hAb.out.cell (j := 2) rfl
     have a3 := hAb.out.cell (j := 3) rfl
     have a4 := hAb.out.cell (j := 4) rfl
     have hsp := Lib.hid (hst.out 4 wb (hbw3.out.trans (hX.out.below.mono hbw3.out.size)))
     go_wp2_with fail
     refine hsp.out.mono ?_
     clear hsp a0 a1 a2 a3 a4
     rintro e w4 ⟨uv, rfl, hU, hbx⟩
     obtain ⟨ux4, uc4, rfl, _⟩ := StepsT.lenR hU
     replace hX := Lib.hid (hX.out.later hbx)
     replace hAb := Lib.hid (hAb.out.below hbx)
     replace hU := Lib.hid hU
     have p1 := hX.out.box.cell (j := 1) rfl
     have f1 := hX.out.box.free 1
     have hX2 := Lib.hid (hX.out.put (.slice ux4 (S 4).length uc4))
     have hU2 := Lib.hid (hX.out.keepS (x := .slice ux4 (S 4).length uc4) hU.out)
     have hbs : Hid (Below BB w4 (w4.setCell ⟨BB, 1, none⟩ (.slice ux4 (S 4).length uc4))) := (Below.refl BB w4).setCell (p := ⟨BB, 1, none⟩) (Nat.le_refl _) _
     have hA2 := Lib.hid (hAb.out.belowAt hbs.out (by have := hbw3.out.size; have := hBge.out; have := hAlt.out; omega))
     replace hX := hX2
     replace hU := hU2
     replace hAb := hA2
     clear hX2 hU2 hA2 hbs
     go_upto_region 25 with fail
     clear p1 f1
     generalize w4.setCell ⟨BB, 1, none⟩ (.slice ux4 (S 4).length uc4) = w5 at *
     have hEq : Hid (S 4 = Cl 4) := (ep.out 4 (by decide) (by decide) (by decide)).symm
     have x0 := hX.out.box.cell (j := 0) rfl
     have x1 := hX.out.box.cell (j := 1) rfl
     have hbl := lit_below w5 (.cells #[.int .i64 4, .slice ux4 (S 4).length uc4] 59)
     have hO3 := hX.out.row.below hbl
     have hU3 := Lib.hid (StepsT.belowR hU.out hbl)
     have hb13 := Lib.hid (hX.out.below.trans (hbl.mono hX.out.below.size))
     have hown3 := hO3.own
     rw [hlen.out] at hown3
     replace hown3 := Lib.hid hown3
     replace hO3 := Lib.hid hO3
     have hnews : ∀ q y, [Value.int .i64 4, .slice ux4 (S 4).length uc4][q]? = some y → (w5.alloc (.cells #[.int .i64 4, .slice ux4 (S 4).length uc4] 59)).cell? ((⟨w5.heap.size, 0, none⟩ : Addr).add q) = some y := fun q y hy => cells_new w5 [.int .i64 4, .slice ux4 (S 4).length uc4] 59 q y hy
     have hsz : Hid (w3.heap.size ≤ w5.heap.size) := hX.out.below.size
     replace hX := Lib.hid hX
     clear hbl
     go_wp2_with (at_builtin; refine wpList_append_own _ rfl _ _ 31 rfl w3.heap.size 59 i0 (.agg #[.int .i64 0, .slice none 0 0]) 2 32 Tryz.underlying31 hi_.out hz0 hz1 hz2 rfl (by decide) _ 3 _ rfl hown3.out ⟨w5.heap.size, 0, none⟩ 1 1 [.int .i64 4, .slice ux4 (S 4).length uc4] rfl rfl hnews (by simp [Value.oneCell']) ?qa ?qb ?qc ?_)
     case qa => unfold maxLen; omega
     case qb => omega
     case qc => have := hsz.out; (try simp only [World.size_alloc]); omega
     intro v2 wz hown4 hgrow hnil
     have hOn := hO3.out.snoc 4 _ _ hU3.out (by rw [hlen.out]; exact hown4) hgrow
     rw [hEq.out] at hOn
     have hkk : Hid (Below w3.heap.size w3 wz ∧ ∃ us, ClOwn w3.heap.size wz v2 (LL.take (3 + 1)) us) := ⟨hb13.out.grown hgrow hb13.out.size (fun g hq => (own_block hO3.out.own hq).2.1), _, by rw [htk.out]; exact hOn⟩
     clear hgrow hown4 hnil hown3 hO3 hnews hOn hb13 hU3 hsz x0 x1
     go_wp2_with fail
     exact ⟨⟨3 + 1, by omega, by first | rfl | go_num, hkk⟩, by simp [intOf]⟩
    ·
     have hd1 : decide ((((4 : Nat) : Int) + 1) ≤ 8) = true := by decide
     have hAlt : Hid (w.heap.size < w3.heap.size) := hA3.out.lt
     change Hid (CBox w3 wb BB u6 lo us 5 (.slice none 0 0)) at hX
     change Hid (LL.take (4 + 1) = lo ++ [(5, Cl 5)]) at htk
     change wb = wo.alloc (.cells #[.int .i64 5, .slice none 0 0] 59) at hwb
     replace hwb : wo.alloc (.cells #[.int .i64 5, .slice none 0 0] 59) = wb := hwb.symm
     replace hwb := Lib.hid hwb
     go_upto_region 10 with fail
     rw [hwb.out]
     (try rw [hBB.out])
     clear hwb
     have a0 := hAb.out.cell (j := 0) rfl
     have a1 := hAb.out.cell (j := 1) rfl
     have a2 := hAb.out.cell (j := 2) rfl
     have a3 := hAb.out.cell (j := 3) rfl
     have a4 := hAb.out.cell (j := 4) rfl
     have hsp := Lib.hid (hst.out 3 wb (hbw3.out.trans (hX.out.below.mono hbw3.out.size)))
     go_wp2_with fail
     refine hsp.out.mono ?_
     clear hsp a0 a1 a2 a3 a4
     rintro e w6 ⟨uv, rfl, hU, hbx⟩
     obtain ⟨ux6, uc6, rfl, _⟩ := StepsT.lenR hU
     replace hX := Lib.hid (hX.out.later hbx)
     replace hAb := Lib.hid (hAb.out.below hbx)
     replace hU := Lib.hid hU
     by_cases hq : S 3 = []
     ·
      have h0 : (S 3).length = 0 := by rw [hq]; rfl
      have d1 : decide (((S 3).length : Int) > 0) = false := decide_eq_false (by omega)
      have d2 : decide ((0 : Int) < ((S 3).length : Int)) = false := decide_eq_false (by omega)
      have d3 : decide (0 < (S 3).length) = false := decide_eq_false (by omega)
      replace h0 := Lib.hid h0
      have hcl := e5'.out hq
      rw [hun.out 5 (by decide)] at hcl
      replace hq := Lib.hid hq
      replace hU : Hid (StepsT w6 (.slice none 0 0) []) := RowT.of_own (World.ownsRow_nil w6 w6.heap.size _ 2)
      replace hcl := Lib.hid hcl
      have hEq : Hid (([] : List Stp) = Cl 5) := hcl.out.symm
      have x0 := hX.out.box.cell (j := 0) rfl
      have x1 := hX.out.box.cell (j := 1) rfl
      have hbl := lit_below w6 (.cells #[.int .i64 5, .slice none 0 0] 59)
      have hO3 := hX.out.row.below hbl
      have hU3 := Lib.hid (StepsT.belowR hU.out hbl)
      have hb13 := Lib.hid (hX.out.below.trans (hbl.mono hX.out.below.size))
      have hown3 := hO3.own
      rw [hlen.out] at hown3
      replace hown3 := Lib.hid hown3
      replace hO3 := Lib.hid hO3
      have hnews : ∀ q y, [Value.int .i64 5, .slice none 0 0][q]? = some y → (w6.alloc (.cells #[.int .i64 5, .slice none 0 0] 59)).cell? ((⟨w6.heap.size, 0, none⟩ : Addr).add q) = some y := fun q y hy => cells_new w6 [.int .i64 5, .slice none 0 0] 59 q y hy
      have hsz : Hid (w3.heap.size ≤ w6.heap.size) := hX.out.below.size
      replace hX := Lib.hid hX
      clear hbl
      go_wp2_with (at_builtin; refine wpList_append_own _ rfl _ _ 31 rfl w3.heap.size 59 i0 (.agg #[.int .i64 0, .slice none 0 0]) 2 32 Tryz.underlying31 hi_.out hz0 hz1 hz2 rfl (by decide) _ 4 _ rfl hown3.out ⟨w6.heap.size, 0, none⟩ 1 1 [.int .i64 5, .slice none 0 0] rfl rfl hnews (by simp [Value.oneCell']) ?qa ?qb ?qc ?_)
      case qa => unfold maxLen; omega
      case qb => omega
      case qc => have := hsz.out; (try simp only [World.size_alloc]); omega
      intro v2 wz hown4 hgrow hnil
      have hOn := hO3.out.snoc 5 _ _ hU3.out (by rw [hlen.out]; exact hown4) hgrow
      rw [hEq.out] at hOn
      have hkk : Hid (Below w3.heap.size w3 wz ∧ ∃ us, ClOwn w3.heap.size wz v2 (LL.take (4 + 1)) us) := ⟨hb13.out.grown hgrow hb13.out.size (fun g hq => (own_block hO3.out.own hq).2.1), _, by rw [htk.out]; exact hOn⟩
      clear hgrow hown4 hnil hown3 hO3 hnews hOn hb13 hU3 hsz x0 x1
      go_wp2_with fail
      exact ⟨⟨4 + 1, by omega, by first | rfl | go_num, hkk⟩, by simp [intOf]⟩
     ·
      have h0 : 0 < (S 3).length := List.length_pos_iff.2 hq
      have d1 : decide (((S 3).length : Int) > 0) = true := decide_eq_true (by omega)
      have d2 : decide ((0 : Int) < ((S 3).length : Int)) = true := decide_eq_true (by omega)
      have d3 : decide (0 < (S 3).length) = true := decide_eq_true h0
      replace h0 := Lib.hid h0
      have hcl := e5.out hq
      replace hq := Lib.hid hq
      replace hcl := Lib.hid hcl
      clear hU
      have hba := lit_below w6 (.cells #[] 73)
      have hsrc : Hid (SliceAt (w6.alloc (.cells #[] 73)) (w6.alloc (.cells #[] 73)).heap.size (.slice (some ⟨w1.heap.size, 0, none⟩) 1 1) 1 (stL [⟨6, 0⟩])) := (stepsT_at3 (StepsT.belowR hG.out hX.out.below)).later hba
      replace hba := Lib.hid hba
      go_upto_region 25 with (at_builtin; refine wpList_append_src rfl _ _ 55 rfl w6.heap.size 73 s0 (.agg #[.int .i64 0, .int .i64 0]) 2 16 Tryz.underlying55 hs_.out hy0 hy1 hy2 rfl (by decide) _ _ _ rfl (World.ownsRow_made w6 #[] 0 (Nat.le_refl _) (Nat.zero_le _) (by simp)) _ 1 _ (stL [⟨6, 0⟩]) rfl hsrc.out rfl (stL_one _) ?qa ?qb ?qc ?_)
      case qa => unfold maxLen; omega
      case qb => omega
      all_goals (try (case qc => simp))
      intro gv w7 hown hgrow
      replace hown : w7.ownsRow w6.heap.size 73 2 gv 1 (stL [⟨6, 0⟩]) := by simpa using hown
      have hbx2 : Below w6.heap.size w6 w7 := hba.out.grown hgrow (by simp) (by intro k hk; simp [Value.ownBlock] at hk; omega)
      replace hX := Lib.hid (hX.out.later hbx2)
      replace hAb := Lib.hid (hAb.out.below hbx2)
      have hU : Hid (StepsT w7 gv [⟨6, 0⟩]) := RowT.of_own hown
      obtain ⟨gx, gc, rfl⟩ := own_val hown
      clear hown hgrow hsrc hba hbx2
      have p1 := hX.out.box.cell (j := 1) rfl
      have f1 := hX.out.box.free 1
      have hX2 := Lib.hid (hX.out.put (.slice gx 1 gc))
      have hU2 := Lib.hid (hX.out.keepS (x := .slice gx 1 gc) hU.out)
      have hbs : Hid (Below BB w7 (w7.setCell ⟨BB, 1, none⟩ (.slice gx 1 gc))) := (Below.refl BB w7).setCell (p := ⟨BB, 1, none⟩) (Nat.le_refl _) _
      have hA2 := Lib.hid (hAb.out.belowAt hbs.out (by have := hbw3.out.size; have := hBge.out; have := hAlt.out; omega))
      replace hX := hX2
      replace hU := hU2
      replace hAb := hA2
      clear hX2 hU2 hA2 hbs
      go_upto_region 25 with fail
      clear p1 f1
      generalize w7.setCell ⟨BB, 1, none⟩ (.slice gx 1 gc) = w8 at *
      have hEq : Hid (([⟨6, 0⟩] : List Stp) = Cl 5) := hcl.out.symm
      have x0 := hX.out.box.cell (j := 0) rfl
      have x1 := hX.out.box.cell (j := 1) rfl
      have hbl := lit_below w8 (.cells #[.int .i64 5, .slice gx 1 gc] 59)
      have hO3 := hX.out.row.below hbl
      have hU3 := Lib.hid (StepsT.belowR hU.out hbl)
      have hb13 := Lib.hid (hX.out.below.trans (hbl.mono hX.out.below.size))
      have hown3 := hO3.own
      rw [hlen.out] at hown3
      replace hown3 := Lib.hid hown3
      replace hO3 := Lib.hid hO3
      have hnews : ∀ q y, [Value.int .i64 5, .slice gx 1 gc][q]? = some y → (w8.alloc (.cells #[.int .i64 5, .slice gx 1 gc] 59)).cell? ((⟨w8.heap.size, 0, none⟩ : Addr).add q) = some y := fun q y hy => cells_new w8 [.int .i64 5, .slice gx 1 gc] 59 q y hy
      have hsz : Hid (w3.heap.size ≤ w8.heap.size) := hX.out.below.size
      replace hX := Lib.hid hX
      clear hbl
      go_wp2_with (at_builtin; refine wpList_append_own _ rfl _ _ 31 rfl w3.heap.size 59 i0 (.agg #[.int .i64 0, .slice none 0 0]) 2 32 Tryz.underlying31 hi_.out hz0 hz1 hz2 rfl (by decide) _ 4 _ rfl hown3.out ⟨w8.heap.size, 0, none⟩ 1 1 [.int .i64 5, .slice gx 1 gc] rfl rfl hnews (by simp [Value.oneCell']) ?qa ?qb ?qc ?_)
      case qa => unfold maxLen; omega
      case qb => omega
      case qc => have := hsz.out; (try simp only [World.size_alloc]); omega
      intro v2 wz hown4 hgrow hnil
      have hOn := hO3.out.snoc 5 _ _ hU3.out (by rw [hlen.out]; exact hown4) hgrow
      rw [hEq.out] at hOn
      have hkk : Hid (Below w3.heap.size w3 wz ∧ ∃ us, ClOwn w3.heap.size wz v2 (LL.take (4 + 1)) us) := ⟨hb13.out.grown hgrow hb13.out.size (fun g hq => (own_block hO3.out.own hq).2.1), _, by rw [htk.out]; exact hOn⟩
      clear hgrow hown4 hnil hown3 hO3 hnews hOn hb13 hU3 hsz x0 x1
      go_wp2_with fail
      exact ⟨⟨4 + 1, by omega, by first | rfl | go_num, hkk⟩, by simp [intOf]⟩
    ·
     have hd1 : decide ((((5 : Nat) : Int) + 1) ≤ 8) = true := by decide
     have hAlt : Hid (w.heap.size < w3.heap.size) := hA3.out.lt
     change Hid (CBox w3 wb BB u6 lo us 6 (.slice none 0 0)) at hX
     change Hid (LL.take (5 + 1) = lo ++ [(6, Cl 6)]) at htk
     change wb = wo.alloc (.cells #[.int .i64 6, .slice none 0 0] 59) at hwb
     replace hwb : wo.alloc (.cells #[.int .i64 6, .slice none 0 0] 59) = wb := hwb.symm
     replace hwb := Lib.hid hwb
     go_upto_region 10 with fail
     rw [hwb.out]
     (try rw [hBB.out])
     clear hwb
     have a0 := hAb.out.cell (j := 0) rfl
     have a1 := hAb.out.cell (j := 1) rfl
     have a2 := hAb.out.cell (j := 2) rfl
     have a3 := hAb.out.cell (j := 3) rfl
     have a4 := hAb.out.cell (j := 4) rfl
     have hsp := Lib.hid (hst.out 7 wb (hbw3.out.trans (hX.out.below.mono hbw3.out.size)))
     go_wp2_with fail
     refine hsp.out.mono ?_
     clear hsp a0 a1 a2 a3 a4
     rintro e w4 ⟨uv, rfl, hU, hbx⟩
     obtain ⟨ux4, uc4, rfl, _⟩ := StepsT.lenR hU
     replace hX := Lib.hid (hX.out.later hbx)
     replace hAb := Lib.hid (hAb.out.below hbx)
     replace hU := Lib.hid hU
     have p1 := hX.out.box.cell (j := 1) rfl
     have f1 := hX.out.box.free 1
     have hX2 := Lib.hid (hX.out.put (.slice ux4 (S 7).length uc4))
     have hU2 := Lib.hid (hX.out.keepS (x := .slice ux4 (S 7).length uc4) hU.out)
     have hbs : Hid (Below BB w4 (w4.setCell ⟨BB, 1, none⟩ (.slice ux4 (S 7).length uc4))) := (Below.refl BB w4).setCell (p := ⟨BB, 1, none⟩) (Nat.le_refl _) _
     have hA2 := Lib.hid (hAb.out.belowAt hbs.out (by have := hbw3.out.size; have := hBge.out; have := hAlt.out; omega))
     replace hX := hX2
     replace hU := hU2
     replace hAb := hA2
     clear hX2 hU2 hA2 hbs
     go_upto_region 25 with fail
     clear p1 f1
     generalize w4.setCell ⟨BB, 1, none⟩ (.slice ux4 (S 7).length uc4) = w5 at *
     have hEq : Hid (S 7 = Cl 6) := e6.out.symm
     have x0 := hX.out.box.cell (j := 0) rfl
     have x1 := hX.out.box.cell (j := 1) rfl
     have hbl := lit_below w5 (.cells #[.int .i64 6, .slice ux4 (S 7).length uc4] 59)
     have hO3 := hX.out.row.below hbl
     have hU3 := Lib.hid (StepsT.belowR hU.out hbl)
     have hb13 := Lib.hid (hX.out.below.trans (hbl.mono hX.out.below.size))
     have hown3 := hO3.own
     rw [hlen.out] at hown3
     replace hown3 := Lib.hid hown3
     replace hO3 := Lib.hid hO3
     have hnews : ∀ q y, [Value.int .i64 6, .slice ux4 (S 7).length uc4][q]? = some y → (w5.alloc (.cells #[.int .i64 6, .slice ux4 (S 7).length uc4] 59)).cell? ((⟨w5.heap.size, 0, none⟩ : Addr).add q) = some y := fun q y hy => cells_new w5 [.int .i64 6, .slice ux4 (S 7).length uc4] 59 q y hy
     have hsz : Hid (w3.heap.size ≤ w5.heap.size) := hX.out.below.size
     replace hX := Lib.hid hX
     clear hbl
     go_wp2_with (at_builtin; refine wpList_append_own _ rfl _ _ 31 rfl w3.heap.size 59 i0 (.agg #[.int .i64 0, .slice none 0 0]) 2 32 Tryz.underlying31 hi_.out hz0 hz1 hz2 rfl (by decide) _ 5 _ rfl hown3.out ⟨w5.heap.size, 0, none⟩ 1 1 [.int .i64 6, .slice ux4 (S 7).length uc4] rfl rfl hnews (by simp [Value.oneCell']) ?qa ?qb ?qc ?_)
     case qa => unfold maxLen; omega
     case qb => omega
     case qc => have := hsz.out; (try simp only [World.size_alloc]); omega
     intro v2 wz hown4 hgrow hnil
     have hOn := hO3.out.snoc 6 _ _ hU3.out (by rw [hlen.out]; exact hown4) hgrow
     rw [hEq.out] at hOn
     have hkk : Hid (Below w3.heap.size w3 wz ∧ ∃ us, ClOwn w3.heap.size wz v2 (LL.take (5 + 1)) us) := ⟨hb13.out.grown hgrow hb13.out.size (fun g hq => (own_block hO3.out.own hq).2.1), _, by rw [htk.out]; exact hOn⟩
     clear hgrow hown4 hnil hown3 hO3 hnews hOn hb13 hU3 hsz x0 x1
     go_wp2_with fail
     exact ⟨⟨5 + 1, by omega, by first | rfl | go_num, hkk⟩, by simp [intOf]⟩
    ·
     have hd1 : decide ((((6 : Nat) : Int) + 1) ≤ 8) = true := by decide
     have hAlt : Hid (w.heap.size < w3.heap.size) := hA3.out.lt
     change Hid (CBox w3 wb BB u6 lo us 7 (.slice none 0 0)) at hX
     change Hid (LL.take (6 + 1) = lo ++ [(7, Cl 7)]) at htk
     change wb = wo.alloc (.cells #[.int .i64 7, .slice none 0 0] 59) at hwb
     replace hwb : wo.alloc (.cells #[.int .i64 7, .slice none 0 0] 59) = wb := hwb.symm
     replace hwb := Lib.hid hwb
     go_upto_region 10 with fail
     rw [hwb.out]
     (try rw [hBB.out])
     clear hwb
     have a0 := hAb.out.cell (j := 0) rfl
     have a1 := hAb.out.cell (j := 1) rfl
     have a2 := hAb.out.cell (j := 2) rfl
     have a3 := hAb.out.cell (j := 3) rfl
     have a4 := hAb.out.cell (j := 4) rfl
     have hsp := Lib.hid (hst.out 7 wb (hbw3.out.trans (hX.out.below.mono hbw3.out.size)))
     go_wp2_with fail
     refine hsp.out.mono ?_
     clear hsp a0 a1 a2 a3 a4
     rintro e w4 ⟨uv, rfl, hU, hbx⟩
     obtain ⟨ux4, uc4, rfl, _⟩ := StepsT.lenR hU
     replace hX := Lib.hid (hX.out.later hbx)
     replace hAb := Lib.hid (hAb.out.below hbx)
     replace hU := Lib.hid hU
     have p1 := hX.out.box.cell (j := 1) rfl
     have f1 := hX.out.box.free 1
     have hX2 := Lib.hid (hX.out.put (.slice ux4 (S 7).length uc4))
     have hU2 := Lib.hid (hX.out.keepS (x := .slice ux4 (S 7).length uc4) hU.out)
     have hbs : Hid (Below BB w4 (w4.setCell ⟨BB, 1, none⟩ (.slice ux4 (S 7).length uc4))) := (Below.refl BB w4).setCell (p := ⟨BB, 1, none⟩) (Nat.le_refl _) _
     have hA2 := Lib.hid (hAb.out.belowAt hbs.out (by have := hbw3.out.size; have := hBge.out; have := hAlt.out; omega))
     replace hX := hX2
     replace hU := hU2
     replace hAb := hA2
     clear hX2 hU2 hA2 hbs
     go_upto_region 25 with fail
     clear p1 f1
     generalize w4.setCell ⟨BB, 1, none⟩ (.slice ux4 (S 7).length uc4) = w5 at *
     have hEq : Hid (S 7 = Cl 7) := (ep.out 7 (by decide) (by decide) (by decide)).symm
     have x0 := hX.out.box.cell (j := 0) rfl
     have x1 := hX.out.box.cell (j := 1) rfl
     have hbl := lit_below w5 (.cells #[.int .i64 7, .slice ux4 (S 7).length uc4] 59)
     have hO3 := hX.out.row.below hbl
     have hU3 := Lib.hid (StepsT.belowR hU.out hbl)
     have hb13 := Lib.hid (hX.out.below.trans (hbl.mono hX.out.below.size))
     have hown3 := hO3.own
     rw [hlen.out] at hown3
     replace hown3 := Lib.hid hown3
     replace hO3 := Lib.hid hO3
     have hnews : ∀ q y, [Value.int .i64 7, .slice ux4 (S 7).length uc4][q]? = some y → (w5.alloc (.cells #[.int .i64 7, .slice ux4 (S 7).length uc4] 59)).cell? ((⟨w5.heap.size, 0, none⟩ : Addr).add q) = some y := fun q y hy => cells_new w5 [.int .i64 7, .slice ux4 (S 7).length uc4] 59 q y hy
     have hsz : Hid (w3.heap.size ≤ w5.heap.size) := hX.out.below.size
     replace hX := Lib.hid hX
     clear hbl
     go_wp2_with (at_builtin; refine wpList_append_own _ rfl _ _ 31 rfl w3.heap.size 59 i0 (.agg #[.int .i64 0, .slice none 0 0]) 2 32 Tryz.underlying31 hi_.out hz0 hz1 hz2 rfl (by decide) _ 6 _ rfl hown3.out ⟨w5.heap.size, 0, none⟩ 1 1 [.int .i64 7, .slice ux4 (S 7).length uc4] rfl rfl hnews (by simp [Value.oneCell']) ?qa ?qb ?qc ?_)
     case qa => unfold maxLen; omega
     case qb => omega
     case qc => have := hsz.out; (try simp only [World.size_alloc]); omega
     intro v2 wz hown4 hgrow hnil
     have hOn := hO3.out.snoc 7 _ _ hU3.out (by rw [hlen.out]; exact hown4) hgrow
     rw [hEq.out] at hOn
     have hkk : Hid (Below w3.heap.size w3 wz ∧ ∃ us, ClOwn w3.heap.size wz v2 (LL.take (6 + 1)) us) := ⟨hb13.out.grown hgrow hb13.out.size (fun g hq => (own_block hO3.out.own hq).2.1), _, by rw [htk.out]; exact hOn⟩
     clear hgrow hown4 hnil hown3 hO3 hnews hOn hb13 hU3 hsz x0 x1
     go_wp2_with fail
     exact ⟨⟨6 + 1, by omega, by first | rfl | go_num, hkk⟩, by simp [intOf]⟩
    ·
     have hd1 : decide ((((7 : Nat) : Int) + 1) ≤ 8) = true := by decide
     have hAlt : Hid (w.heap.size < w3.heap.size) := hA3.out.lt
     change Hid (CBox w3 wb BB u6 lo us 8 (.slice none 0 0)) at hX
     change Hid (LL.take (7 + 1) = lo ++ [(8, Cl 8)]) at htk
     change wb = wo.alloc (.cells #[.int .i64 8, .slice none 0 0] 59) at hwb
     replace hwb : wo.alloc (.cells #[.int .i64 8, .slice none 0 0] 59) = wb := hwb.symm
     replace hwb := Lib.hid hwb
     go_upto_region 10 with fail
     rw [hwb.out]
     (try rw [hBB.out])
     clear hwb
     have hU : Hid (StepsT wb (.slice none 0 0) []) := RowT.of_own (World.ownsRow_nil wb wb.heap.size _ 2)
     have hEq : Hid (([] : List Stp) = Cl 8) := by show ([] : List Stp) = Cl 8; rw [ep.out 8 (by decide) (by decide) (by decide), hun.out 8 (by decide)]
     have x0 := hX.out.box.cell (j := 0) rfl
     have x1 := hX.out.box.cell (j := 1) rfl
     have hbl := lit_below wb (.cells #[.int .i64 8, .slice none 0 0] 59)
     have hO3 := hX.out.row.below hbl
     have hU3 := Lib.hid (StepsT.belowR hU.out hbl)
     have hb13 := Lib.hid (hX.out.below.trans (hbl.mono hX.out.below.size))
     have hown3 := hO3.own
     rw [hlen.out] at hown3
     replace hown3 := Lib.hid hown3
     replace hO3 := Lib.hid hO3
     have hnews : ∀ q y, [Value.int .i64 8, .slice none 0 0][q]? = some y → (wb.alloc (.cells #[.int .i64 8, .slice none 0 0] 59)).cell? ((⟨wb.heap.size, 0, none⟩ : Addr).add q) = some y := fun q y hy => cells_new wb [.int .i64 8, .slice none 0 0] 59 q y hy
     have hsz : Hid (w3.heap.size ≤ wb.heap.size) := hX.out.below.size
     replace hX := Lib.hid hX
     clear hbl
     go_wp2_with (at_builtin; refine wpList_append_own _ rfl _ _ 31 rfl w3.heap.size 59 i0 (.agg #[.int .i64 0, .slice none 0 0]) 2 32 Tryz.underlying31 hi_.out hz0 hz1 hz2 rfl (by decide) _ 7 _ rfl hown3.out ⟨wb.heap.size, 0, none⟩ 1 1 [.int .i64 8, .slice none 0 0] rfl rfl hnews (by simp [Value.oneCell']) ?qa ?qb ?qc ?_)
     case qa => unfold maxLen; omega
     case qb => omega
     case qc => have := hsz.out; (try simp only [World.size_alloc]); omega
     intro v2 wz hown4 hgrow hnil
     have hOn := hO3.out.snoc 8 _ _ hU3.out (by rw [hlen.out]; exact hown4) hgrow
     rw [hEq.out] at hOn
     have hkk : Hid (Below w3.heap.size w3 wz ∧ ∃ us, ClOwn w3.heap.size wz v2 (LL.take (7 + 1)) us) := ⟨hb13.out.grown hgrow hb13.out.size (fun g hq => (own_block hO3.out.own hq).2.1), _, by rw [htk.out]; exact hOn⟩
     clear hgrow hown4 hnil hown3 hO3 hnews hOn hb13 hU3 hsz x0 x1
     go_wp2_with fail
     exact ⟨⟨7 + 1, by omega, by first | rfl | go_num, hkk⟩, by simp [intOf]⟩
   ·
    have hno : decide (((i : Int) + 1) ≤ 8) = false := decide_eq_false (by omega)
    obtain rfl : i = 8 := by omega
    have hall8 : LL.take 8 = LL := List.take_of_length_le (by have := hcn.out; omega)
    rw [hall8] at hO
    have hres : Hid (∃ us, ClOwn w.heap.size wo u6 LL us) := ⟨us, hO.len, own_base hO.own hbw3.out.size, hO.steps⟩
    have hbf := Lib.hid (hbw3.out.trans (hbr.mono hbw3.out.size))
    clear hO hall8
    go_wp2_with fail
    go_ret2
    exact ⟨_, rfl, hres.out, hbf.out⟩
end Go.Proofs.YtpeandbcdaikbaaGreatDoor
