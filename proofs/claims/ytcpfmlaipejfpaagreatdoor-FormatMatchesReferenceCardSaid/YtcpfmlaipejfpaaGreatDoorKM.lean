/-
  Formats of chapter 4: few.
-/
import Derived.Test.YtcpfmlaipejfpaaGreatDoorKC
namespace Go.Proofs.YtcpfmlaipejfpaaGreatDoor
open Go.RowKit Go.Shelf Go.Maps

attribute [local go_sem] Oper.semAt_some

def cutF (f : Fld) : Fld := ⟨f.kind, f.n, f.frm, f.text.take 20⟩
def cutFmt (f : Fmt) : Fmt := ⟨f.id, (f.flds.take 18).map cutF⟩
def fewL (l : List Fmt) : List Fmt := (l.take 62).map cutFmt
/-- What is asked of any field. -/
structure FldAny (f : Fld) : Prop where
  k : I64 f.kind
  n : I64 f.n
  m : I64 f.frm
  t : f.text.length ≤ 9223372036854775807
structure FmtAny (l : List Fmt) : Prop where
  id : ∀ f ∈ l, I64 f.id
  ok : ∀ f ∈ l, ∀ x ∈ f.flds, FldAny x
theorem FmtsAt.at {w : World} {v : Value} {l : List Fmt} (h : FmtsAt w w.heap.size v l) {i : Nat} (hi : i < l.length) : ∃ fb fo cap fa fcap, v = .slice (some ⟨fb, fo, none⟩) l.length cap ∧ w.cell? ⟨fb, fo + i * 2, none⟩ = some (.int .i64 l[i]!.id) ∧ w.cell? ⟨fb, fo + i * 2 + 1, none⟩ = some (.slice fa l[i]!.flds.length fcap) ∧
    ∀ k, k < l[i]!.flds.length → ∃ gb go, fa = some ⟨gb, go, none⟩ ∧ w.cell? ⟨gb, go + k * 4, none⟩ = some (.int .i64 l[i]!.flds[k]!.kind) ∧ w.cell? ⟨gb, go + k * 4 + 1, none⟩ = some (.int .i64 l[i]!.flds[k]!.n) ∧ w.cell? ⟨gb, go + k * 4 + 2, none⟩ = some (.int .i64 l[i]!.flds[k]!.frm) ∧ w.cell? ⟨gb, go + k * 4 + 3, none⟩ = some (.string (str l[i]!.flds[k]!.text)) := by
  obtain ⟨fvs, hfl, ⟨a, cap, rfl, hcp, hcm, hat⟩, hfs⟩ := h
  obtain ⟨fb, fo, rfl, hfb, hcell⟩ := hat (by omega)
  obtain ⟨p1, p2⟩ := fmtC_at l fvs hfl i hi
  obtain ⟨fa, fcap, hfv, _, _, hfc⟩ := hfs i hi
  refine ⟨fb, fo, cap, fa, fcap, rfl, hcell _ _ p1, by rw [← hfv]; exact hcell _ _ p2, fun k hk => ?_⟩
  obtain ⟨gb, go, rfl, hgb, hgc⟩ := hfc (by omega)
  obtain ⟨z0, z1, z2, z3⟩ := fldCells hgc hk
  exact ⟨gb, go, rfl, z0, z1, z2, z3⟩
/-- Formats' fields lie apart. -/
def Apart (fvs : List Value) : Prop := ∀ i j g, i < j → j < fvs.length → fvs[i]!.ownBlock = some g → fvs[j]!.ownBlock ≠ some g
structure FewF (W1 : World) (id : Int) (fv : Value) (fs : List Fld) (w : World) : Prop where
  below : Below W1.heap.size W1 w
  box : Arr w W1.heap.size 34 [.int .i64 id, fv]
  row : w.ownsRow (W1.heap.size + 1) 55 4 fv fs.length (fldL fs)
structure FewL (B : Nat) (w : World) (lv : Value) (fvs : List Value) (l : List Fmt) : Prop where
  of_ : MkL B w lv fvs l
  apart : Apart fvs
theorem FewF.add {W1 X w6 : World} {id : Int} {fv fv' : Value} {fs : List Fld} {g : Fld} (h : FewF W1 id fv fs X) (hr : w6.ownsRow (W1.heap.size + 1) 55 4 fv' (fs ++ [g]).length (fldL (fs ++ [g]))) (hg : X.grownBy w6 fv.ownBlock) : FewF W1 id fv' (fs ++ [g]) (w6.setCell ⟨W1.heap.size, 1, none⟩ fv') := by
  have hx := h.box.lt
  refine ⟨(h.below.grown hg (by omega) (fun j hj => by have := (own_block h.row hj).2.1; omega)).setCell (p := ⟨W1.heap.size, 1, none⟩) (Nat.le_refl _) _, ?_, ownsRow_setCell_other hr (fun e => by have := (own_block hr e).2.1; dsimp only at this; omega) _⟩
  have hb : Arr w6 W1.heap.size 34 [.int .i64 id, fv] := (hg.block _ hx (fun e => by have := (own_block h.row e.symm).2.1; omega)).trans h.box
  exact hb.set 1 fv'
theorem FewF.later {W1 w w' : World} {id : Int} {fv : Value} {fs : List Fld} (h : FewF W1 id fv fs w) (hb : Below w.heap.size w w') : FewF W1 id fv fs w' :=
  ⟨h.below.trans (hb.mono h.below.size), h.box.below hb, own_below h.row hb⟩
theorem few_snoc {l : List Fmt} {i : Nat} (h : i < l.length) : (l.take (i + 1)).map cutFmt = (l.take i).map cutFmt ++ [cutFmt l[i]!] := by
  rw [List.take_succ_eq_append_getElem h, List.map_append, getElem!_pos l i h]
  rfl
theorem cut_snoc {fs : List Fld} {k : Nat} (h : k < fs.length) : (fs.take (k + 1)).map cutF = (fs.take k).map cutF ++ [cutF fs[k]!] := by
  rw [List.take_succ_eq_append_getElem h, List.map_append, getElem!_pos fs k h]
  rfl
theorem take_str (t : List UInt8) (n : Nat) : (str t).extract 0 n = str (t.take n) := by
  apply ByteArray.ext
  apply Array.toList_inj.1
  rw [Lib.extract_data, str_list, str_list, List.drop_zero, Nat.sub_zero]
theorem apart_snoc {fvs : List Value} {fv : Value} {B : Nat} (h : Apart fvs) (hl : ∀ i g, i < fvs.length → fvs[i]!.ownBlock = some g → g < B) (hn : ∀ g, fv.ownBlock = some g → B ≤ g) : Apart (fvs ++ [fv]) := by
  intro i j g hij hj hi e
  rw [List.length_append, List.length_singleton] at hj
  rw [getD_snoc _ _ (show i < fvs.length by omega)] at hi
  by_cases hjl : j = fvs.length
  · rw [hjl, getD_snoc_last] at e
    have := hl i g (by omega) hi
    have := hn g e
    omega
  · rw [getD_snoc _ _ (show j < fvs.length by omega)] at e
    exact h i j g hij (by omega) hi e
set_option maxRecDepth 100000 in
set_option maxHeartbeats 16000000 in
theorem few_any (v : Value) (l : List Fmt) (w : World) (hv : FmtsAt w w.heap.size v l) (hA : FmtAny l) :
    Calls Tryz.prog 12 #[v] w fun e w' => (∃ lv fvs, e = .returned lv ∧ FewL w.heap.size w' lv fvs (fewL l)) ∧ Below w.heap.size w w' := by
  obtain ⟨ao, c, hvv, hlm⟩ : ∃ ao c, v = .slice ao l.length c ∧ l.length ≤ maxLen := by
    obtain ⟨_, _, ⟨a, c, e, h1, h2, _⟩, _⟩ := hv
    exact ⟨a, c, e, by omega⟩
  subst hvv
  have hn : l.length ≤ 9223372036854775807 := by unfold maxLen at hlm; omega
  have hAt := Lib.hid fun (W : World) (hb : Below w.heap.size w W) i (hi : i < l.length) => (hv.later hb (Nat.le_refl _)).at hi
  clear hv
  go_enter Tryz.func12, Tryz.ntmps12
  go_wp2_with fail
  go_loopw [4, 3] (fun iv lv wr => ∃ (i : Nat) (fvs : List Value), iv = .int .i64 (i : Int) ∧ i ≤ l.length ∧ i ≤ 62 ∧ Hid (FewL w.heap.size wr lv fvs ((l.take i).map cutFmt) ∧ Below w.heap.size w wr)) (fun iv _ _ => l.length - (intOf iv).toNat)
  case atStart => exact ⟨0, [], rfl, Nat.zero_le _, by omega, (show Hid _ from ⟨⟨⟨rfl, ⟨rfl, .inl ⟨rfl, rfl⟩⟩, fun i hi => absurd hi (Nat.not_lt_zero _)⟩, fun i j g hij hj => absurd hj (Nat.not_lt_zero _)⟩, Below.refl _ _⟩)⟩
  case round =>
    obtain ⟨i, fvs, rfl, hi, hi62, hS⟩ := hrel
    obtain ⟨wo, hwo⟩ : ∃ wo, wo = wr := ⟨_, rfl⟩
    subst hwo
    obtain ⟨la, lc, rfl⟩ := own_val hS.out.1.of_.row
    by_cases hlt : i < l.length
    · have hd : decide ((i : Int) < (l.length : Int)) = true := decide_eq_true (by omega)
      by_cases hl62 : i < 62
      · have hd6 : decide ((i : Int) < 62) = true := decide_eq_true (by omega)
        have j0 : (0 : Int) ≤ (i : Int) := by omega
        have j1 : (i : Int) < (l.length : Int) := by omega
        obtain ⟨fb, fo, cap, fa, fcap, e, x0, x1, _⟩ := hAt.out wo hS.out.2 i hlt
        injection e with e1 _ e3
        subst e1 e3
        have hAti := Lib.hid fun (W : World) (hb : Below w.heap.size w W) => hAt.out W hb i hlt
        have hmem : l[i]! ∈ l := by rw [getElem!_pos l i hlt]; exact List.getElem_mem hlt
        have hIok := Lib.hid (hA.ok _ hmem)
        have hst := Lib.hid (few_snoc hlt)
        have hwi : IntKind.i64.wrap ((i : Int) + 1) = ((i + 1 : Nat) : Int) := by rw [Int.natCast_succ]; exact IntWalk.i64_in _ (by omega)
        obtain ⟨id, hid⟩ : ∃ id, id = l[i]!.id := ⟨_, rfl⟩
        obtain ⟨fs, hfs⟩ : ∃ fs, fs = l[i]!.flds := ⟨_, rfl⟩
        have hcf : Hid (cutFmt l[i]! = ⟨id, (fs.take 18).map cutF⟩) := by show _ = _; rw [hid, hfs]; rfl
        rw [← hid] at x0 hAti
        rw [← hfs] at x1 hAti hIok
        replace hid := Lib.hid hid
        replace hfs := Lib.hid hfs
        obtain ⟨W2, hW2⟩ : ∃ W2, W2 = wo.alloc (.cells #[.int .i64 id, .slice none 0 0] 34) := ⟨_, rfl⟩
        have hb2 : Below wo.heap.size wo W2 := by rw [hW2]; exact (Below.refl _ _).alloc (Nat.le_refl _) _
        have hIn : Hid (FewF wo id (.slice none 0 0) ((fs.take 0).map cutF) W2) := ⟨hb2, by rw [hW2]; exact Arr.new rfl rfl, ⟨rfl, .inl ⟨rfl, rfl⟩⟩⟩
        go_wp2_with fail
        rw [← hW2]
        clear hW2 x1 x0
        go_loopw [6] (fun kv wr2 => ∃ (k : Nat) (fv : Value), kv = .int .i64 (k : Int) ∧ k ≤ fs.length ∧ k ≤ 18 ∧ Hid (FewF wo id fv ((fs.take k).map cutF) wr2)) (fun kv _ => fs.length - (intOf kv).toNat)
        case atStart => exact ⟨0, _, rfl, Nat.zero_le _, by omega, hIn⟩
        case round =>
          obtain ⟨k, fv, rfl, hk, hk18, hF⟩ := hrel
          have hSB : Below w.heap.size w wr := hS.out.2.trans (hF.out.below.mono hS.out.2.size)
          obtain ⟨fb2, fo2, cap2, fa2, fcap2, e, x0, x1, hz⟩ := hAti.out wr hSB
          injection e with e1 _ e3
          injection e1 with e1
          injection e1 with e4 e5
          subst e4 e5 e3
          clear hIn hb2
          by_cases hlk : k < fs.length
          · have hdk : decide ((k : Int) < (fs.length : Int)) = true := decide_eq_true (by omega)
            by_cases hk8 : k < 18
            · have hdk8 : decide ((k : Int) < 18) = true := decide_eq_true (by omega)
              have k0 : (0 : Int) ≤ (k : Int) := by omega
              have k1 : (k : Int) < (fs.length : Int) := by omega
              obtain ⟨gb, go, rfl, z0, z1, z2, z3⟩ := hz k hlk
              have hwk : IntKind.i64.wrap ((k : Int) + 1) = ((k + 1 : Nat) : Int) := by rw [Int.natCast_succ]; exact IntWalk.i64_in _ (by omega)
              have hcs := Lib.hid (cut_snoc hlk)
              have hox := hIok.out fs[k]! (by rw [getElem!_pos fs k hlk]; exact List.getElem_mem hlk)
              generalize fs[k]! = f at *
              obtain ⟨kd, nn, fr, tx⟩ := f
              have htl := hox.t
              dsimp only at z0 z1 z2 z3 htl
              have hps := str_size tx
              obtain ⟨m, hm⟩ : ∃ m, m = min tx.length 20 := ⟨_, rfl⟩
              have hmin : min (tx.length : Int) 20 = (m : Int) := by omega
              have m0 : (0 : Int) ≤ (m : Int) := by omega
              have m1 : (m : Int) ≤ (tx.length : Int) := by omega
              have hex : (str tx).extract 0 m = str (tx.take 20) := by
                rw [take_str, hm]
                congr 1
                rw [List.take_eq_take_iff]
                omega
              replace hm := Lib.hid hm
              obtain ⟨fva, fvc, rfl⟩ := own_val hF.out.row
              have hlen : ((fs.take k).map cutF).length = k := by rw [List.length_map, List.length_take]; omega
              obtain ⟨fk, hfk⟩ : ∃ fk, fk = (fs.take k).map cutF := ⟨_, rfl⟩
              rw [← hfk] at hF hlen hcs
              replace hfk := Lib.hid hfk
              obtain ⟨W3, hW3⟩ : ∃ W3, W3 = wr.alloc (.cells #[.int .i64 kd, .int .i64 nn, .int .i64 fr, .string (str tx)] 55) := ⟨_, rfl⟩
              have hb3 : Below wr.heap.size wr W3 := by rw [hW3]; exact (Below.refl _ _).alloc (Nat.le_refl _) _
              have hA3 : Arr W3 wr.heap.size 55 (fldC ⟨kd, nn, fr, tx⟩) := by rw [hW3]; exact Arr.new rfl rfl
              obtain ⟨W4, hW4⟩ : ∃ W4, W4 = W3.setCell ⟨wr.heap.size, 3, none⟩ (.string (str (tx.take 20))) := ⟨_, rfl⟩
              have hb4 : Below wr.heap.size wr W4 := by rw [hW4]; exact hb3.setCell (p := ⟨wr.heap.size, 3, none⟩) (Nat.le_refl _) _
              have hA4 : Arr W4 wr.heap.size 55 (fldC ⟨kd, nn, fr, tx.take 20⟩) := by rw [hW4]; exact hA3.set 3 _
              obtain ⟨X, hXe⟩ : ∃ X, X = W4.alloc (.cells #[.int .i64 kd, .int .i64 nn, .int .i64 fr, .string (str (tx.take 20))] 55) := ⟨_, rfl⟩
              have hbX : Below wr.heap.size wr X := by rw [hXe]; exact hb4.alloc hb4.size _
              have hAX : Arr X W4.heap.size 55 (fldC ⟨kd, nn, fr, tx.take 20⟩) := by rw [hXe]; exact Arr.new rfl rfl
              have hFX := hF.out.later hbX
              obtain ⟨v6, w6, hrun6, hr6, hg6, ho6⟩ := append_fld X (wo.heap.size + 1) _ fk ⟨kd, nn, fr, tx.take 20⟩ hFX.row _ hAX (by omega) (by have := hFX.box.lt; omega)
              have hadd := hFX.add hr6 hg6
              obtain ⟨a6, c6, rfl⟩ := own_val hr6
              obtain ⟨n6, hn6⟩ : ∃ n6, n6 = (fk ++ [(⟨kd, nn, fr, tx.take 20⟩ : Fld)]).length := ⟨_, rfl⟩
              rw [← hn6] at hrun6 hadd
              have g1 := hF.out.box.cell (j := 1) rfl
              have g4 := (hF.out.later hb4).box.cell (j := 1) rfl
              have y3 := hA3.cell (j := 3) rfl
              have q3 := hA3.free 3
              have y40 := hA4.cell (j := 0) rfl
              have y41 := hA4.cell (j := 1) rfl
              have y42 := hA4.cell (j := 2) rfl
              have y43 := hA4.cell (j := 3) rfl
              have hb6 : Arr w6 wo.heap.size 34 [.int .i64 id, .slice fva fk.length fvc] := (hg6.block _ hFX.box.lt (fun e => by have := (own_block hFX.row e.symm).2.1; omega)).trans hFX.box
              have s1 := hb6.cell (j := 1) rfl
              have t1 := hb6.free 1
              have hInew : Hid (FewF wo id (.slice a6 n6 c6) ((fs.take (k + 1)).map cutF) (w6.setCell ⟨wo.heap.size, 1, none⟩ (.slice a6 n6 c6))) := by
                show FewF _ _ _ _ _
                rw [hcs.out]
                exact hadd
              rw [hXe, hlen] at hrun6
              rw [hlen] at g1 g4
              replace hrun6 := Lib.hid hrun6
              replace hW3 := Lib.hid hW3
              replace hW4 := Lib.hid hW4
              replace hfk := Lib.hid hfk
              clear hn6 hadd hr6 hg6 ho6 hb6 hAX hbX hXe hFX hA3 hA4 hb3 hb4 hz
              go_upto_region 10 with fail
              rw [← hW3.out]
              go_upto_region 11 with fail
              rw [← hW4.out]
              go_wp2_with (at_builtin; go_loud (refine wpList_append_known rfl _ _ _ _ rfl _ _ rfl rfl hrun6.out ?_))
              exact ⟨⟨k + 1, _, by first | rfl | go_num, by omega, by omega, hInew⟩, by simp [intOf]; omega⟩
            · have hdk8 : decide ((k : Int) < 18) = false := decide_eq_false (by omega)
              have hfe : Hid ((fs.take k).map cutF = (fs.take 18).map cutF) := by show _ = _; rw [show k = 18 by omega]
              rw [hfe.out] at hF
              obtain ⟨fva, fvc, rfl⟩ := own_val hF.out.row
              have g0 := hF.out.box.cell (j := 0) rfl
              have g1 := hF.out.box.cell (j := 1) rfl
              have hML := hS.out.1.of_.below hF.out.below
              have hbl := hF.out.box.lt
              obtain ⟨X, hXe⟩ : ∃ X, X = wr.alloc (.cells #[.int .i64 id, .slice fva ((fs.take 18).map cutF).length fvc] 34) := ⟨_, rfl⟩
              have hbX : Below wr.heap.size wr X := by rw [hXe]; exact (Below.refl _ _).alloc (Nat.le_refl _) _
              have hAX : Arr X wr.heap.size 34 [.int .i64 id, .slice fva ((fs.take 18).map cutF).length fvc] := by rw [hXe]; exact Arr.new rfl rfl
              have hMX := hML.below hbX
              have hFX := hF.out.later hbX
              have hlf : ((l.take i).map cutFmt).length = i := by rw [List.length_map, List.length_take]; omega
              have hBX : Below w.heap.size w X := hSB.trans (hbX.mono hSB.size)
              obtain ⟨v7, w7, hrun7, hr7, hg7, _⟩ := append_fmt X w.heap.size _ _ _ hMX.row _ _ hAX rfl (by
                intro u hu
                simp only [List.mem_cons, List.not_mem_nil, or_false] at hu
                rcases hu with rfl | rfl <;> rfl) (by rw [hlf]; omega) hBX.size
              have hM7 := hMX.snoc (fun a ha => own_apart (hMX.rows a ha) hMX.row (by decide) hg7) hr7 (own_apart (own_lower hFX.row (Nat.le_trans hS.out.2.size (Nat.le_succ _))) hMX.row (by decide) hg7)
              have hap : Apart (fvs ++ [.slice fva ((fs.take 18).map cutF).length fvc]) := apart_snoc (B := wo.heap.size) hS.out.1.apart (fun a g ha hg => (own_block (hS.out.1.of_.rows a (by rw [← hS.out.1.of_.fl]; exact ha)) hg).1) (fun g hg => by have := (own_block hF.out.row hg).2.1; omega)
              have hb7 : Below w.heap.size w w7 := hBX.grown hg7 hBX.size (fun j hj => (own_block hMX.row hj).2.1)
              have hr8 := hr7
              rw [hlf] at hrun7 hr8
              obtain ⟨a7, c7, rfl⟩ := own_val hr8
              have hnew : Hid (FewL w.heap.size w7 (.slice a7 (i + 1) c7) (fvs ++ [.slice fva ((fs.take 18).map cutF).length fvc]) ((l.take (i + 1)).map cutFmt) ∧ Below w.heap.size w w7) := by
                refine ⟨⟨?_, hap⟩, hb7⟩
                rw [hst.out, hcf.out]
                exact hM7
              rw [hXe] at hrun7
              replace hrun7 := Lib.hid hrun7
              clear hM7 hap hr7 hr8 hg7 hMX hFX hML hAX hbX hXe hBX hz hb7
              generalize ((fs.take 18).map cutF).length = fn at *
              go_wp2_with (at_builtin; go_loud (refine wpList_append_known rfl _ _ _ _ rfl _ _ rfl rfl hrun7.out ?_))
              exact ⟨⟨i + 1, _, by first | rfl | go_num, by omega, by omega, hnew⟩, by simp [intOf]; omega⟩
          · have hdk : decide ((k : Int) < (fs.length : Int)) = false := decide_eq_false (by omega)
            have hfe : Hid ((fs.take k).map cutF = (fs.take 18).map cutF) := by
              show _ = _
              rw [List.take_of_length_le (show fs.length ≤ k by omega), List.take_of_length_le (show fs.length ≤ 18 by omega)]
            rw [hfe.out] at hF
            obtain ⟨fva, fvc, rfl⟩ := own_val hF.out.row
            have g0 := hF.out.box.cell (j := 0) rfl
            have g1 := hF.out.box.cell (j := 1) rfl
            have hML := hS.out.1.of_.below hF.out.below
            have hbl := hF.out.box.lt
            obtain ⟨X, hXe⟩ : ∃ X, X = wr.alloc (.cells #[.int .i64 id, .slice fva ((fs.take 18).map cutF).length fvc] 34) := ⟨_, rfl⟩
            have hbX : Below wr.heap.size wr X := by rw [hXe]; exact (Below.refl _ _).alloc (Nat.le_refl _) _
            have hAX : Arr X wr.heap.size 34 [.int .i64 id, .slice fva ((fs.take 18).map cutF).length fvc] := by rw [hXe]; exact Arr.new rfl rfl
            have hMX := hML.below hbX
            have hFX := hF.out.later hbX
            have hlf : ((l.take i).map cutFmt).length = i := by rw [List.length_map, List.length_take]; omega
            have hBX : Below w.heap.size w X := hSB.trans (hbX.mono hSB.size)
            obtain ⟨v7, w7, hrun7, hr7, hg7, _⟩ := append_fmt X w.heap.size _ _ _ hMX.row _ _ hAX rfl (by
              intro u hu
              simp only [List.mem_cons, List.not_mem_nil, or_false] at hu
              rcases hu with rfl | rfl <;> rfl) (by rw [hlf]; omega) hBX.size
            have hM7 := hMX.snoc (fun a ha => own_apart (hMX.rows a ha) hMX.row (by decide) hg7) hr7 (own_apart (own_lower hFX.row (Nat.le_trans hS.out.2.size (Nat.le_succ _))) hMX.row (by decide) hg7)
            have hap : Apart (fvs ++ [.slice fva ((fs.take 18).map cutF).length fvc]) := apart_snoc (B := wo.heap.size) hS.out.1.apart (fun a g ha hg => (own_block (hS.out.1.of_.rows a (by rw [← hS.out.1.of_.fl]; exact ha)) hg).1) (fun g hg => by have := (own_block hF.out.row hg).2.1; omega)
            have hb7 : Below w.heap.size w w7 := hBX.grown hg7 hBX.size (fun j hj => (own_block hMX.row hj).2.1)
            have hr8 := hr7
            rw [hlf] at hrun7 hr8
            obtain ⟨a7, c7, rfl⟩ := own_val hr8
            have hnew : Hid (FewL w.heap.size w7 (.slice a7 (i + 1) c7) (fvs ++ [.slice fva ((fs.take 18).map cutF).length fvc]) ((l.take (i + 1)).map cutFmt) ∧ Below w.heap.size w w7) := by
              refine ⟨⟨?_, hap⟩, hb7⟩
              rw [hst.out, hcf.out]
              exact hM7
            rw [hXe] at hrun7
            replace hrun7 := Lib.hid hrun7
            clear hM7 hap hr7 hr8 hg7 hMX hFX hML hAX hbX hXe hBX hz hb7
            generalize ((fs.take 18).map cutF).length = fn at *
            go_wp2_with (at_builtin; go_loud (refine wpList_append_known rfl _ _ _ _ rfl _ _ rfl rfl hrun7.out ?_))
            exact ⟨⟨i + 1, _, by first | rfl | go_num, by omega, by omega, hnew⟩, by simp [intOf]; omega⟩
      · have hd6 : decide ((i : Int) < 62) = false := decide_eq_false (by omega)
        have he : Hid ((l.take i).map cutFmt = fewL l) := by show _ = _; unfold fewL; rw [show i = 62 by omega]
        go_wp2_with fail
        go_ret
        exact ⟨⟨_, fvs, rfl, by rw [← he.out]; exact hS.out.1⟩, hS.out.2⟩
    · have hd : decide ((i : Int) < (l.length : Int)) = false := decide_eq_false (by omega)
      have he : Hid ((l.take i).map cutFmt = fewL l) := by
        show _ = _
        unfold fewL
        rw [List.take_of_length_le (by omega), List.take_of_length_le (by omega)]
      go_wp2_with fail
      go_ret
      exact ⟨⟨_, fvs, rfl, by rw [← he.out]; exact hS.out.1⟩, hS.out.2⟩
end Go.Proofs.YtcpfmlaipejfpaaGreatDoor
