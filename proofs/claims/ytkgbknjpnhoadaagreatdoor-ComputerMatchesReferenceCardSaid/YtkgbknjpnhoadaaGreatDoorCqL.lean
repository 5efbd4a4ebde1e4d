/-
  The contract of computer.Parse.
-/
import Derived.Test.YtkgbknjpnhoadaaGreatDoorCqK
namespace Go.Proofs.YtkgbknjpnhoadaaGreatDoor
open Go.RowKit Go.Shelf

theorem bytesOf_toNat (l : List UInt8) : bytesOf (l.map (·.toNat)) = l := by
  unfold bytesOf
  rw [List.map_map]
  conv => rhs; rw [← List.map_id l]
  exact List.map_congr_left fun x _ => by simp
theorem conv_own {w : World} {B : Nat} {v : Value} {out : List UInt8} (h : w.ownsRow B 5 1 v out.length (Lib.byteCells out)) :
    (convert 41 9 v).run Tryz.prog w = .ok (.string (str out)) w := by
  cases out with
  | nil =>
    rcases h.2 with ⟨rfl, _⟩ | ⟨g, cap, cur, rfl, _⟩
    · exact run_convert_bytes_nil (P := Tryz.prog) (w := w) 41 5 Tryz.underlying41 Tryz.underlying5 0 0 9 Tryz.underlying9
    · have := run_convert_bytes_arg (P := Tryz.prog) w 41 5 Tryz.underlying41 Tryz.underlying5 g 0 0 cap [] rfl (fun j hj => by omega) 9 Tryz.underlying9
      exact this
  | cons a r =>
    obtain ⟨g, cap, rfl, _, _, _, _, hc⟩ := own_cells h
    have := run_convert_bytes_arg (P := Tryz.prog) w 41 5 Tryz.underlying41 Tryz.underlying5 g 0 (a :: r).length cap (((a :: r).map (·.toNat)).map fun n : Nat => (n : Int)) (by simp) (fun j hj => by
      rw [Nat.zero_add]
      refine (hc j _ ?_).1
      have e : (((a :: r).map (·.toNat)).map fun n : Nat => (n : Int)).getD j 0 = ((a :: r)[j].toNat : Int) := by
        rw [List.getD_eq_getElem?_getD, List.getElem?_map, List.getElem?_map, List.getElem?_eq_getElem hj]
        rfl
      rw [e]
      unfold Lib.byteCells
      rw [List.getElem?_map, List.getElem?_eq_getElem hj]
      rfl) 9 Tryz.underlying9
    rw [strOfNums_nums, bytesOf_toNat] at this
    exact this
theorem info_byte4 : (Tryz.prog.info? 5).map (fun i => (i.zero, i.size, i.bytes)) = some (some (.int .u8 0), 1, 1) := by kernel_rfl
theorem own_val {w : World} {B n s : Nat} {e : TypeId} {v : Value} {xs : List Value} (h : w.ownsRow B e s v n xs) : ∃ a cap, v = .slice a n cap := by
  obtain ⟨_, h⟩ := h
  rcases h with ⟨rfl, rfl⟩ | ⟨g, cap, _, rfl, _⟩
  · exact ⟨_, _, rfl⟩
  · exact ⟨_, _, rfl⟩
theorem drop_getD {α : Type} (l : List α) (k : Nat) (d : α) (h : k < l.length) : l.drop k = l.getD k d :: l.drop (k + 1) := by
  rw [List.getD_eq_getElem?_getD, List.getElem?_eq_getElem h, List.drop_eq_getElem_cons h]
  rfl
/-- How far the lines are parsed. -/
def ParI (w wr : World) (ls : List (List UInt8)) (R : List UInt8 × Nat × Int) (k : Nat) (out : List UInt8) (v : Value) : Prop :=
  Below w.heap.size w wr ∧ wr.ownsRow w.heap.size 5 1 v out.length (Lib.byteCells out) ∧ parseL (ls.drop k) k out = R

set_option maxRecDepth 100000 in
set_option maxHeartbeats 4000000 in
/-- P12.5: computer.Parse. -/
theorem Parse_any (s : ByteArray) (w : World) (hs : s.size ≤ 5000) (hE : Env w) :
    Calls Tryz.prog 14 #[.string s] w fun e w' => e = .returned (.tuple #[.string (str (parseB s.data.toList).1), .int .i64 ((parseB s.data.toList).2.1 : Nat), .int .i64 (parseB s.data.toList).2.2]) ∧ Below w.heap.size w w' := by
  obtain ⟨i0, hi, hz0, hz1, hz2⟩ := info_parts info_byte4
  have hB : Below w.heap.size w w := Below.refl _ _
  have hsl : s.data.toList.length = s.size := by simp
  have hS := Split_any s 10 w (by omega) hE
  have hwl : ∀ p ∈ cutAll 10 s.data.toList, p.length ≤ 5000 := fun p hp => by have := cutAll_le 10 s.data.toList p hp; omega
  have hwn := cutAll_len 10 s.data.toList
  have hne := cutAll_ne 10 s.data.toList
  have hR : parseB s.data.toList = parseL (cutAll 10 s.data.toList) 0 [] := rfl
  generalize parseB s.data.toList = R at *
  generalize cutAll 10 s.data.toList = ls at *
  have hn0 : 0 < ls.length := by have : ls.length ≠ 0 := fun e => hne (List.length_eq_zero_iff.1 e); omega
  have hnb : ls.length ≤ 5001 := by omega
  replace hS := Lib.hid hS
  replace hR := Lib.hid hR
  clear hsl hwn hne
  go_enter Tryz.func14, Tryz.ntmps14
  go_wp2_with fail
  refine hS.out.mono ?_
  rintro e v1 ⟨g, rfl, hg, hA, hb1⟩
  replace hB := hB.trans (hb1.mono hB.size)
  clear hS hb1
  replace hg := Lib.hid hg
  go_wp2_with fail
  go_loopw [16, 6] (fun i v wr => ∃ (k : Nat) (out : List UInt8), k ≤ ls.length ∧ i = .int .i64 k ∧ out.length ≤ 258 ∧ Hid (ParI w wr ls R k out v) ∧ Aside (Arr wr g 9 (wordCells ls))) (fun i _ _ => ls.length - (intOf i).toNat)
  case atStart => exact ⟨0, [], Nat.zero_le _, rfl, by simp, (show ParI _ _ _ _ _ _ _ from ⟨hB, World.ownsRow_nil _ _ _ _, hR.out.symm⟩), hA⟩
  case round =>
    obtain ⟨k, out, hk, rfl, hol, hI, hAr⟩ := hrel
    clear hB hA
    obtain ⟨ao, vc, rfl⟩ := own_val hI.out.2.1
    have hconv := conv_own hI.out.2.1
    have hwn : IntKind.i64.wrap ((ls.length : Int) - 1) = (ls.length : Int) - 1 := IntWalk.i64_in _ (by omega)
    by_cases hlt : k < ls.length
    · have hd : decide ((k : Int) < (ls.length : Int)) = true := by simpa using hlt
      have hcell := hAr.out.cell (wordCell hlt)
      have hdrop := drop_getD ls k [] hlt
      have htl : (ls.getD k []).length ≤ 5000 := by
        rw [List.getD_eq_getElem?_getD, List.getElem?_eq_getElem hlt]
        exact hwl _ (List.getElem_mem _)
      have hP := hI.out.2.2
      rw [hdrop] at hP
      generalize ls.getD k [] = t at *
      have hrd := read_any (str t) wr (by rw [str_size]; omega) (hE.below hI.out.1)
      rw [str_list] at hrd
      by_cases hlast : k + 1 = ls.length
      · have hdn : ls.drop (k + 1) = [] := by rw [List.drop_eq_nil_iff]; omega
        rw [hdn] at hP
        clear hdrop hdn
        have hq : ((k : Int) == (ls.length : Int) - 1) = true := by rw [beq_iff_eq]; omega
        cases t with
        | nil =>
          have hRe : R = (out, 0, 0) := by rw [← hP]; rfl
          replace hP := Lib.hid hP
          replace hRe := Lib.hid hRe
          rw [show str [] = ⟨#[]⟩ from rfl] at hcell
          clear hrd
          go_wp2_with fail
          exact bodyPost_ret (v := .tuple #[.string (str out), .int .i64 0, .int .i64 0]) (by simp [results, Tryz.f14, go_sem]) rfl ⟨by rw [hRe.out]; rfl, hI.out.1⟩
        | cons a r =>
          have hRe : R = ([], k + 1, 120) := by rw [← hP]; rfl
          have hts : (str (a :: r)).toList = a :: r := Lib.toList_data _
          have hw1 : IntKind.i64.wrap ((k : Int) + 1) = (k : Int) + 1 := IntWalk.i64_in _ (by omega)
          replace hP := Lib.hid hP
          replace hRe := Lib.hid hRe
          have hBw := hI.out.1
          cases hok : readOk (a :: r) with
          | true =>
            rw [hok] at hrd
            replace hrd := Lib.hid hrd
            replace hok := Lib.hid hok
            go_wp2_with fail
            refine hrd.out.mono ?_
            rintro e w3 ⟨rfl, hb3⟩
            go_wp2_with fail
            exact bodyPost_ret (v := .tuple #[.string ⟨#[]⟩, .int .i64 ((k : Int) + 1), .int .i64 120]) (by simp [results, Tryz.f14, go_sem]) rfl ⟨by rw [hRe.out]; rfl, hBw.trans (hb3.mono hBw.size)⟩
          | false =>
            rw [hok] at hrd
            replace hrd := Lib.hid hrd
            replace hok := Lib.hid hok
            go_wp2_with fail
            refine hrd.out.mono ?_
            rintro e w3 ⟨rfl, hb3⟩
            go_wp2_with fail
            exact bodyPost_ret (v := .tuple #[.string ⟨#[]⟩, .int .i64 ((k : Int) + 1), .int .i64 120]) (by simp [results, Tryz.f14, go_sem]) rfl ⟨by rw [hRe.out]; rfl, hBw.trans (hb3.mono hBw.size)⟩
      · have hq : ((k : Int) == (ls.length : Int) - 1) = false := by rw [beq_eq_false_iff_ne]; omega
        have hw1 : IntKind.i64.wrap ((k : Int) + 1) = (k : Int) + 1 := IntWalk.i64_in _ (by omega)
        have hrest : ∃ q r, ls.drop (k + 1) = q :: r := by
          cases hd : ls.drop (k + 1) with
          | nil => rw [List.drop_eq_nil_iff] at hd; omega
          | cons q r => exact ⟨q, r, rfl⟩
        obtain ⟨q, r, hqr⟩ := hrest
        rw [hqr, parseL, findB_read, ← hqr] at hP
        clear hqr hdrop
        have hBw := hI.out.1
        cases hok : readOk t with
        | false =>
          have hRe : R = ([], k + 1, 120) := by rw [← hP, hok]; rfl
          rw [hok] at hrd
          replace hrd := Lib.hid hrd
          replace hok := Lib.hid hok
          replace hP := Lib.hid hP
          replace hRe := Lib.hid hRe
          go_wp2_with fail
          refine hrd.out.mono ?_
          rintro e w3 ⟨rfl, hb3⟩
          go_wp2_with fail
          exact bodyPost_ret (v := .tuple #[.string ⟨#[]⟩, .int .i64 ((k : Int) + 1), .int .i64 120]) (by simp [results, Tryz.f14, go_sem]) rfl ⟨by rw [hRe.out]; rfl, hBw.trans (hb3.mono hBw.size)⟩
        | true =>
          rw [hok, if_pos rfl, stepP] at hP
          rw [hok] at hrd
          have hop := readOp_lt t
          have hnm := readNum_lt t
          generalize readOp t = o at *
          generalize readNum t = n at *
          replace hrd := Lib.hid hrd
          replace hok := Lib.hid hok
          by_cases hfull : 256 ≤ out.length
          · have hRe : R = ([], k + 1, 120) := by rw [← hP, if_pos hfull]
            have hd3 : decide ((out.length : Int) ≥ 256) = true := by simp; omega
            replace hP := Lib.hid hP
            replace hRe := Lib.hid hRe
            go_wp2_with fail
            refine hrd.out.mono ?_
            rintro e w3 ⟨rfl, hb3⟩
            go_wp2_with fail
            exact bodyPost_ret (v := .tuple #[.string ⟨#[]⟩, .int .i64 ((k : Int) + 1), .int .i64 120]) (by simp [results, Tryz.f14, go_sem]) rfl ⟨by rw [hRe.out]; rfl, hBw.trans (hb3.mono hBw.size)⟩
          · rw [if_neg hfull] at hP
            have hd3 : decide ((out.length : Int) ≥ 256) = false := by simp; omega
            replace hP := Lib.hid hP
            have hor := hI.out.2.1
            replace hor := Lib.hid hor
            clear hI hconv
            go_wp2_with fail
            refine hrd.out.mono ?_
            rintro e w3 ⟨rfl, hb3⟩
            have hor3 := own_below (own_below hor.out hb3) ((Below.refl w3.heap.size w3).alloc (Nat.le_refl _) (.cells #[.int .u8 (o : Int), .int .u8 (n : Int)] 5))
            have hA3 := (hAr.out.below hb3).alloc (.cells #[.int .u8 (o : Int), .int .u8 (n : Int)] 5)
            have hBw3 := hBw.trans (hb3.mono hBw.size)
            have hnew : Arr (w3.alloc (.cells #[.int .u8 (o : Int), .int .u8 (n : Int)] 5)) w3.heap.size 5 [.int .u8 (o : Int), .int .u8 (n : Int)] := Arr.new rfl rfl
            have hnc : ∀ j u, [Value.int .u8 (o : Int), .int .u8 (n : Int)][j]? = some u → (w3.alloc (.cells #[.int .u8 (o : Int), .int .u8 (n : Int)] 5)).cell? ((⟨w3.heap.size, 0, none⟩ : Addr).add j) = some u := fun j u hu => by rw [Addr.add_mid, Nat.zero_add]; exact hnew.cell hu
            replace hor3 := Lib.hid hor3
            replace hA3 := Lib.hid hA3
            replace hBw3 := Lib.hid hBw3
            replace hnc := Lib.hid hnc
            have hgw3 := hA3.out.lt
            clear hnew hb3 hBw hor hcell hrd
            go_wp2_with (at_builtin; go_loud (refine wpList_append_own _ rfl _ _ 41 rfl w.heap.size 5 i0 (.int .u8 0) 1 1 Tryz.underlying41 hi hz0 hz1 hz2 rfl (by decide) (.slice ao out.length vc) out.length (Lib.byteCells out) rfl hor3.out _ 2 2 [.int .u8 (o : Int), .int .u8 (n : Int)] rfl rfl hnc.out (by simp [Value.oneCell']) (by unfold maxLen; omega) (by omega) (by have := hBw3.out.size; simp; omega) ?_; intro v' w4 hown' hgrow hnil))
            have hA4 : Arr w4 g 9 (wordCells ls) := (hgrow.block g hgw3 (fun e => Lib.ownBlock_ne hor3.out hA3.out (by decide) e.symm)).trans hA3.out
            have hB4 : Below w.heap.size w w4 := (hBw3.out.alloc hBw3.out.size _).grown hgrow (by have := hBw3.out.size; simp; omega) (fun j e => (hor3.out.lt j e).1)
            have hcs : Lib.byteCells out ++ [Value.int .u8 (o : Int), .int .u8 (n : Int)] = Lib.byteCells (out ++ [UInt8.ofNat o, UInt8.ofNat n]) := by
              simp [Lib.byteCells, Nat.mod_eq_of_lt hop, Nat.mod_eq_of_lt hnm]
            rw [hcs] at hown'
            have hI4 : ParI w w4 ls R (k + 1) (out ++ [UInt8.ofNat o, UInt8.ofNat n]) v' := ⟨hB4, by rw [List.length_append]; exact hown', hP.out⟩
            replace hw1 := Lib.hid hw1
            exact ⟨⟨k + 1, out ++ [UInt8.ofNat o, UInt8.ofNat n], by omega, by go_num, by simp; omega, hI4, hA4⟩, by simp [intOf]; omega⟩
    · have hke : k = ls.length := by omega
      subst hke
      have hd : decide ((ls.length : Int) < (ls.length : Int)) = false := by simp
      have hRe : R = (out, 0, 0) := by rw [← hI.out.2.2, List.drop_length]; rfl
      replace hRe := Lib.hid hRe
      go_wp2_with fail
      exact bodyPost_ret (v := .tuple #[.string (str out), .int .i64 0, .int .i64 0]) (by simp [results, Tryz.f14, go_sem]) rfl ⟨by rw [hRe.out]; rfl, hI.out.1⟩
end Go.Proofs.YtkgbknjpnhoadaaGreatDoor
