/-
  Package abstraction: small letters; what a text must be.
  Package abstraction: write's put and text; a line of a text.
  Package abstraction: reader.line, of a text.
-/
import Derived.Test.YtocpnlifmeffkaaGreatDoorUT
import Derived.Shelf.Strings.OnBuilder
import Derived.Shelf.Strings.FuncGrows
namespace Go.Proofs.YtocpnlifmeffkaaGreatDoor
open Go.RowKit Go.Shelf

attribute [local go_sem] Oper.semAt_some

theorem extra159 : Builder.Extra Tryz.prog Tryz.lays159_ren where
  sizeBuilder := by kernel_rfl
  liesBuilder := by kernel_rfl
  t5 := Tryz.lays159.t5
  a5 := Tryz.lays159.a5
  z5 := Tryz.lays159.z5
  v5 := Tryz.lays159.v5
  infoByte := by kernel_rfl
  cellsByte := by kernel_rfl
  sizeByte := by kernel_rfl
  neB5 := by decide
def fineB (t : List UInt8) : Bool := t.all (fun c => decide (32 ≤ c ∧ c ≤ 126))
def lowB (t : List UInt8) : List UInt8 := Lib.toLowerA t
theorem lower_any (t : List UInt8) (w : World) (hf : fineB t = true) (hl : t.length ≤ 1000000) :
    Calls Tryz.prog 179 #[.string (str t)] w fun e w' => e = .returned (.string (str (lowB t))) ∧ Below w.heap.size w w' := by
  have h := Any.strings_ToLower_ascii Tryz.lays159 extra159 (str t) w (by simp [str, ByteArray.size]; omega) (fun j b hb => by
    have hb' : t[j]? = some b := by simpa [str] using hb
    have hm := List.all_eq_true.1 hf b (List.mem_of_getElem? hb')
    rw [decide_eq_true_eq] at hm
    have : b.toNat ≤ 126 := hm.2
    omega)
  have e : (str t).data.toList = t := by simp [str]
  rw [e] at h
  exact h
set_option maxHeartbeats 1000000 in
theorem fold_any (b o : Nat) (t : List UInt8) (n : Int) (w : World) (hf : fineB t = true) (hl : t.length ≤ 1000000) (hc : w.cell? ⟨b, o, none⟩ = some (.string (str t))) (hz : w.frozen? ⟨b, o, none⟩ = false) (hb : b < w.heap.size) :
    Calls Tryz.prog 110 #[.pointer (some ⟨b, o, none⟩), .int .i64 n] w fun e w' => e = .returned (.tuple #[]) ∧ ∃ w1, Below w.heap.size w w1 ∧ w' = w1.setCell ⟨b, o, none⟩ (.string (str (lowB t))) := by
  have hL := Lib.hid fun W => lower_any t W hf hl
  clear hf
  go_enter Tryz.func110, Tryz.ntmps110
  go_wp2_with (go_at_call 179; refine (hL.out _).mono ?_; rintro e w1 ⟨rfl, hb1⟩; have hc1 := (hb1.cell (p := ⟨b, o, none⟩) hb).trans hc; have hz1 : w1.frozen? ⟨b, o, none⟩ = false := (hb1.frozen (p := ⟨b, o, none⟩) hb).trans hz)
  go_end0
  exact ⟨rfl, w1, hb1, rfl⟩
set_option maxHeartbeats 1000000 in
theorem aline1_any (x : Nat) (w : World) (hx : x ≤ 1114111) :
    Calls Tryz.prog 174 #[.int .i32 (x : Int)] w fun e w' => e = .returned (.bool (badR x)) ∧ w' = w := by
  have hwi := Lib.hid awithin_any
  have hbad : (!(decide ((32 : Int) ≤ (x : Int)) && decide ((x : Int) ≤ 126))) = badR x := by
    unfold badR
    rw [Bool.eq_iff_iff]
    simp
    omega
  go_enter Tryz.func174, Tryz.ntmps174
  go_wp2_with (go_at_call 100; refine (hwi.out _ _ _ _).mono ?_; rintro e w5 ⟨rfl, rfl⟩)
  go_ret
  exact ⟨rfl, rfl⟩
theorem contFn_any (s : List UInt8) (w : World) (h : fineB s = true) :
    Calls Tryz.prog 173 #[.string (str s), .func (.func 174) #[] #[]] w fun e w' => e = .returned (.bool false) ∧ Below w.heap.size w w' := by
  have := Any.strings_ContainsFunc_grows Tryz.laysGw17 174 #[] (enters_of Tryz.func174 (by kernel_rfl) rfl) badR (str s) w (fun W x hx hW => (aline1_any x W hx).mono fun _ _ h => ⟨h.1, by rw [h.2]; exact Below.refl _ _⟩)
  rwa [show Lib.idxFunc badR true (str s) = -1 from idx_fine h _ _] at this
end Go.Proofs.YtocpnlifmeffkaaGreatDoor
namespace Go.Proofs.YtocpnlifmeffkaaGreatDoor
open Go.RowKit Go.Shelf

attribute [local go_sem] Oper.semAt_some

set_option maxRecDepth 100000 in
set_option maxHeartbeats 4000000 in
theorem aput_any (B g b0 : Nat) (out : List UInt8) (ns : List Int) (w : World) (hBg : B ≤ g) (hO : OutI w B g out) (hA : Arr w b0 3 (ns.map (Value.int .i64))) (hn : ∀ n ∈ ns, -(2 ^ 62 - 1) ≤ n ∧ n ≤ 2 ^ 62 - 1) (hl : out.length + 9 * ns.length ≤ 1000000) :
    Calls Tryz.prog 118 #[.slice (some ⟨b0, 0, none⟩) ns.length ns.length, .pointer (some ⟨g, 0, none⟩)] w fun e w' => (∃ r, e = .returned r) ∧ OutI w' B g (out ++ putL ns) ∧ Below B w w' ∧ KeepArr w w' := by
  obtain ⟨i0, hi, hz0, hz1, hz2⟩ := info_parts info_byte4
  have hP := Lib.hid fun n (h : n ∈ ns) W => PutInt_any n W (hn n h).1 (hn n h).2
  have hB0 : Below B w w := Below.refl _ _
  have hw0 : B ≤ w.heap.size := by have := hO.lt; omega
  clear hn
  go_enter Tryz.func118, Tryz.ntmps118
  go_wp2_with fail
  go_loopw [9] (fun i wr => ∃ k : Nat, k ≤ ns.length ∧ i = .int .i64 k ∧ Hid (OutI wr B g (out ++ putL (ns.take k)) ∧ Arr wr b0 3 (ns.map (Value.int .i64)) ∧ Below B w wr ∧ KeepArr w wr)) (fun i _ => ns.length - (intOf i).toNat)
  case atStart => exact ⟨0, Nat.zero_le _, rfl, Lib.hid ⟨by simpa [putL] using hO, hA, hB0, KeepArr.refl _⟩⟩
  case round =>
    obtain ⟨k, hk, rfl, hh⟩ := hrel
    obtain ⟨hO, hA, hB, hKA⟩ := hh.out
    clear hh hB0
    have hBw : B ≤ wr.heap.size := by have := hB.size; omega
    by_cases hlt : k < ns.length
    · have hd : decide ((k : Int) < (ns.length : Int)) = true := by simp; omega
      have hcell := hA.cell (j := k) (v := .int .i64 ns[k]!) (by rw [List.getElem?_map, List.getElem?_eq_getElem hlt, getElem!_pos ns k hlt]; rfl)
      have hmem : ns[k]! ∈ ns := by rw [getElem!_pos ns k hlt]; exact List.getElem_mem _
      have hput := Lib.hid (hP.out _ hmem)
      have htk := putL_take ns hlt
      have hlen1 : (putL (ns.take k)).length ≤ 9 * k := by
        have := putL_len (ns.take k)
        rw [List.length_take] at this
        omega
      have hz9 := putZ_len ns[k]!
      have hzp := putZ_pos ns[k]!
      generalize hx : ns[k]! = x at *
      replace hx := Lib.hid hx
      have hus := str_size (putZ x)
      generalize hu : putZ x = u at *
      generalize ho' : out ++ putL (ns.take k) = o at *
      have hol : o.length ≤ out.length + 9 * k := by rw [← ho', List.length_append]; omega
      have hcat : out ++ putL (ns.take (k + 1)) = o ++ u := by rw [htk, ← List.append_assoc, ho']
      have hsz1 : o.length + (str u).size ≤ maxLen := by unfold maxLen; omega
      have hsz2 : o.length + (str u).size ≤ 140737488355328 := by omega
      obtain ⟨m, hm⟩ : ∃ m, o.length + (str u).size = m + 1 := ⟨o.length + (str u).size - 1, by omega⟩
      replace hcat := Lib.hid hcat
      replace hu := Lib.hid hu
      replace ho' := Lib.hid ho'
      replace hm := Lib.hid hm
      replace hus := Lib.hid hus
      clear htk hlen1
      go_wp2_with (first
        | (go_at_call 33; refine (hput.out _).mono ?_; rintro e w1 ⟨rfl, hb1⟩; obtain ⟨v, hv, hr⟩ := hO.below hb1; have hc := hv.cell; have hA1 := hA.below hb1; have hB1 := hB.trans (hb1.mono hBw); have hBs := Nat.le_trans hBw hb1.size; have hKA1 := hKA.trans (KeepArr.of_below hb1))
        | (at_builtin; go_loud (refine Lib.wpList_append_own_string w1 rfl _ _ 57 9 rfl B 5 i0 Tryz.underlying57 Tryz.underlying9 hi hz0 hz1 hz2 v o.length (Lib.byteCells o) rfl hr (str u) rfl hsz1 hsz2 (by omega) ?_; intro v' w2 hown' hgrow hnil; obtain ⟨g', cap', rfl⟩ := ownsRow_succ (k := m) (by rw [← hm.out]; exact hown'); have hv1 := hv.kept hgrow (hv.not_row (by decide) hr); have hc1 := hv1.cell; have hf1 := hv1.frozen)))
      obtain ⟨q1, q2, q3⟩ := OutI.put hBg hv hr hown' hgrow hBs
      exact ⟨⟨k + 1, by omega, rfl, Lib.hid ⟨by rw [hcat.out]; exact q1, q3 _ _ _ (by decide) (by decide) hA1, hB1.trans q2, hKA1.trans q3⟩⟩, by simp [intOf]; omega⟩
    · obtain rfl : k = ns.length := by omega
      have hd : decide ((ns.length : Int) < (ns.length : Int)) = false := by simp
      rw [List.take_length] at hO
      go_wp2_with fail
      go_end0
      exact ⟨⟨_, rfl⟩, hO, hB, hKA⟩
theorem aput_none (g : Nat) (a : Option Addr) (c : Nat) (w : World) :
    Calls Tryz.prog 118 #[.slice a 0 c, .pointer (some ⟨g, 0, none⟩)] w fun e w' => (∃ r, e = .returned r) ∧ w' = w := by
  go_enter Tryz.func118, Tryz.ntmps118
  go_wp2_with fail
  go_loop [9] (fun i => i = .int .i64 0) (fun _ => 0)
  case atStart => rfl
  case round =>
    subst hrel
    go_wp2
    go_end0
    exact ⟨⟨_, rfl⟩, rfl⟩
set_option maxRecDepth 100000 in
set_option maxHeartbeats 4000000 in
theorem atxt_any (B g : Nat) (o : List UInt8) (t : List UInt8) (w : World) (hBg : B ≤ g) (hO : OutI w B g o) (ht : t.length ≤ 65536) (hl : o.length + t.length ≤ 900000) :
    Calls Tryz.prog 119 #[.string (str t), .pointer (some ⟨g, 0, none⟩)] w fun e w' => (∃ r, e = .returned r) ∧ OutI w' B g (o ++ putSb t) ∧ Below B w w' ∧ KeepArr w w' := by
  obtain ⟨i0, hi, hz0, hz1, hz2⟩ := info_parts info_byte4
  have hP := Lib.hid fun W => PutString_any t W ht
  have hw0 : B ≤ w.heap.size := by have := hO.lt; omega
  have hus := str_size (putSb t)
  have hsl := putSb_len t
  have hz9 := putZ_len t.length
  have hzp := putZ_pos t.length
  generalize hu : putSb t = u at *
  have hsz1 : o.length + (str u).size ≤ maxLen := by unfold maxLen; omega
  have hsz2 : o.length + (str u).size ≤ 140737488355328 := by omega
  obtain ⟨m, hm⟩ : ∃ m, o.length + (str u).size = m + 1 := ⟨o.length + (str u).size - 1, by omega⟩
  replace hu := Lib.hid hu
  replace hm := Lib.hid hm
  replace hus := Lib.hid hus
  replace hsl := Lib.hid hsl
  go_enter Tryz.func119, Tryz.ntmps119
  go_wp2_with (first
    | (go_at_call 120; refine (hP.out _).mono ?_; rintro e w1 ⟨rfl, hb1⟩; obtain ⟨v, hv, hr⟩ := hO.below hb1; have hc := hv.cell; have hBs := Nat.le_trans hw0 hb1.size)
    | (at_builtin; go_loud (refine Lib.wpList_append_own_string w1 rfl _ _ 57 9 rfl B 5 i0 Tryz.underlying57 Tryz.underlying9 hi hz0 hz1 hz2 v o.length (Lib.byteCells o) rfl hr (str u) rfl hsz1 hsz2 (by omega) ?_; intro v' w2 hown' hgrow hnil; obtain ⟨g', cap', rfl⟩ := ownsRow_succ (k := m) (by rw [← hm.out]; exact hown'); have hv1 := hv.kept hgrow (hv.not_row (by decide) hr); have hc1 := hv1.cell; have hf1 := hv1.frozen)))
  obtain ⟨q1, q2, q3⟩ := OutI.put hBg hv hr hown' hgrow hBs
  go_end0
  exact ⟨⟨_, rfl⟩, q1, (hb1.mono hw0).trans q2, (KeepArr.of_below hb1).trans q3⟩
end Go.Proofs.YtocpnlifmeffkaaGreatDoor
namespace Go.Proofs.YtocpnlifmeffkaaGreatDoor
open Go.RowKit Go.Shelf

attribute [local go_sem] Oper.semAt_some

theorem BelowBut.setAt {B x b : Nat} {w w' : World} (h : BelowBut B x w w') (hb : B ≤ b) (o : Nat) (u : Value) : BelowBut B x w (w'.setCell ⟨b, o, none⟩ u) :=
  ⟨h.os, h.tape, h.output, by simpa [World.setCell] using h.size, fun k hk hne => (heap_setCell_other w' ⟨b, o, none⟩ k u (by show k ≠ b; omega)).trans (h.block k hk hne)⟩
set_option maxRecDepth 100000 in
set_option maxHeartbeats 4000000 in
theorem aline_any (R : Nat) (s : ByteArray) (pre t post : List UInt8) (a : Option Addr) (n c : Nat) (w : World) (hf : fineB t = true) (ht : t.length ≤ 80) (hs : s.data.toList = pre ++ (putSb t ++ post)) (hsz : s.size ≤ 1000000) (hR : ARdAt w R s pre.length) :
    Calls Tryz.prog 107 #[.pointer (some ⟨R, 0, none⟩), .int .i64 1, .slice a n c] w fun e w' => e = .returned (.agg #[.string (str t), .slice none 0 0]) ∧ ARdAt w' R s (pre ++ putSb t).length ∧ BelowBut w.heap.size R w w' := by
  have hT := Lib.hid fun W (h : ARdAt W R s pre.length) => atext_any R s pre t post W (by omega) hs hsz h
  have hmu := Lib.hid must_true
  have hC := Lib.hid fun W => contFn_any t W hf
  have hd : decide (((str t).size : Int) ≤ 80) = true := by rw [str_size]; simp; omega
  have hRlt : R < w.heap.size := hR.lt
  have hR1 : ARdAt ((w.alloc (.cells #[.string (str []), .slice none 0 0] 181)).alloc (.cells #[.string (str []), .slice none 0 0] 181)) R s pre.length := (hR.alloc _).alloc _
  have hQ1 : Arr ((w.alloc (.cells #[.string (str []), .slice none 0 0] 181)).alloc (.cells #[.string (str []), .slice none 0 0] 181)) w.heap.size 181 [.string (str []), .slice none 0 0] := (Arr.new rfl rfl).alloc _
  have hL1 : Arr ((w.alloc (.cells #[.string (str []), .slice none 0 0] 181)).alloc (.cells #[.string (str []), .slice none 0 0] 181)) (w.heap.size + 1) 181 [.string (str []), .slice none 0 0] := Arr.new rfl (by simp)
  have hB1 : BelowBut w.heap.size R w ((w.alloc (.cells #[.string (str []), .slice none 0 0] 181)).alloc (.cells #[.string (str []), .slice none 0 0] 181)) := BelowBut.of (((Below.refl _ _).alloc (Nat.le_refl _) _).alloc (by simp) _)
  generalize (pre ++ putSb t).length = q at *
  clear hs hf
  go_enter Tryz.func107, Tryz.ntmps107
  go_wp2_with (first
    | (go_at_call 105; refine (hT.out _ hR1).mono ?_; rintro e w2 ⟨rfl, hR2, hb2⟩; have hQ2 := hb2.arr hQ1 (by omega); have hL2 := hb2.arr hL1 (by omega); have z0 := hL2.free 0; have y0 := hL2.cell (j := 0) rfl)
    | (go_at_call 173; refine (hC.out _).mono ?_; rintro e w3 ⟨rfl, hb3⟩; have hQ3 := (hQ2.other (b := w.heap.size + 1) (o := 0) (.string (str t)) (by omega)).below hb3; have hL3 := (hL2.set 0 (.string (str t))).below hb3; have f0 := hQ3.free 0; have f1 := hQ3.free 1; have d0 := hL3.cell (j := 0) rfl; have d1 := hL3.cell (j := 1) rfl; have e0 := hQ3.cell (j := 0) rfl; have e1 := hQ3.cell (j := 1) rfl)
    | (go_at_call 51; refine (hmu.out _).mono ?_; rintro e w1 ⟨rfl, rfl⟩))
  refine bodyPost_ret (arr_result (p := 6) (ty := 181) (n := 2) (by kernel_rfl) _ ((hQ3.set 0 (.string (str t))).set 1 (.slice none 0 0)) rfl Tryz.underlying181 rfl (by kernel_rfl) rfl) rfl ?_
  have hs2 : w.heap.size ≤ w2.heap.size := Nat.le_trans hB1.size hb2.size
  refine ⟨rfl, ?_, ?_⟩
  · exact ((((show Arr w2 R _ _ from hR2).other (b := w.heap.size + 1) (o := 0) _ (by omega)).below hb3).other _ (by omega)).other _ (by omega)
  · have h12 := hB1.trans hb2 hB1.size
    have h3 : BelowBut w.heap.size R w w1 := (h12.setAt (b := w.heap.size + 1) (by omega) 0 (.string (str t))).trans (BelowBut.of hb3) (by simpa [World.setCell] using hs2)
    exact (h3.setAt (Nat.le_refl _) _ _).setAt (Nat.le_refl _) _ _
end Go.Proofs.YtocpnlifmeffkaaGreatDoor
