/-
  The contract of machine.Print.
-/
import Derived.Test.YtainohbfcehpoaaDoorMbF
import Derived.Test.YtainohbfcehpoaaDoorBld
namespace Go.Proofs.YtainohbfcehpoaaDoor
open Go.RowKit Go.Shelf

def prefT (L : List Ins) (k : Nat) : List UInt8 := (L.take k).flatMap fun x => lineT x.op (outN L x) ++ [10]
theorem prefT_succ {L : List Ins} {k : Nat} (h : k < L.length) : prefT L (k + 1) = prefT L k ++ (lineT L[k]!.op (outN L L[k]!) ++ [10]) := by
  unfold prefT
  rw [List.take_succ_eq_append_getElem h, List.flatMap_append, getElem!_pos L k h]
  simp
theorem prefT_all (L : List Ins) : prefT L L.length = textT L := by unfold prefT textT; rw [List.take_length]
theorem opName_len {o : Nat} (h : o < 12) : (opName o).length ≤ 5 := by
  have h12 : o = 0 ∨ o = 1 ∨ o = 2 ∨ o = 3 ∨ o = 4 ∨ o = 5 ∨ o = 6 ∨ o = 7 ∨ o = 8 ∨ o = 9 ∨ o = 10 ∨ o = 11 := by omega
  rcases h12 with rfl | rfl | rfl | rfl | rfl | rfl | rfl | rfl | rfl | rfl | rfl | rfl <;> decide
theorem prefT_len {L : List Ins} (hF : Form L) (hN : ∀ x ∈ L, Neat x) (hl : L.length ≤ 1024) : ∀ k, k ≤ L.length → (prefT L k).length ≤ 20 * k
  | 0, _ => by simp [prefT]
  | k + 1, h => by
    have ih := prefT_len hF hN hl k (by omega)
    have hk : k < L.length := by omega
    have hx := hN L[k]! (by rw [getElem!_pos L k hk]; exact List.getElem_mem hk)
    have ho : outN L L[k]! ≤ 65536 := by
      unfold outN
      split
      · rename_i hd
        have := (toOf_lt hF hk hd).1
        omega
      · have := hx.opd; omega
    have h1 := opName_len hx.lt
    have h2 := decDigits_le (u := outN L L[k]!) (by omega)
    rw [prefT_succ hk, List.length_append, List.length_append, List.length_singleton]
    have h3 : (lineT L[k]!.op (outN L L[k]!)).length ≤ 16 := by
      generalize L[k]! = y at *
      unfold lineT
      rw [List.length_append]
      split
      · rw [List.length_cons]; omega
      · rw [List.length_nil]; omega
    omega
theorem strCells_list (l : List UInt8) : Lib.strCells (str l) = Lib.byteCells l := by simp [Lib.byteCells, Lib.strCells, str]
theorem byteCells_app (a b : List UInt8) : Lib.byteCells (a ++ b) = Lib.byteCells a ++ Lib.byteCells b := by simp [Lib.byteCells]
abbrev IsB (b : Nat) (l : List UInt8) (w : World) : Prop := Lib.IsBuilder 73 5 b b (Lib.byteCells l) w
theorem isB_set {b c o : Nat} {l : List UInt8} {W : World} {T : TypeId} {L : List Value} {u : Value} (h : IsB b l W) (hA : Arr W c T L) (h1 : T ≠ 73) (h2 : T ≠ 5) : IsB b l (W.setCell ⟨c, o, none⟩ u) := by
  have oth : ∀ {k : Nat} {cs : Array Value} {T' : TypeId} {fr : Nat × Nat}, W.heap[k]? = some (.cells cs T' fr) → T ≠ T' → (W.setCell ⟨c, o, none⟩ u).heap[k]? = W.heap[k]? := fun {k cs T' fr} hk hT => heap_setCell_other _ _ _ _ (by
    intro e
    simp only at e
    unfold Arr at hA
    rw [e, hA] at hk
    injection hk with hk
    injection hk with _ hk _
    exact hT hk)
  have key : ∀ p, Lib.BuilderAt 73 5 b b p (Lib.byteCells l) W → Lib.BuilderAt 73 5 b b p (Lib.byteCells l) (W.setCell ⟨c, o, none⟩ u) := by
    rintro p ⟨hB, v, hb, hown, hne⟩
    refine ⟨hB, v, (oth hb h1).trans hb, ⟨hown.1, ?_⟩, hne⟩
    rcases hown.2 with hh | ⟨g, cap, cur, hv, q1, q2, r⟩
    · exact .inl hh
    · exact .inr ⟨g, cap, cur, hv, q1, (oth q2 h2).trans q2, r⟩
  exact h.imp (key _) (key _)
theorem write_any (b : Nat) (pre s : List UInt8) (w : World) (h : IsB b pre w) (hl : pre.length + s.length ≤ 1000000) :
    Calls Tryd.prog 36 #[.pointer (some ⟨b, 0, none⟩), .string (str s)] w fun e w' => e = .returned (.tuple #[.int .i64 (s.length : Nat), .nilIface]) ∧ IsB b (pre ++ s) w' ∧ Below b w w' ∧ KeepW b w w' := by
  obtain ⟨cs, hb⟩ := isBuilder_heap h
  have hlt := (Array.getElem?_eq_some_iff.1 hb).1
  refine (WriteString_any b b (Lib.byteCells pre) (str s) w h (by rw [Lib.byteCells_length, str_size]; omega) (Nat.le_of_lt hlt)).mono ?_
  rintro e w' ⟨rfl, ⟨h1, h2⟩, h3⟩
  rw [strCells_list, ← byteCells_app] at h1
  exact ⟨by rw [str_size], .inr h1, h2, h3⟩
set_option maxRecDepth 100000 in
set_option maxHeartbeats 4000000 in
theorem Print_any (code : List UInt8) (w : World) (hc : code.length ≤ 1000000) (hE : Env w) :
    Calls Tryd.prog 19 #[.string (str code)] w fun e w' => e = .returned (.tuple #[.string (str (print8 code).1), .int .i64 (print8 code).2]) ∧ Below w.heap.size w w' := by
  have hP := Lib.hid (program_any code w hc hE.ops)
  go_enter Tryd.func19, Tryd.ntmps19
  go_wp2_with fail
  refine hP.out.mono ?_
  rintro e w1 ⟨hyes, hno, hb1⟩
  cases hf : formed code with
  | none =>
    obtain rfl := hno hf
    have hpr : Hid (print8 code = ([], 80)) := by show _ = _; unfold print8; rw [hf]
    clear hyes hno hf hP
    go_wp2_with fail
    go_ret2
    exact ⟨by rw [hpr.out]; rfl, hb1⟩
  | some L =>
    obtain ⟨g, cap, rfl, hwg, hg1, hLc, hcm, hrow⟩ := hyes L hf
    obtain ⟨hne, hlen, hdec, hLaid, hForm⟩ := formed_parts hf
    have hNeat := (formed_neat hf).1
    have hL1 : L.length ≤ 1024 := by
      have h1 := (evSeq_dec _ code (Nat.le_refl _) 0).1 L hdec
      have h2 := evSeq_len _ code (Nat.le_refl _) 0
      rw [h1, List.length_map] at h2
      omega
    have hL0 : 0 < L.length := by
      have h1 := (evSeq_dec _ code (Nat.le_refl _) 0).1 L hdec
      have h2 := evSeq_pos code hne
      rw [h1, List.length_map] at h2
      exact h2
    have hpr : Hid (print8 code = (prefT L L.length, 0)) := by show _ = _; unfold print8; rw [hf, prefT_all]
    have hE1 := hE.below hb1
    clear hyes hno hf hP
    go_wp2_with fail
    obtain ⟨W2, hW2⟩ : ∃ W2, W2 = w1.alloc (Obj.cells #[.pointer none, .slice none 0 0] 73) := ⟨_, rfl⟩
    have hbk : W2.heap[w1.heap.size]? = some (.cells #[.pointer none, .slice none 0 0] 73 (0, 0)) := by rw [hW2]; exact World.alloc_heap_new w1 _
    have hB2 : Below w1.heap.size w1 W2 := by rw [hW2]; exact (Below.refl _ _).alloc (Nat.le_refl _) _
    have hIB : Lib.IsBuilder 73 5 w1.heap.size w1.heap.size (Lib.byteCells (prefT L 0)) W2 := .inl ⟨Nat.le_refl _, _, hbk, World.ownsRow_nil _ _ _ _, by simp [Value.ownBlock]⟩
    rw [← hW2]
    clear hW2
    go_loopw [19] (fun i wr => ∃ k : Nat, k ≤ L.length ∧ i = .int .i64 (k : Int) ∧ Hid (Lib.IsBuilder 73 5 w1.heap.size w1.heap.size (Lib.byteCells (prefT L k)) wr ∧ Below w1.heap.size w1 wr)) (fun i _ => L.length - (intOf i).toNat)
    case atStart => exact ⟨0, Nat.zero_le _, rfl, (show Hid _ from ⟨hIB, hB2⟩)⟩
    case round =>
      obtain ⟨k, hk, rfl, hall⟩ := hrel
      obtain ⟨hI, hB⟩ := hall.out
      clear hall hIB hB2 hbk
      have hpl := prefT_len hForm hNeat hL1 k hk
      by_cases hlt : k < L.length
      · have hd : decide ((k : Int) < (L.length : Int)) = true := by simpa using hlt
        have hrow1 := hrow.keep (hB.block g hg1)
        obtain ⟨n0, n1, n2, n3⟩ := hrow1 k hlt
        simp only [Nat.zero_add] at n0 n1 n2 n3
        have hx := hNeat L[k]! (by rw [getElem!_pos L k hlt]; exact List.getElem_mem hlt)
        have hto : leadOp L[k]!.op = true → toOf L L[k]! < L.length := fun h => (toOf_lt hForm hlt h).1
        have hsucc := prefT_succ hlt
        obtain ⟨z, hz⟩ : ∃ z, z = L[k]! := ⟨_, rfl⟩
        rw [← hz] at n0 n1 n2 n3 hx hto hsucc
        obtain ⟨tz, htz⟩ : ∃ tz, tz = toOf L z := ⟨_, rfl⟩
        rw [← htz] at n3 hto
        replace hz := Lib.hid hz
        have hll : longOp z.op = false → leadOp z.op = false := fun h => by
          cases hq : leadOp z.op with
          | false => rfl
          | true => rw [longOp_lead hq] at h; cases h
        have hb5 := opName_len hx.lt
        have hOr := (hE1.below hB).ops
        obtain ⟨Wa, hWa⟩ : ∃ Wa, Wa = wr.alloc (.cells #[.int .i64 (z.off : Int), .int .i64 (z.op : Int), .int .i64 (z.opd : Int), .int .i64 (tz : Int)] 66) := ⟨_, rfl⟩
        have hba : Below wr.heap.size wr Wa := by rw [hWa]; exact (Below.refl _ _).alloc (Nat.le_refl _) _
        have hAx : Arr Wa wr.heap.size 66 [.int .i64 (z.off : Int), .int .i64 (z.op : Int), .int .i64 (z.opd : Int), .int .i64 (tz : Int)] := by rw [hWa]; exact Arr.new rfl rfl
        have hBa := hB.trans (hba.mono hB.size)
        have hIa : IsB w1.heap.size (prefT L k) Wa := isBuilder_below hI hba
        have hkd := kind_any z.off z.op z.opd tz Wa hx.lt (hE1.below hBa).ops (hE1.below hBa).ops.lt
        unfold insAgg opVals at hkd
        obtain ⟨nn, hnn⟩ : ∃ nn, nn = outN L z := ⟨_, rfl⟩
        have hnb : nn ≤ 65535 := by
          rw [hnn]
          unfold outN
          split
          · rename_i h
            have := hto h
            rw [htz] at this
            omega
          · have := hx.opd; omega
        rw [← hnn] at hsucc
        replace hnn := Lib.hid hnn
        replace htz := Lib.hid htz
        obtain ⟨bcs, hbc⟩ := isBuilder_heap hI
        have hblt := (Array.getElem?_eq_some_iff.1 hbc).1
        have hdl := decDigits_le (u := nn) (by omega)
        cases hlg : longOp z.op with
        | false =>
          have hld := hll hlg
          rw [hlg, hld] at hkd
          have hline : lineT z.op nn = opName z.op := by unfold lineT; rw [hlg]; simp
          rw [hline] at hsucc
          replace hkd := Lib.hid hkd
          replace hsucc := Lib.hid hsucc
          replace hlg := Lib.hid hlg
          replace hld := Lib.hid hld
          clear hline
          go_wp2_with fail
          rw [← hWa]
          refine hkd.out.mono ?_
          rintro e W3 ⟨rfl, hb3⟩
          have hI3 := isBuilder_below hIa hb3
          have hA3 := hAx.below hb3
          have hB3 := hBa.trans (hb3.mono hBa.size)
          obtain ⟨Wk, hWk⟩ : ∃ Wk, Wk = W3.alloc (.cells #[.string (str (opName z.op)), .int .i64 (takesOp z.op : Nat), .int .i64 (putsOp z.op : Nat), .bool false, .bool false] 75) := ⟨_, rfl⟩
          have hbk : Below W3.heap.size W3 Wk := by rw [hWk]; exact (Below.refl _ _).alloc (Nat.le_refl _) _
          have hAk : Arr Wk W3.heap.size 75 [.string (str (opName z.op)), .int .i64 (takesOp z.op : Nat), .int .i64 (putsOp z.op : Nat), .bool false, .bool false] := by rw [hWk]; exact Arr.new rfl rfl
          have hIk := isBuilder_below hI3 hbk
          have hAxk := hA3.below hbk
          have hBk := hB3.trans (hbk.mono hB3.size)
          have hs3 := hba.size
          have hs3b := Nat.lt_of_lt_of_le hAx.lt hb3.size
          have hw1 := Lib.hid (write_any w1.heap.size (prefT L k) (opName z.op) Wk hIk (by omega))
          clear hkd hI3 hA3 hIa hI
          go_wp2_with fail
          rw [← hWk]
          refine hw1.out.mono ?_
          rintro e W4 ⟨rfl, hI4, hb4, hk4⟩
          have hA4 := hk4.arr hAxk (by omega) (by decide)
          have hAk4 := hk4.arr hAk (by omega) (by decide)
          have hB4 := hBk.trans hb4
          have r3 := hAk4.cell (j := 3) rfl
          have r4 := hAk4.cell (j := 4) rfl
          clear hw1 hWk hWa
          have hw2 := write_any w1.heap.size (prefT L k ++ opName z.op) [10] W4 hI4 (by rw [List.length_append, List.length_singleton]; omega)
          rw [show str [10] = ⟨#[10]⟩ from rfl] at hw2
          replace hw2 := Lib.hid hw2
          go_wp2_with fail
          refine hw2.out.mono ?_
          rintro e W5 ⟨rfl, hI5, hb5', hk5⟩
          have hB5 := hB4.trans hb5'
          rw [List.append_assoc, ← hsucc.out] at hI5
          replace hI5 := Lib.hid hI5
          go_wp2_with fail
          exact ⟨⟨k + 1, by omega, by go_num, (show Hid _ from ⟨hI5.out, hB5⟩)⟩, by simp [intOf]; omega⟩
        | true =>
          have hline : lineT z.op nn = opName z.op ++ 32 :: Lib.decDigits nn := by unfold lineT; rw [hlg]; rfl
          rw [hline] at hsucc
          have hadd := add_str [32] (Lib.decDigits nn) (by simp only [List.length_cons, List.length_nil]; omega)
          rw [show str [32] = ⟨#[32]⟩ from rfl] at hadd
          rw [show [32] ++ Lib.decDigits nn = 32 :: Lib.decDigits nn from rfl] at hadd
          rw [hlg] at hkd
          replace hlg := Lib.hid hlg
          clear hline
          cases hld : leadOp z.op with
          | false =>
            have hno : nn = z.opd := by rw [hnn.out]; unfold outN; rw [hld]; rfl
            rw [hld] at hkd
            replace hkd := Lib.hid hkd
            replace hsucc := Lib.hid hsucc
            replace hld := Lib.hid hld
            rw [← hno] at n2 hAx hkd hWa
            clear hno
            go_wp2_with fail
            rw [← hWa]
            refine hkd.out.mono ?_
            rintro e W3 ⟨rfl, hb3⟩
            have hI3 := isBuilder_below hIa hb3
            have hA3 := hAx.below hb3
            have hB3 := hBa.trans (hb3.mono hBa.size)
            obtain ⟨Wk, hWk⟩ : ∃ Wk, Wk = W3.alloc (.cells #[.string (str (opName z.op)), .int .i64 (takesOp z.op : Nat), .int .i64 (putsOp z.op : Nat), .bool true, .bool false] 75) := ⟨_, rfl⟩
            have hbk : Below W3.heap.size W3 Wk := by rw [hWk]; exact (Below.refl _ _).alloc (Nat.le_refl _) _
            have hAk : Arr Wk W3.heap.size 75 [.string (str (opName z.op)), .int .i64 (takesOp z.op : Nat), .int .i64 (putsOp z.op : Nat), .bool true, .bool false] := by rw [hWk]; exact Arr.new rfl rfl
            have hIk := isBuilder_below hI3 hbk
            have hAxk := hA3.below hbk
            have hBk := hB3.trans (hbk.mono hB3.size)
            have hs3 := hba.size
            have hs3b := Nat.lt_of_lt_of_le hAx.lt hb3.size
            have hw1 := Lib.hid (write_any w1.heap.size (prefT L k) (opName z.op) Wk hIk (by omega))
            clear hkd hI3 hA3 hIa hI
            go_wp2_with fail
            rw [← hWk]
            refine hw1.out.mono ?_
            rintro e W4 ⟨rfl, hI4, hb4, hk4⟩
            have hA4 := hk4.arr hAxk (by omega) (by decide)
            have hAk4 := hk4.arr hAk (by omega) (by decide)
            have hB4 := hBk.trans hb4
            have r3 := hAk4.cell (j := 3) rfl
            have r4 := hAk4.cell (j := 4) rfl
            clear hw1 hWk hWa
            have q2 := hA4.cell (j := 2) rfl
            have hit := itoa_any (nn : Int) W4 ⟨by omega, by omega⟩ (hE1.below hB4)
            rw [itoa_nat] at hit
            replace hit := Lib.hid hit
            go_wp2_with fail
            refine hit.out.mono ?_
            rintro e W5 ⟨rfl, hb5⟩
            have hI5 := isBuilder_below hI4 hb5
            have hB5 := hB4.trans (hb5.mono hB4.size)
            have hw2 := Lib.hid (write_any w1.heap.size (prefT L k ++ opName z.op) (32 :: Lib.decDigits nn) W5 hI5 (by rw [List.length_append, List.length_cons]; omega))
            clear hit
            go_wp2_with fail
            refine hw2.out.mono ?_
            rintro e W6 ⟨rfl, hI6, hb6, _⟩
            have hB6 := hB5.trans hb6
            have hw3 := write_any w1.heap.size (prefT L k ++ opName z.op ++ 32 :: Lib.decDigits nn) [10] W6 hI6 (by rw [List.length_append, List.length_append, List.length_cons, List.length_singleton]; omega)
            rw [show str [10] = ⟨#[10]⟩ from rfl] at hw3
            replace hw3 := Lib.hid hw3
            clear hw2
            go_wp2_with fail
            refine hw3.out.mono ?_
            rintro e W7 ⟨rfl, hI7, hb7, _⟩
            have hB7 := hB6.trans hb7
            rw [List.append_assoc, List.append_assoc, ← List.append_assoc (opName z.op), ← hsucc.out] at hI7
            replace hI7 := Lib.hid hI7
            go_wp2_with fail
            exact ⟨⟨k + 1, by omega, by go_num, (show Hid _ from ⟨hI7.out, hB7⟩)⟩, by simp [intOf]; omega⟩
          | true =>
            have hno : nn = tz := by rw [hnn.out, htz.out]; unfold outN; rw [hld]; rfl
            rw [hld] at hkd
            replace hkd := Lib.hid hkd
            replace hsucc := Lib.hid hsucc
            replace hld := Lib.hid hld
            rw [← hno] at n3 hAx hkd hWa
            clear hno
            go_wp2_with fail
            rw [← hWa]
            refine hkd.out.mono ?_
            rintro e W3 ⟨rfl, hb3⟩
            have hI3 := isBuilder_below hIa hb3
            have hA3 := hAx.below hb3
            have hB3 := hBa.trans (hb3.mono hBa.size)
            obtain ⟨Wk, hWk⟩ : ∃ Wk, Wk = W3.alloc (.cells #[.string (str (opName z.op)), .int .i64 (takesOp z.op : Nat), .int .i64 (putsOp z.op : Nat), .bool true, .bool true] 75) := ⟨_, rfl⟩
            have hbk : Below W3.heap.size W3 Wk := by rw [hWk]; exact (Below.refl _ _).alloc (Nat.le_refl _) _
            have hAk : Arr Wk W3.heap.size 75 [.string (str (opName z.op)), .int .i64 (takesOp z.op : Nat), .int .i64 (putsOp z.op : Nat), .bool true, .bool true] := by rw [hWk]; exact Arr.new rfl rfl
            have hIk := isBuilder_below hI3 hbk
            have hAxk := hA3.below hbk
            have hBk := hB3.trans (hbk.mono hB3.size)
            have hs3 := hba.size
            have hs3b := Nat.lt_of_lt_of_le hAx.lt hb3.size
            have hw1 := Lib.hid (write_any w1.heap.size (prefT L k) (opName z.op) Wk hIk (by omega))
            clear hkd hI3 hA3 hIa hI
            go_wp2_with fail
            rw [← hWk]
            refine hw1.out.mono ?_
            rintro e W4 ⟨rfl, hI4, hb4, hk4⟩
            have hA4 := hk4.arr hAxk (by omega) (by decide)
            have hAk4 := hk4.arr hAk (by omega) (by decide)
            have hB4 := hBk.trans hb4
            have r3 := hAk4.cell (j := 3) rfl
            have r4 := hAk4.cell (j := 4) rfl
            clear hw1 hWk hWa
            have q3 := hA4.cell (j := 3) rfl
            have f2 := hA4.free 2
            have q2' := hA4.cell (j := 2) rfl
            have hA5 := hA4.set 2 (.int .i64 (nn : Int))
            have hI4' : IsB w1.heap.size (prefT L k ++ opName z.op) (W4.setCell ⟨wr.heap.size, 2, none⟩ (.int .i64 (nn : Int))) := isB_set hI4 hA4 (by decide) (by decide)
            have hAk5 := (hAk4.other (b := wr.heap.size) (o := 2) (.int .i64 (nn : Int)) (by omega))
            have r3' := hAk5.cell (j := 3) rfl
            have q2 := hA5.cell (j := 2) rfl
            have hB4' := hB4.setCell (p := ⟨wr.heap.size, 2, none⟩) (show w1.heap.size ≤ wr.heap.size from hB.size) (.int .i64 (nn : Int))
            have hit := itoa_any (nn : Int) (W4.setCell ⟨wr.heap.size, 2, none⟩ (.int .i64 (nn : Int))) ⟨by omega, by omega⟩ (hE1.below hB4')
            rw [itoa_nat] at hit
            replace hit := Lib.hid hit
            go_wp2_with fail
            refine hit.out.mono ?_
            rintro e W5 ⟨rfl, hb5⟩
            have hI5 := isBuilder_below hI4' hb5
            have hB5 := hB4'.trans (hb5.mono hB4'.size)
            have hw2 := Lib.hid (write_any w1.heap.size (prefT L k ++ opName z.op) (32 :: Lib.decDigits nn) W5 hI5 (by rw [List.length_append, List.length_cons]; omega))
            clear hit
            go_wp2_with fail
            refine hw2.out.mono ?_
            rintro e W6 ⟨rfl, hI6, hb6, _⟩
            have hB6 := hB5.trans hb6
            have hw3 := write_any w1.heap.size (prefT L k ++ opName z.op ++ 32 :: Lib.decDigits nn) [10] W6 hI6 (by rw [List.length_append, List.length_append, List.length_cons, List.length_singleton]; omega)
            rw [show str [10] = ⟨#[10]⟩ from rfl] at hw3
            replace hw3 := Lib.hid hw3
            clear hw2
            go_wp2_with fail
            refine hw3.out.mono ?_
            rintro e W7 ⟨rfl, hI7, hb7, _⟩
            have hB7 := hB6.trans hb7
            rw [List.append_assoc, List.append_assoc, ← List.append_assoc (opName z.op), ← hsucc.out] at hI7
            replace hI7 := Lib.hid hI7
            go_wp2_with fail
            exact ⟨⟨k + 1, by omega, by go_num, (show Hid _ from ⟨hI7.out, hB7⟩)⟩, by simp [intOf]; omega⟩
      · have hd : decide ((k : Int) < (L.length : Int)) = false := by simpa using hlt
        obtain rfl : k = L.length := by omega
        have hne2 : prefT L L.length ≠ [] := by
          obtain ⟨j, hj⟩ : ∃ j, L.length = j + 1 := ⟨L.length - 1, by omega⟩
          rw [hj, prefT_succ (by omega)]
          simp
        have hS := String_some w1.heap.size w1.heap.size (prefT L L.length) wr hI hne2
        generalize prefT L L.length = ls at *
        replace hS := Lib.hid hS
        clear hI
        go_wp2_with fail
        refine hS.out.mono ?_
        rintro e W3 ⟨rfl, hk3, hb3⟩
        go_wp2_with fail
        go_ret2
        exact ⟨by rw [hpr.out]; rfl, hb1.trans ((hB.trans hb3).mono hb1.size)⟩
end Go.Proofs.YtainohbfcehpoaaDoor
