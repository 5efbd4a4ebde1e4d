/-
  The contracts of computer.shown, Screen, Bitmap.
-/
import Derived.Test.YtkgbknjpnhoadaaGreatDoorCqE
import Derived.Test.YtkgbknjpnhoadaaGreatDoorCqT
import Derived.Laws.Bits128
import Derived.Laws.BytesArg
namespace Go.Proofs.YtkgbknjpnhoadaaGreatDoor
open Go.RowKit Go.Shelf

/-- What one event puts at its place. -/
def shownStep (kind : Int) (places : Nat) (of : Int → Nat) (out : List Nat) (e : Ev) : List Nat := if e.k = kind ∧ 0 ≤ e.a ∧ e.a < places then out.set e.a.toNat (of e.b) else out
def shownL (kind : Int) (empty places : Nat) (of : Int → Nat) (l : List Ev) : List Nat := l.foldl (shownStep kind places of) (List.replicate places empty)
def ofS (b : Int) : Nat := (b % 256).toNat
def ofP (b : Int) : Nat := if b % 2 = 0 then 48 else 49
def screenL (l : List Ev) : List Nat := shownL 1 32 80 ofS l
def bitmapL (l : List Ev) : List Nat := shownL 2 48 256 ofP l
/-- A string with some bytes. -/
def str (l : List UInt8) : ByteArray := ⟨l.toArray⟩
theorem str_list (l : List UInt8) : (str l).data.toList = l := rfl
theorem str_of (s : ByteArray) : str s.data.toList = s := rfl
theorem str_size (l : List UInt8) : (str l).size = l.length := by simp [str, ByteArray.size]
theorem str_append (a b : List UInt8) : str a ++ str b = str (a ++ b) := by
  apply ByteArray.ext
  simp [str, ByteArray.data_append]
theorem str_inj {a b : List UInt8} (h : str a = str b) : a = b := by
  have := congrArg (fun s => s.data.toList) h
  simpa [str] using this
def bytesOf (l : List Nat) : List UInt8 := l.map UInt8.ofNat
theorem strOfNums_nums (l : List Nat) : strOfNums (l.map fun n : Nat => (n : Int)) = str (bytesOf l) := by
  simp [strOfNums, str, bytesOf, Function.comp_def]

theorem shownStep_len (kind : Int) (places : Nat) (of : Int → Nat) (out : List Nat) (e : Ev) : (shownStep kind places of out e).length = out.length := by
  unfold shownStep; split <;> simp
theorem shownL_len (kind : Int) (empty places : Nat) (of : Int → Nat) (l : List Ev) : (shownL kind empty places of l).length = places := by
  unfold shownL
  have : ∀ (l : List Ev) (o : List Nat), (l.foldl (shownStep kind places of) o).length = o.length := by
    intro l
    induction l with
    | nil => simp
    | cons e l ih => intro o; rw [List.foldl_cons, ih, shownStep_len]
  rw [this]; simp
theorem shownL_snoc (kind : Int) (empty places : Nat) (of : Int → Nat) (l : List Ev) (e : Ev) : shownL kind empty places of (l ++ [e]) = shownStep kind places of (shownL kind empty places of l) e := by
  simp [shownL, List.foldl_append]
theorem take_snoc {α : Type} [Inhabited α] (l : List α) (k : Nat) (h : k < l.length) : l.take (k + 1) = l.take k ++ [l[k]!] := by
  rw [List.take_succ_eq_append_getElem h, getElem!_pos l k h]
theorem shownL_lt (kind : Int) (empty places : Nat) (of : Int → Nat) (he : empty < 256) (ho : ∀ b, of b < 256) (l : List Ev) : ∀ v ∈ shownL kind empty places of l, v < 256 := by
  unfold shownL
  have : ∀ (l : List Ev) (o : List Nat), (∀ v ∈ o, v < 256) → ∀ v ∈ l.foldl (shownStep kind places of) o, v < 256 := by
    intro l
    induction l with
    | nil => exact fun o h => h
    | cons e l ih =>
      intro o h
      rw [List.foldl_cons]
      refine ih _ ?_
      unfold shownStep
      split
      · exact set_lt h _ (ho _)
      · exact h
  exact this l _ (fun v hv => by have := (List.mem_replicate.1 hv).2; omega)
theorem i64_and1 (n : Int) : bits .and .i64 n 1 = n % 2 := by
  have h1 : (BitVec.ofInt 64 1).toNat = 2 ^ 1 - 1 := by decide
  have key : (BitVec.ofInt 64 n &&& BitVec.ofInt 64 1).toNat = (n % ((2 ^ 64 : Nat) : Int)).toNat % 2 ^ 1 := by
    rw [BitVec.toNat_and, BitVec.toNat_ofInt, h1, Nat.and_two_pow_sub_one_eq_mod]
  show IntKind.i64.wrap ((BitVec.ofInt 64 n &&& BitVec.ofInt 64 1).toNat : Nat) = n % 2
  rw [key, IntKind.wrap_i64]
  omega

set_option maxHeartbeats 1000000 in
theorem Screen1_any (b : Int) (w : World) : Calls Tryz.prog 42 #[.int .i64 b] w fun e w' => e = .returned (.int .u8 (ofS b : Nat)) ∧ w' = w := by
  have hc : ((ofS b : Nat) : Int) = IntKind.u8.wrap b := by simp [ofS, IntKind.wrap, IntKind.bits, IntKind.signed]; omega
  rw [hc]
  go_enter Tryz.func42, Tryz.ntmps42
  go_wp2
  go_ret
  exact ⟨rfl, rfl⟩
set_option maxHeartbeats 1000000 in
theorem Bitmap1_any (b : Int) (w : World) : Calls Tryz.prog 46 #[.int .i64 b] w fun e w' => e = .returned (.int .u8 (ofP b : Nat)) ∧ w' = w := by
  have hb := i64_and1 b
  rcases (show b % 2 = 0 ∨ b % 2 = 1 by omega) with h | h
  · rw [h] at hb
    have hc : ofP b = 48 := by simp [ofP, h]
    rw [hc]
    clear h hc
    go_enter Tryz.func46, Tryz.ntmps46
    go_wp2
    go_ret
    exact ⟨rfl, rfl⟩
  · rw [h] at hb
    have hc : ofP b = 49 := by simp [ofP, h]
    rw [hc]
    clear h hc
    go_enter Tryz.func46, Tryz.ntmps46
    go_wp2
    go_ret
    exact ⟨rfl, rfl⟩
theorem ofS_lt (b : Int) : ofS b < 256 := by unfold ofS; omega
theorem ofP_lt (b : Int) : ofP b < 256 := by unfold ofP; split <;> omega

set_option maxRecDepth 100000 in
set_option maxHeartbeats 4000000 in
theorem shownS_any (v : Value) (l : List Ev) (w : World) (hv : SliceAt w w.heap.size v l.length (evCells l)) :
    Calls Tryz.prog 41 #[v, .int .i64 1, .int .u8 32, .int .i64 80, .func (.func 42) #[] #[]] w fun e w' => e = .returned (.string (str (bytesOf (shownL 1 32 80 ofS l)))) ∧ Below w.heap.size w w' := by
  obtain ⟨a, c, rfl, h1, h2, hc⟩ := hv
  unfold maxLen at h2
  have hc' : ∀ k, k < l.length → ∃ b o, a = some ⟨b, o, none⟩ ∧ b < w.heap.size ∧ ∀ (wr : World), Below w.heap.size w wr → wr.cell? ⟨b, o + k * 4, none⟩ = some (.int .i64 l[k]!.t) ∧ wr.cell? ⟨b, o + k * 4 + 1, none⟩ = some (.int .i64 l[k]!.k) ∧ wr.cell? ⟨b, o + k * 4 + 2, none⟩ = some (.int .i64 l[k]!.a) ∧ wr.cell? ⟨b, o + k * 4 + 3, none⟩ = some (.int .i64 l[k]!.b) := fun k hk => by
    obtain ⟨b, o, ha, hb, hx⟩ := hc (by omega)
    refine ⟨b, o, ha, hb, fun wr hB => ?_⟩
    have hh : ∀ i v, (encEv l[k]!)[i]? = some v → wr.cell? ⟨b, o + k * 4 + i, none⟩ = some v := fun i v hi => by
      have hi4 : i < 4 := (List.getElem?_eq_some_iff.1 hi).1
      rw [hB.cell (p := ⟨b, o + k * 4 + i, none⟩) hb, Nat.add_assoc]
      exact hx _ v ((evCells_at l k i hk hi4).trans hi)
    exact ⟨hh 0 _ rfl, hh 1 _ rfl, hh 2 _ rfl, hh 3 _ rfl⟩
  have hA0 : Arr (w.alloc (.cells #[.int .u8 32] 5)) w.heap.size 5 [.int .u8 32] := Arr.new rfl rfl
  have hR := Repeat_any w.heap.size 32 80 (by omega) _ hA0
  have hB1 : Below w.heap.size w (w.alloc (.cells #[.int .u8 32] 5)) := (Below.refl _ w).alloc (Nat.le_refl _) _
  replace hc' := Lib.hid hc'
  replace hR := Lib.hid hR
  clear hc hA0
  go_enter Tryz.func41, Tryz.ntmps41
  go_wp2_with (go_at_call 67; refine hR.out.mono ?_; rintro e w1 ⟨g, rfl, hg, hA1, hb1⟩)
  have hB2 := hB1.trans (hb1.mono hB1.size)
  have hgw : w.heap.size ≤ g := by simp at hg; omega
  have hA2 : Arr w1 g 5 (nums (shownL 1 32 80 ofS (l.take 0))) := by
    have e : nums (shownL 1 32 80 ofS (l.take 0)) = List.replicate 80 (.int .u8 32) := by simp [shownL, nums]
    rw [e]; exact hA1
  clear hB1 hb1 hA1 hR hg
  replace hgw := Lib.hid hgw
  go_loopw [20] (fun i wr => ∃ k : Nat, k ≤ l.length ∧ i = .int .i64 k ∧ Aside (Below w.heap.size w wr) ∧ Aside (Arr wr g 5 (nums (shownL 1 32 80 ofS (l.take k))))) (fun i _ => l.length - (intOf i).toNat)
  case atStart => exact ⟨0, Nat.zero_le _, rfl, hB2, hA2⟩
  case round =>
    obtain ⟨k, hk, rfl, BW, A⟩ := hrel
    clear hA2 hB2
    have hgw := hgw.out
    have hgs := A.out.lt
    by_cases hlt : k < l.length
    · have hd : decide ((k : Int) < (l.length : Int)) = true := by simpa using hlt
      obtain ⟨b, o, rfl, hb, hcell⟩ := hc'.out k hlt
      obtain ⟨l0, l1, l2, l3⟩ := hcell wr BW.out
      have hbs := BW.out.size
      have hbr : b < wr.heap.size := Nat.lt_of_lt_of_le hb hbs
      have hst := take_snoc l k hlt
      have hsn := shownL_snoc 1 32 80 ofS (l.take k) l[k]!
      have hln := shownL_len 1 32 80 ofS (l.take k)
      rw [← hst] at hsn
      generalize shownL 1 32 80 ofS (l.take k) = out at *
      generalize l[k]! = x at *
      clear hst hcell
      obtain ⟨xt, xk, xa, xb⟩ := x
      dsimp only at l0 l1 l2 l3
      unfold shownStep at hsn
      dsimp only at hsn
      by_cases hif : xk = 1 ∧ 0 ≤ xa ∧ xa < 80
      · obtain ⟨rfl, ha0, ha1⟩ := hif
        obtain ⟨m, rfl⟩ : ∃ m : Nat, xa = m := ⟨xa.toNat, by omega⟩
        have hd1 : decide ((m : Int) ≥ 0) = true := by simp
        have hd2 : decide ((m : Int) < 80) = true := by simp; omega
        rw [if_pos (by omega)] at hsn
        have hof := fun w => Screen1_any xb w
        replace hof := Lib.hid hof
        replace hsn := Lib.hid hsn
        clear hc'
        go_wp2
        refine name_wp ?_
        intro w3 hw3
        have hA3 : Arr w3 g 5 (nums out) := by rw [hw3]; exact A.out.alloc _
        have hE3 : Arr w3 wr.heap.size 39 [.int .i64 xt, .int .i64 1, .int .i64 (m : Int), .int .i64 xb] := by rw [hw3]; exact Arr.new rfl rfl
        have hB3 : Below w.heap.size w w3 := by rw [hw3]; exact BW.out.alloc (by omega) _
        have e2 := hE3.cell (j := 2) rfl
        have e3 := hE3.cell (j := 3) rfl
        have hfree := hA3.free m
        have hex : w3.cell? ⟨g, m, none⟩ = some (.int .u8 (out.getD m 0 : Nat)) := hA3.cell (nums_at (by omega))
        replace hln := Lib.hid hln
        clear hw3 hE3
        generalize wr.heap.size = be at *
        go_still_tail 8, (by kernel_rfl)
        still_call (hof.out _)
        repeat still_step
        refine wpStill_nil ?_
        go_wp2_with (fail)
        go_roundw
        case measure => simp [intOf]; omega
        case rel =>
          refine ⟨k + 1, by omega, by go_num, ?_, ?_⟩
          · exact (hB3.drew).setCell (p := ⟨g, m, none⟩) hgw _
          · rw [hsn.out, ← nums_set]
            exact (hA3.drew).set m _
      · rw [if_neg (by omega)] at hsn
        clear hc'
        replace hsn := Lib.hid hsn
        have hcases : (xk == 1) = false ∨ ((xk == 1) = true ∧ decide (xa ≥ 0) = false) ∨ ((xk == 1) = true ∧ decide (xa ≥ 0) = true ∧ decide (xa < 80) = false) := by
          simp only [beq_eq_false_iff_ne, beq_iff_eq, decide_eq_false_iff_not, decide_eq_true_eq]; omega
        have hB3 : Below w.heap.size w (wr.alloc (.cells #[.int .i64 xt, .int .i64 xk, .int .i64 xa, .int .i64 xb] 39)) := BW.out.alloc (by omega) _
        have hA3 : Arr (wr.alloc (.cells #[.int .i64 xt, .int .i64 xk, .int .i64 xa, .int .i64 xb] 39)) g 5 (nums out) := A.out.alloc _
        replace hB3 := Lib.hid hB3
        replace hA3 := Lib.hid hA3
        clear hif
        rcases hcases with h1 | ⟨h1, h2⟩ | ⟨h1, h2, h3⟩
        all_goals
          go_wp2
          go_roundw
          case measure => simp [intOf]; omega
          case rel => exact ⟨k + 1, by omega, by go_num, hB3.out, (by rw [hsn.out]; exact hA3.out)⟩
    · obtain rfl : k = l.length := by omega
      have hd : decide ((l.length : Int) < (l.length : Int)) = false := by simp
      clear hc'
      rw [List.take_length] at A
      have hlen := shownL_len 1 32 80 ofS l
      have hlt256 : ∀ v ∈ shownL 1 32 80 ofS l, v < 256 := shownL_lt _ _ _ _ (by omega) ofS_lt l
      obtain ⟨out, hout⟩ : ∃ out, shownL 1 32 80 ofS l = out := ⟨_, rfl⟩
      rw [hout] at A hlen hlt256
      replace hout := Lib.hid hout
      have hcv := run_convert_bytes_arg (P := Tryz.prog) wr 41 5 Tryz.underlying41 Tryz.underlying5 g 0 80 80 (out.map fun n : Nat => (n : Int)) (by simp [hlen]) (fun j hj => by
        rw [Nat.zero_add]
        refine A.out.cell ?_
        rw [nums_at (by omega)]
        simp [List.getD_eq_getElem?_getD]
        cases out[j]? <;> rfl) 9 Tryz.underlying9
      rw [strOfNums_nums] at hcv
      have hB3 := BW.out
      replace hB3 := Lib.hid hB3
      replace hlen := Lib.hid hlen
      clear A BW
      go_wp2
      go_ret
      exact ⟨by rw [hout.out]; rfl, hB3.out⟩

set_option maxRecDepth 100000 in
set_option maxHeartbeats 4000000 in
theorem shownP_any (v : Value) (l : List Ev) (w : World) (hv : SliceAt w w.heap.size v l.length (evCells l)) :
    Calls Tryz.prog 41 #[v, .int .i64 2, .int .u8 48, .int .i64 256, .func (.func 46) #[] #[]] w fun e w' => e = .returned (.string (str (bytesOf (shownL 2 48 256 ofP l)))) ∧ Below w.heap.size w w' := by
  obtain ⟨a, c, rfl, h1, h2, hc⟩ := hv
  unfold maxLen at h2
  have hc' : ∀ k, k < l.length → ∃ b o, a = some ⟨b, o, none⟩ ∧ b < w.heap.size ∧ ∀ (wr : World), Below w.heap.size w wr → wr.cell? ⟨b, o + k * 4, none⟩ = some (.int .i64 l[k]!.t) ∧ wr.cell? ⟨b, o + k * 4 + 1, none⟩ = some (.int .i64 l[k]!.k) ∧ wr.cell? ⟨b, o + k * 4 + 2, none⟩ = some (.int .i64 l[k]!.a) ∧ wr.cell? ⟨b, o + k * 4 + 3, none⟩ = some (.int .i64 l[k]!.b) := fun k hk => by
    obtain ⟨b, o, ha, hb, hx⟩ := hc (by omega)
    refine ⟨b, o, ha, hb, fun wr hB => ?_⟩
    have hh : ∀ i v, (encEv l[k]!)[i]? = some v → wr.cell? ⟨b, o + k * 4 + i, none⟩ = some v := fun i v hi => by
      have hi4 : i < 4 := (List.getElem?_eq_some_iff.1 hi).1
      rw [hB.cell (p := ⟨b, o + k * 4 + i, none⟩) hb, Nat.add_assoc]
      exact hx _ v ((evCells_at l k i hk hi4).trans hi)
    exact ⟨hh 0 _ rfl, hh 1 _ rfl, hh 2 _ rfl, hh 3 _ rfl⟩
  have hA0 : Arr (w.alloc (.cells #[.int .u8 48] 5)) w.heap.size 5 [.int .u8 48] := Arr.new rfl rfl
  have hR := Repeat_any w.heap.size 48 256 (by omega) _ hA0
  have hB1 : Below w.heap.size w (w.alloc (.cells #[.int .u8 48] 5)) := (Below.refl _ w).alloc (Nat.le_refl _) _
  replace hc' := Lib.hid hc'
  replace hR := Lib.hid hR
  clear hc hA0
  go_enter Tryz.func41, Tryz.ntmps41
  go_wp2_with (go_at_call 67; refine hR.out.mono ?_; rintro e w1 ⟨g, rfl, hg, hA1, hb1⟩)
  have hB2 := hB1.trans (hb1.mono hB1.size)
  have hgw : w.heap.size ≤ g := by simp at hg; omega
  have hA2 : Arr w1 g 5 (nums (shownL 2 48 256 ofP (l.take 0))) := by
    have e : nums (shownL 2 48 256 ofP (l.take 0)) = List.replicate 256 (.int .u8 48) := by simp [shownL, nums]
    rw [e]; exact hA1
  clear hB1 hb1 hA1 hR hg
  replace hgw := Lib.hid hgw
  go_loopw [20] (fun i wr => ∃ k : Nat, k ≤ l.length ∧ i = .int .i64 k ∧ Aside (Below w.heap.size w wr) ∧ Aside (Arr wr g 5 (nums (shownL 2 48 256 ofP (l.take k))))) (fun i _ => l.length - (intOf i).toNat)
  case atStart => exact ⟨0, Nat.zero_le _, rfl, hB2, hA2⟩
  case round =>
    obtain ⟨k, hk, rfl, BW, A⟩ := hrel
    clear hA2 hB2
    have hgw := hgw.out
    have hgs := A.out.lt
    by_cases hlt : k < l.length
    · have hd : decide ((k : Int) < (l.length : Int)) = true := by simpa using hlt
      obtain ⟨b, o, rfl, hb, hcell⟩ := hc'.out k hlt
      obtain ⟨l0, l1, l2, l3⟩ := hcell wr BW.out
      have hbs := BW.out.size
      have hbr : b < wr.heap.size := Nat.lt_of_lt_of_le hb hbs
      have hst := take_snoc l k hlt
      have hsn := shownL_snoc 2 48 256 ofP (l.take k) l[k]!
      have hln := shownL_len 2 48 256 ofP (l.take k)
      rw [← hst] at hsn
      generalize shownL 2 48 256 ofP (l.take k) = out at *
      generalize l[k]! = x at *
      clear hst hcell
      obtain ⟨xt, xk, xa, xb⟩ := x
      dsimp only at l0 l1 l2 l3
      unfold shownStep at hsn
      dsimp only at hsn
      by_cases hif : xk = 2 ∧ 0 ≤ xa ∧ xa < 256
      · obtain ⟨rfl, ha0, ha1⟩ := hif
        obtain ⟨m, rfl⟩ : ∃ m : Nat, xa = m := ⟨xa.toNat, by omega⟩
        have hd1 : decide ((m : Int) ≥ 0) = true := by simp
        have hd2 : decide ((m : Int) < 256) = true := by simp; omega
        rw [if_pos (by omega)] at hsn
        have hof := fun w => Bitmap1_any xb w
        replace hof := Lib.hid hof
        replace hsn := Lib.hid hsn
        clear hc'
        go_wp2
        refine name_wp ?_
        intro w3 hw3
        have hA3 : Arr w3 g 5 (nums out) := by rw [hw3]; exact A.out.alloc _
        have hE3 : Arr w3 wr.heap.size 39 [.int .i64 xt, .int .i64 2, .int .i64 (m : Int), .int .i64 xb] := by rw [hw3]; exact Arr.new rfl rfl
        have hB3 : Below w.heap.size w w3 := by rw [hw3]; exact BW.out.alloc (by omega) _
        have e2 := hE3.cell (j := 2) rfl
        have e3 := hE3.cell (j := 3) rfl
        have hfree := hA3.free m
        have hex : w3.cell? ⟨g, m, none⟩ = some (.int .u8 (out.getD m 0 : Nat)) := hA3.cell (nums_at (by omega))
        replace hln := Lib.hid hln
        clear hw3 hE3
        generalize wr.heap.size = be at *
        go_still_tail 8, (by kernel_rfl)
        still_call (hof.out _)
        repeat still_step
        refine wpStill_nil ?_
        go_wp2_with (fail)
        go_roundw
        case measure => simp [intOf]; omega
        case rel =>
          refine ⟨k + 1, by omega, by go_num, ?_, ?_⟩
          · exact (hB3.drew).setCell (p := ⟨g, m, none⟩) hgw _
          · rw [hsn.out, ← nums_set]
            exact (hA3.drew).set m _
      · rw [if_neg (by omega)] at hsn
        clear hc'
        replace hsn := Lib.hid hsn
        have hcases : (xk == 2) = false ∨ ((xk == 2) = true ∧ decide (xa ≥ 0) = false) ∨ ((xk == 2) = true ∧ decide (xa ≥ 0) = true ∧ decide (xa < 256) = false) := by
          simp only [beq_eq_false_iff_ne, beq_iff_eq, decide_eq_false_iff_not, decide_eq_true_eq]; omega
        have hB3 : Below w.heap.size w (wr.alloc (.cells #[.int .i64 xt, .int .i64 xk, .int .i64 xa, .int .i64 xb] 39)) := BW.out.alloc (by omega) _
        have hA3 : Arr (wr.alloc (.cells #[.int .i64 xt, .int .i64 xk, .int .i64 xa, .int .i64 xb] 39)) g 5 (nums out) := A.out.alloc _
        replace hB3 := Lib.hid hB3
        replace hA3 := Lib.hid hA3
        clear hif
        rcases hcases with h1 | ⟨h1, h2⟩ | ⟨h1, h2, h3⟩
        all_goals
          go_wp2
          go_roundw
          case measure => simp [intOf]; omega
          case rel => exact ⟨k + 1, by omega, by go_num, hB3.out, (by rw [hsn.out]; exact hA3.out)⟩
    · obtain rfl : k = l.length := by omega
      have hd : decide ((l.length : Int) < (l.length : Int)) = false := by simp
      clear hc'
      rw [List.take_length] at A
      have hlen := shownL_len 2 48 256 ofP l
      have hlt256 : ∀ v ∈ shownL 2 48 256 ofP l, v < 256 := shownL_lt _ _ _ _ (by omega) ofP_lt l
      obtain ⟨out, hout⟩ : ∃ out, shownL 2 48 256 ofP l = out := ⟨_, rfl⟩
      rw [hout] at A hlen hlt256
      replace hout := Lib.hid hout
      have hcv := run_convert_bytes_arg (P := Tryz.prog) wr 41 5 Tryz.underlying41 Tryz.underlying5 g 0 256 256 (out.map fun n : Nat => (n : Int)) (by simp [hlen]) (fun j hj => by
        rw [Nat.zero_add]
        refine A.out.cell ?_
        rw [nums_at (by omega)]
        simp [List.getD_eq_getElem?_getD]
        cases out[j]? <;> rfl) 9 Tryz.underlying9
      rw [strOfNums_nums] at hcv
      have hB3 := BW.out
      replace hB3 := Lib.hid hB3
      replace hlen := Lib.hid hlen
      clear A BW
      go_wp2
      go_ret
      exact ⟨by rw [hout.out]; rfl, hB3.out⟩

set_option maxHeartbeats 1000000 in
theorem Screen_any (v : Value) (l : List Ev) (w : World) (hv : SliceAt w w.heap.size v l.length (evCells l)) :
    Calls Tryz.prog 21 #[v] w fun e w' => e = .returned (.string (str (bytesOf (screenL l)))) ∧ Below w.heap.size w w' := by
  have h := shownS_any v l w hv
  rw [show shownL 1 32 80 ofS l = screenL l from rfl] at h
  obtain ⟨a, c, rfl, _⟩ := hv
  replace h := Lib.hid h
  go_enter Tryz.func21, Tryz.ntmps21
  go_wp2_with (go_at_call 41; refine h.out.mono ?_; rintro e w1 ⟨rfl, hb1⟩)
  go_ret
  exact ⟨rfl, hb1⟩
set_option maxHeartbeats 1000000 in
theorem Bitmap_any (v : Value) (l : List Ev) (w : World) (hv : SliceAt w w.heap.size v l.length (evCells l)) :
    Calls Tryz.prog 24 #[v] w fun e w' => e = .returned (.string (str (bytesOf (bitmapL l)))) ∧ Below w.heap.size w w' := by
  have h := shownP_any v l w hv
  rw [show shownL 2 48 256 ofP l = bitmapL l from rfl] at h
  obtain ⟨a, c, rfl, _⟩ := hv
  replace h := Lib.hid h
  go_enter Tryz.func24, Tryz.ntmps24
  go_wp2_with (go_at_call 41; refine h.out.mono ?_; rintro e w1 ⟨rfl, hb1⟩)
  go_ret
  exact ⟨rfl, hb1⟩
end Go.Proofs.YtkgbknjpnhoadaaGreatDoor
