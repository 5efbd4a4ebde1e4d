/-
  The contract of evergreenref16.Draw where a sample can be drawn.
-/
import Derived.Test.YtllofogjojlamaaDoorRd5
import Derived.Test.YtllofogjojlamaaDoorRdM
import Derived.Test.YtllofogjojlamaaDoorRd4
namespace Go.Proofs.YtllofogjojlamaaDoor
open Go.RowKit Go.Shelf

def wthn (n lo hi : Int) : Bool := decide (lo ≤ n) && decide (n ≤ hi)
set_option maxHeartbeats 400000 in
theorem wthn_any (n lo hi : Int) (w : World) :
    Calls Tryd.prog 20 #[.int .i64 n, .int .i64 lo, .int .i64 hi] w fun e w' => e = .returned (.bool (wthn n lo hi)) ∧ w' = w := by
  by_cases h1 : lo ≤ n
  · have e1 : decide (lo ≤ n) = true := by simpa using h1
    have hv : Hid (wthn n lo hi = decide (n ≤ hi)) := by show _ = _; simp [wthn, h1]
    go_enter Tryd.func20, Tryd.ntmps20
    go_wp2
    go_ret
    exact ⟨ret_bool hv.out.symm, rfl⟩
  · have e1 : decide (lo ≤ n) = false := by simpa using h1
    have hv : Hid (wthn n lo hi = false) := by show _ = _; simp [wthn, h1]
    go_enter Tryd.func20, Tryd.ntmps20
    go_wp2
    go_ret
    exact ⟨ret_bool hv.out.symm, rfl⟩

theorem colRow_le (l : List Int) (v : Int) (i : Nat) : (colRow l v i).length ≤ i := by
  unfold colRow
  exact Nat.le_trans (List.length_filter_le _ _) (List.length_take_le _ _)
theorem colTo_le (l : List Int) (v : Nat) : (colTo l v).length ≤ v * l.length := by
  induction v with
  | zero => simp [colTo]
  | succ v ih =>
    rw [colTo, List.length_append, Nat.add_mul, Nat.one_mul]
    exact Nat.add_le_add ih (colRow_le _ _ _)
theorem ints_snoc (l : List Int) (x : Int) : ints l ++ [.int .i64 x] = ints (l ++ [x]) := by simp [ints]
theorem ints_len (l : List Int) : (ints l).length = l.length := by simp [ints]
def upN (k : Nat) : List Int := (List.range k).map fun i : Nat => (i : Int)
theorem upN_succ (k : Nat) : upN (k + 1) = upN k ++ [(k : Int)] := by simp [upN, List.range_succ]

set_option maxRecDepth 100000 in
set_option maxHeartbeats 4000000 in
theorem refDraw_yes (s : ByteArray) (n k : Nat) (w : World) (hs : s.size ≤ 1000) (h1 : 1 ≤ n) (hn : n ≤ 24) (hk : k ≤ n) :
    Calls Tryd.prog 7 #[.string s, .int .i64 n, .int .i64 k] w fun e w' => ∃ v, e = .returned (.tuple #[v, .int .i64 0]) ∧ IntsAt w' v (drawn s n k) ∧ Below w.heap.size w w' := by
  have hB : Below w.heap.size w w := Below.refl _ _
  obtain ⟨i0, hi, hz0, hz1, hz2⟩ := info_parts Tryd.info_int
  have a1 := wthn_any n 1 24
  have a2 := wthn_any k 0 n
  rw [show wthn n 1 24 = true by simp [wthn]; omega] at a1
  rw [show wthn k 0 n = true by simp [wthn]; omega] at a2
  replace a1 := Lib.hid a1
  replace a2 := Lib.hid a2
  have hd1 : decide ((1000 : Int) < (s.size : Int)) = false := by simp; omega
  have hd2 : decide (1000 < s.size) = false := by simp; omega
  have hO : w.ownsRow w.heap.size 3 1 (.slice none 0 0) 0 (ints (upN 0)) := World.ownsRow_nil _ _ _ _
  go_enter Tryd.func7, Tryd.ntmps7
  go_wp2_with fail
  refine (a1.out _).mono ?_; rintro e w1 ⟨rfl, rfl⟩
  go_wp2_with fail
  refine (a2.out _).mono ?_; rintro e w1 ⟨rfl, rfl⟩
  go_wp2_with fail
  clear a1 a2 hd1 hd2
  go_loopw [8, 9] (fun l i wr => ∃ a : Nat, a ≤ n ∧ i = .int .i64 a ∧ Below w1.heap.size w1 wr ∧ wr.ownsRow w1.heap.size 3 1 l a (ints (upN a))) (fun _ i _ => n - (intOf i).toNat)
  case atStart => exact ⟨0, by omega, rfl, hB, hO⟩
  case round =>
    clear hB hO
    obtain ⟨a, ha, rfl, hBr, hOr⟩ := hrel
    have hz := hBr.size
    by_cases hlt : a < n
    · have hd : decide ((a : Int) < (n : Int)) = true := by simp; omega
      go_wp2_with (at_builtin; refine wpList_append_own _ rfl _ _ 26 rfl w1.heap.size 3 i0 (.int .i64 0) 1 8 Tryd.underlying26 hi hz0 hz1 hz2 rfl (by decide) _ _ _ rfl (hOr.alloc _) ⟨wr.heap.size, 0, none⟩ 1 1 [.int .i64 a] rfl rfl (cell_one_new _ _ _) (by simp [Value.oneCell']) (by unfold maxLen; omega) (by omega) (by simp; omega) ?_; intro v2 w2 hO2 hg2 _)
      have hB2 : Below w1.heap.size w1 w2 := (hBr.alloc hz _).grown hg2 (by simp; omega) (fun r e => (hOr.lt r e).1)
      rw [ints_snoc, ← upN_succ] at hO2
      exact ⟨⟨a + 1, by omega, by go_num, hB2, hO2⟩, by simp [intOf]; omega⟩
    · have hd : decide ((a : Int) < (n : Int)) = false := by simp; omega
      obtain rfl : a = n := by omega
      obtain ⟨g, hg, hL⟩ := buf_of_own (n := a - 1) (own_len hOr (by omega))
      obtain ⟨cap, hv, hc1, hc2⟩ := hL.val
      rw [ints_len, show (upN a).length = a by simp [upN]] at hv hc1
      subst hv
      replace hL : Buf wr g 3 (.slice (some ⟨g, 0, none⟩) a cap) (ints (drawTo s a 0)) := hL
      clear hOr hd hlt ha hz
      go_wp2
      go_loopw [10] (fun i wr => ∃ b : Nat, b ≤ k ∧ i = .int .i64 b ∧ Below w1.heap.size w1 wr ∧ Buf wr g 3 (.slice (some ⟨g, 0, none⟩) a cap) (ints (drawTo s a b))) (fun i _ => k - (intOf i).toNat)
      case atStart => exact ⟨0, by omega, rfl, hBr, hL⟩
      case round =>
        clear hBr hL
        obtain ⟨b, hb, rfl, hBr, hL⟩ := hrel
        by_cases hlt : b < k
        · have hda : decide ((b : Int) < (k : Int)) = true := by simp; omega
          have hcv := run_convert_bytes_arg (P := Tryd.prog) (wr.alloc (.cells #[.int .u8 b] 5)) 45 5 Tryd.underlying45 Tryd.underlying5 wr.heap.size 0 1 1 [(b : Int)] rfl (fun j hj => by
            obtain rfl : j = 0 := by omega
            exact (Mine.new rfl).cell) 9 Tryd.underlying9
          have hle : s.size + (strOfNums [(b : Int)]).size ≤ 9223372036854775807 := by rw [strOfNums_size]; simp; omega
          have hsd : Hid (s ++ strOfNums [(b : Int)] = seedAt s b) := by show _ = _; rfl
          have hsz : (seedAt s b).size ≤ 2000 := by
            rw [← hsd.out, ByteArray.size_append, strOfNums_size]; simp; omega
          have hnext : Hid (drawTo s a (b + 1) = swapAt (drawTo s a b) b (b + xOf s b % (a - b))) := by show _ = _; rfl
          have hx : Hid (xOf s b = numOf ((shaSum (seedAt s b)).data.toList.take 6)) := by show _ = _; rfl
          have hSs := shaSum_size (seedAt s b)
          go_wp2_with fail
          rw [hsd.out]
          refine (refSum_any (seedAt s b) _ hsz).mono ?_
          rintro e w6 ⟨rfl, hb6⟩
          have hB6 := (hBr.alloc hBr.size (.cells #[.int .u8 b] 5)).trans (hb6.mono (by simp; have := hBr.size; omega))
          have hL6 := (hL.alloc (.cells #[.int .u8 b] 5)).below hb6
          clear hBr hL hb6 hcv hle hsz hsd
          generalize shaSum (seedAt s b) = S at *
          replace hSs := Lib.hid hSs
          go_wp2_with fail
          go_loop [12, 13] (fun x i => ∃ j : Nat, j ≤ 6 ∧ i = .int .i64 j ∧ x = .int .i64 (numOf (S.data.toList.take j) : Nat)) (fun _ i => 6 - (intOf i).toNat)
          case atStart => exact ⟨0, by omega, rfl, rfl⟩
          case round =>
            obtain ⟨j, hj, rfl, rfl⟩ := hrel
            by_cases hlt6 : j < 6
            · have hdj : decide ((j : Int) < 6) = true := by simp; omega
              have hjS : j < S.size := by rw [hSs.out]; omega
              have hN := numOf_lt (S.data.toList.take j)
              have hN2 : 256 ^ (S.data.toList.take j).length ≤ 256 ^ 5 := Nat.pow_le_pow_right (by omega) (by have := List.length_take_le j S.data.toList; omega)
              have hN3 : numOf (S.data.toList.take j) < 1099511627776 := by omega
              have hstep : Hid (numOf (S.data.toList.take (j + 1)) = 256 * numOf (S.data.toList.take j) + S[j].toNat) := by
                show _ = _
                rw [List.take_succ_eq_append_getElem (by simpa using hjS), numOf_snoc]
                rfl
              have hcB := S[j].toNat_lt
              clear hN hN2
              generalize numOf (S.data.toList.take j) = N at *
              go_wp2
              exact ⟨⟨j + 1, by omega, by go_num, by rw [hstep.out]; rfl⟩, by simp [intOf]; omega⟩
            · have hdj : decide ((j : Int) < 6) = false := by simp; omega
              obtain rfl : j = 6 := by omega
              rw [← hx.out]
              generalize xOf s b = x at *
              clear hx hdj hlt6 hj hSs
              have hq : (x : Int) % ((a : Int) - (b : Int)) = ((x % (a - b) : Nat) : Int) := by
                rw [show (a : Int) - (b : Int) = ((a - b : Nat) : Int) from by omega]; rfl
              have hqn : x % (a - b) < a - b := Nat.mod_lt _ (by omega)
              have hq0 : (0 : Int) ≤ (x : Int) % ((a : Int) - (b : Int)) := by omega
              have hq1 : (x : Int) % ((a : Int) - (b : Int)) < (a : Int) - (b : Int) := by omega
              replace hq := Lib.hid hq
              rw [show ((6 : Nat) : Int) = 6 from rfl]
              go_wp2_with fail
              rw [hq.out]
              clear hq hq0 hq1
              generalize x % (a - b) = q at *
              rw [show (b : Int) + (q : Int) = ((b + q : Nat) : Int) from by omega]
              obtain ⟨j, hj⟩ : ∃ j, j = b + q := ⟨_, rfl⟩
              rw [← hj] at hnext ⊢
              have hja : b ≤ j := by omega
              have hjn : j < a := by omega
              have han : b < a := by omega
              clear hj hqn
              have hl := drawTo_len s a b
              have hil : (ints (drawTo s a b)).length = a := by rw [ints_len, hl]
              have ca := hL6.cell (ints_at (by rw [hl]; exact han) : (ints (drawTo s a b))[b]? = _)
              have cj := hL6.cell (ints_at (by rw [hl]; exact hjn) : (ints (drawTo s a b))[j]? = _)
              have fa := hL6.free (j := b) (by rw [hil]; exact han)
              have fj := hL6.free (j := j) (by rw [hil]; exact hjn)
              have hgw : w1.heap.size ≤ g := hg
              have hbs := (hL6.set (j := b) (.int .i64 ((drawTo s a b).getD j 0))).set (j := j) (.int .i64 ((drawTo s a b).getD b 0))
              have hBs : Below w1.heap.size w1 ((w6.setCell ⟨g, b, none⟩ (.int .i64 ((drawTo s a b).getD j 0))).setCell ⟨g, j, none⟩ (.int .i64 ((drawTo s a b).getD b 0))) := (hB6.setCell (p := ⟨g, b, none⟩) hgw _).setCell (p := ⟨g, j, none⟩) hgw _
              rw [← ints_swap, ← hnext.out] at hbs
              clear hl hil
              replace hbs := Lib.hid hbs
              replace hBs := Lib.hid hBs
              clear hnext hL6 hB6
              generalize (drawTo s a b).getD b 0 = va at *
              generalize (drawTo s a b).getD j 0 = vj at *
              by_cases haj : j = b
              · subst haj
                obtain rfl : va = vj := by
                  have e := ca.symm.trans cj
                  injection e with e; injection e
                go_region
                go_wp2
                go_roundw
                case rel => exact ⟨j + 1, by omega, by go_num, hBs.out.drew, hbs.out.drew⟩
                case measure => simp [intOf]; omega
              · have haj' : ¬ b = j := fun e => haj e.symm
                go_region
                go_wp2
                go_roundw
                case rel => exact ⟨b + 1, by omega, by go_num, hBs.out.drew, hbs.out.drew⟩
                case measure => simp [intOf]; omega
        · have hda : decide ((b : Int) < (k : Int)) = false := by simp; omega
          obtain rfl : b = k := by omega
          clear hda hlt hb
          have hl := drawTo_len s a b
          have hg2 := hL.lt
          obtain ⟨W0, rfl⟩ : ∃ W0, W0 = wr := ⟨_, rfl⟩
          obtain ⟨C, hC⟩ : ∃ C, C = W0.heap.size := ⟨_, rfl⟩
          have hLk : ((drawTo s a b).take b).length = b := by rw [List.length_take, hl]; omega
          have hcell : ∀ j, j < b → W0.cell? ⟨g, j, none⟩ = some (.int .i64 (((drawTo s a b).take b).getD j 0)) := fun j hj => by
            have := hL.cell (ints_at (by rw [hl]; omega) : (ints (drawTo s a b))[j]? = _)
            rw [this]
            simp [List.getD_eq_getElem?_getD, hj]
          have hdr := colTo_drawn s hk
          have hB0 : Below C W0 W0 := Below.refl _ _
          have hCz : C ≤ W0.heap.size := by omega
          have hgC : g < C := by omega
          have hwC : w1.heap.size ≤ C := by have := hBr.size; omega
          clear hL hl hC
          generalize (drawTo s a b).take b = L at *
          replace hcell := Lib.hid hcell
          replace hdr := Lib.hid hdr
          have hO0 : W0.ownsRow C 3 1 (.slice none 0 0) (colTo L 0).length (ints (colTo L 0)) := World.ownsRow_nil _ _ _ _
          go_wp2
          go_loopw [15, 16] (fun o i wr => ∃ v : Nat, v ≤ a ∧ i = .int .i64 v ∧ Below C W0 wr ∧ wr.ownsRow C 3 1 o (colTo L v).length (ints (colTo L v))) (fun _ i _ => a - (intOf i).toNat)
          case atStart => exact ⟨0, by omega, rfl, hB0, hO0⟩
          case round =>
            clear hB0 hO0
            obtain ⟨v, hv, rfl, hBx, hOx⟩ := hrel
            by_cases hlt : v < a
            · have hd : decide ((v : Int) < (a : Int)) = true := by simp; omega
              have hO1 : wr.ownsRow C 3 1 u15 (colTo L v ++ colRow L v 0).length (ints (colTo L v ++ colRow L v 0)) := by rw [colRow_zero, List.append_nil]; exact hOx
              have hcl := colTo_le L v
              have hcl2 : v * L.length ≤ 24 * 24 := Nat.mul_le_mul (by omega) (by omega)
              have hCL : (colTo L v).length ≤ 576 := by omega
              clear hcl hcl2 hOx
              go_wp2
              go_loopw [15, 17] (fun o i wr => ∃ c : Nat, c ≤ b ∧ i = .int .i64 c ∧ Below C W0 wr ∧ wr.ownsRow C 3 1 o (colTo L v ++ colRow L v c).length (ints (colTo L v ++ colRow L v c))) (fun _ i _ => b - (intOf i).toNat)
              case atStart => exact ⟨0, by omega, rfl, hBx, hO1⟩
              case round =>
                clear hBx hO1
                obtain ⟨c, hc, rfl, hBx, hOx⟩ := hrel
                have hz := Nat.le_trans hCz hBx.size
                by_cases hltc : c < b
                · have hdc : decide ((c : Int) < (b : Int)) = true := by simp; omega
                  have c0 := (hBx.cell (p := ⟨g, c, none⟩) hgC).trans (hcell.out c hltc)
                  have hcr := colRow_succ (l := L) (v := (v : Int)) (i := c) (by omega)
                  have hrl := colRow_le L v c
                  have s1 : (0 : Int) ≤ (c : Int) := by omega
                  have s2 : (c : Int) < (a : Int) := by omega
                  by_cases hxv : L.getD c 0 = v
                  · rw [if_pos hxv] at hcr
                    rw [hxv] at c0
                    clear hxv
                    have hlen : (colTo L v ++ colRow L v c).length ≤ 600 := by rw [List.length_append]; omega
                    have e1 : ints (colTo L v ++ colRow L v c) ++ [.int .i64 (v : Int)] = ints (colTo L v ++ colRow L v (c + 1)) := by rw [hcr, ints_snoc, List.append_assoc]
                    have e2 : (colTo L v ++ colRow L v c).length + 1 = (colTo L v ++ colRow L v (c + 1)).length := by rw [hcr]; simp; omega
                    clear hrl
                    generalize (colTo L v ++ colRow L v c).length = z at *
                    replace e1 := Lib.hid e1
                    replace e2 := Lib.hid e2
                    replace hcr := Lib.hid hcr
                    go_wp2_with (at_builtin; refine wpList_append_own _ rfl _ _ 26 rfl C 3 i0 (.int .i64 0) 1 8 Tryd.underlying26 hi hz0 hz1 hz2 rfl (by decide) _ _ _ rfl (hOx.alloc _) ⟨wr.heap.size, 0, none⟩ 1 1 [.int .i64 v] rfl rfl (cell_one_new _ _ _) (by simp [Value.oneCell']) (by unfold maxLen; omega) (by omega) (by simp; omega) ?_; intro v2 w2 hO2 hg2 _)
                    have hB2 : Below C W0 w2 := (hBx.alloc hz _).grown hg2 (by simp; omega) (fun r e => (hOx.lt r e).1)
                    rw [e1.out, e2.out] at hO2
                    exact ⟨⟨c + 1, by omega, by go_num, hB2, hO2⟩, by simp [intOf]; omega⟩
                  · rw [if_neg hxv] at hcr
                    have hne : ((L.getD c 0 == (v : Int)) : Bool) = false := by simpa using hxv
                    rw [← hcr] at hOx
                    clear hxv hrl
                    generalize L.getD c 0 = x at *
                    replace hcr := Lib.hid hcr
                    go_wp2
                    exact ⟨⟨c + 1, by omega, by go_num, hBx, hOx⟩, by simp [intOf]; omega⟩
                · have hdc : decide ((c : Int) < (b : Int)) = false := by simp; omega
                  obtain rfl : c = b := by omega
                  have e1 : colTo L v ++ colRow L v c = colTo L (v + 1) := by rw [colTo, hLk]
                  rw [e1] at hOx
                  go_wp2
                  exact ⟨⟨v + 1, by omega, by go_num, hBx, hOx⟩, by simp [intOf]; omega⟩
            · have hd : decide ((v : Int) < (a : Int)) = false := by simp; omega
              obtain rfl : v = a := by omega
              rw [hdr.out] at hOx
              go_wp2
              go_ret2
              exact ⟨_, rfl, IntsAt.of_own hOx rfl, hBr.trans (hBx.mono hwC)⟩
end Go.Proofs.YtllofogjojlamaaDoor
