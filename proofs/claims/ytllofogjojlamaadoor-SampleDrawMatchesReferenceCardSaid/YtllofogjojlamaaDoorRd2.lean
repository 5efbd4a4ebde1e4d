/-
  The contract of evergreenref02.extended; rows of the call's own.
-/
import Derived.Test.YtllofogjojlamaaDoorRd1
import Derived.Test.YtllofogjojlamaaDoorSha7
import Derived.Maps.AppendAt
import Derived.RangeFuncBox
import Derived.StillTailTactics
namespace Go.Proofs.YtllofogjojlamaaDoor
open Go.RowKit

theorem own_below {w w' : World} {B n s : Nat} {e : TypeId} {v : Value} {xs : List Value} (h : w.ownsRow B e s v n xs) (hb : Below w.heap.size w w') : w'.ownsRow B e s v n xs := by
  obtain ⟨hl, h⟩ := h
  refine ⟨hl, ?_⟩
  rcases h with h | ⟨g, cap, cur, hv, hB, hg, r⟩
  · exact .inl h
  · exact .inr ⟨g, cap, cur, hv, hB, (hb.block g (Array.getElem?_eq_some_iff.1 hg).1).trans hg, r⟩
theorem own_cell {w : World} {B n : Nat} {e : TypeId} {v : Value} {xs : List Value} (h : w.ownsRow B e 1 v n xs) {j : Nat} {u : Value} (hu : xs[j]? = some u) :
    ∃ g cap, v = .slice (some ⟨g, 0, none⟩) n cap ∧ B ≤ g ∧ w.cell? ⟨g, j, none⟩ = some u := by
  obtain ⟨hl, h⟩ := h
  have hj := (List.getElem?_eq_some_iff.1 hu).1
  rcases h with ⟨_, rfl⟩ | ⟨g, cap, cur, hv, hB, hg, h1, h2, h3, h4⟩
  · omega
  · refine ⟨g, cap, hv, hB, ?_⟩
    rw [cell_of_row w g j cur e (0, 0) hg]
    rw [← h4, List.getElem?_take] at hu
    split at hu
    · simpa using hu
    · cases hu
theorem own_cells {w : World} {B n : Nat} {e : TypeId} {v : Value} {xs : List Value} (h : w.ownsRow B e 1 v (n + 1) xs) :
    ∃ g cap, v = .slice (some ⟨g, 0, none⟩) (n + 1) cap ∧ B ≤ g ∧ n + 1 ≤ cap ∧ cap ≤ maxLen ∧ g < w.heap.size ∧ ∀ j u, xs[j]? = some u → w.cell? ⟨g, j, none⟩ = some u ∧ w.frozen? ⟨g, j, none⟩ = false := by
  obtain ⟨hl, h⟩ := h
  rcases h with ⟨_, h⟩ | ⟨g, cap, cur, hv, hB, hg, h1, h2, h3, h4⟩
  · omega
  · refine ⟨g, cap, hv, hB, h1, h2, (Array.getElem?_eq_some_iff.1 hg).1, fun j u hu => ⟨?_, frozen_of_row w g j cur e hg⟩⟩
    rw [cell_of_row w g j cur e (0, 0) hg]
    rw [← h4, List.getElem?_take] at hu
    split at hu
    · simpa using hu
    · cases hu
theorem own_slice {w : World} {B n s : Nat} {e : TypeId} {v : Value} {xs : List Value} (h : w.ownsRow B e s v n xs) (hn : 0 < n) : ∃ g cap, v = .slice (some ⟨g, 0, none⟩) n cap := by
  rcases h.2 with ⟨_, h0⟩ | ⟨g, cap, _, hv, _⟩
  · omega
  · exact ⟨g, cap, hv⟩
theorem own_len {w : World} {B n m s : Nat} {e : TypeId} {v : Value} {xs : List Value} (h : w.ownsRow B e s v n xs) (hn : n = m) : w.ownsRow B e s v m xs := hn ▸ h
theorem own_last {w : World} {B n : Nat} {e : TypeId} {v : Value} {xs : List Value} {a b : Int} (h : w.ownsRow B e 1 v n (xs ++ [.int .u8 a])) (hab : a = b) : w.ownsRow B e 1 v n (xs ++ [.int .u8 b]) := hab ▸ h
theorem u32s_snoc (l : List Int) (x : Int) : u32s l ++ [.int .u32 x] = u32s (l ++ [x]) := by simp [u32s]
theorem strBytes_take (s : ByteArray) (k : Nat) (h : k < s.size) : (strBytes s).take (k + 1) = (strBytes s).take k ++ [(s[k].toNat : Int)] := by
  unfold strBytes
  rw [List.take_succ_eq_append_getElem (by simpa using h)]
  simp
  rfl
theorem strBytes_all (s : ByteArray) : (strBytes s).take s.size = strBytes s := List.take_of_length_le (by rw [strBytes_len]; exact Nat.le_refl _)

set_option maxRecDepth 100000 in
set_option maxHeartbeats 2000000 in
theorem extended_any (s : ByteArray) (w : World) (hs : s.size ≤ 2000) :
    Calls Tryd.prog 38 #[.string s] w fun e w' => ∃ v, e = .returned v ∧ w'.ownsRow w.heap.size 5 1 v (64 * ((s.size + 8) / 64 + 1)) (u8s (padded s)) ∧ Below w.heap.size w w' := by
  have hB : Below w.heap.size w w := Below.refl _ _
  obtain ⟨i0, hi, hz0, hz1, hz2⟩ := info_parts Tryd.info_u8
  have hO : w.ownsRow w.heap.size 5 1 (.slice none 0 0) 0 (u8s ((strBytes s).take 0)) := World.ownsRow_nil _ _ _ _
  go_enter Tryd.func38, Tryd.ntmps38
  go_wp2
  go_loopw [3, 4] (fun b i wr => ∃ k : Nat, k ≤ s.size ∧ i = .int .i64 k ∧ Below w.heap.size w wr ∧ wr.ownsRow w.heap.size 5 1 b k (u8s ((strBytes s).take k))) (fun _ i _ => s.size - (intOf i).toNat)
  case atStart => exact ⟨0, by omega, rfl, hB, hO⟩
  case round =>
    clear hB hO
    obtain ⟨k, hk, rfl, hBr, hOr⟩ := hrel
    by_cases hlt : k < s.size
    · have hd : decide ((k : Int) < (s.size : Int)) = true := by simp; omega
      have hst := strBytes_take s k hlt
      replace hst := Lib.hid hst
      have hz := hBr.size
      go_wp2_with (at_builtin; refine wpList_append_own _ rfl _ _ 45 rfl w.heap.size 5 i0 (.int .u8 0) 1 1 Tryd.underlying45 hi hz0 hz1 hz2 rfl (by decide) _ _ _ rfl (hOr.alloc _) ⟨wr.heap.size, 0, none⟩ 1 1 [.int .u8 (s[k].toNat : Int)] rfl rfl (cell_one_new _ _ _) (by simp [Value.oneCell']) (by unfold maxLen; omega) (by omega) (by simp; omega) ?_; intro v1 w1 hO1 hg1 _)
      have hB1 : Below w.heap.size w w1 := (hBr.alloc hz _).grown hg1 (by simp; omega) (fun r e => (hOr.lt r e).1)
      rw [show u8s ((strBytes s).take k) ++ [.int .u8 (s[k].toNat : Int)] = u8s ((strBytes s).take (k + 1)) by rw [hst.out, u8s_snoc]] at hO1
      clear hOr hBr hg1
      exact ⟨⟨k + 1, by omega, by go_num, hB1, hO1⟩, by simp [intOf]; omega⟩
    · have hd : decide ((k : Int) < (s.size : Int)) = false := by simp; omega
      obtain rfl : k = s.size := by omega
      rw [strBytes_all] at hOr
      have hz := hBr.size
      go_wp2_with (at_builtin; refine wpList_append_own _ rfl _ _ 45 rfl w.heap.size 5 i0 (.int .u8 0) 1 1 Tryd.underlying45 hi hz0 hz1 hz2 rfl (by decide) _ _ _ rfl (hOr.alloc _) ⟨wr.heap.size, 0, none⟩ 1 1 [.int .u8 128] rfl rfl (cell_one_new _ _ _) (by simp [Value.oneCell']) (by unfold maxLen; omega) (by omega) (by simp; omega) ?_; intro v1 w1 hO1 hg1 _)
      have hB1 : Below w.heap.size w w1 := (hBr.alloc hz _).grown hg1 (by simp; omega) (fun r e => (hOr.lt r e).1)
      have e1 : u8s (strBytes s) ++ [.int .u8 128] = u8s (padTo s 0 0) := by simp [padTo, u8s]
      rw [e1] at hO1
      clear hOr hBr hg1 e1
      replace hO1 := own_len (m := s.size + 1 + 0) hO1 rfl
      go_loopw [3] (fun b wr => ∃ k : Nat, k ≤ zerosTo s.size ∧ Below w.heap.size w wr ∧ wr.ownsRow w.heap.size 5 1 b (s.size + 1 + k) (u8s (padTo s k 0))) (fun b _ => 3000 - lenV b)
      case atStart => exact ⟨0, by omega, hB1, hO1⟩
      case round =>
        clear hB1 hO1 hz hd hlt hk
        obtain ⟨k, hk, hBr, hOr⟩ := hrel
        have hz := hBr.size
        have hzl : zerosTo s.size < 64 := by unfold zerosTo; omega
        have hzv : zerosTo s.size = (119 - s.size % 64) % 64 := rfl
        obtain ⟨L, hL⟩ : ∃ L, L = s.size + 1 + k := ⟨_, rfl⟩
        rw [← hL] at hOr
        obtain ⟨g, cap, rfl⟩ := own_slice hOr (by omega)
        by_cases hlt : k < zerosTo s.size
        · have hd : ((L : Int) % 64 != 56) = true := by rw [bne_iff_ne]; omega
          have hLb : L ≤ 2100 := by omega
          replace hL := Lib.hid hL
          replace hzv := Lib.hid hzv
          go_wp2_with (at_builtin; refine wpList_append_own _ rfl _ _ 45 rfl w.heap.size 5 i0 (.int .u8 0) 1 1 Tryd.underlying45 hi hz0 hz1 hz2 rfl (by decide) _ _ _ rfl (hOr.alloc _) ⟨wr.heap.size, 0, none⟩ 1 1 [.int .u8 0] rfl rfl (cell_one_new _ _ _) (by simp [Value.oneCell']) (by unfold maxLen; omega) (by omega) (by simp; omega) ?_; intro v1 w1 hO1 hg1 _)
          have hB1 : Below w.heap.size w w1 := (hBr.alloc hz _).grown hg1 (by simp; omega) (fun r e => (hOr.lt r e).1)
          rw [u8s_snoc, ← padTo_zero] at hO1
          obtain ⟨g1, cap1, hv1⟩ := own_slice hO1 (by omega)
          subst hv1
          exact ⟨⟨k + 1, by omega, hB1, own_len hO1 (by have := hL.out; omega)⟩, by simp only [lenV]; omega⟩
        · have hd : ((L : Int) % 64 != 56) = false := by
            have : (L : Int) % 64 = 56 := by omega
            simp [this]
          obtain rfl : k = zerosTo s.size := by omega
          replace hL := Lib.hid hL
          replace hzv := Lib.hid hzv
          generalize hze : zerosTo s.size = z at *
          replace hze := Lib.hid hze
          go_wp2
          go_loopw [3, 5] (fun b i wr => ∃ k : Nat, k ≤ 8 ∧ i = .int .i64 (7 - (k : Int)) ∧ Below w.heap.size w wr ∧ wr.ownsRow w.heap.size 5 1 b (L + k) (u8s (padTo s z k))) (fun _ i _ => (intOf i + 1).toNat)
          case atStart => exact ⟨0, by omega, rfl, hBr, hOr⟩
          case round =>
            clear hBr hOr hz hd hlt hk
            obtain ⟨k, hk, rfl, hBr, hOr⟩ := hrel
            have hz := hBr.size
            have hLb : L ≤ 2100 := by have := hL.out; omega
            by_cases hlt : k < 8
            · rcases (show k = 0 ∨ k = 1 ∨ k = 2 ∨ k = 3 ∨ k = 4 ∨ k = 5 ∨ k = 6 ∨ k = 7 by omega) with rfl | rfl | rfl | rfl | rfl | rfl | rfl | rfl
              · go_wp2_with (at_builtin; refine wpList_append_own _ rfl _ _ 45 rfl w.heap.size 5 i0 (.int .u8 0) 1 1 Tryd.underlying45 hi hz0 hz1 hz2 rfl (by decide) _ _ _ rfl (hOr.alloc _) ⟨wr.heap.size, 0, none⟩ 1 1 [.int .u8 _] rfl rfl (cell_one_new _ _ _) (by simp [Value.oneCell']) (by unfold maxLen; omega) (by omega) (by simp; omega) ?_; intro v1 w1 hO1 hg1 _)
                have hB1 : Below w.heap.size w w1 := (hBr.alloc hz _).grown hg1 (by simp; omega) (fun r e => (hOr.lt r e).1)
                exact ⟨⟨0 + 1, by omega, by rfl, hB1, by rw [padTo_succ, ← u8s_snoc]; exact own_last hO1 (by simp only [lenByte, Nat.reduceMul, Nat.reduceSub, Int.reducePow]; omega)⟩, by simp [intOf]⟩
              · go_wp2_with (at_builtin; refine wpList_append_own _ rfl _ _ 45 rfl w.heap.size 5 i0 (.int .u8 0) 1 1 Tryd.underlying45 hi hz0 hz1 hz2 rfl (by decide) _ _ _ rfl (hOr.alloc _) ⟨wr.heap.size, 0, none⟩ 1 1 [.int .u8 _] rfl rfl (cell_one_new _ _ _) (by simp [Value.oneCell']) (by unfold maxLen; omega) (by omega) (by simp; omega) ?_; intro v1 w1 hO1 hg1 _)
                have hB1 : Below w.heap.size w w1 := (hBr.alloc hz _).grown hg1 (by simp; omega) (fun r e => (hOr.lt r e).1)
                exact ⟨⟨1 + 1, by omega, by rfl, hB1, by rw [padTo_succ, ← u8s_snoc]; exact own_last hO1 (by simp only [lenByte, Nat.reduceMul, Nat.reduceSub, Int.reducePow]; omega)⟩, by simp [intOf]⟩
              · go_wp2_with (at_builtin; refine wpList_append_own _ rfl _ _ 45 rfl w.heap.size 5 i0 (.int .u8 0) 1 1 Tryd.underlying45 hi hz0 hz1 hz2 rfl (by decide) _ _ _ rfl (hOr.alloc _) ⟨wr.heap.size, 0, none⟩ 1 1 [.int .u8 _] rfl rfl (cell_one_new _ _ _) (by simp [Value.oneCell']) (by unfold maxLen; omega) (by omega) (by simp; omega) ?_; intro v1 w1 hO1 hg1 _)
                have hB1 : Below w.heap.size w w1 := (hBr.alloc hz _).grown hg1 (by simp; omega) (fun r e => (hOr.lt r e).1)
                exact ⟨⟨2 + 1, by omega, by rfl, hB1, by rw [padTo_succ, ← u8s_snoc]; exact own_last hO1 (by simp only [lenByte, Nat.reduceMul, Nat.reduceSub, Int.reducePow]; omega)⟩, by simp [intOf]⟩
              · go_wp2_with (at_builtin; refine wpList_append_own _ rfl _ _ 45 rfl w.heap.size 5 i0 (.int .u8 0) 1 1 Tryd.underlying45 hi hz0 hz1 hz2 rfl (by decide) _ _ _ rfl (hOr.alloc _) ⟨wr.heap.size, 0, none⟩ 1 1 [.int .u8 _] rfl rfl (cell_one_new _ _ _) (by simp [Value.oneCell']) (by unfold maxLen; omega) (by omega) (by simp; omega) ?_; intro v1 w1 hO1 hg1 _)
                have hB1 : Below w.heap.size w w1 := (hBr.alloc hz _).grown hg1 (by simp; omega) (fun r e => (hOr.lt r e).1)
                exact ⟨⟨3 + 1, by omega, by rfl, hB1, by rw [padTo_succ, ← u8s_snoc]; exact own_last hO1 (by simp only [lenByte, Nat.reduceMul, Nat.reduceSub, Int.reducePow]; omega)⟩, by simp [intOf]⟩
              · go_wp2_with (at_builtin; refine wpList_append_own _ rfl _ _ 45 rfl w.heap.size 5 i0 (.int .u8 0) 1 1 Tryd.underlying45 hi hz0 hz1 hz2 rfl (by decide) _ _ _ rfl (hOr.alloc _) ⟨wr.heap.size, 0, none⟩ 1 1 [.int .u8 _] rfl rfl (cell_one_new _ _ _) (by simp [Value.oneCell']) (by unfold maxLen; omega) (by omega) (by simp; omega) ?_; intro v1 w1 hO1 hg1 _)
                have hB1 : Below w.heap.size w w1 := (hBr.alloc hz _).grown hg1 (by simp; omega) (fun r e => (hOr.lt r e).1)
                exact ⟨⟨4 + 1, by omega, by rfl, hB1, by rw [padTo_succ, ← u8s_snoc]; exact own_last hO1 (by simp only [lenByte, Nat.reduceMul, Nat.reduceSub, Int.reducePow]; omega)⟩, by simp [intOf]⟩
              · go_wp2_with (at_builtin; refine wpList_append_own _ rfl _ _ 45 rfl w.heap.size 5 i0 (.int .u8 0) 1 1 Tryd.underlying45 hi hz0 hz1 hz2 rfl (by decide) _ _ _ rfl (hOr.alloc _) ⟨wr.heap.size, 0, none⟩ 1 1 [.int .u8 _] rfl rfl (cell_one_new _ _ _) (by simp [Value.oneCell']) (by unfold maxLen; omega) (by omega) (by simp; omega) ?_; intro v1 w1 hO1 hg1 _)
                have hB1 : Below w.heap.size w w1 := (hBr.alloc hz _).grown hg1 (by simp; omega) (fun r e => (hOr.lt r e).1)
                exact ⟨⟨5 + 1, by omega, by rfl, hB1, by rw [padTo_succ, ← u8s_snoc]; exact own_last hO1 (by simp only [lenByte, Nat.reduceMul, Nat.reduceSub, Int.reducePow]; omega)⟩, by simp [intOf]⟩
              · go_wp2_with (at_builtin; refine wpList_append_own _ rfl _ _ 45 rfl w.heap.size 5 i0 (.int .u8 0) 1 1 Tryd.underlying45 hi hz0 hz1 hz2 rfl (by decide) _ _ _ rfl (hOr.alloc _) ⟨wr.heap.size, 0, none⟩ 1 1 [.int .u8 _] rfl rfl (cell_one_new _ _ _) (by simp [Value.oneCell']) (by unfold maxLen; omega) (by omega) (by simp; omega) ?_; intro v1 w1 hO1 hg1 _)
                have hB1 : Below w.heap.size w w1 := (hBr.alloc hz _).grown hg1 (by simp; omega) (fun r e => (hOr.lt r e).1)
                exact ⟨⟨6 + 1, by omega, by rfl, hB1, by rw [padTo_succ, ← u8s_snoc]; exact own_last hO1 (by simp only [lenByte, Nat.reduceMul, Nat.reduceSub, Int.reducePow]; omega)⟩, by simp [intOf]⟩
              · go_wp2_with (at_builtin; refine wpList_append_own _ rfl _ _ 45 rfl w.heap.size 5 i0 (.int .u8 0) 1 1 Tryd.underlying45 hi hz0 hz1 hz2 rfl (by decide) _ _ _ rfl (hOr.alloc _) ⟨wr.heap.size, 0, none⟩ 1 1 [.int .u8 _] rfl rfl (cell_one_new _ _ _) (by simp [Value.oneCell']) (by unfold maxLen; omega) (by omega) (by simp; omega) ?_; intro v1 w1 hO1 hg1 _)
                have hB1 : Below w.heap.size w w1 := (hBr.alloc hz _).grown hg1 (by simp; omega) (fun r e => (hOr.lt r e).1)
                exact ⟨⟨7 + 1, by omega, by rfl, hB1, by rw [padTo_succ, ← u8s_snoc]; exact own_last hO1 (by simp only [lenByte, Nat.reduceMul, Nat.reduceSub, Int.reducePow]; omega)⟩, by simp [intOf]⟩
            · obtain rfl : k = 8 := by omega
              have hpad : padTo s z 8 = padded s := by rw [padded, hze.out]
              have hpl := padded_len s
              rw [hpad] at hOr
              have hLM : L + 8 = 64 * ((s.size + 8) / 64 + 1) := by rw [hL.out, ← hpl, ← hpad, padTo_len]
              replace hOr := Lib.hid (own_len hOr hLM)
              clear hpad hpl hLM
              go_wp2
              go_ret
              exact ⟨_, rfl, hOr.out, hBr⟩
end Go.Proofs.YtllofogjojlamaaDoor
