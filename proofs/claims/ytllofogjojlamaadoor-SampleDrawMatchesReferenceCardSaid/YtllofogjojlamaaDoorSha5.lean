/-
  The contract of (digest.words).digest.
-/
import Derived.Test.YtllofogjojlamaaDoorSha3
import Derived.Laws.BytesArg
namespace Go.Proofs.YtllofogjojlamaaDoor
open Go.RowKit

/-- Byte j of the digest. -/
def byteAt (hs : List Int) (j : Nat) : Int := hs.getD (j / 4) 0 / 2 ^ (24 - 8 * (j % 4)) % 256
/-- The bytes of the digest, of which the first m are there. -/
def dTo (hs : List Int) (m : Nat) : List Int := (List.range m).map (byteAt hs) ++ List.replicate (32 - m) 0
theorem dTo_at (hs : List Int) (m : Nat) (hm : m < 32) : (u8s (dTo hs m))[m]? = some (.int .u8 0) := by
  rw [u8s, List.getElem?_map, dTo, List.getElem?_append_right (by simp), List.length_map, List.length_range, Nat.sub_self, List.getElem?_replicate, if_pos (by omega)]
  rfl
theorem dTo_set (hs : List Int) (m : Nat) (hm : m < 32) : (u8s (dTo hs m)).set m (.int .u8 (byteAt hs m)) = u8s (dTo hs (m + 1)) := by
  unfold u8s dTo
  rw [← List.map_set]
  congr 1
  rw [List.set_append_right _ _ (by simp), List.length_map, List.length_range, Nat.sub_self]
  obtain ⟨d, hd⟩ : ∃ d, 32 - m = d + 1 := ⟨31 - m, by omega⟩
  rw [hd, List.replicate_succ, List.set_cons_zero, show 32 - (m + 1) = d from by omega, List.range_succ]
  simp
theorem dTo_full (hs : List Int) : dTo hs 32 = (List.range 32).map (byteAt hs) := by simp [dTo]
theorem dTo_zero (hs : List Int) : dTo hs 0 = List.replicate 32 0 := by simp [dTo]

set_option maxRecDepth 100000 in
set_option maxHeartbeats 1000000 in
theorem digest_any (hs : List Int) (w : World) (hv : V8 hs) :
    Calls Tryd.prog 34 #[.agg (u32s hs).toArray] w fun e w' => e = .returned (.string ⟨(((List.range 32).map (byteAt hs)).map fun x => UInt8.ofNat x.toNat).toArray⟩) ∧ Below w.heap.size w w' := by
  obtain ⟨a, b', c, d, e, f, g, i, hl⟩ := hv.cases
  have hix : ∀ (k : Nat), k < 8 → ∀ w, (Instr.index 61 (.agg (u32s hs).toArray) (.int .i64 k)).run Tryd.prog w = .ok (.int .u32 (hs.getD k 0)) w := fun k hk w => index8 hs k hk hv.1 w
  have hB : Below w.heap.size w w := Below.refl _ _
  generalize hH : hs = H at *
  replace hH := Lib.hid hH
  have hlH := Lib.hid hl
  have e1 : (u32s H).toArray = #[.int .u32 a, .int .u32 b', .int .u32 c, .int .u32 d, .int .u32 e, .int .u32 f, .int .u32 g, .int .u32 i] := by rw [hl]; rfl
  rw [e1]
  rw [e1] at hix
  clear e1 hl
  go_enter Tryd.func34, Tryd.ntmps34
  go_wp2
  refine name_wp ?_
  intro w1 hww1
  have hBzw1 := hB.size
  replace hA : Arr w1 (w.heap.size + 1) 82 (u8s (dTo H 0)) := by rw [hww1]; exact Arr.new (by rw [dTo_zero]; rfl) (by simp)
  replace hB : Below w.heap.size w w1 := by rw [hww1]; exact (by repeat first | with_reducible exact Below.refl _ _ | with_reducible assumption | with_reducible refine below_drewN ?_ _ | with_reducible refine Below.drew ?_ | with_reducible refine Below.setCell ?_ (by first | exact Nat.le_refl _ | (simp; done) | (simp; omega) | omega) _ | with_reducible refine Below.alloc ?_ (by first | exact Nat.le_refl _ | (simp; done) | (simp; omega) | omega) _ | exact Below.refl _ _ | assumption)
  clear hww1 hBzw1
  go_loopw [8] (fun j wr => ∃ n : Nat, n ≤ 8 ∧ j = .int .i64 n ∧ Below w.heap.size w wr ∧ Arr wr (w.heap.size + 1) 82 (u8s (dTo H (4 * n)))) (fun j _ => 8 - (intOf j).toNat)
  case atStart => exact ⟨0, by omega, rfl, hB, hA⟩
  case round =>
    obtain ⟨n, hn, rfl, hBr, hAr⟩ := hrel
    clear hA hB
    by_cases hlt : n < 8
    · have hd : decide ((n : Int) < 8) = true := by simp; omega
      have hi1 := hix n hlt
      have hby : ∀ k, k < 4 → byteAt H (4 * n + k) = H.getD n 0 / 2 ^ (24 - 8 * k) % 256 := fun k hk => by
        unfold byteAt
        rw [show (4 * n + k) / 4 = n from by omega, show (4 * n + k) % 4 = k from by omega]
      generalize H.getD n 0 = x at *
      replace hby := Lib.hid hby
      clear hix
      go_wp2
      clear hi1
      go_loopw [12] (fun j wr => ∃ k : Nat, k ≤ 4 ∧ j = .int .i64 k ∧ Below w.heap.size w wr ∧ Arr wr (w.heap.size + 1) 82 (u8s (dTo H (4 * n + k)))) (fun j _ => 4 - (intOf j).toNat)
      case atStart => exact ⟨0, by omega, rfl, hBr, hAr⟩
      case round =>
        obtain ⟨k, hk, rfl, hBk, hAk⟩ := hrel
        clear hBr hAr
        by_cases hk4 : k < 4
        · have c0 := hAk.cell (dTo_at H (4 * n + k) (by omega))
          have f0 := hAk.free (4 * n + k)
          have hs := hAk.set (4 * n + k) (.int .u8 (byteAt H (4 * n + k)))
          rw [dTo_set H _ (by omega), hby.out k hk4] at hs
          replace hs := Lib.hid hs
          rcases (show k = 0 ∨ k = 1 ∨ k = 2 ∨ k = 3 by omega) with rfl | rfl | rfl | rfl
          · replace hs := hs.out
            simp only [Nat.add_zero] at c0 f0 hs
            replace hs := Lib.hid hs
            rw [show ((0 : Nat) : Int) = 0 from rfl]
            go_wp2
            go_roundw
            case rel => exact ⟨1, by omega, by first | rfl | go_num, (by repeat first | with_reducible exact Below.refl _ _ | with_reducible assumption | with_reducible refine below_drewN ?_ _ | with_reducible refine Below.drew ?_ | with_reducible refine Below.setCell ?_ (by first | exact Nat.le_refl _ | (simp; done) | (simp; omega) | omega) _ | with_reducible refine Below.alloc ?_ (by first | exact Nat.le_refl _ | (simp; done) | (simp; omega) | omega) _ | exact Below.refl _ _ | assumption), by have h9 := hs.out; simpa using h9⟩
            case measure => simp [intOf]
          · go_wp2
            go_roundw
            case rel => exact ⟨2, by omega, by first | rfl | go_num, (by repeat first | with_reducible exact Below.refl _ _ | with_reducible assumption | with_reducible refine below_drewN ?_ _ | with_reducible refine Below.drew ?_ | with_reducible refine Below.setCell ?_ (by first | exact Nat.le_refl _ | (simp; done) | (simp; omega) | omega) _ | with_reducible refine Below.alloc ?_ (by first | exact Nat.le_refl _ | (simp; done) | (simp; omega) | omega) _ | exact Below.refl _ _ | assumption), by have h9 := hs.out; simpa [Nat.add_assoc] using h9⟩
            case measure => simp [intOf]
          · go_wp2
            go_roundw
            case rel => exact ⟨3, by omega, by first | rfl | go_num, (by repeat first | with_reducible exact Below.refl _ _ | with_reducible assumption | with_reducible refine below_drewN ?_ _ | with_reducible refine Below.drew ?_ | with_reducible refine Below.setCell ?_ (by first | exact Nat.le_refl _ | (simp; done) | (simp; omega) | omega) _ | with_reducible refine Below.alloc ?_ (by first | exact Nat.le_refl _ | (simp; done) | (simp; omega) | omega) _ | exact Below.refl _ _ | assumption), by have h9 := hs.out; simpa [Nat.add_assoc] using h9⟩
            case measure => simp [intOf]
          · go_wp2
            go_roundw
            case rel => exact ⟨4, by omega, by first | rfl | go_num, (by repeat first | with_reducible exact Below.refl _ _ | with_reducible assumption | with_reducible refine below_drewN ?_ _ | with_reducible refine Below.drew ?_ | with_reducible refine Below.setCell ?_ (by first | exact Nat.le_refl _ | (simp; done) | (simp; omega) | omega) _ | with_reducible refine Below.alloc ?_ (by first | exact Nat.le_refl _ | (simp; done) | (simp; omega) | omega) _ | exact Below.refl _ _ | assumption), by have h9 := hs.out; simpa [Nat.add_assoc] using h9⟩
            case measure => simp [intOf]
        · have hd4 : decide ((k : Int) < 4) = false := by simp; omega
          obtain rfl : k = 4 := by omega
          go_wp2
          go_roundw
          case rel => exact ⟨n + 1, by omega, by go_num, hBk, by rw [show 4 * (n + 1) = 4 * n + 4 from by omega]; exact hAk⟩
          case measure => simp [intOf]; omega
    · have hd : decide ((n : Int) < 8) = false := by simp; omega
      obtain rfl : n = 8 := by omega
      rw [show 4 * 8 = 32 from rfl, dTo_full] at hAr
      have hcv := run_convert_bytes_arg (P := Tryd.prog) wr 45 5 Tryd.underlying45 Tryd.underlying5 (w.heap.size + 1) 0 32 32 ((List.range 32).map (byteAt H)) (by simp) (fun j hj => by
        rw [Nat.zero_add]
        exact hAr.cell (by simp [u8s, List.getD_eq_getElem?_getD, hj])) 9 Tryd.underlying9
      have hfin : Hid (strOfNums ((List.range 32).map (byteAt H)) = ⟨(((List.range 32).map (byteAt H)).map fun x => UInt8.ofNat x.toNat).toArray⟩) := by show _ = _; rfl
      generalize strOfNums ((List.range 32).map (byteAt H)) = S at *
      go_wp2
      go_ret
      exact ⟨by rw [hfin.out]; rfl, hBr⟩
end Go.Proofs.YtllofogjojlamaaDoor
