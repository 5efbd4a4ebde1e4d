/-
  The contract of errors.Join at two errors: nil if none is there, else an error.
-/
import Derived.Test.YtfojgdlegojdgaaDoorNum
import Derived.Laws.AppendOwn
import Derived.Laws.MakeOwn
import Derived.WideLaws
import Derived.OneCell
namespace Go.Proofs.YtfojgdlegojdgaaDoor
open Go.RowKit

theorem Tryd.info_err : (Tryd.prog.info? 58).map (fun i => (i.zero, i.size, i.bytes)) = some (some .nilIface, 1, 16) := by kernel_rfl
/-- An error, or none. -/
def ErrN (v : Value) : Prop := v = .nilIface ∨ ErrV v
/-- The errors that are there. -/
def there : List Value → List Value
  | [] => []
  | .nilIface :: r => there r
  | v :: r => v :: there r
theorem there_nil (l : List Value) : there (l ++ [.nilIface]) = there l := by
  induction l with
  | nil => rfl
  | cons v r ih => cases v <;> simp [there, ih]
theorem there_err (l : List Value) (t : TypeId) (p : Value) : there (l ++ [.iface t p]) = there l ++ [.iface t p] := by
  induction l with
  | nil => rfl
  | cons v r ih => cases v <;> simp [there, ih]
theorem there_le (l : List Value) : (there l).length ≤ l.length := by
  induction l with
  | nil => simp [there]
  | cons v r ih => cases v <;> simp [there] <;> omega
theorem own_ne {w : World} {base : Nat} {e T : TypeId} {size : Nat} {v : Value} {n B : Nat} {xs : List Value} {cs : Array Value} {fr : Nat × Nat} (h : w.ownsRow base e size v n xs) (hB : w.heap[B]? = some (.cells cs T fr)) (hne : T ≠ e) : v.ownBlock ≠ some B := by
  obtain ⟨_, ⟨rfl, _⟩ | ⟨g, cap, cur, rfl, _, hg, _⟩⟩ := h
  · simp [Value.ownBlock]
  · intro hb
    simp [Value.ownBlock] at hb
    subst hb
    rw [hg] at hB
    simp at hB
    exact hne hB.2.1.symm
theorem grown_one {w w' : World} {o : Obj} {row : Option Nat} {B : Nat} {v : Value} {t : TypeId} (h : (w.alloc o).grownBy w' row) (hX : w.heap[B]? = some (.cells #[v] t (0, 0))) (hne : row ≠ some B) : w'.heap[B]? = some (.cells #[v] t (0, 0)) := by
  rw [h.block B (by have := lt_of_block hX; simp; omega) (fun e => hne e.symm), Below.heap_alloc w o B (lt_of_block hX)]
  exact hX
theorem slice_of {w : World} {base : Nat} {e : TypeId} {size : Nat} {v : Value} {n : Nat} {xs : List Value} (h : w.ownsRow base e size v n xs) : ∃ p n c, v = .slice p n c := by
  obtain ⟨_, ⟨rfl, _⟩ | ⟨g, cap, cur, rfl, _⟩⟩ := h
  · exact ⟨_, _, _, rfl⟩
  · exact ⟨_, _, _, rfl⟩
theorem one_of {w : World} {b : Nat} {v : Value} {t : TypeId} (h : w.heap[b]? = some (.cells #[v] t (0, 0))) : b < w.heap.size := lt_of_block h
theorem cell_owned {w : World} {b o : Nat} {v : Value} (h : w.cell? ⟨b, o, none⟩ = some v) {W : World} (hb : Below w.heap.size w W) : W.cell? ⟨b, o, none⟩ = some v := cell_below h hb

set_option maxRecDepth 100000 in
set_option maxHeartbeats 2000000 in
theorem join_any (l : List Value) (b : Nat) (w : World) (hl : l.length = 2) (hls : ∀ v ∈ l, ErrN v) (hcs : ∀ i, i < 2 → w.cell? ⟨b, i, none⟩ = some (l.getD i .nilIface)) :
    Calls Tryd.prog 43 #[.slice (some ⟨b, 0, none⟩) 2 2] w fun e w' => (∃ v, e = .returned v ∧ ((there l = [] ∧ v = .nilIface) ∨ (there l ≠ [] ∧ ∃ a, v = .iface 75 (.pointer (some a))))) ∧ Below w.heap.size w w' := by
  have hB : Below w.heap.size w w := Below.refl _ _
  obtain ⟨i0, hi, hz0, hz1, hz2⟩ := info_parts Tryd.info_err
  have hat : ∀ k, k < 2 → there (l.take (k + 1)) = there (l.take k ++ [l.getD k .nilIface]) := fun k hk => by
    rw [List.take_succ_eq_append_getElem (by omega), List.getD_eq_getElem?_getD, List.getElem?_eq_getElem (by omega)]; rfl
  have her : ∀ k, k < 2 → ErrN (l.getD k .nilIface) := fun k hk => by
    rw [List.getD_eq_getElem?_getD, List.getElem?_eq_getElem (by omega)]; exact hls _ (List.getElem_mem _)
  have hall : l.take 2 = l := List.take_of_length_le (by omega)
  have htl := there_le l
  have hmk := fun (W : World) (c : Nat) (h : (c : Int) ≤ 2) => run_make (P := Tryd.prog) W 74 58 i0 .nilIface Tryd.underlying74 hi hz0 .i64 .i64 0 c (by omega) (by omega) (by rw [hz2]; omega) (by omega)
  replace hat := Lib.hid hat
  replace her := Lib.hid her
  replace hcs := Lib.hid hcs
  replace hls := Lib.hid hls
  replace hall := Lib.hid hall
  replace hmk := Lib.hid hmk
  go_enter Tryd.func43, Tryd.ntmps43
  go_wp2
  go_loop [3, 11] (fun n i => ∃ k : Nat, k ≤ 2 ∧ i = .int .i64 k ∧ n = .int .i64 ((there (l.take k)).length : Nat)) (fun _ i => 2 - (intOf i).toNat)
  case atStart => exact ⟨0, by omega, rfl, rfl⟩
  case round =>
    obtain ⟨k, hk, rfl, rfl⟩ := hrel
    by_cases hlt : k < 2
    · have hd : decide ((k : Int) < 2) = true := by simp; omega
      have hc := hcs.out k hlt
      have ha := hat.out k hlt
      have hbd : (there (l.take k)).length ≤ k := Nat.le_trans (there_le _) (List.length_take_le _ _)
      rcases her.out k hlt with hx | ⟨a, hx⟩
      · rw [hx] at hc ha
        rw [there_nil] at ha
        replace ha := Lib.hid ha
        clear hx
        go_wp2
        go_round
        case rel => exact ⟨k + 1, by omega, by go_num, by rw [ha.out]⟩
        case measure => simp [intOf]; omega
      · rw [hx] at hc ha
        rw [there_err] at ha
        replace ha := Lib.hid ha
        clear hx
        go_wp2
        go_round
        case rel => exact ⟨k + 1, by omega, by go_num, by rw [ha.out]; simp⟩
        case measure => simp [intOf]; omega
    · obtain rfl : k = 2 := by omega
      have hd : decide (((2 : Nat) : Int) < 2) = false := by simp
      rw [hall.out]
      by_cases h0 : there l = []
      · have h00 : Hid (there l = []) := h0
        rw [h0]
        clear h0
        go_wp2
        go_ret
        exact ⟨⟨_, rfl, .inl ⟨h00.out, rfl⟩⟩, hB⟩
      · obtain ⟨c, hc⟩ : ∃ c, c = (there l).length := ⟨_, rfl⟩
        have hc0 : c ≠ 0 := fun e => h0 (List.eq_nil_of_length_eq_zero (by omega))
        have hc2 : c ≤ 2 := by omega
        have hq : (((c : Nat) : Int) == 0) = false := by rw [beq_eq_false_iff_ne]; omega
        have hm : ∀ W : World, _ := fun W => hmk.out W c (by omega)
        simp only [Int.toNat_zero, Int.toNat_natCast] at hm
        rw [← hc]
        replace hc := Lib.hid hc
        replace h0 := Lib.hid h0
        go_wp2
        have hBz : Below w.heap.size w ((w.alloc (.cells (madeCells #[.nilIface] c) 58)).alloc (.cells #[.slice (some ⟨w.heap.size, 0, none⟩) 0 c] 77)) := ((Below.refl _ _).alloc (Nat.le_refl _) _).alloc (by simp) _
        have hO : ((w.alloc (.cells (madeCells #[.nilIface] c) 58)).alloc (.cells #[.slice (some ⟨w.heap.size, 0, none⟩) 0 c] 77)).ownsRow w.heap.size 58 1 (.slice (some ⟨w.heap.size, 0, none⟩) 0 c) 0 [] :=
          (World.ownsRow_made (size := 1) w (madeCells #[.nilIface] c) c (Nat.le_refl _) (by unfold maxLen; omega) (by rw [Nat.mul_one]; exact size_madeCells _ _)).alloc _
        have hX : ((w.alloc (.cells (madeCells #[.nilIface] c) 58)).alloc (.cells #[.slice (some ⟨w.heap.size, 0, none⟩) 0 c] 77)).heap[w.heap.size + 1]? = some (.cells #[.slice (some ⟨w.heap.size, 0, none⟩) 0 c] 77 (0, 0)) := by
          have := (MapKept.heap_alloc (w.alloc (.cells (madeCells #[.nilIface] c) 58)) (.cells #[.slice (some ⟨w.heap.size, 0, none⟩) 0 c] 77)).1
          simpa using this
        generalize (w.alloc (.cells (madeCells #[.nilIface] c) 58)).alloc (.cells #[.slice (some ⟨w.heap.size, 0, none⟩) 0 c] 77) = w0 at *
        clear hm hmk hq hB
        go_loopw [28] (fun i wr => ∃ (k : Nat) (v : Value), k ≤ 2 ∧ i = .int .i64 k ∧ Below w.heap.size w wr ∧ wr.heap[w.heap.size + 1]? = some (.cells #[v] 77 (0, 0)) ∧ wr.ownsRow w.heap.size 58 1 v (there (l.take k)).length (there (l.take k))) (fun i _ => 2 - (intOf i).toNat)
        case atStart => exact ⟨0, _, by omega, rfl, hBz, hX, hO⟩
        case round =>
          clear hBz hX hO
          obtain ⟨k, v, hk, rfl, hBr, hXr, hOr⟩ := hrel
          by_cases hlt : k < 2
          · have hd : decide ((k : Int) < 2) = true := by simp; omega
            have hc := cell_below (hcs.out k hlt) hBr
            have ha := hat.out k hlt
            have hbd : (there (l.take k)).length ≤ k := Nat.le_trans (there_le _) (List.length_take_le _ _)
            rcases her.out k hlt with hx | ⟨a, hx⟩
            · rw [hx] at hc ha
              rw [there_nil] at ha
              replace ha := Lib.hid ha
              clear hx
              go_wp2
              go_roundw
              case rel => exact ⟨k + 1, v, by omega, by go_num, hBr, hXr, by rw [ha.out]; exact hOr⟩
              case measure => simp [intOf]; omega
            · rw [hx] at hc ha
              rw [there_err] at ha
              replace ha := Lib.hid ha
              clear hx
              have hne := own_ne hOr hXr (by decide)
              have e1 := cell_of_one hXr
              have e2 := lt_of_block hXr
              have hz := hBr.size
              go_wp2_with (at_builtin; refine wpList_append_own _ rfl _ _ 74 rfl w.heap.size 58 i0 .nilIface 1 16 Tryd.underlying74 hi hz0 hz1 hz2 rfl (by decide) v _ _ rfl (hOr.alloc _) ⟨wr.heap.size, 0, none⟩ 1 1 [.iface 88 (.pointer (some a))] rfl rfl (cell_one_new _ _ _) (by simp [Value.oneCell']) (by unfold maxLen; omega) (by omega) (by simp; omega) ?_; intro v' w1 hown' hgrow _; obtain ⟨p', n', c', hv'⟩ := slice_of hown'; subst hv'; have e3 := cell_of_one (grown_one hgrow hXr hne); have e4 := free_of_one (grown_one hgrow hXr hne); have e5 := one_of (grown_one hgrow hXr hne))
              clear e1 e2 e3 e4
              have hX1 := grown_one hgrow hXr hne
              have hne1 := own_ne hown' hX1 (by decide)
              have hB1 : Below w.heap.size w w1 := (hBr.alloc hz _).grown hgrow (by simp; omega) (fun r e => (hOr.lt r e).1)
              have hB2 : Below w.heap.size w (w1.setCell ⟨w.heap.size + 1, 0, none⟩ (.slice p' n' c')) := hB1.setCell (by simp) _
              have hO2 := ownsRow_setCell_other hown' (a := ⟨w.heap.size + 1, 0, none⟩) hne1 (.slice p' n' c')
              have hX2 := one_setCell hX1 (u := .slice p' n' c')
              go_roundw
              case rel => exact ⟨k + 1, .slice p' n' c', by omega, by go_num, hB2, hX2, by rw [ha.out]; simpa using hO2⟩
              case measure => simp [intOf]; omega
          · obtain rfl : k = 2 := by omega
            have hd : decide (((2 : Nat) : Int) < 2) = false := by simp
            go_wp2
            go_ret
            exact ⟨⟨_, rfl, .inr ⟨h0.out, _, rfl⟩⟩, hBr⟩
end Go.Proofs.YtfojgdlegojdgaaDoor
