/-
  Package content: a document without a raster is valid.
-/
import Derived.Test.YtocpnlifmeffkaaGreatDoorUO
namespace Go.Proofs.YtocpnlifmeffkaaGreatDoor
open Go.RowKit Go.Shelf

attribute [local go_sem] Oper.semAt_some

theorem celsUp_at : ∀ (l : List Cel) (j : Nat), celsUp l = true → j + 1 < l.length → celLt l[j]! l[j + 1]! = true
  | [], _, _, h => absurd h (by simp)
  | [_], _, _, h => absurd h (by simp)
  | a :: b :: r, 0, h, _ => by
    rw [celsUp, Bool.and_eq_true] at h
    exact h.1
  | a :: b :: r, j + 1, h, hl => by
    rw [celsUp, Bool.and_eq_true] at h
    have := celsUp_at (b :: r) j h.2 (by simpa using hl)
    simpa using this
set_option maxRecDepth 100000 in
set_option maxHeartbeats 4000000 in
theorem Valid0_any (lv cv : Value) (ls : List Lin) (cs : List Cel) (w : World) (hl : ls.length ≤ 64) (hc : cs.length ≤ 64) (hup : celsUp cs = true) (hlo : ls.all linOk = true) (hco : cs.all celOk = true) (hlv : SliceAt w w.heap.size lv ls.length (linCells ls)) (hcv : SliceAt w w.heap.size cv cs.length (cellCells cs)) :
    Calls Tryz.prog 47 #[docV lv cv 0 []] w fun e w' => e = .returned (.bool true) ∧ Below w.heap.size w w' := by
  have hAL := Lib.hid fun W (h : Below w.heap.size w W) => allLin_any lv ls W hlo hl (hlv.later h)
  have hAC := Lib.hid fun W (h : Below w.heap.size w W) => allCel_any cv cs W hco hc (hcv.later h)
  obtain ⟨al, cl, rfl, _, _, _⟩ := hlv
  obtain ⟨ac, cc, rfl, hc1, hc2, hcc⟩ := hcv
  unfold docV
  have hA : Arr (w.alloc (.cells #[.slice al ls.length cl, .slice ac cs.length cc, .int .i64 0, .string (str [])] 50)) w.heap.size 50 [.slice al ls.length cl, .slice ac cs.length cc, .int .i64 0, .string (str [])] := Arr.new rfl rfl
  have hB : Below w.heap.size w (w.alloc (.cells #[.slice al ls.length cl, .slice ac cs.length cc, .int .i64 0, .string (str [])] 50)) := (Below.refl _ w).alloc (Nat.le_refl _) _
  replace hcc := Lib.hid hcc
  go_enter Tryz.func47, Tryz.ntmps47
  go_wp2
  go_loopw [3, 4] (fun up i wr => ∃ k : Nat, 1 ≤ k ∧ (k ≤ cs.length ∨ k = 1) ∧ up = .bool true ∧ i = .int .i64 k ∧ Hid (Below w.heap.size w wr ∧ Arr wr w.heap.size 50 [.slice al ls.length cl, .slice ac cs.length cc, .int .i64 0, .string (str [])])) (fun _ i _ => cs.length - (intOf i).toNat)
  case atStart => exact ⟨1, Nat.le_refl _, .inr rfl, rfl, rfl, Lib.hid ⟨hB, hA⟩⟩
  case round =>
    obtain ⟨k, hk1, hk2, rfl, rfl, hh⟩ := hrel
    obtain ⟨hBr, hAr⟩ := hh.out
    have hd0 : wr.cell? ⟨w.heap.size, 0, none⟩ = some (.slice al ls.length cl) := hAr.cell rfl
    have hd1 : wr.cell? ⟨w.heap.size, 1, none⟩ = some (.slice ac cs.length cc) := hAr.cell rfl
    by_cases hlt : k < cs.length
    · obtain ⟨m, rfl⟩ : ∃ m, k = m + 1 := ⟨k - 1, by omega⟩
      have hd : decide (((m : Int) + 1) < (cs.length : Int)) = true := by simp; omega
      obtain ⟨b, o, rfl, hb, hx⟩ := hcc.out (by omega)
      have hcell : ∀ j, j < cs.length → ∀ i v, (encCel cs[j]!)[i]? = some v → wr.cell? ⟨b, o + j * 6 + i, none⟩ = some v := fun j hj i v hv => by
        have hi : i < 6 := (List.getElem?_eq_some_iff.1 hv).1
        rw [hBr.cell (p := ⟨b, o + j * 6 + i, none⟩) hb, Nat.add_assoc]
        exact hx _ v ((flat_at encCel 6 (fun _ => rfl) cs j i hj hi).trans hv)
      have hx1 := hcell m (by omega)
      have hy1 := hcell (m + 1) hlt
      have hcmp := celsUp_at cs m hup hlt
      generalize cs[m]! = x at *
      generalize cs[m + 1]! = y at *
      have x0 : wr.cell? ⟨b, o + m * 6, none⟩ = some (.int .i64 x.row) := hx1 0 _ rfl
      have x1 : wr.cell? ⟨b, o + m * 6 + 1, none⟩ = some (.int .i64 x.col) := hx1 1 _ rfl
      have x2 : wr.cell? ⟨b, o + m * 6 + 2, none⟩ = some (.bool x.sum) := hx1 2 _ rfl
      have x3 : wr.cell? ⟨b, o + m * 6 + 3, none⟩ = some (.int .i64 x.val) := hx1 3 _ rfl
      have x4 : wr.cell? ⟨b, o + m * 6 + 4, none⟩ = some (.int .i64 x.top) := hx1 4 _ rfl
      have x5 : wr.cell? ⟨b, o + m * 6 + 5, none⟩ = some (.int .i64 x.left) := hx1 5 _ rfl
      have y0 : wr.cell? ⟨b, o + (m + 1) * 6, none⟩ = some (.int .i64 y.row) := hy1 0 _ rfl
      have y1 : wr.cell? ⟨b, o + (m + 1) * 6 + 1, none⟩ = some (.int .i64 y.col) := hy1 1 _ rfl
      have y2 : wr.cell? ⟨b, o + (m + 1) * 6 + 2, none⟩ = some (.bool y.sum) := hy1 2 _ rfl
      have y3 : wr.cell? ⟨b, o + (m + 1) * 6 + 3, none⟩ = some (.int .i64 y.val) := hy1 3 _ rfl
      have y4 : wr.cell? ⟨b, o + (m + 1) * 6 + 4, none⟩ = some (.int .i64 y.top) := hy1 4 _ rfl
      have y5 : wr.cell? ⟨b, o + (m + 1) * 6 + 5, none⟩ = some (.int .i64 y.left) := hy1 5 _ rfl
      clear hx1 hy1 hcell hx hd0
      have i1 : (0 : Int) ≤ (m : Int) + 1 := by omega
      have i2 : (m : Int) + 1 < (cs.length : Int) := by omega
      have i3 : (m : Int) + 1 - 1 = (m : Int) := by omega
      have i4 : (0 : Int) ≤ (m : Int) := by omega
      have i5 : (m : Int) < (cs.length : Int) := by omega
      have i6 : ((m : Int) + 1).toNat = m + 1 := by omega
      have i7 : IntKind.i64.wrap (m : Int) = (m : Int) := IntWalk.i64_in _ (by omega)
      have hlt0 : w.heap.size < wr.heap.size := hAr.lt
      have hlt1 : b < wr.heap.size := Nat.lt_of_lt_of_le hb hBr.size
      unfold celLt at hcmp
      replace hcmp := Lib.hid hcmp
      go_wp2
      go_region
      · generalize hw2 : ((wr.alloc (.cells #[.int .i64 x.row, .int .i64 x.col, .bool x.sum, .int .i64 x.val, .int .i64 x.top, .int .i64 x.left] 47)).alloc (.cells #[.int .i64 y.row, .int .i64 y.col, .bool y.sum, .int .i64 y.val, .int .i64 y.top, .int .i64 y.left] 47)).drew = w2
        have hW2 : Hid (Below w.heap.size w w2 ∧ Arr w2 w.heap.size 50 [.slice al ls.length cl, .slice (some ⟨b, o, none⟩) cs.length cc, .int .i64 0, .string (str [])] ∧ Arr w2 wr.heap.size 47 (encCel x) ∧ Arr w2 (wr.heap.size + 1) 47 (encCel y)) := Lib.hid (by
          rw [← hw2]
          refine ⟨?_, ?_, ?_, ?_⟩
          · have h := (hBr.alloc hBr.size (.cells #[.int .i64 x.row, .int .i64 x.col, .bool x.sum, .int .i64 x.val, .int .i64 x.top, .int .i64 x.left] 47)).alloc (Nat.le_trans hBr.size (by simp)) (.cells #[.int .i64 y.row, .int .i64 y.col, .bool y.sum, .int .i64 y.val, .int .i64 y.top, .int .i64 y.left] 47)
            exact ⟨h.os, h.tape, h.output, h.size, h.block⟩
          · exact ((hAr.alloc _).alloc _).drew
          · exact ((Arr.new rfl rfl).alloc _).drew
          · exact (Arr.new rfl (by simp)).drew)
        obtain ⟨hB2, hA2, hX, hY⟩ := hW2.out
        have p0 : w2.cell? ⟨wr.heap.size, 0, none⟩ = some (.int .i64 x.row) := hX.cell rfl
        have p1 : w2.cell? ⟨wr.heap.size, 1, none⟩ = some (.int .i64 x.col) := hX.cell rfl
        have q0 : w2.cell? ⟨wr.heap.size + 1, 0, none⟩ = some (.int .i64 y.row) := hY.cell rfl
        have q1 : w2.cell? ⟨wr.heap.size + 1, 1, none⟩ = some (.int .i64 y.col) := hY.cell rfl
        clear hw2 x0 x1 x2 x3 x4 x5 y0 y1 y2 y3 y4 y5 hX hY hd1 hBr hAr hA2 hB2
        have hlt' := hcmp.out
        by_cases hrow : x.row < y.row
        · have hdr : decide (x.row < y.row) = true := by simpa using hrow
          clear hlt'
          go_wp2
          go_roundw
          case rel => exact ⟨m + 2, by omega, .inl (by omega), rfl, by simp; omega, Lib.hid ⟨hW2.out.1, hW2.out.2.1⟩⟩
          case measure => simp [intOf]; omega
        · rw [Bool.or_eq_true, decide_eq_true_eq, Bool.and_eq_true, beq_iff_eq, decide_eq_true_eq] at hlt'
          obtain ⟨hre, hcl⟩ := hlt'.resolve_left hrow
          have hdr : decide (x.row < y.row) = false := by simp; omega
          have hde : (x.row == y.row) = true := by simpa using hre
          have hdc : decide (x.col < y.col) = true := by simpa using hcl
          clear hlt'
          go_wp2
          go_roundw
          case rel => exact ⟨m + 2, by omega, .inl (by omega), rfl, by simp; omega, Lib.hid ⟨hW2.out.1, hW2.out.2.1⟩⟩
          case measure => simp [intOf]; omega
      · generalize hw2 : ((wr.alloc (.cells #[.int .i64 y.row, .int .i64 y.col, .bool y.sum, .int .i64 y.val, .int .i64 y.top, .int .i64 y.left] 47)).alloc (.cells #[.int .i64 x.row, .int .i64 x.col, .bool x.sum, .int .i64 x.val, .int .i64 x.top, .int .i64 x.left] 47)).drew = w2
        have hW2 : Hid (Below w.heap.size w w2 ∧ Arr w2 w.heap.size 50 [.slice al ls.length cl, .slice (some ⟨b, o, none⟩) cs.length cc, .int .i64 0, .string (str [])] ∧ Arr w2 wr.heap.size 47 (encCel y) ∧ Arr w2 (wr.heap.size + 1) 47 (encCel x)) := Lib.hid (by
          rw [← hw2]
          refine ⟨?_, ?_, ?_, ?_⟩
          · have h := (hBr.alloc hBr.size (.cells #[.int .i64 y.row, .int .i64 y.col, .bool y.sum, .int .i64 y.val, .int .i64 y.top, .int .i64 y.left] 47)).alloc (Nat.le_trans hBr.size (by simp)) (.cells #[.int .i64 x.row, .int .i64 x.col, .bool x.sum, .int .i64 x.val, .int .i64 x.top, .int .i64 x.left] 47)
            exact ⟨h.os, h.tape, h.output, h.size, h.block⟩
          · exact ((hAr.alloc _).alloc _).drew
          · exact ((Arr.new rfl rfl).alloc _).drew
          · exact (Arr.new rfl (by simp)).drew)
        obtain ⟨hB2, hA2, hY, hX⟩ := hW2.out
        have p0 : w2.cell? ⟨wr.heap.size + 1, 0, none⟩ = some (.int .i64 x.row) := hX.cell rfl
        have p1 : w2.cell? ⟨wr.heap.size + 1, 1, none⟩ = some (.int .i64 x.col) := hX.cell rfl
        have q0 : w2.cell? ⟨wr.heap.size, 0, none⟩ = some (.int .i64 y.row) := hY.cell rfl
        have q1 : w2.cell? ⟨wr.heap.size, 1, none⟩ = some (.int .i64 y.col) := hY.cell rfl
        clear hw2 x0 x1 x2 x3 x4 x5 y0 y1 y2 y3 y4 y5 hX hY hd1 hBr hAr hA2 hB2
        have hlt' := hcmp.out
        by_cases hrow : x.row < y.row
        · have hdr : decide (x.row < y.row) = true := by simpa using hrow
          clear hlt'
          go_wp2
          go_roundw
          case rel => exact ⟨m + 2, by omega, .inl (by omega), rfl, by simp; omega, Lib.hid ⟨hW2.out.1, hW2.out.2.1⟩⟩
          case measure => simp [intOf]; omega
        · rw [Bool.or_eq_true, decide_eq_true_eq, Bool.and_eq_true, beq_iff_eq, decide_eq_true_eq] at hlt'
          obtain ⟨hre, hcl⟩ := hlt'.resolve_left hrow
          have hdr : decide (x.row < y.row) = false := by simp; omega
          have hde : (x.row == y.row) = true := by simpa using hre
          have hdc : decide (x.col < y.col) = true := by simpa using hcl
          clear hlt'
          go_wp2
          go_roundw
          case rel => exact ⟨m + 2, by omega, .inl (by omega), rfl, by simp; omega, Lib.hid ⟨hW2.out.1, hW2.out.2.1⟩⟩
          case measure => simp [intOf]; omega
    · have hd : decide ((k : Int) < (cs.length : Int)) = false := by simp; omega
      have hle1 : decide ((ls.length : Int) ≤ 64) = true := by simp; omega
      have hle2 : decide ((cs.length : Int) ≤ 64) = true := by simp; omega
      have hR := Lib.hid isRaster0_any
      unfold docV at hR
      clear hh
      go_wp2_with (first
        | (go_at_call 82; refine (hAL.out _ hBr).mono ?_; rintro e w2 ⟨rfl, hb2⟩; have hA2 := hAr.below hb2; have hB2 := hBr.trans (hb2.mono hBr.size); have hd2 : w2.cell? ⟨w.heap.size, 1, none⟩ = some (.slice ac cs.length cc) := hA2.cell rfl)
        | (go_at_call 84; refine (hAC.out _ hB2).mono ?_; rintro e w3 ⟨rfl, hb3⟩; have hA3 := hA2.below hb3; have hB3 := hB2.trans (hb3.mono hB2.size); have e0 : w3.cell? ⟨w.heap.size, 0, none⟩ = some (.slice al ls.length cl) := hA3.cell rfl; have e1 : w3.cell? ⟨w.heap.size, 1, none⟩ = some (.slice ac cs.length cc) := hA3.cell rfl; have e2 : w3.cell? ⟨w.heap.size, 2, none⟩ = some (.int .i64 0) := hA3.cell rfl; have e3 : w3.cell? ⟨w.heap.size, 3, none⟩ = some (.string (str [])) := hA3.cell rfl)
        | (go_at_call 86; refine (hR.out _ _ _ _ _ _ _).mono ?_; rintro e w4 ⟨rfl, hb4⟩))
      go_ret
      exact ⟨rfl, hB3.trans (hb4.mono hB3.size)⟩
end Go.Proofs.YtocpnlifmeffkaaGreatDoor
