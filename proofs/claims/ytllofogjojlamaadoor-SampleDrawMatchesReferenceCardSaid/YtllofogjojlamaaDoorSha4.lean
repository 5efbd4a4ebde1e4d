/-
  The contract of (*digest.words).add.
-/
import Derived.Test.YtllofogjojlamaaDoorSha3
import Derived.Deep.RegionLaw
import Derived.Laws.CopyOwn
namespace Go.Proofs.YtllofogjojlamaaDoor
open Go.RowKit

theorem copy_src (a b c d e f g i : Int) (j : Nat) (v : Value) (h : (u32s [a, b, c, d, e, f, g])[j]? = some v) : (u32s [a, b, c, d, e, f, g, i])[j]? = some v := by
  have hj : j < (u32s [a, b, c, d, e, f, g]).length := by
    rcases Nat.lt_or_ge j (u32s [a, b, c, d, e, f, g]).length with h' | h'
    · exact h'
    · rw [List.getElem?_eq_none h'] at h; cases h
  rw [show u32s [a, b, c, d, e, f, g, i] = u32s [a, b, c, d, e, f, g] ++ [.int .u32 i] from rfl, List.getElem?_append_left hj]
  exact h

set_option maxRecDepth 100000 in
set_option maxHeartbeats 1000000 in
theorem add_any (bs hs : List Int) (b off cap HB : Nat) (T : TypeId) (w : World) (hlen : bs.length = 64) (hv : V8 hs)
    (hcs : ∀ i, i < 64 → w.cell? ⟨b, off + i, none⟩ = some (.int .u8 (bs.getD i 0))) (hA : Arr w HB T (u32s hs)) (hG : w.rangeAt 0 0 (u32s KS)) :
    Calls Tryd.prog 33 #[.pointer (some ⟨HB, 0, none⟩), .slice (some ⟨b, off, none⟩) 64 cap] w fun e w' => e = .returned (.tuple #[]) ∧ Arr w' HB T (u32s (shaAdd hs bs)) ∧ BelowBut w.heap.size HB w w' := by
  have hS := schedule_any bs b off cap w hlen hcs
  have h0w : 0 < w.heap.size := World.block_lt_of_cell? w _ (hG 0 _ rfl)
  rw [hlen] at hS
  replace hS := Lib.hid hS
  have hWl := schTo_len bs 64
  have hhl : (u32s hs).length = 8 := by simp [u32s, hv.1]
  generalize hWe : schTo bs 64 = W at *
  have hWL : (u32s W).length = 64 := by simp [u32s, hWl]
  have h1c : (u32s W).all (·.oneCell') = true := by simp [u32s, Value.oneCell']
  have h1h : (u32s hs).all (·.oneCell') = true := by simp [u32s, Value.oneCell']
  replace hWe := Lib.hid hWe
  replace hWl := Lib.hid hWl
  replace hWL := Lib.hid hWL
  replace hhl := Lib.hid hhl
  replace h1c := Lib.hid h1c
  replace h1h := Lib.hid h1h
  clear hcs hlen
  go_enter Tryd.func33, Tryd.ntmps33
  go_wp2_with fail
  refine hS.out.mono ?_
  rintro e w1 ⟨rfl, hb1⟩
  have hA1 := hA.below hb1
  have hz1 := hb1.size
  have hHBl := hA.lt
  have hG' : ∀ W, Below w.heap.size w W → W.rangeAt 0 0 (u32s KS) := fun W hb j v hv => (hb.cell (p := ⟨0, 0 + j, none⟩) h0w).trans (hG j v hv)
  have hN : ∀ (W : World) (cs : Array Value), cs = (u32s (List.replicate 64 0)).toArray → Arr (W.alloc (.cells cs 79)) W.heap.size 79 (u32s (List.replicate 64 0)) := fun W cs h => Arr.new h rfl
  have hN8 : ∀ (W : World) (cs : Array Value), cs = (u32s (List.replicate 8 0)).toArray → Arr (W.alloc (.cells cs 61)) W.heap.size 61 (u32s (List.replicate 8 0)) := fun W cs h => Arr.new h rfl
  dsimp only
  iterate 4 go_step
  refine arr_store rfl 79 _ _ rfl w1.heap.size rfl (vs := u32s W) rfl (hN _ _ rfl) (n := 64) (by kernel_rfl) (by decide) hWL.out h1c.out ?_
  refine name_list ?_
  intro w2 hw2
  have hB2 : Below w.heap.size w w2 := by rw [hw2]; exact Below.setCells _ _ _ _ (hb1.alloc hz1 _) hz1
  have hW2 : Arr w2 w1.heap.size 79 (u32s W) := by rw [hw2]; exact (hN _ _ rfl).setAll (by rw [hWL.out]; rfl)
  have hz2 := hW2.lt
  have hA2 : Arr w2 HB T (u32s hs) := hA.below hB2
  clear hw2 hb1
  generalize hB4 : w1.heap.size = B4 at *
  have hHB4 : HB < B4 := by omega
  have hHB4' : w.heap.size ≤ B4 := by omega
  clear hB4 hA1 hz1
  go_wp2_with (first
    | (refine arr_load rfl 61 _ rfl HB rfl hA2 Tryd.underlying61 rfl (n := 8) (by kernel_rfl) hhl.out ?_)
    | (refine arr_store rfl 61 _ _ rfl w2.heap.size rfl (vs := u32s hs) rfl (hN8 _ _ rfl) (n := 8) (by kernel_rfl) (by decide) hhl.out h1h.out ?_; refine name_list ?_; intro w3 hw3; have hB3 : Below w.heap.size w w3 := (by rw [hw3]; exact Below.setCells _ _ _ _ (hB2.alloc hB2.size _) hB2.size); have hW3 : Arr w3 B4 79 (u32s W) := (by rw [hw3]; exact Arr.setCells_other _ _ _ _ (hW2.alloc _) (by omega)); have hV3 : Arr w3 w2.heap.size 61 (u32s hs) := (by rw [hw3]; exact (hN8 _ _ rfl).setAll (by rw [hhl.out]; rfl)); clear hw3; have hG3 := hG' _ hB3)
    | (refine wpList_load_mid rfl 79 _ rfl 0 0 rfl (u32s KS) _ (hG' _ (by assumption)) Tryd.underlying79 rfl (by kernel_rfl) ?_))
  have hHB5 : B4 < w2.heap.size := hz2
  generalize w2.heap.size = B5 at *
  clear hA2 hW2 hB2
  go_loopw [19] (fun i wr => ∃ k : Nat, k ≤ 64 ∧ i = .int .i64 k ∧ Below w.heap.size w wr ∧ Arr wr B4 79 (u32s W) ∧ Arr wr B5 61 (u32s (rounds W hs k))) (fun i _ => 64 - (intOf i).toNat)
  case atStart => exact ⟨0, by omega, rfl, hB3, hW3, hV3⟩
  case round =>
    obtain ⟨k, hk, rfl, hBr, hWr, hVr⟩ := hrel
    clear hB3 hW3 hV3 hG3
    by_cases hlt : k < 64
    · have hd : decide ((k : Int) < 64) = true := by simp; omega
      have hix : ∀ w, (Instr.index 79 (.agg (u32s KS).toArray) (.int .i64 k)).run Tryd.prog w = .ok (.int .u32 (KS.getD k 0)) w := fun w => index64 KS k hlt rfl w
      have hWk : (u32s W)[k]? = some (.int .u32 (W.getD k 0)) := by simp [u32s, List.getD_eq_getElem?_getD, hWl.out, hlt]
      have hnext : rounds W hs (k + 1) = rstep (KS.getD k 0) (W.getD k 0) (rounds W hs k) := rfl
      have hv8 := rounds_v8 W hv k
      obtain ⟨a, b', c, d, e, f, g, i, hl⟩ := hv8.cases
      rw [hl] at hVr hnext hv8
      have wa : Hid (W32 a) := hv8.2 a (by simp)
      have we : Hid (W32 e) := hv8.2 e (by simp)
      replace hl := Lib.hid hl
      clear hv8
      have m8 := hWr.mine hWk
      have m0 := hVr.mine (j := 0) (v := .int .u32 a) rfl
      have m1 := hVr.mine (j := 1) (v := .int .u32 b') rfl
      have m2 := hVr.mine (j := 2) (v := .int .u32 c) rfl
      have m3 := hVr.mine (j := 3) (v := .int .u32 d) rfl
      have m4 := hVr.mine (j := 4) (v := .int .u32 e) rfl
      have m5 := hVr.mine (j := 5) (v := .int .u32 f) rfl
      have m6 := hVr.mine (j := 6) (v := .int .u32 g) rfl
      have m7 := hVr.mine (j := 7) (v := .int .u32 i) rfl
      generalize KS.getD k 0 = kk at *
      generalize W.getD k 0 = wk at *
      replace hnext := Lib.hid hnext
      replace hWk := Lib.hid hWk
      have c0 := m0.cell
      have c4 := m4.cell
      go_wp2
      go_quiet (fail)
      clear c0 c4
      go_wp2
      have s1 : (0 : Int) ≤ (k : Int) := by omega
      have s2 : (k : Int) < 64 := by omega
      clear hix hN hN8 hG' hd
      have hcp : (if IntKind.u32.signed = true then (-1 : Int) else IntKind.u32.max) = 4294967295 := by decide
      have hB := hBr
      refine name_wp ?_
      intro w4 hww4
      have mAll : Mine w4 B5 0 (.int .u32 a) ∧ Mine w4 B5 1 (.int .u32 b') ∧ Mine w4 B5 2 (.int .u32 c) ∧ Mine w4 B5 3 (.int .u32 d) ∧ Mine w4 B5 4 (.int .u32 e) ∧ Mine w4 B5 5 (.int .u32 f) ∧ Mine w4 B5 6 (.int .u32 g) ∧ Mine w4 B5 7 (.int .u32 i) ∧ Mine w4 B4 k (.int .u32 wk) := by
        rw [hww4]
        refine ⟨?_, ?_, ?_, ?_, ?_, ?_, ?_, ?_, ?_⟩ <;> (repeat first | with_reducible assumption | with_reducible refine Mine.drew ?_ | with_reducible refine Mine.drewN ?_ _ | ((with_reducible refine Mine.new ?_); rfl) | ((with_reducible refine Mine.newAt ?_ ?_) <;> first | rfl | (simp; done) | (simp only [World.size_alloc]; rfl)) | ((with_reducible refine Mine.set ?_ _); repeat first | exact Mine.slot (by with_reducible assumption) | with_reducible refine MineS.drew ?_ | with_reducible refine MineS.drewN ?_ _ | ((with_reducible refine MineS.new ?_); decide) | ((with_reducible refine MineS.newAt ?_ ?_) <;> first | decide | (simp; done)) | with_reducible refine MineS.set ?_ _ _ _ | with_reducible refine MineS.alloc ?_ _) | with_reducible refine Mine.other ?_ _ (by first | (left; omega) | (right; omega) | (simp; done) | (simp; omega)) | with_reducible refine Mine.alloc ?_ _)
      clear m0 m1 m2 m3 m4 m5 m6 m7 m8
      obtain ⟨m0, m1, m2, m3, m4, m5, m6, m7, m8⟩ := mAll
      have hBzw4 := hB.size
      replace hWr : Arr w4 B4 79 (u32s W) := by rw [hww4]; exact hWr.drewN _
      replace hVr : Arr w4 B5 61 (u32s [a, b', c, d, e, f, g, i]) := by rw [hww4]; exact hVr.drewN _
      replace hB : Below w.heap.size w w4 := by rw [hww4]; exact (by repeat first | with_reducible exact Below.refl _ _ | with_reducible assumption | with_reducible refine below_drewN ?_ _ | with_reducible refine Below.drew ?_ | with_reducible refine Below.setCell ?_ (by first | exact Nat.le_refl _ | (simp; done) | (simp; omega) | omega) _ | with_reducible refine Below.alloc ?_ (by first | exact Nat.le_refl _ | (simp; done) | (simp; omega) | omega) _ | exact Below.refl _ _ | assumption)
      clear hww4 hBzw4
      clear hBr
      go_region_held3 (fun w' => w'.cell? ⟨B5, 5, none⟩ = some (.int .u32 f) ∧ w'.cell? ⟨B5, 6, none⟩ = some (.int .u32 g) ∧ w'.cell? ⟨B5, 7, none⟩ = some (.int .u32 i) ∧ w'.cell? ⟨B4, k, none⟩ = some (.int .u32 wk)) ((refine ⟨Mine.cell ?_, Mine.cell ?_, Mine.cell ?_, Mine.cell ?_⟩) <;> (repeat first | with_reducible assumption | with_reducible refine Mine.drew ?_ | with_reducible refine Mine.drewN ?_ _ | ((with_reducible refine Mine.new ?_); rfl) | ((with_reducible refine Mine.newAt ?_ ?_) <;> first | rfl | (simp; done) | (simp only [World.size_alloc]; rfl)) | ((with_reducible refine Mine.set ?_ _); repeat first | exact Mine.slot (by with_reducible assumption) | with_reducible refine MineS.drew ?_ | with_reducible refine MineS.drewN ?_ _ | ((with_reducible refine MineS.new ?_); decide) | ((with_reducible refine MineS.newAt ?_ ?_) <;> first | decide | (simp; done)) | with_reducible refine MineS.set ?_ _ _ _ | with_reducible refine MineS.alloc ?_ _) | with_reducible refine Mine.other ?_ _ (by first | (left; omega) | (right; omega) | (simp; done) | (simp; omega)) | with_reducible refine Mine.alloc ?_ _))
        (first
          | (go_at_call 45; (with_reducible refine (mixed_three e 6 11 25 6 11 25 _ _ we (by decide) (by decide) (by decide) (by decide) (by decide) (by decide) ?_ ?_ ?_).mono ?_); (refine Mine.cell ?_; (repeat first | with_reducible assumption | with_reducible refine Mine.drew ?_ | with_reducible refine Mine.drewN ?_ _ | ((with_reducible refine Mine.new ?_); rfl) | ((with_reducible refine Mine.newAt ?_ ?_) <;> first | rfl | (simp; done) | (simp only [World.size_alloc]; rfl)) | ((with_reducible refine Mine.set ?_ _); repeat first | exact Mine.slot (by with_reducible assumption) | with_reducible refine MineS.drew ?_ | with_reducible refine MineS.drewN ?_ _ | ((with_reducible refine MineS.new ?_); decide) | ((with_reducible refine MineS.newAt ?_ ?_) <;> first | decide | (simp; done)) | with_reducible refine MineS.set ?_ _ _ _ | with_reducible refine MineS.alloc ?_ _) | with_reducible refine Mine.other ?_ _ (by first | (left; omega) | (right; omega) | (simp; done) | (simp; omega)) | with_reducible refine Mine.alloc ?_ _)); (refine Mine.cell ?_; (repeat first | with_reducible assumption | with_reducible refine Mine.drew ?_ | with_reducible refine Mine.drewN ?_ _ | ((with_reducible refine Mine.new ?_); rfl) | ((with_reducible refine Mine.newAt ?_ ?_) <;> first | rfl | (simp; done) | (simp only [World.size_alloc]; rfl)) | ((with_reducible refine Mine.set ?_ _); repeat first | exact Mine.slot (by with_reducible assumption) | with_reducible refine MineS.drew ?_ | with_reducible refine MineS.drewN ?_ _ | ((with_reducible refine MineS.new ?_); decide) | ((with_reducible refine MineS.newAt ?_ ?_) <;> first | decide | (simp; done)) | with_reducible refine MineS.set ?_ _ _ _ | with_reducible refine MineS.alloc ?_ _) | with_reducible refine Mine.other ?_ _ (by first | (left; omega) | (right; omega) | (simp; done) | (simp; omega)) | with_reducible refine Mine.alloc ?_ _)); (refine Mine.cell ?_; (repeat first | with_reducible assumption | with_reducible refine Mine.drew ?_ | with_reducible refine Mine.drewN ?_ _ | ((with_reducible refine Mine.new ?_); rfl) | ((with_reducible refine Mine.newAt ?_ ?_) <;> first | rfl | (simp; done) | (simp only [World.size_alloc]; rfl)) | ((with_reducible refine Mine.set ?_ _); repeat first | exact Mine.slot (by with_reducible assumption) | with_reducible refine MineS.drew ?_ | with_reducible refine MineS.drewN ?_ _ | ((with_reducible refine MineS.new ?_); decide) | ((with_reducible refine MineS.newAt ?_ ?_) <;> first | decide | (simp; done)) | with_reducible refine MineS.set ?_ _ _ _ | with_reducible refine MineS.alloc ?_ _) | with_reducible refine Mine.other ?_ _ (by first | (left; omega) | (right; omega) | (simp; done) | (simp; omega)) | with_reducible refine Mine.alloc ?_ _)); rintro ee w5 ⟨rfl, rfl⟩))
      go_wp2
      refine name_wp ?_
      intro w6 hww6
      have mAll : Mine w6 B5 0 (.int .u32 a) ∧ Mine w6 B5 1 (.int .u32 b') ∧ Mine w6 B5 2 (.int .u32 c) ∧ Mine w6 B5 3 (.int .u32 d) ∧ Mine w6 B5 4 (.int .u32 e) ∧ Mine w6 B5 5 (.int .u32 f) ∧ Mine w6 B5 6 (.int .u32 g) ∧ Mine w6 B5 7 (.int .u32 i) ∧ Mine w6 B4 k (.int .u32 wk) := by
        rw [hww6]
        refine ⟨?_, ?_, ?_, ?_, ?_, ?_, ?_, ?_, ?_⟩ <;> (repeat first | with_reducible assumption | with_reducible refine Mine.drew ?_ | with_reducible refine Mine.drewN ?_ _ | ((with_reducible refine Mine.new ?_); rfl) | ((with_reducible refine Mine.newAt ?_ ?_) <;> first | rfl | (simp; done) | (simp only [World.size_alloc]; rfl)) | ((with_reducible refine Mine.set ?_ _); repeat first | exact Mine.slot (by with_reducible assumption) | with_reducible refine MineS.drew ?_ | with_reducible refine MineS.drewN ?_ _ | ((with_reducible refine MineS.new ?_); decide) | ((with_reducible refine MineS.newAt ?_ ?_) <;> first | decide | (simp; done)) | with_reducible refine MineS.set ?_ _ _ _ | with_reducible refine MineS.alloc ?_ _) | with_reducible refine Mine.other ?_ _ (by first | (left; omega) | (right; omega) | (simp; done) | (simp; omega)) | with_reducible refine Mine.alloc ?_ _)
      clear m0 m1 m2 m3 m4 m5 m6 m7 m8
      obtain ⟨m0, m1, m2, m3, m4, m5, m6, m7, m8⟩ := mAll
      have hBzw6 := hB.size
      replace hWr : Arr w6 B4 79 (u32s W) := by rw [hww6]; exact (hWr.drew.alloc _)
      replace hVr : Arr w6 B5 61 (u32s [a, b', c, d, e, f, g, i]) := by rw [hww6]; exact (hVr.drew.alloc _)
      replace hB : Below w.heap.size w w6 := by rw [hww6]; exact (by repeat first | with_reducible exact Below.refl _ _ | with_reducible assumption | with_reducible refine below_drewN ?_ _ | with_reducible refine Below.drew ?_ | with_reducible refine Below.setCell ?_ (by first | exact Nat.le_refl _ | (simp; done) | (simp; omega) | omega) _ | with_reducible refine Below.alloc ?_ (by first | exact Nat.le_refl _ | (simp; done) | (simp; omega) | omega) _ | exact Below.refl _ _ | assumption)
      clear hww6 hBzw6
      go_region_held3 (fun w' => w'.cell? ⟨B5, 1, none⟩ = some (.int .u32 b') ∧ w'.cell? ⟨B5, 2, none⟩ = some (.int .u32 c)) ((refine ⟨Mine.cell ?_, Mine.cell ?_⟩) <;> (repeat first | with_reducible assumption | with_reducible refine Mine.drew ?_ | with_reducible refine Mine.drewN ?_ _ | ((with_reducible refine Mine.new ?_); rfl) | ((with_reducible refine Mine.newAt ?_ ?_) <;> first | rfl | (simp; done) | (simp only [World.size_alloc]; rfl)) | ((with_reducible refine Mine.set ?_ _); repeat first | exact Mine.slot (by with_reducible assumption) | with_reducible refine MineS.drew ?_ | with_reducible refine MineS.drewN ?_ _ | ((with_reducible refine MineS.new ?_); decide) | ((with_reducible refine MineS.newAt ?_ ?_) <;> first | decide | (simp; done)) | with_reducible refine MineS.set ?_ _ _ _ | with_reducible refine MineS.alloc ?_ _) | with_reducible refine Mine.other ?_ _ (by first | (left; omega) | (right; omega) | (simp; done) | (simp; omega)) | with_reducible refine Mine.alloc ?_ _))
        (first
          | (go_at_call 45; (with_reducible refine (mixed_three a 2 13 22 2 13 22 _ _ wa (by decide) (by decide) (by decide) (by decide) (by decide) (by decide) ?_ ?_ ?_).mono ?_); (refine Mine.cell ?_; (repeat first | with_reducible assumption | with_reducible refine Mine.drew ?_ | with_reducible refine Mine.drewN ?_ _ | ((with_reducible refine Mine.new ?_); rfl) | ((with_reducible refine Mine.newAt ?_ ?_) <;> first | rfl | (simp; done) | (simp only [World.size_alloc]; rfl)) | ((with_reducible refine Mine.set ?_ _); repeat first | exact Mine.slot (by with_reducible assumption) | with_reducible refine MineS.drew ?_ | with_reducible refine MineS.drewN ?_ _ | ((with_reducible refine MineS.new ?_); decide) | ((with_reducible refine MineS.newAt ?_ ?_) <;> first | decide | (simp; done)) | with_reducible refine MineS.set ?_ _ _ _ | with_reducible refine MineS.alloc ?_ _) | with_reducible refine Mine.other ?_ _ (by first | (left; omega) | (right; omega) | (simp; done) | (simp; omega)) | with_reducible refine Mine.alloc ?_ _)); (refine Mine.cell ?_; (repeat first | with_reducible assumption | with_reducible refine Mine.drew ?_ | with_reducible refine Mine.drewN ?_ _ | ((with_reducible refine Mine.new ?_); rfl) | ((with_reducible refine Mine.newAt ?_ ?_) <;> first | rfl | (simp; done) | (simp only [World.size_alloc]; rfl)) | ((with_reducible refine Mine.set ?_ _); repeat first | exact Mine.slot (by with_reducible assumption) | with_reducible refine MineS.drew ?_ | with_reducible refine MineS.drewN ?_ _ | ((with_reducible refine MineS.new ?_); decide) | ((with_reducible refine MineS.newAt ?_ ?_) <;> first | decide | (simp; done)) | with_reducible refine MineS.set ?_ _ _ _ | with_reducible refine MineS.alloc ?_ _) | with_reducible refine Mine.other ?_ _ (by first | (left; omega) | (right; omega) | (simp; done) | (simp; omega)) | with_reducible refine Mine.alloc ?_ _)); (refine Mine.cell ?_; (repeat first | with_reducible assumption | with_reducible refine Mine.drew ?_ | with_reducible refine Mine.drewN ?_ _ | ((with_reducible refine Mine.new ?_); rfl) | ((with_reducible refine Mine.newAt ?_ ?_) <;> first | rfl | (simp; done) | (simp only [World.size_alloc]; rfl)) | ((with_reducible refine Mine.set ?_ _); repeat first | exact Mine.slot (by with_reducible assumption) | with_reducible refine MineS.drew ?_ | with_reducible refine MineS.drewN ?_ _ | ((with_reducible refine MineS.new ?_); decide) | ((with_reducible refine MineS.newAt ?_ ?_) <;> first | decide | (simp; done)) | with_reducible refine MineS.set ?_ _ _ _ | with_reducible refine MineS.alloc ?_ _) | with_reducible refine Mine.other ?_ _ (by first | (left; omega) | (right; omega) | (simp; done) | (simp; omega)) | with_reducible refine Mine.alloc ?_ _)); rintro ee w7 ⟨rfl, rfl⟩))
      go_wp2
      refine name_wp ?_
      intro w8 hww8
      have mAll : Mine w8 B5 0 (.int .u32 a) ∧ Mine w8 B5 1 (.int .u32 b') ∧ Mine w8 B5 2 (.int .u32 c) ∧ Mine w8 B5 3 (.int .u32 d) ∧ Mine w8 B5 4 (.int .u32 e) ∧ Mine w8 B5 5 (.int .u32 f) ∧ Mine w8 B5 6 (.int .u32 g) ∧ Mine w8 B5 7 (.int .u32 i) ∧ Mine w8 B4 k (.int .u32 wk) := by
        rw [hww8]
        refine ⟨?_, ?_, ?_, ?_, ?_, ?_, ?_, ?_, ?_⟩ <;> (repeat first | with_reducible assumption | with_reducible refine Mine.drew ?_ | with_reducible refine Mine.drewN ?_ _ | ((with_reducible refine Mine.new ?_); rfl) | ((with_reducible refine Mine.newAt ?_ ?_) <;> first | rfl | (simp; done) | (simp only [World.size_alloc]; rfl)) | ((with_reducible refine Mine.set ?_ _); repeat first | exact Mine.slot (by with_reducible assumption) | with_reducible refine MineS.drew ?_ | with_reducible refine MineS.drewN ?_ _ | ((with_reducible refine MineS.new ?_); decide) | ((with_reducible refine MineS.newAt ?_ ?_) <;> first | decide | (simp; done)) | with_reducible refine MineS.set ?_ _ _ _ | with_reducible refine MineS.alloc ?_ _) | with_reducible refine Mine.other ?_ _ (by first | (left; omega) | (right; omega) | (simp; done) | (simp; omega)) | with_reducible refine Mine.alloc ?_ _)
      clear m0 m1 m2 m3 m4 m5 m6 m7 m8
      obtain ⟨m0, m1, m2, m3, m4, m5, m6, m7, m8⟩ := mAll
      have hBzw8 := hB.size
      replace hWr : Arr w8 B4 79 (u32s W) := by rw [hww8]; exact (hWr.drew.alloc _)
      replace hVr : Arr w8 B5 61 (u32s [a, b', c, d, e, f, g, i]) := by rw [hww8]; exact (hVr.drew.alloc _)
      replace hB : Below w.heap.size w w8 := by rw [hww8]; exact (by repeat first | with_reducible exact Below.refl _ _ | with_reducible assumption | with_reducible refine below_drewN ?_ _ | with_reducible refine Below.drew ?_ | with_reducible refine Below.setCell ?_ (by first | exact Nat.le_refl _ | (simp; done) | (simp; omega) | omega) _ | with_reducible refine Below.alloc ?_ (by first | exact Nat.le_refl _ | (simp; done) | (simp; omega) | omega) _ | exact Below.refl _ _ | assumption)
      clear hww8 hBzw8
      have hsrc : ∀ j v, (u32s [a, b', c, d, e, f, g])[j]? = some v → w8.drew.cell? ((⟨B5, 0, none⟩ : Addr).add j) = some v := fun j v hj => by rw [Addr.add_mid, Nat.zero_add]; exact hVr.drew.cell (copy_src a b' c d e f g i j v hj)
      go_region_law ((refine step_copy_splice rfl (.tmp 69) (.tmp 70) 69 69 rfl 59 Tryd.underlying69 (by kernel_rfl) (some ⟨B5, 1, none⟩) (some ⟨B5, 0, none⟩) 7 7 7 8 rfl rfl B5 1 (u32s [a, b', c, d, e, f, g, i]) 61 hVr.drew (u32s [a, b', c, d, e, f, g]) rfl (fun _ => ⟨rfl, _, rfl, hsrc⟩) (by simp [u32s]) ?_ B5 w8.drew (Below.refl _ _) (Nat.le_refl _) ?_; (intro v hvm; simp [u32s] at hvm; rcases hvm with rfl | rfl | rfl | rfl | rfl | rfl | rfl <;> rfl); intro w9 hV9 hB9))
      have hVr9 : Arr w9 B5 61 (u32s [a, a, b', c, d, e, f, g]) := hV9.out
      have hWr9 : Arr w9 B4 79 (u32s W) := (hWr.drew).belowAt hB9 hHB5
      have hB10 : Below w.heap.size w w9 := hB.drew.trans (hB9.mono (by omega))
      clear hV9 hB9 hsrc hWr hVr hB m0 m1 m2 m3 m4 m5 m6 m7 m8
      have c0 := hVr9.cell (j := 0) (v := .int .u32 a) rfl
      have f0 := hVr9.free 0
      have c4 := hVr9.cell (j := 4) (v := .int .u32 d) rfl
      have f4 := hVr9.free 4
      go_wp2
      go_roundw
      case rel => exact ⟨k + 1, by omega, by go_num, (by repeat first | with_reducible exact Below.refl _ _ | with_reducible assumption | with_reducible refine below_drewN ?_ _ | with_reducible refine Below.drew ?_ | with_reducible refine Below.setCell ?_ (by first | exact Nat.le_refl _ | (simp; done) | (simp; omega) | omega) _ | with_reducible refine Below.alloc ?_ (by first | exact Nat.le_refl _ | (simp; done) | (simp; omega) | omega) _ | exact Below.refl _ _ | assumption), (hWr9.other _ (by omega)).other _ (by omega), by rw [hnext.out]; exact (hVr9.set 0 _).set 4 _⟩
      case measure => simp [intOf]; omega
    · have hd : decide ((k : Int) < 64) = false := by simp; omega
      obtain rfl : k = 64 := by omega
      rw [show ((64 : Nat) : Int) = 64 from rfl]
      go_wp2
      have hVv := rounds_v8 W hv 64
      have hfin : Hid (shaAdd hs bs = addTo hs (rounds W hs 64) 8) := by show _ = _; rw [shaAdd, hWe.out]
      generalize rounds W hs 64 = V at *
      have hBB : BelowBut w.heap.size HB w wr := BelowBut.of hBr
      have hHr : Arr wr HB T (u32s (addTo hs V 0)) := by rw [addTo_zero]; exact hA.below hBr
      have hHV : HB < B5 := by omega
      clear hN hN8 hG' hBr hWr
      go_loopw [82] (fun i wr => ∃ k : Nat, k ≤ 8 ∧ i = .int .i64 k ∧ BelowBut w.heap.size HB w wr ∧ Arr wr B5 61 (u32s V) ∧ Arr wr HB T (u32s (addTo hs V k))) (fun i _ => 8 - (intOf i).toNat)
      case atStart => exact ⟨0, by omega, rfl, hBB, hVr, hHr⟩
      case round =>
        obtain ⟨k, hk8, rfl, hBB2, hV2, hH2⟩ := hrel
        by_cases hlt8 : k < 8
        · have hd8 : decide ((k : Int) < 8) = true := by simp; omega
          have c1 := hH2.cell (addTo_at hv hVv k hlt8)
          have f1 := hH2.free k
          have c2 := hV2.cell (hVv.at k hlt8)
          have hs2 := hH2.set k (.int .u32 (IntKind.u32.wrap (hs.getD k 0 + V.getD k 0)))
          rw [addTo_set hv hVv k hlt8] at hs2
          have hV3 := hV2.other (b := HB) (o := k) (.int .u32 (IntKind.u32.wrap (hs.getD k 0 + V.getD k 0))) (by omega)
          have hB3 := hBB2.setCell k (.int .u32 (IntKind.u32.wrap (hs.getD k 0 + V.getD k 0)))
          simp only [IntKind.wrap_u32'] at hs2 hV3 hB3
          generalize hs.getD k 0 = x at *
          generalize V.getD k 0 = y at *
          replace hs2 := Lib.hid hs2
          replace hV3 := Lib.hid hV3
          replace hB3 := Lib.hid hB3
          go_wp2
          go_region
          go_wp2
          go_roundw
          case rel => exact ⟨k + 1, by omega, by go_num, hB3.out.drew, hV3.out.drew, hs2.out.drew⟩
          case measure => simp [intOf]; omega
        · have hd8 : decide ((k : Int) < 8) = false := by simp; omega
          obtain rfl : k = 8 := by omega
          go_wp2
          go_end0
          exact ⟨rfl, by rw [hfin.out]; exact hH2, hBB2⟩
end Go.Proofs.YtllofogjojlamaaDoor
