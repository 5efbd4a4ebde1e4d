/-
  The contract of slices.BinarySearchFunc over instructions.
-/
import Derived.Test.YtainohbfcehpoaaDoorMb4
namespace Go.Proofs.YtainohbfcehpoaaDoor
open Go.RowKit

/-- The cells of instructions, each with the number of the instruction to which it leads. -/
def insCells (l : List Ins) (tos : Nat → Nat) : List Value := (List.range l.length).flatMap fun i => [.int .i64 ((l[i]!).off : Int), .int .i64 ((l[i]!).op : Int), .int .i64 ((l[i]!).opd : Int), .int .i64 (tos i : Int)]
/-- A row of instructions lies at an address. -/
def InsRow (w : World) (b o : Nat) (l : List Ins) (tos : Nat → Nat) : Prop := ∀ i, i < l.length → w.cell? ⟨b, o + i * 4, none⟩ = some (.int .i64 ((l[i]!).off : Int)) ∧ w.cell? ⟨b, o + i * 4 + 1, none⟩ = some (.int .i64 ((l[i]!).op : Int)) ∧ w.cell? ⟨b, o + i * 4 + 2, none⟩ = some (.int .i64 ((l[i]!).opd : Int)) ∧ w.cell? ⟨b, o + i * 4 + 3, none⟩ = some (.int .i64 (tos i : Int))
theorem InsRow.keep {w w' : World} {b o : Nat} {l : List Ins} {tos : Nat → Nat} (h : InsRow w b o l tos) (hb : w'.heap[b]? = w.heap[b]?) : InsRow w' b o l tos := fun i hi => by
  obtain ⟨h0, h1, h2, h3⟩ := h i hi
  exact ⟨(World.cell?_of_block (a := ⟨b, o + i * 4, none⟩) hb).trans h0, (World.cell?_of_block (a := ⟨b, o + i * 4 + 1, none⟩) hb).trans h1, (World.cell?_of_block (a := ⟨b, o + i * 4 + 2, none⟩) hb).trans h2, (World.cell?_of_block (a := ⟨b, o + i * 4 + 3, none⟩) hb).trans h3⟩

theorem idxOf_none {l : List Ins} {t : Nat} (h : ∀ k, k < l.length → (l[k]!).off ≠ t) : idxOf l t = none := by
  cases hq : idxOf l t with
  | none => rfl
  | some j =>
    obtain ⟨h1, h2⟩ := idxOf_some hq
    exact absurd h2 (h j h1)
theorem Laid.le {a : Nat} {l : List Ins} (h : Laid a l) {i j : Nat} (hij : i ≤ j) (hj : j < l.length) : (l[i]!).off ≤ (l[j]!).off := by
  rcases Nat.lt_or_ge i j with h1 | h1
  · exact Nat.le_of_lt (h.lt i j h1 hj)
  · obtain rfl : i = j := by omega
    exact Nat.le_refl _
set_option maxRecDepth 100000 in
set_option maxHeartbeats 4000000 in
theorem search_any (b o c : Nat) (l : List Ins) (tos : Nat → Nat) (t : Nat) (w : World) (hc : l.length ≤ 100000) (hL : Laid 0 l) (hoff : ∀ i, i < l.length → (l[i]!).off ≤ 1000000) (ht : t ≤ 1000000) (hb : b < w.heap.size) (hR : InsRow w b o l tos) :
    Calls Tryd.prog 47 #[.slice (some ⟨b, o, none⟩) l.length c, .int .i64 (t : Int), .func (.func 48) #[] #[]] w fun e w' => ∃ j : Nat, e = .returned (.tuple #[.int .i64 (j : Int), .bool (idxOf l t).isSome]) ∧ (∀ k, idxOf l t = some k → j = k) ∧ Below w.heap.size w w' := by
  have hB : Below w.heap.size w w := Below.refl _ _
  go_enter Tryd.func47, Tryd.ntmps47
  go_wp2_with fail
  go_loopw [9, 10] (fun i j wr => ∃ x y : Nat, x ≤ y ∧ y ≤ l.length ∧ i = .int .i64 (x : Int) ∧ j = .int .i64 (y : Int) ∧ Hid (Below w.heap.size w wr) ∧ Hid (∀ k, k < x → (l[k]!).off < t) ∧ Hid (∀ k, y ≤ k → k < l.length → t ≤ (l[k]!).off)) (fun i j _ => (intOf j).toNat - (intOf i).toNat)
  case atStart => exact ⟨0, l.length, Nat.zero_le _, Nat.le_refl _, rfl, rfl, hB, (show Hid _ from fun k hk => by omega), (show Hid _ from fun k hk hk2 => by omega)⟩
  case round =>
    obtain ⟨x, y, hxy, hy, rfl, rfl, BW, hlo, hhi⟩ := hrel
    by_cases hlt : x < y
    · have hd : decide ((x : Int) < (y : Int)) = true := by simpa using hlt
      have hm : (x + y) / 2 < y := by omega
      have hml : (x + y) / 2 < l.length := by omega
      have hbw := BW.out.block b hb
      obtain ⟨m0, m1, m2, m3⟩ := (hR.keep hbw) _ hml
      have hcmp := fun W => cmpOff_any (l[(x + y) / 2]!).off (l[(x + y) / 2]!).op (l[(x + y) / 2]!).opd (tos ((x + y) / 2)) t W (hoff _ hml) ht
      unfold insAgg at hcmp
      have hw1 : IntKind.i64.wrap ((x : Int) + (y : Int)) = (x : Int) + (y : Int) := IntWalk.i64_in _ (by omega)
      have hlo2 : (l[(x + y) / 2]!).off < t → ∀ k, k < (x + y) / 2 + 1 → (l[k]!).off < t := fun h k hk => Nat.lt_of_le_of_lt (hL.le (by omega) hml) h
      have hhi2 : ¬ (l[(x + y) / 2]!).off < t → ∀ k, (x + y) / 2 ≤ k → k < l.length → t ≤ (l[k]!).off := fun h k hk hk2 => Nat.le_trans (by omega) (hL.le hk hk2)
      generalize l[(x + y) / 2]! = z at *
      replace hcmp := Lib.hid hcmp
      replace hlo2 := Lib.hid hlo2
      replace hhi2 := Lib.hid hhi2
      have hz2 : (z.off : Int) - (t : Int) < 0 ↔ z.off < t := by omega
      have hBr := BW.out
      go_wp2_with fail
      refine (hcmp.out _).mono ?_
      rintro e w2 ⟨rfl, hb2⟩
      have hB2 := hBr.trans (hb2.mono hBr.size)
      by_cases hz : z.off < t
      · have hd2 : decide ((z.off : Int) - (t : Int) < 0) = true := by simp; omega
        have hd3 : (z.off : Int) - (t : Int) < 0 := by omega
        have hl3 := Lib.hid (hlo2.out hz)
        clear hz2
        go_wp2_with fail
        exact ⟨⟨(x + y) / 2 + 1, y, by omega, hy, by go_num, rfl, hB2, hl3, hhi⟩, by simp [intOf]; omega⟩
      · have hd2 : decide ((z.off : Int) - (t : Int) < 0) = false := by simp; omega
        have hd3 : ¬ (z.off : Int) - (t : Int) < 0 := by omega
        have hl3 := Lib.hid (hhi2.out hz)
        clear hz2
        go_wp2_with fail
        exact ⟨⟨x, (x + y) / 2, by omega, by omega, rfl, by go_num, hB2, hlo, hl3⟩, by simp [intOf]; omega⟩
    · obtain rfl : x = y := by omega
      have hd : decide ((x : Int) < (x : Int)) = false := by simp
      have hBr := BW.out
      by_cases hxl : x < l.length
      · have hdx : decide ((x : Int) < (l.length : Int)) = true := by simpa using hxl
        have hbw := BW.out.block b hb
        obtain ⟨m0, m1, m2, m3⟩ := (hR.keep hbw) _ hxl
        have hcmp := fun W => cmpOff_any (l[x]!).off (l[x]!).op (l[x]!).opd (tos x) t W (hoff _ hxl) ht
        unfold insAgg at hcmp
        have hsome : (l[x]!).off = t → idxOf l t = some x := fun h => by rw [← h]; exact hL.idx hxl
        have hnone : (l[x]!).off ≠ t → idxOf l t = none := fun h => idxOf_none fun k hk => by
          rcases Nat.lt_trichotomy k x with h1 | h1 | h1
          · have := hlo.out k h1; omega
          · subst h1; exact h
          · have := hL.lt x k h1 hk
            have := hhi.out x (Nat.le_refl _) hxl
            omega
        generalize l[x]! = z at *
        replace hcmp := Lib.hid hcmp
        go_wp2_with fail
        refine (hcmp.out _).mono ?_
        rintro e w2 ⟨rfl, hb2⟩
        have hB2 := hBr.trans (hb2.mono hBr.size)
        by_cases hz : z.off = t
        · have hd2 : ((z.off : Int) - (t : Int) == 0) = true := by simp; omega
          have hi := Lib.hid (hsome hz)
          have hzz : (z.off : Int) - (t : Int) = 0 := by omega
          clear hsome hnone
          go_wp2_with fail
          refine bodyPost_ret (v := .tuple #[.int .i64 (x : Int), .bool true]) (by simp [results, Tryd.f47, go_sem]) rfl ⟨x, by rw [hi.out]; rfl, fun k hk => ?_, hB2⟩
          rw [hi.out] at hk
          injection hk
        · have hd2 : ((z.off : Int) - (t : Int) == 0) = false := by simp; omega
          have hi := Lib.hid (hnone hz)
          have hzz : (z.off : Int) - (t : Int) ≠ 0 := by omega
          clear hsome hnone
          go_wp2_with fail
          refine bodyPost_ret (v := .tuple #[.int .i64 (x : Int), .bool false]) (by simp [results, Tryd.f47, go_sem]) rfl ⟨x, by rw [hi.out]; rfl, fun k hk => ?_, hB2⟩
          rw [hi.out] at hk
          cases hk
      · have hdx : decide ((x : Int) < (l.length : Int)) = false := by simpa using hxl
        have hi := Lib.hid (idxOf_none (l := l) (t := t) fun k hk => by have := hlo.out k (by omega); omega)
        go_wp2_with fail
        refine bodyPost_ret (v := .tuple #[.int .i64 (x : Int), .bool false]) (by simp [results, Tryd.f47, go_sem]) rfl ⟨x, by rw [hi.out]; rfl, fun k hk => ?_, hBr⟩
        rw [hi.out] at hk
        cases hk
end Go.Proofs.YtainohbfcehpoaaDoor
