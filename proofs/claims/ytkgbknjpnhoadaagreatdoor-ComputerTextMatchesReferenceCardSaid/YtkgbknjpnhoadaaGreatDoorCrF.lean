/-
  The reference's Digits, Name and Line at bytes.
-/
import Derived.Test.YtkgbknjpnhoadaaGreatDoorCrD
import Derived.Laws.BytesArg
namespace Go.Proofs.YtkgbknjpnhoadaaGreatDoor
open Go.RowKit Go.Shelf

/-- How far the digits are written. -/
def DigI (u k : Nat) (l : List UInt8) : Prop := (l = [] ∧ k = u) ∨ (l ≠ [] ∧ ((0 < k ∧ Lib.decDigits u = Lib.decDigits k ++ l) ∨ (k = 0 ∧ Lib.decDigits u = l)))
theorem DigI.step {u k : Nat} {l : List UInt8} (h : DigI u k l) (hc : l = [] ∨ 0 < k) : DigI u (k / 10) (UInt8.ofNat (48 + k % 10) :: l) := by
  refine .inr ⟨by simp, ?_⟩
  have key : ∀ l : List UInt8, Lib.decDigits k ++ l = if k / 10 = 0 then UInt8.ofNat (48 + k % 10) :: l else Lib.decDigits (k / 10) ++ UInt8.ofNat (48 + k % 10) :: l := fun l => by
    by_cases h10 : k < 10
    · rw [if_pos (by omega), Lib.decDigits, dif_pos h10, Nat.mod_eq_of_lt h10]; rfl
    · rw [if_neg (by omega), Lib.decDigits, dif_neg h10]; simp
  have hd : Lib.decDigits u = Lib.decDigits k ++ l := by
    rcases h with ⟨rfl, rfl⟩ | ⟨hl, ⟨_, h⟩ | ⟨h0, _⟩⟩
    · simp
    · exact h
    · rcases hc with hc | hc
      · exact absurd hc hl
      · omega
  rw [key] at hd
  by_cases h0 : k / 10 = 0
  · rw [if_pos h0] at hd; exact .inr ⟨h0, hd⟩
  · rw [if_neg h0] at hd; exact .inl ⟨by omega, hd⟩
theorem DigI.done {u k : Nat} {l : List UInt8} (h : DigI u k l) (hl : l ≠ []) (hk : ¬ 0 < k) : l = Lib.decDigits u := by
  rcases h with ⟨h, _⟩ | ⟨_, ⟨h, _⟩ | ⟨_, h⟩⟩
  · exact absurd h hl
  · exact absurd h hk
  · exact h.symm
theorem DigI.len {u k : Nat} {l : List UInt8} (h : DigI u k l) (hu : u < 256) : l.length ≤ 20 := by
  have h1 := decDigits_byte hu
  rcases h with ⟨rfl, _⟩ | ⟨_, ⟨_, h⟩ | ⟨_, h⟩⟩
  · simp
  · rw [h] at h1; simp at h1; omega
  · rw [h] at h1; omega
theorem strOfNums_one (d : Nat) : strOfNums [((48 + d : Nat) : Int)] = str [UInt8.ofNat (48 + d)] := rfl
def strLen0 : Value → Nat | .string s => if s.size = 0 then 1 else 0 | _ => 0

set_option maxRecDepth 100000 in
set_option maxHeartbeats 1000000 in
theorem Digits_nat (u : Nat) (w : World) (hu : u < 256) :
    Calls Tryz.prog 52 #[.int .i64 u] w fun e w' => e = .returned (.string (str (Lib.decDigits u))) ∧ Below w.heap.size w w' := by
  have hB : Below w.heap.size w w := Below.refl _ _
  have hd0 : decide ((u : Int) < 0) = false := by simp
  go_enter Tryz.func52, Tryz.ntmps52
  go_wp2
  go_loopw [0, 3] (fun n o wr => ∃ (k : Nat) (l : List UInt8), n = .int .i64 k ∧ o = .string (str l) ∧ k < 256 ∧ l.length ≤ 20 ∧ Hid (DigI u k l) ∧ Below w.heap.size w wr) (fun n o _ => 2 * (intOf n).toNat + strLen0 o)
  case atStart => exact ⟨u, [], rfl, rfl, hu, by simp, (show DigI u u [] from .inl ⟨rfl, rfl⟩), hB⟩
  case round =>
    clear hB
    obtain ⟨k, l, rfl, rfl, hk, hll, hI, hB⟩ := hrel
    have hBz := hB.size
    have hcv := run_convert_bytes_arg (P := Tryz.prog) (wr.alloc (.cells #[.int .u8 (48 + (k : Int) % 10)] 5)) 41 5 Tryz.underlying41 Tryz.underlying5 wr.heap.size 0 1 1 [48 + (k : Int) % 10] rfl (fun j hj => by
      obtain rfl : j = 0 := by omega
      exact (Mine.new rfl).cell) 9 Tryz.underlying9
    obtain ⟨ch, hch⟩ : ∃ ch, ch = UInt8.ofNat (48 + k % 10) := ⟨_, rfl⟩
    have hs1 : strOfNums [48 + (k : Int) % 10] = str [ch] := by
      rw [hch, show 48 + (k : Int) % 10 = ((48 + k % 10 : Nat) : Int) from by omega]; exact strOfNums_one _
    rw [hs1] at hcv
    clear hs1
    have hadd := add_str [ch] l (by simp; omega)
    rw [show [ch] ++ l = ch :: l from rfl] at hadd
    by_cases hc : l = [] ∨ 0 < k
    · have hI2 := hI.out.step hc
      rw [← hch] at hI2
      replace hI2 := Lib.hid hI2
      clear hch
      have hsm : 2 * (k / 10) + strLen0 (.string (str (ch :: l))) < 2 * k + strLen0 (.string (str l)) := by
        have e : strLen0 (.string (str (ch :: l))) = 0 := by simp [strLen0, str_size]
        rw [e]
        rcases hc with rfl | hc
        · have : strLen0 (.string (str [])) = 1 := by simp [strLen0, str_size]
          omega
        · omega
      have hl2 : (ch :: l).length ≤ 20 := by
        rw [List.length_cons]
        have hlen := DigI.len hI2.out hu
        simpa using hlen
      replace hsm := Lib.hid hsm
      replace hl2 := Lib.hid hl2
      by_cases hl0 : l = []
      · have e1 : (str l).toList.isEmpty = true := by rw [Lib.toList_data, str_list, hl0]; rfl
        clear hc hl0 hI hll
        go_wp2
        go_roundw
        case rel => exact ⟨k / 10, _, by go_num, rfl, by omega, hl2.out, hI2, (by repeat first | with_reducible exact Below.refl _ _ | with_reducible assumption | with_reducible refine below_drewN ?_ _ | with_reducible refine Below.drew ?_ | with_reducible refine Below.setCell ?_ (by first | exact Nat.le_refl _ | (simp; done) | (simp; omega) | omega) _ | with_reducible refine Below.alloc ?_ (by first | exact Nat.le_refl _ | (simp; done) | (simp; omega) | omega) _ | exact Below.refl _ _ | assumption)⟩
        case measure => have := hsm.out; simp only [intOf]; omega
      · have e1 : (str l).toList.isEmpty = false := by rw [Lib.toList_data, str_list]; simpa using hl0
        have hk0 : 0 < k := by
          rcases hc with hc | hc
          · exact absurd hc hl0
          · exact hc
        have e2 : decide (0 < k) = true := by simpa using hk0
        clear hc hl0 hI hll hk0
        go_wp2
        go_roundw
        case rel => exact ⟨k / 10, _, by go_num, rfl, by omega, hl2.out, hI2, (by repeat first | with_reducible exact Below.refl _ _ | with_reducible assumption | with_reducible refine below_drewN ?_ _ | with_reducible refine Below.drew ?_ | with_reducible refine Below.setCell ?_ (by first | exact Nat.le_refl _ | (simp; done) | (simp; omega) | omega) _ | with_reducible refine Below.alloc ?_ (by first | exact Nat.le_refl _ | (simp; done) | (simp; omega) | omega) _ | exact Below.refl _ _ | assumption)⟩
        case measure => have := hsm.out; simp only [intOf]; omega
    · have hl0 : l ≠ [] := fun h => hc (.inl h)
      have hk0 : ¬ 0 < k := fun h => hc (.inr h)
      have hI2 := Lib.hid (hI.out.done hl0 hk0)
      have e1 : (str l).toList.isEmpty = false := by rw [Lib.toList_data, str_list]; simpa using hl0
      have e2 : decide (0 < k) = false := by simpa using hk0
      clear hc hl0 hk0 hI hcv hadd hch
      go_wp2
      go_ret
      exact ⟨by rw [hI2.out]; rfl, hB⟩

def nameB (o : Nat) : List UInt8 := if o < 17 then opNames.getD o [] else rawB
set_option maxRecDepth 100000 in
set_option maxHeartbeats 1000000 in
theorem refName_any (o : Nat) (w : World) (ho : o ≤ 1000000000) :
    Calls Tryz.prog 51 #[.int .i64 o] w fun e w' => e = .returned (.string (str (nameB o))) ∧ Below w.heap.size w w' := by
  have hB : Below w.heap.size w w := Below.refl _ _
  by_cases h17 : o < 17
  · have hd : decide ((o : Int) < 17) = true := by simp; omega
    have i0 : (0 : Int) ≤ (o : Int) := by omega
    have i4 : (o : Int) < 17 := by omega
    have hv : Hid (nameB o = opNames.getD o []) := if_pos h17
    have hA : Arr (w.alloc (.cells nameCells.toArray 9)) w.heap.size 9 nameCells := Arr.new rfl rfl
    have hc := hA.cell (nameCell h17)
    generalize opNames.getD o [] = nm at *
    have hc2 : (w.alloc (.cells #[.string ⟨#[72, 65, 76, 84]⟩, .string ⟨#[76, 68, 73]⟩, .string ⟨#[76, 68, 65]⟩, .string ⟨#[83, 84, 65]⟩, .string ⟨#[76, 68, 88]⟩, .string ⟨#[83, 84, 88]⟩, .string ⟨#[65, 68, 68]⟩, .string ⟨#[83, 85, 66]⟩, .string ⟨#[74, 77, 80]⟩, .string ⟨#[74, 90]⟩, .string ⟨#[74, 78]⟩, .string ⟨#[75, 69, 89]⟩, .string ⟨#[84, 88, 84]⟩, .string ⟨#[80, 73, 88]⟩, .string ⟨#[82, 68]⟩, .string ⟨#[87, 82]⟩, .string ⟨#[84, 73, 77]⟩] 9)).cell? ⟨w.heap.size, o, none⟩ = some (.string (str nm)) := hc
    clear hA hc
    go_enter Tryz.func51, Tryz.ntmps51
    go_wp2_with fail
    go_ret
    exact ⟨by rw [hv.out]; rfl, hB.alloc (Nat.le_refl _) _⟩
  · have hd : decide ((o : Int) < 17) = false := by simp; omega
    have hv : Hid (nameB o = rawB) := if_neg h17
    go_enter Tryz.func51, Tryz.ntmps51
    go_wp2_with fail
    go_ret
    exact ⟨by rw [hv.out]; rfl, hB.alloc (Nat.le_refl _) _⟩
end Go.Proofs.YtkgbknjpnhoadaaGreatDoor
