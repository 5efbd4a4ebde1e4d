/-
  The reference's Digits, Name and Line at bytes.
  The reference's Line and number at bytes.
  The reference's split: the words of a text.
-/
import Derived.Test.YtkgbknjpnhoadaaGreatDoorCrD
import Derived.Laws.BytesArg
namespace Go.Proofs.YtkgbknjpnhoadaaGreatDoor
open Go.RowKit Go.Shelf

/-- How far the digits are written. -/
def DigI (u k : Nat) (l : List UInt8) : Prop := (l = [] ∧ k = u) ∨ (l ≠ [] ∧ ((0 < k ∧ Lib.decDigits u = Lib.decDigits k ++ l) ∨ (k = 0 ∧ Lib.decDigits u = l)))
theorem DigI.step {u k : Nat} {l : List UInt8} (h : DigI u k l) (hc : l = [] ∨ 0 < k) : DigI u (k / 10) (UInt8.ofNat (48 + k % 10) :: l) := by
  refine .inr ⟨by simp, ?_⟩
  have key : ∀ l : List UInt8, Lib.decDigits k ++ l = if k / 10 = 0 then UInt8.ofNat (48 + k % 10) :: l else Lib.decDigits (k / 10) ++ UInt8.ofNat (48 + k % 10) :: l := fun l => by
    by_cases h10 : k < 10
    · rw [if_pos (by omega), Lib.decDigits, dif_pos h10, Nat.mod_eq_of_lt h10]; rfl
    · rw [if_neg (by omega), Lib.decDigits, dif_neg h10]; simp
  have hd : Lib.decDigits u = Lib.decDigits k ++ l := by
    rcases h with ⟨rfl, rfl⟩ | ⟨hl, ⟨_, h⟩ | ⟨h0, _⟩⟩
    · simp
    · exact h
    · rcases hc with hc | hc
      · exact absurd hc hl
      · omega
  rw [key] at hd
  by_cases h0 : k / 10 = 0
  · rw [if_pos h0] at hd; exact .inr ⟨h0, hd⟩
  · rw [if_neg h0] at hd; exact .inl ⟨by omega, hd⟩
theorem DigI.done {u k : Nat} {l : List UInt8} (h : DigI u k l) (hl : l ≠ []) (hk : ¬ 0 < k) : l = Lib.decDigits u := by
  rcases h with ⟨h, _⟩ | ⟨_, ⟨h, _⟩ | ⟨_, h⟩⟩
  · exact absurd h hl
  · exact absurd h hk
  · exact h.symm
theorem DigI.len {u k : Nat} {l : List UInt8} (h : DigI u k l) (hu : u < 256) : l.length ≤ 20 := by
  have h1 := decDigits_byte hu
  rcases h with ⟨rfl, _⟩ | ⟨_, ⟨_, h⟩ | ⟨_, h⟩⟩
  · simp
  · rw [h] at h1; simp at h1; omega
  · rw [h] at h1; omega
theorem strOfNums_one (d : Nat) : strOfNums [((48 + d : Nat) : Int)] = str [UInt8.ofNat (48 + d)] := rfl
def strLen0 : Value → Nat | .string s => if s.size = 0 then 1 else 0 | _ => 0

set_option maxRecDepth 100000 in
set_option maxHeartbeats 1000000 in
theorem Digits_nat (u : Nat) (w : World) (hu : u < 256) :
    Calls Tryz.prog 52 #[.int .i64 u] w fun e w' => e = .returned (.string (str (Lib.decDigits u))) ∧ Below w.heap.size w w' := by
  have hB : Below w.heap.size w w := Below.refl _ _
  have hd0 : decide ((u : Int) < 0) = false := by simp
  go_enter Tryz.func52, Tryz.ntmps52
  go_wp2
  go_loopw [0, 3] (fun n o wr => ∃ (k : Nat) (l : List UInt8), n = .int .i64 k ∧ o = .string (str l) ∧ k < 256 ∧ l.length ≤ 20 ∧ Hid (DigI u k l) ∧ Below w.heap.size w wr) (fun n o _ => 2 * (intOf n).toNat + strLen0 o)
  case atStart => exact ⟨u, [], rfl, rfl, hu, by simp, (show DigI u u [] from .inl ⟨rfl, rfl⟩), hB⟩
  case round =>
    clear hB
    obtain ⟨k, l, rfl, rfl, hk, hll, hI, hB⟩ := hrel
    have hBz := hB.size
    have hcv := run_convert_bytes_arg (P := Tryz.prog) (wr.alloc (.cells #[.int .u8 (48 + (k : Int) % 10)] 5)) 41 5 Tryz.underlying41 Tryz.underlying5 wr.heap.size 0 1 1 [48 + (k : Int) % 10] rfl (fun j hj => by
      obtain rfl : j = 0 := by omega
      exact (Mine.new rfl).cell) 9 Tryz.underlying9
    obtain ⟨ch, hch⟩ : ∃ ch, ch = UInt8.ofNat (48 + k % 10) := ⟨_, rfl⟩
    have hs1 : strOfNums [48 + (k : Int) % 10] = str [ch] := by
      rw [hch, show 48 + (k : Int) % 10 = ((48 + k % 10 : Nat) : Int) from by omega]; exact strOfNums_one _
    rw [hs1] at hcv
    clear hs1
    have hadd := add_str [ch] l (by simp; omega)
    rw [show [ch] ++ l = ch :: l from rfl] at hadd
    by_cases hc : l = [] ∨ 0 < k
    · have hI2 := hI.out.step hc
      rw [← hch] at hI2
      replace hI2 := Lib.hid hI2
      clear hch
      have hsm : 2 * (k / 10) + strLen0 (.string (str (ch :: l))) < 2 * k + strLen0 (.string (str l)) := by
        have e : strLen0 (.string (str (ch :: l))) = 0 := by simp [strLen0, str_size]
        rw [e]
        rcases hc with rfl | hc
        · have : strLen0 (.string (str [])) = 1 := by simp [strLen0, str_size]
          omega
        · omega
      have hl2 : (ch :: l).length ≤ 20 := by
        rw [List.length_cons]
        have hlen := DigI.len hI2.out hu
        simpa using hlen
      replace hsm := Lib.hid hsm
      replace hl2 := Lib.hid hl2
      by_cases hl0 : l = []
      · have e1 : (str l).toList.isEmpty = true := by rw [Lib.toList_data, str_list, hl0]; rfl
        clear hc hl0 hI hll
        go_wp2
        go_roundw
        case rel => exact ⟨k / 10, _, by go_num, rfl, by omega, hl2.out, hI2, (by repeat first | with_reducible exact Below.refl _ _ | with_reducible assumption | with_reducible refine below_drewN ?_ _ | with_reducible refine Below.drew ?_ | with_reducible refine Below.setCell ?_ (by first | exact Nat.le_refl _ | (simp; done) | (simp; omega) | omega) _ | with_reducible refine Below.alloc ?_ (by first | exact Nat.le_refl _ | (simp; done) | (simp; omega) | omega) _ | exact Below.refl _ _ | assumption)⟩
        case measure => have := hsm.out; simp only [intOf]; omega
      · have e1 : (str l).toList.isEmpty = false := by rw [Lib.toList_data, str_list]; simpa using hl0
        have hk0 : 0 < k := by
          rcases hc with hc | hc
          · exact absurd hc hl0
          · exact hc
        have e2 : decide (0 < k) = true := by simpa using hk0
        clear hc hl0 hI hll hk0
        go_wp2
        go_roundw
        case rel => exact ⟨k / 10, _, by go_num, rfl, by omega, hl2.out, hI2, (by repeat first | with_reducible exact Below.refl _ _ | with_reducible assumption | with_reducible refine below_drewN ?_ _ | with_reducible refine Below.drew ?_ | with_reducible refine Below.setCell ?_ (by first | exact Nat.le_refl _ | (simp; done) | (simp; omega) | omega) _ | with_reducible refine Below.alloc ?_ (by first | exact Nat.le_refl _ | (simp; done) | (simp; omega) | omega) _ | exact Below.refl _ _ | assumption)⟩
        case measure => have := hsm.out; simp only [intOf]; omega
    · have hl0 : l ≠ [] := fun h => hc (.inl h)
      have hk0 : ¬ 0 < k := fun h => hc (.inr h)
      have hI2 := Lib.hid (hI.out.done hl0 hk0)
      have e1 : (str l).toList.isEmpty = false := by rw [Lib.toList_data, str_list]; simpa using hl0
      have e2 : decide (0 < k) = false := by simpa using hk0
      clear hc hl0 hk0 hI hcv hadd hch
      go_wp2
      go_ret
      exact ⟨by rw [hI2.out]; rfl, hB⟩

def nameB (o : Nat) : List UInt8 := if o < 17 then opNames.getD o [] else rawB
set_option maxRecDepth 100000 in
set_option maxHeartbeats 1000000 in
theorem refName_any (o : Nat) (w : World) (ho : o ≤ 1000000000) :
    Calls Tryz.prog 51 #[.int .i64 o] w fun e w' => e = .returned (.string (str (nameB o))) ∧ Below w.heap.size w w' := by
  have hB : Below w.heap.size w w := Below.refl _ _
  by_cases h17 : o < 17
  · have hd : decide ((o : Int) < 17) = true := by simp; omega
    have i0 : (0 : Int) ≤ (o : Int) := by omega
    have i4 : (o : Int) < 17 := by omega
    have hv : Hid (nameB o = opNames.getD o []) := if_pos h17
    have hA : Arr (w.alloc (.cells nameCells.toArray 9)) w.heap.size 9 nameCells := Arr.new rfl rfl
    have hc := hA.cell (nameCell h17)
    generalize opNames.getD o [] = nm at *
    have hc2 : (w.alloc (.cells #[.string ⟨#[72, 65, 76, 84]⟩, .string ⟨#[76, 68, 73]⟩, .string ⟨#[76, 68, 65]⟩, .string ⟨#[83, 84, 65]⟩, .string ⟨#[76, 68, 88]⟩, .string ⟨#[83, 84, 88]⟩, .string ⟨#[65, 68, 68]⟩, .string ⟨#[83, 85, 66]⟩, .string ⟨#[74, 77, 80]⟩, .string ⟨#[74, 90]⟩, .string ⟨#[74, 78]⟩, .string ⟨#[75, 69, 89]⟩, .string ⟨#[84, 88, 84]⟩, .string ⟨#[80, 73, 88]⟩, .string ⟨#[82, 68]⟩, .string ⟨#[87, 82]⟩, .string ⟨#[84, 73, 77]⟩] 9)).cell? ⟨w.heap.size, o, none⟩ = some (.string (str nm)) := hc
    clear hA hc
    go_enter Tryz.func51, Tryz.ntmps51
    go_wp2_with fail
    go_ret
    exact ⟨by rw [hv.out]; rfl, hB.alloc (Nat.le_refl _) _⟩
  · have hd : decide ((o : Int) < 17) = false := by simp; omega
    have hv : Hid (nameB o = rawB) := if_neg h17
    go_enter Tryz.func51, Tryz.ntmps51
    go_wp2_with fail
    go_ret
    exact ⟨by rw [hv.out]; rfl, hB.alloc (Nat.le_refl _) _⟩
end Go.Proofs.YtkgbknjpnhoadaaGreatDoor
namespace Go.Proofs.YtkgbknjpnhoadaaGreatDoor
open Go.RowKit Go.Shelf

theorem nameB_raw {o : Nat} (h : o < 17) : ((str (nameB o)).toList == [82, 65, 87]) = false := by
  rw [Lib.toList_data, str_list]
  show (nameB o == rawB) = false
  rw [nameB, if_pos h]
  simpa using opNames_raw o h
set_option maxRecDepth 100000 in
set_option maxHeartbeats 1000000 in
theorem refLine_any (o n : Nat) (w : World) (ho : o < 256) (hn : n < 256) :
    Calls Tryz.prog 32 #[.int .i64 o, .int .i64 n] w fun e w' => e = .returned (.string (str (lineB o n))) ∧ Below w.heap.size w w' := by
  have hN := Lib.hid (fun w => refName_any o w (by omega))
  have hD1 := Lib.hid (fun w => Digits_nat o w ho)
  have hD2 := Lib.hid (fun w => Digits_nat n w hn)
  have b1 := decDigits_byte ho
  have b2 := decDigits_byte hn
  by_cases h17 : o < 17
  · have hl : lineB o n = nameB o ++ 32 :: Lib.decDigits n := by rw [lineB, nameB, if_pos h17, if_pos h17]
    have b3 : (nameB o).length ≤ 4 := by rw [nameB, if_pos h17]; exact opName_len o
    have hq := nameB_raw h17
    have hadd1 := add_str (nameB o) [32] (by simp only [List.length_cons, List.length_nil]; omega)
    have hadd2 := add_str (nameB o ++ [32]) (Lib.decDigits n) (by simp only [List.length_append, List.length_cons, List.length_nil]; omega)
    rw [List.append_assoc, show [(32 : UInt8)] ++ Lib.decDigits n = 32 :: Lib.decDigits n from rfl, ← hl] at hadd2
    rw [show str [32] = ⟨#[32]⟩ from rfl] at hadd1
    replace hl := Lib.hid hl
    generalize nameB o = nm at *
    generalize Lib.decDigits n = l2 at *
    generalize nm ++ [32] = s1 at *
    generalize lineB o n = ln at *
    clear hl b1 b2 b3
    go_enter Tryz.func32, Tryz.ntmps32
    go_wp2_with fail
    refine (hN.out _).mono ?_
    rintro e w1 ⟨rfl, hb1⟩
    go_wp2_with fail
    refine (hD2.out _).mono ?_
    rintro e w2 ⟨rfl, hb2⟩
    go_wp2_with fail
    go_ret
    exact ⟨rfl, hb1.trans (hb2.mono hb1.size)⟩
  · have hl : lineB o n = nameB o ++ [32] ++ Lib.decDigits o ++ [32] ++ Lib.decDigits n := by rw [lineB, nameB, if_neg h17, if_neg h17]; simp
    have b3 : (nameB o).length ≤ 4 := by rw [nameB, if_neg h17]; decide
    have hq : ((str (nameB o)).toList == [82, 65, 87]) = true := by rw [Lib.toList_data, str_list, nameB, if_neg h17]; rfl
    have hadd1 := add_str (nameB o) [32] (by simp only [List.length_cons, List.length_nil]; omega)
    have hadd2 := add_str (nameB o ++ [32]) (Lib.decDigits o) (by simp only [List.length_append, List.length_cons, List.length_nil]; omega)
    have hadd3 := add_str (nameB o ++ [32] ++ Lib.decDigits o) [32] (by simp only [List.length_append, List.length_cons, List.length_nil]; omega)
    have hadd4 := add_str (nameB o ++ [32] ++ Lib.decDigits o ++ [32]) (Lib.decDigits n) (by simp only [List.length_append, List.length_cons, List.length_nil]; omega)
    rw [← hl] at hadd4
    rw [show str [32] = ⟨#[32]⟩ from rfl] at hadd1 hadd3
    replace hl := Lib.hid hl
    generalize nameB o = nm at *
    generalize Lib.decDigits n = l2 at *
    generalize Lib.decDigits o = l1 at *
    generalize nm ++ [32] = s1 at *
    generalize s1 ++ l1 = s2 at *
    generalize s2 ++ [32] = s3 at *
    generalize lineB o n = ln at *
    clear hl b1 b2 b3
    go_enter Tryz.func32, Tryz.ntmps32
    go_wp2_with fail
    refine (hN.out _).mono ?_
    rintro e w1 ⟨rfl, hb1⟩
    go_wp2_with fail
    refine (hD1.out _).mono ?_
    rintro e w2 ⟨rfl, hb2⟩
    go_wp2_with fail
    refine (hD2.out _).mono ?_
    rintro e w3 ⟨rfl, hb3⟩
    go_wp2_with fail
    go_ret
    exact ⟨rfl, (hb1.trans (hb2.mono hb1.size)).trans (hb3.mono (Nat.le_trans hb1.size hb2.size))⟩

/-- The number that the digits of a word make. -/
def numStep (n : Nat) (b : UInt8) : Nat := if 48 ≤ b.toNat ∧ b.toNat ≤ 57 then 10 * n + (b.toNat - 48) else n
def numTake (s : List UInt8) (k : Nat) : Nat := (s.take k).foldl numStep 0
def numQ (s : List UInt8) : Nat := numTake s (min s.length 8)
theorem numTake_snoc (s : List UInt8) (k : Nat) (h : k < s.length) : numTake s (k + 1) = numStep (numTake s k) s[k]! := by
  unfold numTake
  rw [take_snoc s k h, List.foldl_append]
  rfl
theorem numTake_lt (s : List UInt8) : ∀ k, k ≤ s.length → numTake s k < 10 ^ k
  | 0, _ => by simp [numTake]
  | k + 1, h => by
    have ih := numTake_lt s k (by omega)
    rw [numTake_snoc s k (by omega), numStep, Nat.pow_succ]
    split <;> omega
theorem numQ_digits (n : Nat) (hn : n < 256) : numQ (Lib.decDigits n) = n := by
  have h3 := decDigits_byte hn
  unfold numQ numTake
  rw [show min (Lib.decDigits n).length 8 = (Lib.decDigits n).length from by omega, List.take_length]
  clear h3 hn
  induction n using Nat.strongRecOn with
  | ind n ih =>
    have hs : ∀ a d : Nat, d < 10 → numStep a (UInt8.ofNat (48 + d)) = 10 * a + d := fun a d hd => by
      unfold numStep
      rw [UInt8.toNat_ofNat', Nat.mod_eq_of_lt (show 48 + d < 256 by omega), if_pos (by omega)]
      omega
    by_cases h : n < 10
    · rw [Lib.decDigits, dif_pos h, List.foldl_cons, hs 0 n h]
      simp
    · rw [Lib.decDigits, dif_neg h, List.foldl_append, ih (n / 10) (by omega), List.foldl_cons, hs _ _ (by omega), List.foldl_nil]
      omega

set_option maxRecDepth 100000 in
set_option maxHeartbeats 1000000 in
theorem refNumber_any (s : List UInt8) (w : World) (hs : s.length ≤ 1000000) :
    Calls Tryz.prog 58 #[.string (str s)] w fun e w' => e = .returned (.int .i64 (numQ s : Nat)) ∧ w' = w := by
  have hps : (str s).size = s.length := str_size s
  have hPG : ∀ j (h : j < (str s).size), (((str s)[j].toNat : Nat) : Int) = (s[j]!.toNat : Nat) := fun j h => by
    rw [str_at, getElem!_pos s j (by rw [str_size] at h; exact h)]
  have hend : numQ s = numTake s (min s.length 8) := rfl
  generalize str s = P at *
  replace hPG := Lib.hid hPG
  replace hps := Lib.hid hps
  replace hend := Lib.hid hend
  go_enter Tryz.func58, Tryz.ntmps58
  go_wp2_with fail
  go_loopw [4, 3] (fun i n wr => ∃ k : Nat, k ≤ s.length ∧ k ≤ 8 ∧ i = .int .i64 k ∧ n = .int .i64 (numTake s k : Nat) ∧ wr = w) (fun i _ _ => 8 - (intOf i).toNat)
  case atStart => exact ⟨0, Nat.zero_le _, Nat.zero_le _, rfl, rfl, rfl⟩
  case round =>
    obtain ⟨k, hk, hk8, rfl, rfl, rfl⟩ := hrel
    have hps' := hps.out
    by_cases hlt : k < s.length ∧ k < 8
    · obtain ⟨hlt, hlt8⟩ := hlt
      have hj0 : k < P.size := by omega
      have hd : decide ((k : Int) < (P.size : Int)) = true := by simp; omega
      have hd8 : decide ((k : Int) < 8) = true := by simp; omega
      have hg := hPG.out k hj0
      have hsn := numTake_snoc s k hlt
      have hlt7 := numTake_lt s k hk
      have hp : 10 ^ k ≤ 10 ^ 7 := Nat.pow_le_pow_right (by omega) (by omega)
      have hn7 : numTake s k < 10000000 := by omega
      have hb := s[k]!.toNat_lt
      rw [numStep] at hsn
      generalize s[k]!.toNat = b at *
      generalize numTake s k = n at *
      clear hp hlt7
      replace hps' := Lib.hid hps'
      by_cases h1 : 48 ≤ b
      · by_cases h2 : b ≤ 57
        · have d1 : decide ((((P[k]'hj0).toNat : Nat) : Int) ≥ 48) = true := by simp; omega
          have d2 : decide ((((P[k]'hj0).toNat : Nat) : Int) ≤ 57) = true := by simp; omega
          rw [if_pos ⟨h1, h2⟩] at hsn
          replace hsn := Lib.hid hsn
          have hw1 : IntKind.i64.wrap (10 * (n : Int)) = 10 * (n : Int) := IntWalk.i64_in _ (by omega)
          have hw2 : IntKind.i64.wrap (10 * (n : Int) + ((b : Int) - 48)) = 10 * (n : Int) + ((b : Int) - 48) := IntWalk.i64_in _ (by omega)
          have hw3 : IntKind.u8.wrap ((b : Int) - 48) = (b : Int) - 48 := IntWalk.u8_in _ (by omega)
          go_wp2_with fail
          exact ⟨⟨k + 1, by omega, by omega, by go_num, by rw [hsn.out]; congr 1; omega, trivial⟩, by simp [intOf]; omega⟩
        · have d1 : decide ((((P[k]'hj0).toNat : Nat) : Int) ≥ 48) = true := by simp; omega
          have d2 : decide ((((P[k]'hj0).toNat : Nat) : Int) ≤ 57) = false := by simp; omega
          rw [if_neg (fun c => h2 c.2)] at hsn
          replace hsn := Lib.hid hsn
          go_wp2_with fail
          exact ⟨⟨k + 1, by omega, by omega, by go_num, by rw [hsn.out], trivial⟩, by simp [intOf]; omega⟩
      · have d1 : decide ((((P[k]'hj0).toNat : Nat) : Int) ≥ 48) = false := by simp; omega
        rw [if_neg (fun c => h1 c.1)] at hsn
        replace hsn := Lib.hid hsn
        go_wp2_with fail
        exact ⟨⟨k + 1, by omega, by omega, by go_num, by rw [hsn.out], trivial⟩, by simp [intOf]; omega⟩
    · have hke : k = min s.length 8 := by omega
      have hfin : numTake s k = numQ s := by rw [hke]; exact hend.out.symm
      rw [hfin]
      replace hke := Lib.hid hke
      by_cases hlt1 : k < s.length
      · have hd : decide ((k : Int) < (P.size : Int)) = true := by simp; omega
        have hd8 : decide ((k : Int) < 8) = false := by simp; omega
        have hj0 : k < P.size := by omega
        have hj8 : ¬ k < 8 := by omega
        replace hps' := Lib.hid hps'
        go_wp2_with fail
        go_ret
        exact ⟨rfl, rfl⟩
      · have hd : decide ((k : Int) < (P.size : Int)) = false := by simp; omega
        have hj0 : ¬ k < P.size := by omega
        replace hps' := Lib.hid hps'
        go_wp2_with fail
        go_ret
        exact ⟨rfl, rfl⟩
end Go.Proofs.YtkgbknjpnhoadaaGreatDoor
namespace Go.Proofs.YtkgbknjpnhoadaaGreatDoor
open Go.RowKit Go.Shelf

theorem info_str4 : (Tryz.prog.info? 9).map (fun i => (i.zero, i.size, i.bytes)) = some (some (.string ⟨#[]⟩), 1, 16) := by kernel_rfl
theorem wordCells_app (a b : List (List UInt8)) : wordCells (a ++ b) = wordCells a ++ wordCells b := List.map_append
theorem wordCells_len (a : List (List UInt8)) : (wordCells a).length = a.length := List.length_map _
/-- One word is appended to a row of the call's own: the run, ahead of the walk. -/
theorem append_word (ws : World) (base : Nat) (v : Value) (l : List (List UInt8)) (p : List UInt8) (hown : ws.ownsRow base 9 1 v l.length (wordCells l)) (hl : l.length ≤ 10000000) (hb : base ≤ ws.heap.size) :
    ∃ v' w', (Builtin.append_ #[45, 45] 45 #[v, .slice (some ⟨ws.heap.size, 0, none⟩) 1 1]).run Tryz.prog (ws.alloc (.cells #[.string (str p)] 9)) = .ok v' w' ∧
      w'.ownsRow base 9 1 v' (l ++ [p]).length (wordCells (l ++ [p])) ∧ (∀ B u, B ≤ base → Below B u ws → Below B u w') := by
  obtain ⟨i0, hi, hz0, hz1, hz2⟩ := info_parts info_str4
  have hown2 := own_below hown ((Below.refl ws.heap.size ws).alloc (Nat.le_refl _) (.cells #[.string (str p)] 9))
  have hnew : Arr (ws.alloc (.cells #[.string (str p)] 9)) ws.heap.size 9 (wordCells [p]) := Arr.new rfl rfl
  obtain ⟨v', w', hrun, r1, r2, r3, r4⟩ := run_append_own_at (P := Tryz.prog) (ws.alloc (.cells #[.string (str p)] 9)) base 45 45 9 i0 (.string ⟨#[]⟩) 1 16 Tryz.underlying45 hi hz0 hz1 hz2 rfl (by decide) v l.length (wordCells l) hown2 ⟨ws.heap.size, 0, none⟩ 1 1 (wordCells [p]) rfl (fun j u hu => by rw [Addr.add_mid, Nat.zero_add]; exact hnew.cell hu)
    (by intro u hu; simp [wordCells] at hu; rcases hu with rfl; rfl) (by unfold maxLen; omega) (by omega) (by simp; omega)
  refine ⟨v', w', hrun, by rw [List.length_append, wordCells_app]; exact r1, fun B u hB hu => ?_⟩
  exact (hu.alloc (by omega) _).grown r2 (by simp; omega) (fun j ej => Nat.le_trans hB (hown2.lt j ej).1)
structure SplI (w wr : World) (s : List UInt8) (out : List (List UInt8)) (f k : Nat) (v : Value) : Prop where
  below : Below w.heap.size w wr
  own : wr.ownsRow w.heap.size 9 1 v out.length (wordCells out)
  cut : cutAll 32 s = out ++ cutAll 32 (s.drop f)
  no : ∀ x ∈ (s.drop f).take (k - f), x ≠ 32
  le : f ≤ k
  len : out.length ≤ k
theorem drop_parts (s : List UInt8) (f k : Nat) (hf : f ≤ k) (hk : k < s.length) : s.drop f = (s.drop f).take (k - f) ++ s[k]! :: s.drop (k + 1) := by
  have h : s.drop f = (s.drop f).take (k - f) ++ (s.drop f).drop (k - f) := (List.take_append_drop _ _).symm
  rw [List.drop_drop, show f + (k - f) = k from by omega, List.drop_eq_getElem_cons hk, ← getElem!_pos s k hk] at h
  exact h
theorem take_drop_snoc (s : List UInt8) (f k : Nat) (hf : f ≤ k) (hk : k < s.length) : (s.drop f).take (k + 1 - f) = (s.drop f).take (k - f) ++ [s[k]!] := by
  rw [show k + 1 - f = (k - f) + 1 from by omega, take_snoc (s.drop f) (k - f) (by simp; omega)]
  congr 2
  rw [getElem!_pos _ _ (by simp; omega), getElem!_pos s k hk, List.getElem_drop]
  congr 1
  omega
theorem SplI.hit {w wr w' : World} {s : List UInt8} {out : List (List UInt8)} {f k : Nat} {v v' : Value} (h : SplI w wr s out f k v) (hk : k < s.length) (hc : s[k]! = 32) (hb : Below w.heap.size w w')
    (ho : w'.ownsRow w.heap.size 9 1 v' (out ++ [(s.drop f).take (k - f)]).length (wordCells (out ++ [(s.drop f).take (k - f)]))) : SplI w w' s (out ++ [(s.drop f).take (k - f)]) (k + 1) (k + 1) v' := by
  refine ⟨hb, ho, ?_, by simp, Nat.le_refl _, by have := h.len; simp; omega⟩
  rw [h.cut, List.append_assoc]
  congr 1
  conv => lhs; rw [drop_parts s f k h.le hk, hc]
  rw [cutAll_hit _ _ _ h.no]
  rfl
theorem SplI.miss {w wr : World} {s : List UInt8} {out : List (List UInt8)} {f k : Nat} {v : Value} (h : SplI w wr s out f k v) (hk : k < s.length) (hc : s[k]! ≠ 32) : SplI w wr s out f (k + 1) v := by
  refine ⟨h.below, h.own, h.cut, fun x hx => ?_, by have := h.le; omega, by have := h.len; omega⟩
  rw [take_drop_snoc s f k h.le hk] at hx
  rcases List.mem_append.1 hx with hx | hx
  · exact h.no x hx
  · obtain rfl := List.mem_singleton.1 hx
    exact hc
theorem SplI.done {w wr : World} {s : List UInt8} {out : List (List UInt8)} {f : Nat} {v : Value} (h : SplI w wr s out f s.length v) : cutAll 32 s = out ++ [s.drop f] := by
  rw [h.cut, cutAll_miss]
  intro x hx
  refine h.no x ?_
  rw [List.take_of_length_le (by simp)]
  exact hx
theorem extract_mid (s : List UInt8) (f k : Nat) : (str s).extract f k = str ((s.drop f).take (k - f)) := by
  apply ByteArray.ext
  apply Array.toList_inj.1
  rw [Lib.extract_data, str_list, str_list]

set_option maxRecDepth 100000 in
set_option maxHeartbeats 2000000 in
theorem split_any (s : List UInt8) (w : World) (hs : s.length ≤ 1000000) :
    Calls Tryz.prog 57 #[.string (str s)] w fun e w' => ∃ v, e = .returned v ∧ w'.ownsRow w.heap.size 9 1 v (cutAll 32 s).length (wordCells (cutAll 32 s)) ∧ Below w.heap.size w w' := by
  have hps : (str s).size = s.length := str_size s
  have hPG : ∀ j (h : j < (str s).size), (((str s)[j].toNat : Nat) : Int) = (s[j]!.toNat : Nat) := fun j h => by
    rw [str_at, getElem!_pos s j (by rw [str_size] at h; exact h)]
  have hex := extract_mid s
  generalize str s = P at *
  replace hPG := Lib.hid hPG
  replace hps := Lib.hid hps
  replace hex := Lib.hid hex
  go_enter Tryz.func57, Tryz.ntmps57
  go_wp2_with fail
  go_loopw [5, 4, 3] (fun i g v wr => ∃ (k f : Nat) (out : List (List UInt8)), k ≤ s.length ∧ i = .int .i64 k ∧ g = .int .i64 f ∧ Hid (SplI w wr s out f k v)) (fun i _ _ _ => s.length - (intOf i).toNat)
  case atStart => exact ⟨0, 0, [], Nat.zero_le _, rfl, rfl, (show SplI _ _ _ _ _ _ _ from ⟨Below.refl _ _, World.ownsRow_nil _ _ _ _, rfl, by simp, Nat.le_refl _, Nat.zero_le _⟩)⟩
  case round =>
    obtain ⟨k, f, out, hk, rfl, rfl, hI⟩ := hrel
    obtain ⟨ao, vc, rfl⟩ := own_val hI.out.own
    have hps' := hps.out
    have hfk := hI.out.le
    have hol := hI.out.len
    by_cases hlt : k < s.length
    · have hj0 : k < P.size := by omega
      have hd : decide ((k : Int) < (P.size : Int)) = true := by simp; omega
      have hg := hPG.out k hj0
      by_cases hc : s[k]! = 32
      · have hex' := hex.out f k
        obtain ⟨v', w', hrun, r1, r5⟩ := append_word wr w.heap.size _ out ((s.drop f).take (k - f)) hI.out.own (by omega) hI.out.below.size
        have hIn := Lib.hid (hI.out.hit hlt hc (r5 _ _ (Nat.le_refl _) hI.out.below) r1)
        rw [hc] at hg
        have hq : ((((P[k]'hj0).toNat : Nat) : Int) == 32) = true := by rw [hg]; rfl
        have i1 : (0 : Int) ≤ (f : Int) := by omega
        have i2 : (f : Int) ≤ (k : Int) := by omega
        have i3 : (k : Int) ≤ (P.size : Int) := by omega
        replace hrun := Lib.hid hrun
        generalize (s.drop f).take (k - f) = pc at *
        clear hc r1 r5 hI
        replace hps' := Lib.hid hps'
        go_wp2_with (at_builtin; go_loud (refine wpList_append_known rfl _ _ _ _ rfl _ _ rfl rfl hrun.out ?_))
        exact ⟨⟨k + 1, k + 1, _, by omega, by go_num, by go_num, hIn⟩, by simp [intOf]; omega⟩
      · have hIn := Lib.hid (hI.out.miss hlt hc)
        have hc2 : s[k]!.toNat ≠ 32 := fun h => hc (UInt8.toNat_inj.1 h)
        clear hc
        generalize s[k]! = x at *
        have hq : ((((P[k]'hj0).toNat : Nat) : Int) == 32) = false := by rw [hg, beq_eq_false_iff_ne]; omega
        have hq2 : (((x.toNat : Nat) : Int) == 32) = false := by rw [beq_eq_false_iff_ne]; omega
        clear hI
        replace hps' := Lib.hid hps'
        go_wp2_with fail
        exact ⟨⟨k + 1, f, _, by omega, by go_num, by go_num, hIn⟩, by simp [intOf]; omega⟩
    · obtain rfl : k = s.length := by omega
      have hd : decide ((s.length : Int) < (P.size : Int)) = false := by rw [hps']; simp
      have hj0 : ¬ s.length < P.size := by omega
      have hex' := hex.out f s.length
      rw [List.take_of_length_le (by simp)] at hex'
      have hsz : P.size = s.length := hps'
      have hdone := hI.out.done
      have i1 : (0 : Int) ≤ (f : Int) := by omega
      have i2 : (f : Int) ≤ (P.size : Int) := by omega
      obtain ⟨v', w', hrun, r1, r5⟩ := append_word wr w.heap.size _ out (s.drop f) hI.out.own (by omega) hI.out.below.size
      have hb := r5 _ _ (Nat.le_refl _) hI.out.below
      rw [← hdone] at r1
      replace hrun := Lib.hid hrun
      replace hdone := Lib.hid hdone
      rw [← hsz] at hex'
      replace hps' := Lib.hid hps'
      clear hI r5
      generalize s.drop f = pc at *
      replace hsz := Lib.hid hsz
      go_wp2_with (at_builtin; go_loud (refine wpList_append_known rfl _ _ _ _ rfl _ _ rfl rfl hrun.out ?_))
      go_ret
      exact ⟨_, rfl, r1, hb⟩
end Go.Proofs.YtkgbknjpnhoadaaGreatDoor
