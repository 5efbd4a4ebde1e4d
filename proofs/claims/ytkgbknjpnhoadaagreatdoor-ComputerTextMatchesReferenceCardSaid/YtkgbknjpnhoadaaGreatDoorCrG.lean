/-
  The reference's Line and number at bytes.
-/
import Derived.Test.YtkgbknjpnhoadaaGreatDoorCrF
namespace Go.Proofs.YtkgbknjpnhoadaaGreatDoor
open Go.RowKit Go.Shelf

theorem nameB_raw {o : Nat} (h : o < 17) : ((str (nameB o)).toList == [82, 65, 87]) = false := by
  rw [Lib.toList_data, str_list]
  show (nameB o == rawB) = false
  rw [nameB, if_pos h]
  simpa using opNames_raw o h
set_option maxRecDepth 100000 in
set_option maxHeartbeats 1000000 in
theorem refLine_any (o n : Nat) (w : World) (ho : o < 256) (hn : n < 256) :
    Calls Tryz.prog 32 #[.int .i64 o, .int .i64 n] w fun e w' => e = .returned (.string (str (lineB o n))) ∧ Below w.heap.size w w' := by
  have hN := Lib.hid (fun w => refName_any o w (by omega))
  have hD1 := Lib.hid (fun w => Digits_nat o w ho)
  have hD2 := Lib.hid (fun w => Digits_nat n w hn)
  have b1 := decDigits_byte ho
  have b2 := decDigits_byte hn
  by_cases h17 : o < 17
  · have hl : lineB o n = nameB o ++ 32 :: Lib.decDigits n := by rw [lineB, nameB, if_pos h17, if_pos h17]
    have b3 : (nameB o).length ≤ 4 := by rw [nameB, if_pos h17]; exact opName_len o
    have hq := nameB_raw h17
    have hadd1 := add_str (nameB o) [32] (by simp only [List.length_cons, List.length_nil]; omega)
    have hadd2 := add_str (nameB o ++ [32]) (Lib.decDigits n) (by simp only [List.length_append, List.length_cons, List.length_nil]; omega)
    rw [List.append_assoc, show [(32 : UInt8)] ++ Lib.decDigits n = 32 :: Lib.decDigits n from rfl, ← hl] at hadd2
    rw [show str [32] = ⟨#[32]⟩ from rfl] at hadd1
    replace hl := Lib.hid hl
    generalize nameB o = nm at *
    generalize Lib.decDigits n = l2 at *
    generalize nm ++ [32] = s1 at *
    generalize lineB o n = ln at *
    clear hl b1 b2 b3
    go_enter Tryz.func32, Tryz.ntmps32
    go_wp2_with fail
    refine (hN.out _).mono ?_
    rintro e w1 ⟨rfl, hb1⟩
    go_wp2_with fail
    refine (hD2.out _).mono ?_
    rintro e w2 ⟨rfl, hb2⟩
    go_wp2_with fail
    go_ret
    exact ⟨rfl, hb1.trans (hb2.mono hb1.size)⟩
  · have hl : lineB o n = nameB o ++ [32] ++ Lib.decDigits o ++ [32] ++ Lib.decDigits n := by rw [lineB, nameB, if_neg h17, if_neg h17]; simp
    have b3 : (nameB o).length ≤ 4 := by rw [nameB, if_neg h17]; decide
    have hq : ((str (nameB o)).toList == [82, 65, 87]) = true := by rw [Lib.toList_data, str_list, nameB, if_neg h17]; rfl
    have hadd1 := add_str (nameB o) [32] (by simp only [List.length_cons, List.length_nil]; omega)
    have hadd2 := add_str (nameB o ++ [32]) (Lib.decDigits o) (by simp only [List.length_append, List.length_cons, List.length_nil]; omega)
    have hadd3 := add_str (nameB o ++ [32] ++ Lib.decDigits o) [32] (by simp only [List.length_append, List.length_cons, List.length_nil]; omega)
    have hadd4 := add_str (nameB o ++ [32] ++ Lib.decDigits o ++ [32]) (Lib.decDigits n) (by simp only [List.length_append, List.length_cons, List.length_nil]; omega)
    rw [← hl] at hadd4
    rw [show str [32] = ⟨#[32]⟩ from rfl] at hadd1 hadd3
    replace hl := Lib.hid hl
    generalize nameB o = nm at *
    generalize Lib.decDigits n = l2 at *
    generalize Lib.decDigits o = l1 at *
    generalize nm ++ [32] = s1 at *
    generalize s1 ++ l1 = s2 at *
    generalize s2 ++ [32] = s3 at *
    generalize lineB o n = ln at *
    clear hl b1 b2 b3
    go_enter Tryz.func32, Tryz.ntmps32
    go_wp2_with fail
    refine (hN.out _).mono ?_
    rintro e w1 ⟨rfl, hb1⟩
    go_wp2_with fail
    refine (hD1.out _).mono ?_
    rintro e w2 ⟨rfl, hb2⟩
    go_wp2_with fail
    refine (hD2.out _).mono ?_
    rintro e w3 ⟨rfl, hb3⟩
    go_wp2_with fail
    go_ret
    exact ⟨rfl, (hb1.trans (hb2.mono hb1.size)).trans (hb3.mono (Nat.le_trans hb1.size hb2.size))⟩

/-- The number that the digits of a word make. -/
def numStep (n : Nat) (b : UInt8) : Nat := if 48 ≤ b.toNat ∧ b.toNat ≤ 57 then 10 * n + (b.toNat - 48) else n
def numTake (s : List UInt8) (k : Nat) : Nat := (s.take k).foldl numStep 0
def numQ (s : List UInt8) : Nat := numTake s (min s.length 8)
theorem numTake_snoc (s : List UInt8) (k : Nat) (h : k < s.length) : numTake s (k + 1) = numStep (numTake s k) s[k]! := by
  unfold numTake
  rw [take_snoc s k h, List.foldl_append]
  rfl
theorem numTake_lt (s : List UInt8) : ∀ k, k ≤ s.length → numTake s k < 10 ^ k
  | 0, _ => by simp [numTake]
  | k + 1, h => by
    have ih := numTake_lt s k (by omega)
    rw [numTake_snoc s k (by omega), numStep, Nat.pow_succ]
    split <;> omega
theorem numQ_digits (n : Nat) (hn : n < 256) : numQ (Lib.decDigits n) = n := by
  have h3 := decDigits_byte hn
  unfold numQ numTake
  rw [show min (Lib.decDigits n).length 8 = (Lib.decDigits n).length from by omega, List.take_length]
  clear h3 hn
  induction n using Nat.strongRecOn with
  | ind n ih =>
    have hs : ∀ a d : Nat, d < 10 → numStep a (UInt8.ofNat (48 + d)) = 10 * a + d := fun a d hd => by
      unfold numStep
      rw [UInt8.toNat_ofNat', Nat.mod_eq_of_lt (show 48 + d < 256 by omega), if_pos (by omega)]
      omega
    by_cases h : n < 10
    · rw [Lib.decDigits, dif_pos h, List.foldl_cons, hs 0 n h]
      simp
    · rw [Lib.decDigits, dif_neg h, List.foldl_append, ih (n / 10) (by omega), List.foldl_cons, hs _ _ (by omega), List.foldl_nil]
      omega

set_option maxRecDepth 100000 in
set_option maxHeartbeats 1000000 in
theorem refNumber_any (s : List UInt8) (w : World) (hs : s.length ≤ 1000000) :
    Calls Tryz.prog 58 #[.string (str s)] w fun e w' => e = .returned (.int .i64 (numQ s : Nat)) ∧ w' = w := by
  have hps : (str s).size = s.length := str_size s
  have hPG : ∀ j (h : j < (str s).size), (((str s)[j].toNat : Nat) : Int) = (s[j]!.toNat : Nat) := fun j h => by
    rw [str_at, getElem!_pos s j (by rw [str_size] at h; exact h)]
  have hend : numQ s = numTake s (min s.length 8) := rfl
  generalize str s = P at *
  replace hPG := Lib.hid hPG
  replace hps := Lib.hid hps
  replace hend := Lib.hid hend
  go_enter Tryz.func58, Tryz.ntmps58
  go_wp2_with fail
  go_loopw [4, 3] (fun i n wr => ∃ k : Nat, k ≤ s.length ∧ k ≤ 8 ∧ i = .int .i64 k ∧ n = .int .i64 (numTake s k : Nat) ∧ wr = w) (fun i _ _ => 8 - (intOf i).toNat)
  case atStart => exact ⟨0, Nat.zero_le _, Nat.zero_le _, rfl, rfl, rfl⟩
  case round =>
    obtain ⟨k, hk, hk8, rfl, rfl, rfl⟩ := hrel
    have hps' := hps.out
    by_cases hlt : k < s.length ∧ k < 8
    · obtain ⟨hlt, hlt8⟩ := hlt
      have hj0 : k < P.size := by omega
      have hd : decide ((k : Int) < (P.size : Int)) = true := by simp; omega
      have hd8 : decide ((k : Int) < 8) = true := by simp; omega
      have hg := hPG.out k hj0
      have hsn := numTake_snoc s k hlt
      have hlt7 := numTake_lt s k hk
      have hp : 10 ^ k ≤ 10 ^ 7 := Nat.pow_le_pow_right (by omega) (by omega)
      have hn7 : numTake s k < 10000000 := by omega
      have hb := s[k]!.toNat_lt
      rw [numStep] at hsn
      generalize s[k]!.toNat = b at *
      generalize numTake s k = n at *
      clear hp hlt7
      replace hps' := Lib.hid hps'
      by_cases h1 : 48 ≤ b
      · by_cases h2 : b ≤ 57
        · have d1 : decide ((((P[k]'hj0).toNat : Nat) : Int) ≥ 48) = true := by simp; omega
          have d2 : decide ((((P[k]'hj0).toNat : Nat) : Int) ≤ 57) = true := by simp; omega
          rw [if_pos ⟨h1, h2⟩] at hsn
          replace hsn := Lib.hid hsn
          have hw1 : IntKind.i64.wrap (10 * (n : Int)) = 10 * (n : Int) := IntWalk.i64_in _ (by omega)
          have hw2 : IntKind.i64.wrap (10 * (n : Int) + ((b : Int) - 48)) = 10 * (n : Int) + ((b : Int) - 48) := IntWalk.i64_in _ (by omega)
          have hw3 : IntKind.u8.wrap ((b : Int) - 48) = (b : Int) - 48 := IntWalk.u8_in _ (by omega)
          go_wp2_with fail
          exact ⟨⟨k + 1, by omega, by omega, by go_num, by rw [hsn.out]; congr 1; omega, trivial⟩, by simp [intOf]; omega⟩
        · have d1 : decide ((((P[k]'hj0).toNat : Nat) : Int) ≥ 48) = true := by simp; omega
          have d2 : decide ((((P[k]'hj0).toNat : Nat) : Int) ≤ 57) = false := by simp; omega
          rw [if_neg (fun c => h2 c.2)] at hsn
          replace hsn := Lib.hid hsn
          go_wp2_with fail
          exact ⟨⟨k + 1, by omega, by omega, by go_num, by rw [hsn.out], trivial⟩, by simp [intOf]; omega⟩
      · have d1 : decide ((((P[k]'hj0).toNat : Nat) : Int) ≥ 48) = false := by simp; omega
        rw [if_neg (fun c => h1 c.1)] at hsn
        replace hsn := Lib.hid hsn
        go_wp2_with fail
        exact ⟨⟨k + 1, by omega, by omega, by go_num, by rw [hsn.out], trivial⟩, by simp [intOf]; omega⟩
    · have hke : k = min s.length 8 := by omega
      have hfin : numTake s k = numQ s := by rw [hke]; exact hend.out.symm
      rw [hfin]
      replace hke := Lib.hid hke
      by_cases hlt1 : k < s.length
      · have hd : decide ((k : Int) < (P.size : Int)) = true := by simp; omega
        have hd8 : decide ((k : Int) < 8) = false := by simp; omega
        have hj0 : k < P.size := by omega
        have hj8 : ¬ k < 8 := by omega
        replace hps' := Lib.hid hps'
        go_wp2_with fail
        go_ret
        exact ⟨rfl, rfl⟩
      · have hd : decide ((k : Int) < (P.size : Int)) = false := by simp; omega
        have hj0 : ¬ k < P.size := by omega
        replace hps' := Lib.hid hps'
        go_wp2_with fail
        go_ret
        exact ⟨rfl, rfl⟩
end Go.Proofs.YtkgbknjpnhoadaaGreatDoor
