/-
  Formats of chapter 4: the fixed texts of the law's sane, read. Plain.
  Formats of chapter 4: the law's sane.
  Formats of chapter 4, plain: the first formats of a valid table.
-/
import Derived.Test.YtcpfmlaipejfpaaGreatDoorK5
import Derived.Test.YtcpfmlaipejfpaaGreatDoorK4
import Derived.Test.YtcpfmlaipejfpaaGreatDoorKD
namespace Go.Proofs.YtcpfmlaipejfpaaGreatDoor
open Go.RowKit

def exF : Fmt := ⟨2, [⟨1, 0, -1, [77, 90]⟩, ⟨2, 2, -1, []⟩, ⟨3, 0, 1, []⟩]⟩
def exG : Fmt := ⟨7, [⟨2, 1, -1, []⟩, ⟨5, 2, 0, []⟩, ⟨6, 1, -1, []⟩]⟩
def ex1 : List UInt8 := [102, 111, 114, 109, 97, 116, 32, 50, 10, 108, 105, 116, 101, 114, 97, 108, 32, 52, 100, 53, 97, 10, 110, 117, 109, 98, 101, 114, 32, 50, 10, 98, 121, 116, 101, 115, 32, 102, 114, 111, 109, 32, 49, 10]
def ex2 : List UInt8 := [102, 111, 114, 109, 97, 116, 32, 50, 10, 108, 105, 116, 101, 114, 97, 108, 32, 52, 100, 53, 97, 10, 110, 117, 109, 98, 101, 114, 32, 50, 10, 98, 121, 116, 101, 115, 32, 102, 114, 111, 109, 32, 49, 10, 102, 111, 114, 109, 97, 116, 32, 55, 10, 110, 117, 109, 98, 101, 114, 32, 49, 10, 105, 110, 115, 105, 100, 101, 32, 50, 32, 102, 114, 111, 109, 32, 48, 10, 99, 104, 101, 99, 107, 32, 49, 10]
def ex3 : List UInt8 := [102, 111, 114, 109, 97, 116, 32, 50, 10, 108, 105, 116, 101, 114, 97, 108, 32, 52, 100, 53, 97, 10, 110, 117, 109, 98, 101, 114, 32, 50, 10, 98, 121, 116, 101, 115, 32, 102, 114, 111, 109, 32, 49, 10, 102, 111, 114, 109, 97, 116, 32, 55, 10, 110, 117, 109, 98, 101, 114, 32, 49, 10, 105, 110, 115, 105, 100, 101, 32, 55, 32, 102, 114, 111, 109, 32, 48, 10]
def ex4 : List UInt8 := [102, 111, 114, 109, 97, 116, 32, 50, 10, 110, 117, 109, 98, 101, 114, 32, 49, 10, 98, 121, 116, 101, 115, 32, 102, 114, 111, 109, 32, 48, 10, 98, 121, 116, 101, 115, 32, 102, 114, 111, 109, 32, 48, 10]
def ex5 : List UInt8 := []
def ex6 : List UInt8 := [102, 111, 114, 109, 97, 116, 32, 50]
theorem ex1_is : parse4 ex1 = ([exF], 0, 0) := by decide +kernel
theorem ex2_is : parse4 ex2 = ([exF, exG], 0, 0) := by decide +kernel
theorem ex3_is : parse4 ex3 = ([], 7, 40) := by decide +kernel
theorem ex4_is : parse4 ex4 = ([], 4, 40) := by decide +kernel
theorem ex5_is : parse4 ex5 = ([], 0, 0) := by decide +kernel
theorem ex6_is : parse4 ex6 = ([], 1, 40) := by decide +kernel
theorem exT : textF [exF] = ex1 := by decide +kernel
theorem exV : validT [exF] = true ∧ validT [exF, exG] = true ∧ validT [⟨0, []⟩] = false := by decide +kernel
theorem exL : leastT [exF, exG] 2 = 4 ∧ leastT [exF, exG] 7 = 6 := by decide +kernel
end Go.Proofs.YtcpfmlaipejfpaaGreatDoor
namespace Go.Proofs.YtcpfmlaipejfpaaGreatDoor
open Go.RowKit Go.Shelf

attribute [local go_sem] Oper.semAt_some

theorem parse_ok (s : List UInt8) (L : List Fmt) (h : parse4 s = (L, 0, 0)) (hs : s.length ≤ 100000) (w : World) (hE : Env w) :
    Calls Tryz.prog 25 #[.string (str s)] w fun e w' => (∃ a n c, e = .returned (.tuple #[.slice a n c, .int .i64 0, .int .i64 0]) ∧ n = L.length ∧ Fmts w' (.slice a n c) L) ∧ Below w.heap.size w w' := by
  refine (Parse_any s w hs hE).mono ?_
  rintro e w' ⟨hb, ⟨l, v, hp, rfl, hv, hin⟩ | ⟨k, hp, rfl⟩⟩
  · rw [h] at hp
    obtain rfl : L = l := (Prod.mk.inj hp).1
    obtain ⟨_, _, ⟨a, c, rfl, _⟩, _⟩ := id hv
    exact ⟨⟨a, _, c, rfl, rfl, hv, hin⟩, hb⟩
  · rw [h] at hp
    have := (Prod.mk.inj (Prod.mk.inj hp).2).2
    exact absurd this (by decide)
theorem parse_bad (s : List UInt8) (k : Nat) (h : parse4 s = ([], k, 40)) (hs : s.length ≤ 100000) (w : World) (hE : Env w) :
    Calls Tryz.prog 25 #[.string (str s)] w fun e w' => e = .returned (.tuple #[.slice none 0 0, .int .i64 (k : Int), .int .i64 40]) ∧ Below w.heap.size w w' := by
  refine (Parse_any s w hs hE).mono ?_
  rintro e w' ⟨hb, ⟨l, v, hp, rfl, hv, hin⟩ | ⟨k', hp, rfl⟩⟩
  · rw [h] at hp
    have := (Prod.mk.inj (Prod.mk.inj hp).2).2
    exact absurd this (by decide)
  · rw [h] at hp
    have := (Prod.mk.inj (Prod.mk.inj hp).2).1
    rw [this]
    exact ⟨rfl, hb⟩
theorem ex_plain : print4 [exF] = (ex1, 0) ∧ findT [exF, exG] 7 = some exG ∧ findT [exF, exG] 8 = none ∧ Lib.allEq fmtB [exF] [exF, exG] = false ∧ Lib.allEq fmtB [exF] [exF] = true := by decide +kernel
set_option maxRecDepth 100000 in
set_option maxHeartbeats 8000000 in
theorem sane_any (w : World) (hE : Env w) :
    Calls Tryz.prog 10 #[] w fun e w' => e = .returned (.bool true) ∧ Below w.heap.size w w' := by
  go_enter Tryz.func10, Tryz.ntmps10
  go_wp2_with fail
  refine (parse_ok ex1 _ ex1_is (by decide) w hE).mono ?_
  rintro e w1 ⟨⟨a1, n1, c1, rfl, hn1, hv1⟩, hb1⟩
  obtain rfl : n1 = 1 := hn1
  have hE1 := hE.below hb1
  go_wp2_with fail
  refine (parse_ok ex2 _ ex2_is (by decide) w1 hE1).mono ?_
  rintro e w2 ⟨⟨a2, n2, c2, rfl, hn2, hv2⟩, hb2⟩
  obtain rfl : n2 = 2 := hn2
  obtain ⟨mb, mo, rfl⟩ : ∃ mb mo, a2 = some ⟨mb, mo, none⟩ := by
    obtain ⟨fb, fo, cap, _, _, e, _⟩ := hv2.at (i := 0) (by decide)
    injection e with e1
    exact ⟨fb, fo, e1⟩
  have hE2 := hE1.below hb2
  have hB2 := hb1.trans (hb2.mono hb1.size)
  replace hv1 := hv1.later hb2
  go_wp2_with fail
  refine (parse_bad ex3 7 ex3_is (by decide) w2 hE2).mono ?_
  rintro e w3 ⟨rfl, hb3⟩
  have hE3 := hE2.below hb3
  have hB3 := hB2.trans (hb3.mono hB2.size)
  replace hv1 := hv1.later hb3
  replace hv2 := hv2.later hb3
  go_wp2_with fail
  refine (parse_bad ex4 4 ex4_is (by decide) w3 hE3).mono ?_
  rintro e w4 ⟨rfl, hb4⟩
  have hE4 := hE3.below hb4
  have hB4 := hB3.trans (hb4.mono hB3.size)
  replace hv1 := hv1.later hb4
  replace hv2 := hv2.later hb4
  go_wp2_with fail
  refine (parse_ok ex5 _ ex5_is (by decide) w4 hE4).mono ?_
  rintro e w5 ⟨⟨a5, n5, c5, rfl, hn5, hv5⟩, hb5⟩
  obtain rfl : n5 = 0 := hn5
  have hE5 := hE4.below hb5
  have hB5 := hB4.trans (hb5.mono hB4.size)
  replace hv1 := hv1.later hb5
  replace hv2 := hv2.later hb5
  go_wp2_with fail
  refine (parse_bad ex6 1 ex6_is (by decide) w5 hE5).mono ?_
  rintro e w6 ⟨rfl, hb6⟩
  have hE6 := hE5.below hb6
  have hB6 := hB5.trans (hb6.mono hB5.size)
  replace hv1 := hv1.later hb6
  replace hv2 := hv2.later hb6
  go_wp2_with fail
  have hpr := Print_any _ _ w6 hv1.at_ hv1.in_ hE6
  rw [ex_plain.1] at hpr
  refine hpr.mono ?_
  rintro e w7 ⟨rfl, hb7⟩
  rw [show str (ex1, (0 : Int)).1 = (⟨#[102, 111, 114, 109, 97, 116, 32, 50, 10, 108, 105, 116, 101, 114, 97, 108, 32, 52, 100, 53, 97, 10, 110, 117, 109, 98, 101, 114, 32, 50, 10, 98, 121, 116, 101, 115, 32, 102, 114, 111, 109, 32, 49, 10]⟩ : ByteArray) from rfl]
  have hB7 := hB6.trans (hb7.mono hB6.size)
  replace hv1 := hv1.later hb7
  replace hv2 := hv2.later hb7
  go_wp2_with fail
  refine (find_any _ _ 7 w7 hv2.at_ hv2.in_).mono ?_
  rintro e w8 ⟨hb8, ⟨hf, _⟩ | ⟨f8, v8, hf, rfl, ho8⟩⟩
  · exact absurd hf (by rw [ex_plain.2.1]; simp)
  have hB8 := hB7.trans (hb8.mono hB7.size)
  replace hv1 := hv1.later hb8
  replace hv2 := hv2.later hb8
  obtain ⟨a8, c8, rfl⟩ := own_val ho8
  clear ho8
  go_wp2_with fail
  obtain ⟨W9, hW9⟩ : ∃ W9, W9 = w8.alloc (.cells #[.int .i64 7, .slice a8 f8.flds.length c8] 34) := ⟨_, rfl⟩
  have hb9 : Below w8.heap.size w8 W9 := by rw [hW9]; exact (Below.refl _ _).alloc (Nat.le_refl _) _
  rw [← hW9]
  clear hW9
  have hB9 := hB8.trans (hb9.mono hB8.size)
  replace hv1 := hv1.later hb9
  replace hv2 := hv2.later hb9
  refine (find_any _ _ 8 W9 hv2.at_ hv2.in_).mono ?_
  rintro e w10 ⟨hb10, ⟨_, rfl⟩ | ⟨f9, v9, hf9, _, _⟩⟩
  rotate_left
  · exact absurd hf9 (by rw [ex_plain.2.2.1]; simp)
  have hB10 := hB9.trans (hb10.mono hB9.size)
  replace hv1 := hv1.later hb10
  replace hv2 := hv2.later hb10
  go_wp2_with fail
  obtain ⟨W11, hW11⟩ : ∃ W11, W11 = w10.alloc (.cells #[.int .i64 0, .slice none 0 0] 34) := ⟨_, rfl⟩
  have hb11 : Below w10.heap.size w10 W11 := by rw [hW11]; exact (Below.refl _ _).alloc (Nat.le_refl _) _
  rw [← hW11]
  clear hW11
  have hB11 := hB10.trans (hb11.mono hB10.size)
  replace hv1 := hv1.later hb11
  replace hv2 := hv2.later hb11
  have hl2 := least_any _ _ 2 ⟨by decide, by decide⟩ W11 hv2.at_ hv2.in_
  rw [exL.1] at hl2
  refine hl2.mono ?_
  rintro e w12 ⟨rfl, hb12⟩
  have hB12 := hB11.trans (hb12.mono hB11.size)
  replace hv1 := hv1.later hb12
  replace hv2 := hv2.later hb12
  go_wp2_with fail
  have hl7 := least_any _ _ 7 ⟨by decide, by decide⟩ w12 hv2.at_ hv2.in_
  rw [exL.2] at hl7
  refine hl7.mono ?_
  rintro e w13 ⟨rfl, hb13⟩
  have hB13 := hB12.trans (hb13.mono hB12.size)
  replace hv1 := hv1.later hb13
  replace hv2 := hv2.later hb13
  go_wp2_with fail
  have hva := valid_any _ _ w13 hv2.at_ hv2.in_
  rw [exV.2.1] at hva
  refine hva.mono ?_
  rintro e w14 ⟨rfl, hb14⟩
  have hB14 := hB13.trans (hb14.mono hB13.size)
  replace hv1 := hv1.later hb14
  replace hv2 := hv2.later hb14
  go_wp2_with fail
  have hs1 := same_any _ _ _ _ w14 hv1.at_ hv2.at_ hv1.in_ hv2.in_
  rw [ex_plain.2.2.2.1] at hs1
  refine hs1.mono ?_
  rintro e w15 ⟨rfl, hb15⟩
  have hB15 := hB14.trans (hb15.mono hB14.size)
  replace hv1 := hv1.later hb15
  replace hv2 := hv2.later hb15
  have hv3 : Fmts w15 (.slice (some ⟨mb, mo, none⟩) 1 c2) [exF] := Fmts.take (l := [exF, exG]) hv2 1 (by decide)
  have hc2 : 2 ≤ c2 := by
    obtain ⟨_, _, e, h1, _⟩ := hv2.val
    injection e with _ _ e
    rw [e]; exact h1
  have hc2i : (1 : Int) ≤ (c2 : Int) := by omega
  go_wp2_with fail
  have hs2 := same_any _ _ _ _ w15 hv1.at_ hv3.at_ hv1.in_ hv3.in_
  rw [ex_plain.2.2.2.2] at hs2
  refine hs2.mono ?_
  rintro e w16 ⟨rfl, hb16⟩
  have hB16 := hB15.trans (hb16.mono hB15.size)
  go_wp2_with fail
  obtain ⟨W17, hW17⟩ : ∃ W17, W17 = w16.alloc (.cells #[.int .i64 0, .slice none 0 0] 34) := ⟨_, rfl⟩
  have hb17 : Below w16.heap.size w16 W17 := by rw [hW17]; exact (Below.refl _ _).alloc (Nat.le_refl _) _
  have hA17 : Arr W17 w16.heap.size 34 [.int .i64 0, .slice none 0 0] := by rw [hW17]; exact Arr.new rfl rfl
  rw [← hW17]
  have hB17 := hB16.trans (hb17.mono hB16.size)
  have hvz := valid_any (.slice (some ⟨w16.heap.size, 0, none⟩) 1 1) [⟨0, []⟩] W17 ⟨[.slice none 0 0], rfl, ⟨_, _, rfl, Nat.le_refl _, by unfold maxLen; simp, fun _ => ⟨_, _, rfl, hA17.lt, fun j u hu => by rw [Nat.zero_add]; exact hA17.cell hu⟩⟩, fun i hi => by
    obtain rfl : i = 0 := by simpa using hi
    exact ⟨none, 0, rfl, Nat.le_refl _, Nat.zero_le _, fun h => absurd h (by simp)⟩⟩ ⟨by simp, fun f hf => by rw [List.mem_singleton.1 hf]; exact ⟨by decide, by decide⟩, fun f hf => by rw [List.mem_singleton.1 hf]; simp, fun f hf x hx => by rw [List.mem_singleton.1 hf] at hx; cases hx⟩
  rw [exV.2.2] at hvz
  refine hvz.mono ?_
  rintro e w18 ⟨rfl, hb18⟩
  have hB18 := hB17.trans (hb18.mono hB17.size)
  go_wp2_with fail
  go_ret
  exact ⟨rfl, hB18⟩
end Go.Proofs.YtcpfmlaipejfpaaGreatDoor
namespace Go.Proofs.YtcpfmlaipejfpaaGreatDoor
open Go.RowKit

theorem valid_front {l : List Fmt} {f : Fmt} (h : validR (l ++ [f]) = true) : validR l = true := by
  rw [validR, beginsR_snoc] at h
  simp only [Bool.and_eq_true] at h
  exact h.1.1.2
theorem take_snoc {l : List Fmt} {k : Nat} (h : k < l.length) : l.take (k + 1) = l.take k ++ [l[k]!] := by
  rw [List.take_succ_eq_append_getElem h, getElem!_pos l k h]
theorem valid_take {l : List Fmt} (h : validR l = true) : ∀ d k, k + d = l.length → validR (l.take k) = true
  | 0, k, hk => by rw [List.take_of_length_le (by omega)]; exact h
  | d + 1, k, hk => by
    have := valid_take h d (k + 1) (by omega)
    rw [take_snoc (by omega)] at this
    exact valid_front this
theorem asc_ne {l : List Fmt} (ha : Asc l) {i k : Nat} (hi : i < l.length) (hk : k < l.length) (h : i ≠ k) : l[i]!.id ≠ l[k]!.id := by
  rcases Nat.lt_or_gt_of_ne h with h | h
  · have := ha i k h hk; omega
  · have := ha k i h hi; omega
theorem get_take {l : List Fmt} {k a : Nat} (h : a < k) (hk : k ≤ l.length) : (l.take k)[a]! = l[a]! := by
  rw [getElem!_pos _ a (by rw [List.length_take]; omega), getElem!_pos l a (by omega), List.getElem_take]
theorem mOf_take {l : List Fmt} (ha : Asc l) : ∀ d k, k + d = l.length → ∀ i, i < l.length → mOf (l.take k) l[i]!.id = if i < k then mOf l l[i]!.id else none
  | 0, k, hk, i, hi => by rw [List.take_of_length_le (by omega), if_pos (by omega)]
  | d + 1, k, hk, i, hi => by
    have ih := mOf_take ha d (k + 1) (by omega) i hi
    rw [take_snoc (by omega), mOf_snoc] at ih
    by_cases hik : i = k
    · rw [hik, if_neg (by omega)]
      unfold mOf
      rw [idx_none _ (fun a h => by
        rw [List.length_take] at h
        rw [get_take (by omega) (by omega)]
        exact asc_ne ha (by omega) (by omega) (by omega)), if_pos (by omega)]
    · unfold putM at ih
      rw [if_neg (asc_ne ha hi (by omega) hik)] at ih
      rw [ih]
      by_cases h : i < k
      · rw [if_pos (by omega), if_pos h]
      · rw [if_neg (by omega), if_neg h]
theorem asc_valid {l : List Fmt} (h : validR l = true) : Asc l := by
  rw [validR, Bool.and_eq_true] at h
  exact (took h.1).asc
/-- P4.4: the first formats of a valid table. -/
theorem first_plain {l : List Fmt} (h : validR l = true) (k : Nat) (hk : k ≤ l.length) : validT (l.take k) = true ∧ ∀ i, i < l.length → leastT (l.take k) l[i]!.id = if i < k then leastT l l[i]!.id else 0 := by
  have hv := valid_take h (l.length - k) k (by omega)
  refine ⟨by rw [validT_eq]; exact hv, fun i hi => ?_⟩
  rw [leastT_eq hv, leastT_eq h, mOf_take (asc_valid h) (l.length - k) k (by omega) i hi]
  split <;> rfl
end Go.Proofs.YtcpfmlaipejfpaaGreatDoor
