/-
  Reading a line: plain laws.
-/
import Derived.Test.YtkgbknjpnhoadaaGreatDoorCqT
import Derived.Lib.ParseIntBCases
import Derived.Lib.SlBy
namespace Go.Proofs.YtkgbknjpnhoadaaGreatDoor
open Go.Lib

/-- What strconv.ParseUint(s, 10, 8) gives as a byte. -/
def numB (l : List UInt8) : Nat := match parseUintB 8 l with
  | .ok u => u
  | .range => 255
  | _ => 0
theorem parseM_dec (M : Nat) (hM : M < 1844674407370955162) : ∀ (l : List UInt8) (acc n : Nat), decFrom acc l = some n → n ≤ M → acc ≤ n ∧ parseUintM M acc l = .ok n
  | [], acc, n, h, _ => by
    simp only [decFrom, Option.some.injEq] at h
    subst h
    exact ⟨Nat.le_refl _, rfl⟩
  | c :: r, acc, n, h, hn => by
    simp only [decFrom] at h
    unfold digitVal at h
    split at h
    · rename_i d hd
      split at hd
      · rename_i hc
        injection hd with hd
        subst hd
        obtain ⟨h1, h2⟩ := parseM_dec M hM r _ n h hn
        refine ⟨by omega, ?_⟩
        rw [parseUintM, if_pos hc, if_neg (by omega), if_neg (by omega), h2]
      · cases hd
    · cases h
theorem numB_dec {n : Nat} (h : n < 256) : numB (decDigits n) = n := by
  have h1 := (parseM_dec 255 (by decide) (decDigits n) 0 n (decFrom_decDigits n) (by omega)).2
  unfold numB parseUintB
  rw [if_neg (decDigits_ne n)]
  simp only [Nat.reducePow, Nat.reduceSub, h1]
theorem numB_lt (l : List UInt8) : numB l < 256 := by
  unfold numB
  cases h : parseUintB 8 l with
  | ok u =>
    unfold parseUintB at h
    split at h
    · cases h
    · have := parseUintM_le (2 ^ 8 - 1) l 0 u (by omega) h
      dsimp only
      omega
  | range => simp
  | _ => simp

def eqBytes (x y : ByteArray) : Bool := x.toList == y.toList
theorem toList_mk (l : List UInt8) : (⟨l.toArray⟩ : ByteArray).toList = l := Go.Lib.toList_data _
def namesB : List ByteArray := opNames.map fun l => ⟨l.toArray⟩
/-- Which operation has this name; -1: none. -/
def opIdx (l : List UInt8) : Int := idxBy eqBytes (namesB.take 17) ⟨l.toArray⟩
theorem eqBytes_mk (a b : List UInt8) : eqBytes ⟨a.toArray⟩ ⟨b.toArray⟩ = (a == b) := by
  unfold eqBytes; rw [toList_mk, toList_mk]
theorem namesB_at {j : Nat} (h : j < 17) : namesB[j]! = ⟨(opNames.getD j []).toArray⟩ := by
  unfold namesB
  rw [getElem!_pos _ _ (by rw [List.length_map, opNames_len]; exact h), List.getElem_map, List.getD_eq_getElem?_getD, List.getElem?_eq_getElem (by rw [opNames_len]; exact h)]
  rfl
theorem namesB_len : namesB.length = 17 := rfl
theorem opIdx_name {o : Nat} (h : o < 17) : opIdx (opNames.getD o []) = o := by
  refine idxBy_hit eqBytes namesB 17 o _ h (Nat.le_of_eq namesB_len.symm) ?_ (fun j hj => ?_)
  · rw [namesB_at h, eqBytes_mk]; simp
  · rw [namesB_at (by omega), eqBytes_mk]
    rw [beq_eq_false_iff_ne]
    intro e
    have := opNames_inj o h j (by omega) e
    omega
theorem opIdx_none {l : List UInt8} (h : ∀ j, j < 17 → opNames.getD j [] ≠ l) : opIdx l = -1 := by
  refine idxBy_miss eqBytes namesB 17 _ (fun j hj => ?_)
  rw [namesB_at hj, eqBytes_mk, beq_eq_false_iff_ne]
  exact fun e => h j hj e.symm
theorem opIdx_cases (l : List UInt8) : opIdx l = -1 ∨ ∃ o : Nat, o < 17 ∧ opIdx l = o := by
  by_cases h : ∃ j, j < 17 ∧ opNames.getD j [] = l
  · obtain ⟨j, hj, rfl⟩ := h
    exact .inr ⟨j, hj, opIdx_name hj⟩
  · exact .inl (opIdx_none fun j hj e => h ⟨j, hj, e⟩)
/-- The word i of a line, or its last one. -/
def wordAt (s : List UInt8) (i : Nat) : List UInt8 := (cutAll 32 s).getD (min i ((cutAll 32 s).length - 1)) []
def readOp (s : List UInt8) : Nat := if 0 ≤ opIdx (wordAt s 0) then (opIdx (wordAt s 0)).toNat else numB (wordAt s 1)
def readNum (s : List UInt8) : Nat := if 0 ≤ opIdx (wordAt s 0) then numB (wordAt s 1) else numB (wordAt s 2)
def readOk (s : List UInt8) : Bool := lineB (readOp s) (readNum s) == s
theorem readOp_lt (s : List UInt8) : readOp s < 256 := by
  unfold readOp
  split
  · rcases opIdx_cases (wordAt s 0) with h | ⟨o, ho, h⟩ <;> rw [h] <;> omega
  · exact numB_lt _
theorem readNum_lt (s : List UInt8) : readNum s < 256 := by
  unfold readNum
  split <;> exact numB_lt _
theorem read_line {o n : Nat} (ho : o < 256) (hn : n < 256) : readOp (lineB o n) = o ∧ readNum (lineB o n) = n := by
  unfold readOp readNum wordAt
  by_cases h : o < 17
  · rw [words_low h]
    have h1 : ([opNames.getD o [], decDigits n] : List (List UInt8)).getD (min 0 ([opNames.getD o [], decDigits n].length - 1)) [] = opNames.getD o [] := rfl
    have h2 : ([opNames.getD o [], decDigits n] : List (List UInt8)).getD (min 1 ([opNames.getD o [], decDigits n].length - 1)) [] = decDigits n := rfl
    rw [h1, h2, opIdx_name h, if_pos (by omega), if_pos (by omega), numB_dec hn]
    simp
  · rw [words_high (by omega)]
    have h1 : ([rawB, decDigits o, decDigits n] : List (List UInt8)).getD (min 0 ([rawB, decDigits o, decDigits n].length - 1)) [] = rawB := rfl
    have h2 : ([rawB, decDigits o, decDigits n] : List (List UInt8)).getD (min 1 ([rawB, decDigits o, decDigits n].length - 1)) [] = decDigits o := rfl
    have h3 : ([rawB, decDigits o, decDigits n] : List (List UInt8)).getD (min 2 ([rawB, decDigits o, decDigits n].length - 1)) [] = decDigits n := rfl
    rw [h1, h2, h3, opIdx_none opNames_raw, if_neg (by omega), if_neg (by omega), numB_dec ho, numB_dec hn]
    simp
theorem findB_read (s : List UInt8) : findB s = if readOk s then some (readOp s, readNum s) else none := by
  unfold readOk
  split
  · rename_i h
    exact findB_some.2 ⟨readOp_lt s, readNum_lt s, by simpa using h⟩
  · rename_i h
    refine findB_none fun o n ho hn e => h ?_
    obtain ⟨h1, h2⟩ := read_line ho hn
    rw [e] at h1 h2
    rw [h1, h2, e]
    simp
end Go.Proofs.YtkgbknjpnhoadaaGreatDoor
