/-
  The texts of chapter 12: plain laws, no program in sight.
-/
import Derived.Test.YtkgbknjpnhoadaaGreatDoorCq1
import Derived.Lib.AtoiTie
import Derived.Lib.ItoaNum
import Derived.Lib.IndexMore
import Derived.Lib.SplitLaws
namespace Go.Proofs.YtkgbknjpnhoadaaGreatDoor
open Go.Lib

theorem decDigits_digit (u : Nat) : ∀ c ∈ decDigits u, 48 ≤ c.toNat ∧ c.toNat ≤ 57 := by
  induction u using Nat.strongRecOn with
  | _ u ih =>
    intro c hc
    by_cases h : u < 10
    · rw [decDigits, dif_pos h] at hc
      obtain rfl := List.mem_singleton.1 hc
      rw [UInt8.toNat_ofNat']
      omega
    · rw [decDigits, dif_neg h, List.mem_append] at hc
      rcases hc with hc | hc
      · exact ih _ (by omega) c hc
      · obtain rfl := List.mem_singleton.1 hc
        rw [UInt8.toNat_ofNat']
        omega
theorem decFrom_snoc (l : List UInt8) (b : UInt8) (acc n d : Nat) (h : decFrom acc l = some n) (hd : digitVal b = some d) : decFrom acc (l ++ [b]) = some (n * 10 + d) := by
  induction l generalizing acc with
  | nil =>
    simp only [decFrom, Option.some.injEq] at h
    subst h
    simp [decFrom, hd]
  | cons c r ih =>
    simp only [List.cons_append, decFrom] at h ⊢
    cases hc : digitVal c with
    | none => simp [hc] at h
    | some e =>
      simp only [hc] at h ⊢
      exact ih _ h
theorem digitVal_mk (k : Nat) (h : k < 10) : digitVal (UInt8.ofNat (48 + k)) = some k := by
  unfold digitVal
  rw [UInt8.toNat_ofNat', if_pos (by omega)]
  congr 1
  omega
theorem decFrom_decDigits (u : Nat) : decFrom 0 (decDigits u) = some u := by
  induction u using Nat.strongRecOn with
  | _ u ih =>
    by_cases h : u < 10
    · rw [decDigits, dif_pos h]
      simp only [decFrom, digitVal_mk u h, Nat.zero_mul, Nat.zero_add]
    · rw [decDigits, dif_neg h, decFrom_snoc _ _ _ (u / 10) (u % 10) (ih _ (by omega)) (digitVal_mk _ (by omega))]
      congr 1
      omega
theorem decDigits_ne (u : Nat) : decDigits u ≠ [] := by
  intro h
  by_cases h1 : u < 10
  · rw [decDigits, dif_pos h1] at h; cases h
  · rw [decDigits, dif_neg h1] at h; simp at h
theorem decDigits_inj {u v : Nat} (h : decDigits u = decDigits v) : u = v := by
  have h1 := decFrom_decDigits u
  rw [h, decFrom_decDigits] at h1
  injection h1 with h1
  exact h1.symm
theorem decDigits_no (c : UInt8) (hc : c.toNat < 48) (u : Nat) : ∀ x ∈ decDigits u, x ≠ c := by
  intro x hx h
  have := decDigits_digit u x hx
  rw [h] at this
  omega
theorem decDigits_byte {u : Nat} (h : u < 256) : (decDigits u).length ≤ 3 := by
  by_cases h1 : u < 10
  · rw [decDigits, dif_pos h1]; simp
  · rw [decDigits, dif_neg h1]
    by_cases h2 : u / 10 < 10
    · rw [decDigits, dif_pos h2]; simp
    · rw [decDigits, dif_neg h2, decDigits, dif_pos (by omega)]; simp

/-- A text divided at a byte. -/
def cutAll (c : UInt8) : List UInt8 → List (List UInt8)
  | [] => [[]]
  | b :: l => if b = c then [] :: cutAll c l else match cutAll c l with
    | [] => [[b]]
    | p :: r => (b :: p) :: r
theorem cutAll_ne (c : UInt8) (l : List UInt8) : cutAll c l ≠ [] := by
  cases l with
  | nil => simp [cutAll]
  | cons b l =>
    rw [cutAll]
    split
    · simp
    · cases cutAll c l <;> simp
theorem cutAll_hit (c : UInt8) (l r : List UInt8) (h : ∀ x ∈ l, x ≠ c) : cutAll c (l ++ c :: r) = l :: cutAll c r := by
  induction l with
  | nil => simp [cutAll]
  | cons b l ih =>
    rw [List.cons_append, cutAll, if_neg (h b (by simp)), ih (fun x hx => h x (by simp [hx]))]
theorem cutAll_miss (c : UInt8) (l : List UInt8) (h : ∀ x ∈ l, x ≠ c) : cutAll c l = [l] := by
  induction l with
  | nil => rfl
  | cons b l ih =>
    rw [cutAll, if_neg (h b (by simp)), ih (fun x hx => h x (by simp [hx]))]
theorem cutAll_no (c : UInt8) (l : List UInt8) : ∀ p ∈ cutAll c l, ∀ x ∈ p, x ≠ c := by
  induction l with
  | nil => simp [cutAll]
  | cons b l ih =>
    rw [cutAll]
    split
    · intro p hp
      rcases List.mem_cons.1 hp with rfl | hp
      · simp
      · exact ih p hp
    · rename_i hb
      cases h : cutAll c l with
      | nil => exact absurd h (cutAll_ne c l)
      | cons q r =>
        rw [h] at ih
        dsimp only
        intro p hp
        rcases List.mem_cons.1 hp with rfl | hp
        · intro x hx
          rcases List.mem_cons.1 hx with rfl | hx
          · exact hb
          · exact ih q (by simp) x hx
        · exact ih p (by simp [hp])
/-- The pieces put together again. -/
def glue (c : UInt8) : List (List UInt8) → List UInt8
  | [] => []
  | [p] => p
  | p :: q :: r => p ++ c :: glue c (q :: r)
theorem glue_cutAll (c : UInt8) (l : List UInt8) : glue c (cutAll c l) = l := by
  induction l with
  | nil => rfl
  | cons b l ih =>
    rw [cutAll]
    cases h : cutAll c l with
    | nil => exact absurd h (cutAll_ne c l)
    | cons q r =>
      rw [h] at ih
      split
      · rename_i hb
        rw [hb]
        show [] ++ c :: glue c (q :: r) = c :: l
        rw [ih]
        rfl
      · dsimp only
        cases r with
        | nil => simp only [glue] at ih ⊢; rw [ih]
        | cons q2 r => simp only [glue] at ih ⊢; rw [← ih]; simp
theorem cutAll_le (c : UInt8) (l : List UInt8) : ∀ p ∈ cutAll c l, p.length ≤ l.length := by
  induction l with
  | nil => simp [cutAll]
  | cons b l ih =>
    rw [cutAll]
    split
    · intro p hp
      rcases List.mem_cons.1 hp with rfl | hp
      · simp
      · have := ih p hp; simp; omega
    · cases h : cutAll c l with
      | nil => exact absurd h (cutAll_ne c l)
      | cons q r =>
        rw [h] at ih
        dsimp only
        intro p hp
        rcases List.mem_cons.1 hp with rfl | hp
        · have := ih q (by simp); simp; omega
        · have := ih p (by simp [hp]); simp; omega
theorem cutAll_len (c : UInt8) (l : List UInt8) : (cutAll c l).length ≤ l.length + 1 := by
  induction l with
  | nil => simp [cutAll]
  | cons b l ih =>
    rw [cutAll]
    split
    · simp; omega
    · cases h : cutAll c l with
      | nil => simp
      | cons q r => rw [h] at ih; simp at ih ⊢; omega
/-- What strings.Split gives at a separator of one byte. -/
theorem splitK_one (c : UInt8) : ∀ l : List UInt8, splitK [c] 0 (count l [c]) l = cutAll c l
  | [] => by rw [count_miss (by simp [index])]; rfl
  | b :: l => by
    have ih := splitK_one c l
    by_cases h : b = c
    · subst h
      have hix : index (b :: l) [b] = 0 := by rw [index]; simp [List.isPrefixOf]
      rw [count_cons_eq, Nat.add_comm, splitK, hix, cutAll, if_pos rfl]
      simpa using ih
    · have hp : ([c] : List UInt8).isPrefixOf (b :: l) = false := by simp [List.isPrefixOf, Ne.symm h]
      have hix : index (b :: l) [c] = if index l [c] == -1 then -1 else index l [c] + 1 := by rw [index, hp]; simp
      rw [count_cons_ne b c l h, cutAll, if_neg h]
      by_cases hm : index l [c] = -1
      · rw [count_miss hm, splitK] at ih ⊢
        rw [← ih]
      · have hge := index_ge l [c]
        obtain ⟨j, hj⟩ : ∃ j : Nat, index l [c] = j := ⟨(index l [c]).toNat, by omega⟩
        have hc : count l [c] = 1 + count (l.drop (j + 1)) [c] := by
          have := count_hit (s := l) (sub := [c]) (by simp) hj
          simpa using this
        have e1 : ((j : Int) + 1).toNat = j + 1 := by omega
        have hix2 : index (b :: l) [c] = (j : Int) + 1 := by rw [hix, if_neg (fun e => hm (beq_iff_eq.1 e)), hj]
        rw [hc, Nat.add_comm 1, splitK, hj, if_neg (by simp)] at ih
        rw [hc, Nat.add_comm 1, splitK, hix2, if_neg (by simp; omega), ← ih]
        simp [e1]

/-- The names of the operations. -/
def opNames : List (List UInt8) := [[72, 65, 76, 84], [76, 68, 73], [76, 68, 65], [83, 84, 65], [76, 68, 88], [83, 84, 88], [65, 68, 68], [83, 85, 66], [74, 77, 80], [74, 90], [74, 78], [75, 69, 89], [84, 88, 84], [80, 73, 88], [82, 68], [87, 82], [84, 73, 77]]
def rawB : List UInt8 := [82, 65, 87]
/-- The line of two bytes. -/
def lineB (o n : Nat) : List UInt8 := if o < 17 then opNames.getD o [] ++ 32 :: decDigits n else rawB ++ 32 :: (decDigits o ++ 32 :: decDigits n)
theorem opNames_len : opNames.length = 17 := rfl
theorem opNames_no (c : UInt8) (hc : c.toNat < 48) : ∀ p ∈ opNames, ∀ x ∈ p, x ≠ c := by
  have h : ∀ p ∈ opNames, ∀ x ∈ p, 48 ≤ x.toNat := by decide
  intro p hp x hx e
  have := h p hp x hx
  rw [e] at this
  omega
theorem opName_no (c : UInt8) (hc : c.toNat < 48) (o : Nat) : ∀ x ∈ opNames.getD o [], x ≠ c := by
  rw [List.getD_eq_getElem?_getD]
  cases h : opNames[o]? with
  | none => simp
  | some p => exact opNames_no c hc p (List.mem_of_getElem? h)
theorem rawB_no (c : UInt8) (hc : c.toNat < 48) : ∀ x ∈ rawB, x ≠ c := by
  have h : ∀ x ∈ rawB, 48 ≤ x.toNat := by decide
  intro x hx e
  have := h x hx
  rw [e] at this
  omega
/-- The words of a line. -/
theorem words_low {o n : Nat} (ho : o < 17) : cutAll 32 (lineB o n) = [opNames.getD o [], decDigits n] := by
  rw [lineB, if_pos ho, cutAll_hit _ _ _ (opName_no 32 (by decide) o), cutAll_miss _ _ (decDigits_no 32 (by decide) n)]
theorem words_high {o n : Nat} (ho : 17 ≤ o) : cutAll 32 (lineB o n) = [rawB, decDigits o, decDigits n] := by
  rw [lineB, if_neg (by omega), cutAll_hit _ _ _ (rawB_no 32 (by decide)), cutAll_hit _ _ _ (decDigits_no 32 (by decide) o), cutAll_miss _ _ (decDigits_no 32 (by decide) n)]
theorem opNames_inj : ∀ i, i < 17 → ∀ j, j < 17 → opNames.getD i [] = opNames.getD j [] → i = j := by decide
theorem opNames_raw : ∀ i, i < 17 → opNames.getD i [] ≠ rawB := by decide
theorem lineB_inj {o n p m : Nat} (h : lineB o n = lineB p m) : o = p ∧ n = m := by
  have h1 := congrArg (cutAll 32) h
  by_cases ho : o < 17
  · rw [words_low ho] at h1
    by_cases hp : p < 17
    · rw [words_low hp] at h1
      injection h1 with a b
      injection b with b _
      exact ⟨opNames_inj o ho p hp a, decDigits_inj b⟩
    · rw [words_high (by omega)] at h1
      simp at h1
  · rw [words_high (by omega)] at h1
    by_cases hp : p < 17
    · rw [words_low hp] at h1
      simp at h1
    · rw [words_high (by omega)] at h1
      injection h1 with _ b
      injection b with a b
      injection b with b _
      exact ⟨decDigits_inj a, decDigits_inj b⟩
theorem lineB_no (c : UInt8) (hc : c.toNat < 48) (h32 : c ≠ 32) (o n : Nat) : ∀ x ∈ lineB o n, x ≠ c := by
  have h := decDigits_no c hc
  intro x hx
  unfold lineB at hx
  split at hx
  · rcases List.mem_append.1 hx with hx | hx
    · exact opName_no c hc o x hx
    · rcases List.mem_cons.1 hx with rfl | hx
      · exact fun e => h32 e.symm
      · exact h n x hx
  · rcases List.mem_append.1 hx with hx | hx
    · exact rawB_no c hc x hx
    · rcases List.mem_cons.1 hx with rfl | hx
      · exact fun e => h32 e.symm
      · rcases List.mem_append.1 hx with hx | hx
        · exact h o x hx
        · rcases List.mem_cons.1 hx with rfl | hx
          · exact fun e => h32 e.symm
          · exact h n x hx
theorem lineB_ne (o n : Nat) : lineB o n ≠ [] := by
  unfold lineB
  split <;> simp
theorem opName_len (o : Nat) : (opNames.getD o []).length ≤ 4 := by
  have h : ∀ p ∈ opNames, p.length ≤ 4 := by decide
  rw [List.getD_eq_getElem?_getD]
  cases hq : opNames[o]? with
  | none => simp
  | some p => exact h p (List.mem_of_getElem? hq)
theorem lineB_len {o n : Nat} (ho : o < 256) (hn : n < 256) : (lineB o n).length ≤ 11 := by
  have h1 := decDigits_byte ho
  have h2 := decDigits_byte hn
  have h3 := opName_len o
  unfold lineB
  split <;> simp [rawB, -List.getD_eq_getElem?_getD] <;> omega

/-- The text of a program. -/
def printB : List UInt8 → List UInt8
  | a :: b :: r => lineB a.toNat b.toNat ++ 10 :: printB r
  | _ => []
theorem printB_len : ∀ l : List UInt8, (printB l).length ≤ 12 * l.length
  | [] => by simp [printB]
  | [_] => by simp [printB]
  | a :: b :: r => by
    have := printB_len r
    have := lineB_len a.toNat_lt b.toNat_lt
    simp [printB]; omega
/-- The two bytes with a line. -/
def findIn (N : Nat) (s : List UInt8) : Option (Nat × Nat) := ((List.range N).find? fun k => lineB (k / 256) (k % 256) == s).map fun k => (k / 256, k % 256)
def findB (s : List UInt8) : Option (Nat × Nat) := findIn 65536 s
theorem findB_some {s : List UInt8} {o n : Nat} : findB s = some (o, n) ↔ o < 256 ∧ n < 256 ∧ lineB o n = s := by
  unfold findB findIn
  constructor
  · intro h
    cases hf : (List.range 65536).find? fun k => lineB (k / 256) (k % 256) == s with
    | none => rw [hf] at h; cases h
    | some k =>
      rw [hf] at h
      simp only [Option.map_some, Option.some.injEq, Prod.mk.injEq] at h
      have h1 := List.find?_some hf
      have h2 := List.mem_of_find?_eq_some hf
      rw [List.mem_range] at h2
      obtain ⟨rfl, rfl⟩ := h
      exact ⟨by omega, by omega, by simpa using h1⟩
  · rintro ⟨ho, hn, hl⟩
    cases hf : (List.range 65536).find? fun k => lineB (k / 256) (k % 256) == s with
    | none =>
      have := List.find?_eq_none.1 hf (o * 256 + n) (by rw [List.mem_range]; omega)
      rw [show (o * 256 + n) / 256 = o from by omega, show (o * 256 + n) % 256 = n from by omega, hl] at this
      simp at this
    | some k =>
      have h1 := List.find?_some hf
      have h1 : lineB (k / 256) (k % 256) = s := by simpa using h1
      obtain ⟨e1, e2⟩ := lineB_inj (h1.trans hl.symm)
      simp only [Option.map_some, e1, e2]
theorem findB_none {s : List UInt8} (h : ∀ o n, o < 256 → n < 256 → lineB o n ≠ s) : findB s = none := by
  cases hf : findB s with
  | none => rfl
  | some x =>
    obtain ⟨o, n⟩ := x
    obtain ⟨h1, h2, h3⟩ := findB_some.1 hf
    exact absurd h3 (h o n h1 h2)
theorem findB_line {o n : Nat} (ho : o < 256) (hn : n < 256) : findB (lineB o n) = some (o, n) := findB_some.2 ⟨ho, hn, rfl⟩

/-- The program with some lines: the bytes, the wrong line, the error. -/
def stepP (f : Option (Nat × Nat)) (i : Nat) (out : List UInt8) (k : List UInt8 → List UInt8 × Nat × Int) : List UInt8 × Nat × Int := match f with
  | none => ([], i + 1, 120)
  | some (o, n) => if 256 ≤ out.length then ([], i + 1, 120) else k (out ++ [UInt8.ofNat o, UInt8.ofNat n])
def parseL : List (List UInt8) → Nat → List UInt8 → List UInt8 × Nat × Int
  | [], _, out => (out, 0, 0)
  | [t], i, out => if t = [] then (out, 0, 0) else ([], i + 1, 120)
  | t :: q :: r, i, out => stepP (findB t) i out fun out' => parseL (q :: r) (i + 1) out'
def parseB (s : List UInt8) : List UInt8 × Nat × Int := parseL (cutAll 10 s) 0 []

theorem parse_print : ∀ (l : List UInt8) (i : Nat) (out : List UInt8), l.length % 2 = 0 → out.length % 2 = 0 → out.length + l.length ≤ 256 → parseL (cutAll 10 (printB l)) i out = (out ++ l, 0, 0)
  | [], i, out, _, _, _ => by simp [printB, cutAll, parseL]
  | [_], _, _, h, _, _ => by simp at h
  | a :: b :: r, i, out, h1, h2, h3 => by
    have ih := parse_print r (i + 1) (out ++ [a, b]) (by simp at h1 ⊢; omega) (by simp; omega) (by simp at h3 ⊢; omega)
    rw [printB, cutAll_hit _ _ _ (lineB_no 10 (by decide) (by decide) _ _)]
    cases hc : cutAll 10 (printB r) with
    | nil => exact absurd hc (cutAll_ne _ _)
    | cons q rs =>
      rw [hc] at ih
      rw [parseL, findB_line a.toNat_lt b.toNat_lt, stepP]
      rw [if_neg (by simp at h3; omega)]
      simpa using ih
/-- What Parse accepts has this text; what it refuses has an error. -/
theorem print_parse : ∀ (ls : List (List UInt8)) (i : Nat) (out : List UInt8), ls ≠ [] → out.length % 2 = 0 → out.length ≤ 256 →
    ((parseL ls i out).2.2 = 120 ∧ (parseL ls i out).1 = [] ∧ 1 ≤ (parseL ls i out).2.1) ∨
    ∃ l, parseL ls i out = (out ++ l, 0, 0) ∧ glue 10 ls = printB l ∧ l.length % 2 = 0 ∧ out.length + l.length ≤ 256
  | [], _, _, h, _, _ => absurd rfl h
  | [t], i, out, _, h1, h2 => by
    rw [parseL]
    split
    · rename_i h
      subst h
      exact .inr ⟨[], by rw [List.append_nil], rfl, rfl, by simpa using h2⟩
    · exact .inl ⟨rfl, rfl, by simp⟩
  | t :: q :: r, i, out, _, h1, h2 => by
    rw [parseL]
    cases hf : findB t with
    | none => exact .inl ⟨rfl, rfl, by show 1 ≤ i + 1; omega⟩
    | some x =>
      obtain ⟨o, n⟩ := x
      obtain ⟨ho, hn, hl⟩ := findB_some.1 hf
      rw [stepP]
      split
      · exact .inl ⟨rfl, rfl, by simp⟩
      · rename_i hlt
        rcases print_parse (q :: r) (i + 1) (out ++ [UInt8.ofNat o, UInt8.ofNat n]) (by simp) (by simp; omega) (by simp; omega) with h | ⟨l, e1, e2, e3, e4⟩
        · exact .inl h
        · refine .inr ⟨UInt8.ofNat o :: UInt8.ofNat n :: l, by rw [e1]; simp, ?_, by simp; omega, by simp at e4 ⊢; omega⟩
          rw [glue, e2, printB, UInt8.toNat_ofNat', UInt8.toNat_ofNat', Nat.mod_eq_of_lt ho, Nat.mod_eq_of_lt hn, hl]
theorem print_parseB (s : List UInt8) : ((parseB s).2.2 = 120 ∧ (parseB s).1 = [] ∧ 1 ≤ (parseB s).2.1) ∨ ∃ l, parseB s = (l, 0, 0) ∧ s = printB l ∧ l.length % 2 = 0 ∧ l.length ≤ 256 := by
  rcases print_parse (cutAll 10 s) 0 [] (cutAll_ne _ _) (by simp) (by simp) with h | ⟨l, e1, e2, e3, e4⟩
  · exact .inl h
  · rw [glue_cutAll] at e2
    exact .inr ⟨l, by simpa [parseB] using e1, e2, e3, by simpa using e4⟩
theorem parse_printB {l : List UInt8} (h : l.length % 2 = 0) (h2 : l.length ≤ 256) : parseB (printB l) = (l, 0, 0) := by
  have := parse_print l 0 [] h (by simp) (by simpa using h2)
  simpa [parseB] using this
theorem parseL_len : ∀ (ls : List (List UInt8)) (i : Nat) (out : List UInt8), out.length ≤ 257 → (parseL ls i out).1.length ≤ 257
  | [], _, _, h => h
  | [t], i, out, h => by
    rw [parseL]
    split
    · exact h
    · simp
  | t :: q :: r, i, out, h => by
    rw [parseL]
    cases hf : findB t with
    | none => simp [stepP]
    | some x =>
      rw [stepP]
      split
      · simp
      · exact parseL_len (q :: r) (i + 1) _ (by simp; omega)
end Go.Proofs.YtkgbknjpnhoadaaGreatDoor
