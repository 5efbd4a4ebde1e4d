/-
  The text of a fraction, and what is parsed: plain laws, no program in sight.
-/
import Derived.Test.YtfojgdlegojdgaaDoorMk
import Derived.Lib.AtoiTie
import Derived.Lib.ItoaNum
import Derived.Lib.IndexMore
namespace Go.Proofs.YtfojgdlegojdgaaDoor
open Go.Lib

theorem decDigits_digit (u : Nat) : ∀ c ∈ decDigits u, 48 ≤ c.toNat ∧ c.toNat ≤ 57 := by
  induction u using Nat.strongRecOn with
  | _ u ih =>
    intro c hc
    by_cases h : u < 10
    · rw [decDigits, dif_pos h] at hc
      obtain rfl := List.mem_singleton.1 hc
      rw [UInt8.toNat_ofNat']
      omega
    · rw [decDigits, dif_neg h, List.mem_append] at hc
      rcases hc with hc | hc
      · exact ih _ (by omega) c hc
      · obtain rfl := List.mem_singleton.1 hc
        rw [UInt8.toNat_ofNat']
        omega

theorem decFrom_snoc (l : List UInt8) (b : UInt8) (acc n d : Nat) (h : decFrom acc l = some n) (hd : digitVal b = some d) : decFrom acc (l ++ [b]) = some (n * 10 + d) := by
  induction l generalizing acc with
  | nil =>
    simp only [decFrom, Option.some.injEq] at h
    subst h
    simp [decFrom, hd]
  | cons c r ih =>
    simp only [List.cons_append, decFrom] at h ⊢
    cases hc : digitVal c with
    | none => simp [hc] at h
    | some e =>
      simp only [hc] at h ⊢
      exact ih _ h

theorem digitVal_mk (k : Nat) (h : k < 10) : digitVal (UInt8.ofNat (48 + k)) = some k := by
  unfold digitVal
  rw [UInt8.toNat_ofNat', if_pos (by omega)]
  congr 1
  omega

theorem decFrom_decDigits (u : Nat) : decFrom 0 (decDigits u) = some u := by
  induction u using Nat.strongRecOn with
  | _ u ih =>
    by_cases h : u < 10
    · rw [decDigits, dif_pos h]
      simp only [decFrom, digitVal_mk u h, Nat.zero_mul, Nat.zero_add]
    · rw [decDigits, dif_neg h, decFrom_snoc _ _ _ (u / 10) (u % 10) (ih _ (by omega)) (digitVal_mk _ (by omega))]
      congr 1
      omega

theorem decDigits_ne (u : Nat) : decDigits u ≠ [] := by
  intro h
  have := decDigits_length u
  rw [h] at this
  have := nDigits_pos u
  simp at *
  omega

theorem decDigits_le {u : Nat} (h : u ≤ 1000000000) : (decDigits u).length ≤ 10 := by
  rw [decDigits_length]
  rw [nDigits]; split
  · omega
  rw [nDigits]; split
  · omega
  rw [nDigits]; split
  · omega
  rw [nDigits]; split
  · omega
  rw [nDigits]; split
  · omega
  rw [nDigits]; split
  · omega
  rw [nDigits]; split
  · omega
  rw [nDigits]; split
  · omega
  rw [nDigits]; split
  · omega
  rw [nDigits]; split
  · omega
  omega

theorem decNat_decDigits (u : Nat) : decNat (decDigits u) = some u := by
  unfold decNat
  rw [if_neg (by simpa using decDigits_ne u), decFrom_decDigits]

theorem decDigits_cons (u : Nat) : ∃ c r, decDigits u = c :: r ∧ 48 ≤ c.toNat ∧ c.toNat ≤ 57 := by
  cases h : decDigits u with
  | nil => exact absurd h (decDigits_ne u)
  | cons c r => exact ⟨c, r, rfl, decDigits_digit u c (by rw [h]; simp)⟩

theorem atoi_itoa (n : Int) : atoi (itoa n) = some n := by
  unfold itoa
  by_cases h : n < 0
  · rw [if_pos h]
    simp only [atoi, decNat_decDigits]
    simp
    omega
  · rw [if_neg h]
    obtain ⟨c, r, e, h1, h2⟩ := decDigits_cons n.toNat
    have h3 := decNat_decDigits n.toNat
    rw [e] at h3 ⊢
    have e1 : (c == 45) = false := by
      rw [beq_eq_false_iff_ne]; rintro rfl; simp at h1
    have e2 : (c == 43) = false := by
      rw [beq_eq_false_iff_ne]; rintro rfl; simp at h1
    simp only [atoi, e1, e2, h3]
    simp
    omega

theorem itoa_le {n : Int} (h : n.natAbs ≤ 1000000000) : (itoa n).length ≤ 11 := by
  unfold itoa
  split
  · have := decDigits_le h; simp; omega
  · have := decDigits_le (u := n.toNat) (by omega); omega

theorem itoa_le10 {n : Int} (h0 : 0 ≤ n) (h : n ≤ 1000000000) : (itoa n).length ≤ 10 := by
  unfold itoa
  rw [if_neg (by omega)]
  exact decDigits_le (u := n.toNat) (by omega)

theorem itoa_no_slash (n : Int) : ∀ c ∈ itoa n, c ≠ 47 := by
  unfold itoa
  intro c hc
  split at hc
  · rcases List.mem_cons.1 hc with h | h
    · subst h; decide
    · rintro rfl
      have := decDigits_digit _ _ h
      simp at this
  · rintro rfl
    have := decDigits_digit _ _ hc
    simp at this

/-- Atoi's number, if it is one. -/
def numv (l : List UInt8) : Option Int := match atoiAll l with
  | .ok v => some v
  | _ => none

theorem numv_itoa {n : Int} (h : n.natAbs ≤ 1000000000) : numv (itoa n) = some n := by
  have hl := itoa_le h
  unfold numv
  rw [atoiAll_short _ (by omega), atoi_itoa]
  rfl

/-- P3.5: the text of a fraction. -/
def prt (n d : Int) : List UInt8 := itoa n ++ if 1 < d then 47 :: itoa d else []

theorem prt_le {n d : Int} (h : vld n d = true) : (prt n d).length ≤ 22 := by
  have h1 := I64.of_vld_num h
  have h2 := I64.of_vld_den h
  have a := itoa_le (n := n) (by omega)
  have b := itoa_le10 (n := d) (by omega) (by omega)
  unfold prt
  split <;> simp <;> omega

theorem occAt_one (s : List UInt8) (i : Nat) : occAt s [47] i = (s[i]? == some 47) := by
  unfold occAt
  cases h : s.drop i with
  | nil =>
    have : s[i]? = none := by
      rw [List.getElem?_eq_none_iff]
      have := congrArg List.length h
      simp at this
      omega
    simp [this]
  | cons c r =>
    have : s[i]? = some c := by
      have := congrArg (fun l => l[0]?) h
      simpa using this
    rw [this]
    have e : (some c == some (47 : UInt8)) = (c == 47) := rfl
    have e2 : ((47 : UInt8) == c) = (c == 47) := by rw [Bool.eq_iff_iff, beq_iff_eq, beq_iff_eq]; exact eq_comm
    simp only [List.isPrefixOf, Bool.and_true, e, e2]

theorem index_slash {l r : List UInt8} (h : ∀ c ∈ l, c ≠ 47) : index (l ++ 47 :: r) [47] = (l.length : Int) := by
  refine index_first (by simp) ?_ (fun j hj => ?_)
  · rw [occAt_one]; simp
  · rw [occAt_one, List.getElem?_append_left hj, List.getElem?_eq_getElem hj]
    have := h l[j] (List.getElem_mem hj)
    simpa using this

theorem index_no_slash {l : List UInt8} (h : ∀ c ∈ l, c ≠ 47) : index l [47] = -1 := by
  refine index_none (fun j hj => ?_)
  rw [occAt_one]
  by_cases hl : j < l.length
  · rw [List.getElem?_eq_getElem hl]
    have := h l[j] (List.getElem_mem hl)
    simpa using this
  · rw [List.getElem?_eq_none (by omega)]; rfl

theorem cut_slash {l r : List UInt8} (h : ∀ c ∈ l, c ≠ 47) : cut (l ++ 47 :: r) [47] = (l, r, true) := by
  unfold cut
  rw [index_slash h, if_pos (by omega)]
  simp

theorem cut_no_slash {l : List UInt8} (h : ∀ c ∈ l, c ≠ 47) : cut l [47] = (l, [], false) := by
  unfold cut
  rw [index_no_slash h, if_neg (by omega)]

/-- What stands behind the stroke, or one. -/
def denText (s : List UInt8) : List UInt8 := if (cut s [47]).2.2 then (cut s [47]).2.1 else [49]

/-- P3.5: the fraction with a text. -/
def parsev (s : List UInt8) : Int × Int × Int :=
  match numv (cut s [47]).1, numv (denText s) with
  | some n, some d => if vld n d && (prt n d == s) then (n, d, 0) else (0, 0, 30)
  | _, _ => (0, 0, 30)

theorem numv_one : numv [49] = some 1 := by decide

theorem parse_prt {n d : Int} (h : vld n d = true) : parsev (prt n d) = (n, d, 0) := by
  have h1 := I64.of_vld_num h
  have h2 := I64.of_vld_den h
  have hn := numv_itoa (n := n) (by omega)
  have hd := numv_itoa (n := d) (by omega)
  by_cases hd1 : 1 < d
  · have e : prt n d = itoa n ++ 47 :: itoa d := by simp [prt, hd1]
    have c := cut_slash (r := itoa d) (itoa_no_slash n)
    rw [← e] at c
    unfold parsev denText
    rw [c]
    simp only [if_true, hn, hd, h]
    simp
  · have hd2 : d = 1 := by omega
    subst hd2
    have e : prt n 1 = itoa n := by simp [prt]
    have c := cut_no_slash (itoa_no_slash n)
    rw [← e] at c
    unfold parsev denText
    rw [c, e]
    simp only [hn, Bool.false_eq_true, if_false, numv_one, h]
    simp [e]

theorem parse_spec (s : List UInt8) : (parsev s = (0, 0, 30) ∧ ∀ n d, vld n d = true → prt n d ≠ s) ∨ ∃ n d, parsev s = (n, d, 0) ∧ vld n d = true ∧ prt n d = s := by
  by_cases h : ∃ n d, vld n d = true ∧ prt n d = s
  · obtain ⟨n, d, h1, h2⟩ := h
    exact .inr ⟨n, d, by rw [← h2]; exact parse_prt h1, h1, h2⟩
  · refine .inl ⟨?_, fun n d h1 h2 => h ⟨n, d, h1, h2⟩⟩
    unfold parsev
    split
    · rename_i n d _ _
      by_cases h1 : vld n d = true
      · have h2 : (prt n d == s) = false := by
          rw [beq_eq_false_iff_ne]
          exact fun e => h ⟨n, d, h1, e⟩
        simp [h2]
      · simp [h1]
    · rfl

/-- A function that is as the text says is the parse. -/
theorem parse_unique {s : List UInt8} {r : Int × Int × Int} (h : (r = (0, 0, 30) ∧ ∀ n d, vld n d = true → prt n d ≠ s) ∨ ∃ n d, r = (n, d, 0) ∧ vld n d = true ∧ prt n d = s) : r = parsev s := by
  rcases h with ⟨h1, h2⟩ | ⟨n, d, h1, h2, h3⟩
  · rcases parse_spec s with ⟨h4, _⟩ | ⟨n, d, _, h5, h6⟩
    · rw [h1, h4]
    · exact absurd h6 (h2 n d h5)
  · rw [h1, ← h3, parse_prt h2]

/-! The reference's reading. -/

/-- The digits' number. -/
def rdgo (n : Nat) (l : List UInt8) : Nat := l.foldl (fun n c => if 48 ≤ c.toNat ∧ c.toNat ≤ 57 then 10 * n + (c.toNat - 48) else n) n
def readv (l : List UInt8) : Int := if l.head? = some 45 then -(rdgo 0 l : Int) else rdgo 0 l

theorem rdgo_dec (l : List UInt8) (acc n : Nat) (h : decFrom acc l = some n) : rdgo acc l = n := by
  induction l generalizing acc with
  | nil => simpa [decFrom, rdgo] using h
  | cons c r ih =>
    simp only [decFrom] at h
    cases hc : digitVal c with
    | none => simp [hc] at h
    | some e =>
      simp only [hc] at h
      have := ih _ h
      obtain ⟨a, b, rfl⟩ := digitVal_eq hc
      unfold rdgo at this ⊢
      simp only [List.foldl_cons]
      rw [if_pos ⟨a, b⟩, Nat.mul_comm 10 acc]
      exact this

theorem readv_itoa (n : Int) : readv (itoa n) = n := by
  unfold itoa
  by_cases h : n < 0
  · rw [if_pos h]
    unfold readv
    have := rdgo_dec _ 0 _ (decFrom_decDigits n.natAbs)
    have e : rdgo 0 (45 :: decDigits n.natAbs) = rdgo 0 (decDigits n.natAbs) := by
      unfold rdgo; simp
    rw [e, this]
    simp
    omega
  · rw [if_neg h]
    obtain ⟨c, r, e, h1, h2⟩ := decDigits_cons n.toNat
    have := rdgo_dec _ 0 _ (decFrom_decDigits n.toNat)
    unfold readv
    rw [this, e]
    have e1 : c ≠ 45 := by rintro rfl; simp at h1
    simp [e1]
    omega

/-- Where the first stroke is. -/
def slash (l : List UInt8) : Nat := l.findIdx (· == 47)

theorem slash_hit {l r : List UInt8} (h : ∀ c ∈ l, c ≠ 47) : slash (l ++ 47 :: r) = l.length := by
  unfold slash
  induction l with
  | nil => simp [List.findIdx_cons]
  | cons c t ih =>
    have hc : (c == 47) = false := by simpa using h c (by simp)
    simp [List.findIdx_cons, hc]
    exact ih (fun c hc => h c (by simp [hc]))
theorem slash_miss {l : List UInt8} (h : ∀ c ∈ l, c ≠ 47) : slash l = l.length := by
  unfold slash
  induction l with
  | nil => rfl
  | cons c t ih =>
    have hc : (c == 47) = false := by simpa using h c (by simp)
    rw [List.findIdx_cons, hc, List.length_cons]
    simp only [cond_false]
    rw [ih (fun c hc => h c (by simp [hc]))]

/-- The numbers that the reference reads. -/
def rnum (s : List UInt8) : Int := readv (s.take (min (slash s) 11))
def rden (s : List UInt8) : Int := if slash s < s.length then readv ((s.take (min s.length (slash s + 12))).drop (slash s + 1)) else 1

theorem rnum_prt {n d : Int} (h : vld n d = true) : rnum (prt n d) = n := by
  have h1 := I64.of_vld_num h
  have a := itoa_le (n := n) (by omega)
  unfold rnum prt
  by_cases hd : 1 < d
  · rw [if_pos hd, slash_hit (itoa_no_slash n), Nat.min_eq_left a, List.take_left, readv_itoa]
  · rw [if_neg hd, List.append_nil, slash_miss (itoa_no_slash n), Nat.min_eq_left a, List.take_length, readv_itoa]
theorem rden_prt {n d : Int} (h : vld n d = true) : rden (prt n d) = d := by
  have h1 := I64.of_vld_num h
  have h2 := I64.of_vld_den h
  have b := itoa_le10 (n := d) (by omega) (by omega)
  unfold rden prt
  by_cases hd : 1 < d
  · rw [if_pos hd, slash_hit (itoa_no_slash n), if_pos (by simp), List.take_of_length_le (by simp; omega)]
    rw [show (itoa n ++ 47 :: itoa d).drop ((itoa n).length + 1) = itoa d from by simp [List.drop_append]]
    exact readv_itoa d
  · rw [if_neg hd, List.append_nil, slash_miss (itoa_no_slash n), if_neg (by omega)]
    omega

theorem refParse_eq (s : List UInt8) : parsev s = if 22 < s.length then (0, 0, 30) else if vld (rnum s) (rden s) && (prt (rnum s) (rden s) == s) then (rnum s, rden s, 0) else (0, 0, 30) := by
  symm
  apply parse_unique
  by_cases h : ∃ n d, vld n d = true ∧ prt n d = s
  · obtain ⟨n, d, h1, rfl⟩ := h
    have hl := prt_le h1
    refine .inr ⟨n, d, ?_, h1, rfl⟩
    rw [if_neg (by omega), rnum_prt h1, rden_prt h1]
    simp [h1]
  · refine .inl ⟨?_, fun n d h1 h2 => h ⟨n, d, h1, h2⟩⟩
    split
    · rfl
    · by_cases h1 : vld (rnum s) (rden s) = true
      · have h2 : (prt (rnum s) (rden s) == s) = false := by
          rw [beq_eq_false_iff_ne]
          exact fun e => h ⟨_, _, h1, e⟩
        simp [h2]
      · simp [h1]
end Go.Proofs.YtfojgdlegojdgaaDoor
