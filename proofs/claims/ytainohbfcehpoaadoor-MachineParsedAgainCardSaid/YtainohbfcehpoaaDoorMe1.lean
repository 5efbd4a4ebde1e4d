/-
  Texts, plain: numerals, a text divided at a byte, what strings.Cut and strconv.Atoi give. (General; cut out of CqT and Txt.)
-/
import Derived.Test.YtainohbfcehpoaaDoorMa8
import Derived.Lib.AtoiTie
import Derived.Lib.ItoaNum
import Derived.Lib.IndexMore
import Derived.Lib.SplitLaws
namespace Go.Proofs.YtainohbfcehpoaaDoor
open Go.Lib

theorem decDigits_digit (u : Nat) : ∀ c ∈ decDigits u, 48 ≤ c.toNat ∧ c.toNat ≤ 57 := by
  induction u using Nat.strongRecOn with
  | _ u ih =>
    intro c hc
    by_cases h : u < 10
    · rw [decDigits, dif_pos h] at hc
      obtain rfl := List.mem_singleton.1 hc
      rw [UInt8.toNat_ofNat']
      omega
    · rw [decDigits, dif_neg h, List.mem_append] at hc
      rcases hc with hc | hc
      · exact ih _ (by omega) c hc
      · obtain rfl := List.mem_singleton.1 hc
        rw [UInt8.toNat_ofNat']
        omega
theorem decFrom_snoc (l : List UInt8) (b : UInt8) (acc n d : Nat) (h : decFrom acc l = some n) (hd : digitVal b = some d) : decFrom acc (l ++ [b]) = some (n * 10 + d) := by
  induction l generalizing acc with
  | nil =>
    simp only [decFrom, Option.some.injEq] at h
    subst h
    simp [decFrom, hd]
  | cons c r ih =>
    simp only [List.cons_append, decFrom] at h ⊢
    cases hc : digitVal c with
    | none => simp [hc] at h
    | some e =>
      simp only [hc] at h ⊢
      exact ih _ h
theorem digitVal_mk (k : Nat) (h : k < 10) : digitVal (UInt8.ofNat (48 + k)) = some k := by
  unfold digitVal
  rw [UInt8.toNat_ofNat', if_pos (by omega)]
  congr 1
  omega
theorem decFrom_decDigits (u : Nat) : decFrom 0 (decDigits u) = some u := by
  induction u using Nat.strongRecOn with
  | _ u ih =>
    by_cases h : u < 10
    · rw [decDigits, dif_pos h]
      simp only [decFrom, digitVal_mk u h, Nat.zero_mul, Nat.zero_add]
    · rw [decDigits, dif_neg h, decFrom_snoc _ _ _ (u / 10) (u % 10) (ih _ (by omega)) (digitVal_mk _ (by omega))]
      congr 1
      omega
theorem decDigits_ne (u : Nat) : decDigits u ≠ [] := by
  intro h
  by_cases h1 : u < 10
  · rw [decDigits, dif_pos h1] at h; cases h
  · rw [decDigits, dif_neg h1] at h; simp at h
theorem decDigits_inj {u v : Nat} (h : decDigits u = decDigits v) : u = v := by
  have h1 := decFrom_decDigits u
  rw [h, decFrom_decDigits] at h1
  injection h1 with h1
  exact h1.symm
theorem decDigits_no (c : UInt8) (hc : c.toNat < 48) (u : Nat) : ∀ x ∈ decDigits u, x ≠ c := by
  intro x hx h
  have := decDigits_digit u x hx
  rw [h] at this
  omega
/-- A text divided at a byte. -/
def cutAll (c : UInt8) : List UInt8 → List (List UInt8)
  | [] => [[]]
  | b :: l => if b = c then [] :: cutAll c l else match cutAll c l with
    | [] => [[b]]
    | p :: r => (b :: p) :: r
theorem cutAll_ne (c : UInt8) (l : List UInt8) : cutAll c l ≠ [] := by
  cases l with
  | nil => simp [cutAll]
  | cons b l =>
    rw [cutAll]
    split
    · simp
    · cases cutAll c l <;> simp
theorem cutAll_hit (c : UInt8) (l r : List UInt8) (h : ∀ x ∈ l, x ≠ c) : cutAll c (l ++ c :: r) = l :: cutAll c r := by
  induction l with
  | nil => simp [cutAll]
  | cons b l ih =>
    rw [List.cons_append, cutAll, if_neg (h b (by simp)), ih (fun x hx => h x (by simp [hx]))]
theorem cutAll_miss (c : UInt8) (l : List UInt8) (h : ∀ x ∈ l, x ≠ c) : cutAll c l = [l] := by
  induction l with
  | nil => rfl
  | cons b l ih =>
    rw [cutAll, if_neg (h b (by simp)), ih (fun x hx => h x (by simp [hx]))]
theorem cutAll_no (c : UInt8) (l : List UInt8) : ∀ p ∈ cutAll c l, ∀ x ∈ p, x ≠ c := by
  induction l with
  | nil => simp [cutAll]
  | cons b l ih =>
    rw [cutAll]
    split
    · intro p hp
      rcases List.mem_cons.1 hp with rfl | hp
      · simp
      · exact ih p hp
    · rename_i hb
      cases h : cutAll c l with
      | nil => exact absurd h (cutAll_ne c l)
      | cons q r =>
        rw [h] at ih
        dsimp only
        intro p hp
        rcases List.mem_cons.1 hp with rfl | hp
        · intro x hx
          rcases List.mem_cons.1 hx with rfl | hx
          · exact hb
          · exact ih q (by simp) x hx
        · exact ih p (by simp [hp])
/-- The pieces put together again. -/
def glue (c : UInt8) : List (List UInt8) → List UInt8
  | [] => []
  | [p] => p
  | p :: q :: r => p ++ c :: glue c (q :: r)
theorem glue_cutAll (c : UInt8) (l : List UInt8) : glue c (cutAll c l) = l := by
  induction l with
  | nil => rfl
  | cons b l ih =>
    rw [cutAll]
    cases h : cutAll c l with
    | nil => exact absurd h (cutAll_ne c l)
    | cons q r =>
      rw [h] at ih
      split
      · rename_i hb
        rw [hb]
        show [] ++ c :: glue c (q :: r) = c :: l
        rw [ih]
        rfl
      · dsimp only
        cases r with
        | nil => simp only [glue] at ih ⊢; rw [ih]
        | cons q2 r => simp only [glue] at ih ⊢; rw [← ih]; simp
theorem cutAll_le (c : UInt8) (l : List UInt8) : ∀ p ∈ cutAll c l, p.length ≤ l.length := by
  induction l with
  | nil => simp [cutAll]
  | cons b l ih =>
    rw [cutAll]
    split
    · intro p hp
      rcases List.mem_cons.1 hp with rfl | hp
      · simp
      · have := ih p hp; simp; omega
    · cases h : cutAll c l with
      | nil => exact absurd h (cutAll_ne c l)
      | cons q r =>
        rw [h] at ih
        dsimp only
        intro p hp
        rcases List.mem_cons.1 hp with rfl | hp
        · have := ih q (by simp); simp; omega
        · have := ih p (by simp [hp]); simp; omega
theorem cutAll_len (c : UInt8) (l : List UInt8) : (cutAll c l).length ≤ l.length + 1 := by
  induction l with
  | nil => simp [cutAll]
  | cons b l ih =>
    rw [cutAll]
    split
    · simp; omega
    · cases h : cutAll c l with
      | nil => simp
      | cons q r => rw [h] at ih; simp at ih ⊢; omega
theorem decDigits_le {u : Nat} (h : u ≤ 1000000000) : (decDigits u).length ≤ 10 := by
  rw [decDigits_length]
  rw [nDigits]; split
  · omega
  rw [nDigits]; split
  · omega
  rw [nDigits]; split
  · omega
  rw [nDigits]; split
  · omega
  rw [nDigits]; split
  · omega
  rw [nDigits]; split
  · omega
  rw [nDigits]; split
  · omega
  rw [nDigits]; split
  · omega
  rw [nDigits]; split
  · omega
  rw [nDigits]; split
  · omega
  omega

theorem decNat_decDigits (u : Nat) : decNat (decDigits u) = some u := by
  unfold decNat
  rw [if_neg (by simpa using decDigits_ne u), decFrom_decDigits]

theorem decDigits_cons (u : Nat) : ∃ c r, decDigits u = c :: r ∧ 48 ≤ c.toNat ∧ c.toNat ≤ 57 := by
  cases h : decDigits u with
  | nil => exact absurd h (decDigits_ne u)
  | cons c r => exact ⟨c, r, rfl, decDigits_digit u c (by rw [h]; simp)⟩

theorem atoi_itoa (n : Int) : atoi (itoa n) = some n := by
  unfold itoa
  by_cases h : n < 0
  · rw [if_pos h]
    simp only [atoi, decNat_decDigits]
    simp
    omega
  · rw [if_neg h]
    obtain ⟨c, r, e, h1, h2⟩ := decDigits_cons n.toNat
    have h3 := decNat_decDigits n.toNat
    rw [e] at h3 ⊢
    have e1 : (c == 45) = false := by
      rw [beq_eq_false_iff_ne]; rintro rfl; simp at h1
    have e2 : (c == 43) = false := by
      rw [beq_eq_false_iff_ne]; rintro rfl; simp at h1
    simp only [atoi, e1, e2, h3]
    simp
    omega

theorem itoa_le {n : Int} (h : n.natAbs ≤ 1000000000) : (itoa n).length ≤ 11 := by
  unfold itoa
  split
  · have := decDigits_le h; simp; omega
  · have := decDigits_le (u := n.toNat) (by omega); omega

theorem itoa_le10 {n : Int} (h0 : 0 ≤ n) (h : n ≤ 1000000000) : (itoa n).length ≤ 10 := by
  unfold itoa
  rw [if_neg (by omega)]
  exact decDigits_le (u := n.toNat) (by omega)

/-- Atoi's number, if it is one. -/
def numv (l : List UInt8) : Option Int := match atoiAll l with
  | .ok v => some v
  | _ => none

theorem numv_itoa {n : Int} (h : n.natAbs ≤ 1000000000) : numv (itoa n) = some n := by
  have hl := itoa_le h
  unfold numv
  rw [atoiAll_short _ (by omega), atoi_itoa]
  rfl

theorem occAt_one (k : UInt8) (s : List UInt8) (i : Nat) : occAt s [k] i = (s[i]? == some k) := by
  unfold occAt
  cases h : s.drop i with
  | nil =>
    have : s[i]? = none := by
      rw [List.getElem?_eq_none_iff]
      have := congrArg List.length h
      simp at this
      omega
    simp [this]
  | cons c r =>
    have : s[i]? = some c := by
      have := congrArg (fun l => l[0]?) h
      simpa using this
    rw [this]
    have e : (some c == some k) = (c == k) := rfl
    have e2 : (k == c) = (c == k) := by rw [Bool.eq_iff_iff, beq_iff_eq, beq_iff_eq]; exact eq_comm
    simp only [List.isPrefixOf, Bool.and_true, e, e2]

theorem index_hit {k : UInt8} {l r : List UInt8} (h : ∀ c ∈ l, c ≠ k) : index (l ++ k :: r) [k] = (l.length : Int) := by
  refine index_first (by simp) ?_ (fun j hj => ?_)
  · rw [occAt_one]; simp
  · rw [occAt_one, List.getElem?_append_left hj, List.getElem?_eq_getElem hj]
    have := h l[j] (List.getElem_mem hj)
    simpa using this

theorem index_miss {k : UInt8} {l : List UInt8} (h : ∀ c ∈ l, c ≠ k) : index l [k] = -1 := by
  refine index_none (fun j hj => ?_)
  rw [occAt_one]
  by_cases hl : j < l.length
  · rw [List.getElem?_eq_getElem hl]
    have := h l[j] (List.getElem_mem hl)
    simpa using this
  · rw [List.getElem?_eq_none (by omega)]; rfl

theorem cut_hit {k : UInt8} {l r : List UInt8} (h : ∀ c ∈ l, c ≠ k) : cut (l ++ k :: r) [k] = (l, r, true) := by
  unfold cut
  rw [index_hit h, if_pos (by omega)]
  simp

theorem cut_miss {k : UInt8} {l : List UInt8} (h : ∀ c ∈ l, c ≠ k) : cut l [k] = (l, [], false) := by
  unfold cut
  rw [index_miss h, if_neg (by omega)]

theorem itoa_nat (n : Nat) : Lib.itoa (n : Int) = Lib.decDigits n := by unfold Lib.itoa; rw [if_neg (by omega)]; simp
/-- strings.Cut at one byte, by the pieces. -/
theorem cut_one (k : UInt8) (l : List UInt8) : (∃ p, cutAll k l = [p] ∧ cut l [k] = (p, [], false)) ∨ ∃ p r, cutAll k l = p :: cutAll k r ∧ cut l [k] = (p, r, true) ∧ l = p ++ k :: r := by
  have hg := glue_cutAll k l
  have hn := cutAll_no k l
  cases h : cutAll k l with
  | nil => exact absurd h (cutAll_ne k l)
  | cons p q =>
    rw [h] at hg hn
    cases q with
    | nil =>
      simp only [glue] at hg
      subst hg
      exact .inl ⟨p, rfl, cut_miss (hn p (by simp))⟩
    | cons q r =>
      simp only [glue] at hg
      have hp := hn p (by simp)
      refine .inr ⟨p, glue k (q :: r), ?_, ?_, hg.symm⟩
      · have := cutAll_hit k p (glue k (q :: r)) hp
        rw [hg, h] at this
        exact this
      · rw [← hg]
        exact cut_hit hp
end Go.Proofs.YtainohbfcehpoaaDoor
