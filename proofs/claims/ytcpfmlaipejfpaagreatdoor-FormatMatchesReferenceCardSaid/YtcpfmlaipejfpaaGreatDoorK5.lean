/-
  Texts, plain: numerals, a text divided at a byte, what strings.Cut and strconv.Atoi give. (General; cut out of CqT and Txt.)
  Formats of chapter 4: the text of a table, plain: what is printed, what is read.
  Formats of chapter 4, plain: the text of a valid table is read as this table.
  Formats of chapter 4, plain: what a valid table's fields are; how long its text is.
-/
import Derived.Test.YtcpfmlaipejfpaaGreatDoorK1
import Derived.Lib.AtoiTie
import Derived.Lib.ItoaNum
import Derived.Lib.IndexMore
import Derived.Lib.SplitLaws
import Derived.Test.YtcpfmlaipejfpaaGreatDoorK2
import Derived.Lib.Strings
import Derived.Lib.ItoaLen
namespace Go.Proofs.YtcpfmlaipejfpaaGreatDoor
open Go.Lib

theorem decDigits_digit (u : Nat) : ∀ c ∈ decDigits u, 48 ≤ c.toNat ∧ c.toNat ≤ 57 := by
  induction u using Nat.strongRecOn with
  | _ u ih =>
    intro c hc
    by_cases h : u < 10
    · rw [decDigits, dif_pos h] at hc
      obtain rfl := List.mem_singleton.1 hc
      rw [UInt8.toNat_ofNat']
      omega
    · rw [decDigits, dif_neg h, List.mem_append] at hc
      rcases hc with hc | hc
      · exact ih _ (by omega) c hc
      · obtain rfl := List.mem_singleton.1 hc
        rw [UInt8.toNat_ofNat']
        omega
theorem decFrom_snoc (l : List UInt8) (b : UInt8) (acc n d : Nat) (h : decFrom acc l = some n) (hd : digitVal b = some d) : decFrom acc (l ++ [b]) = some (n * 10 + d) := by
  induction l generalizing acc with
  | nil =>
    simp only [decFrom, Option.some.injEq] at h
    subst h
    simp [decFrom, hd]
  | cons c r ih =>
    simp only [List.cons_append, decFrom] at h ⊢
    cases hc : digitVal c with
    | none => simp [hc] at h
    | some e =>
      simp only [hc] at h ⊢
      exact ih _ h
theorem digitVal_mk (k : Nat) (h : k < 10) : digitVal (UInt8.ofNat (48 + k)) = some k := by
  unfold digitVal
  rw [UInt8.toNat_ofNat', if_pos (by omega)]
  congr 1
  omega
theorem decFrom_decDigits (u : Nat) : decFrom 0 (decDigits u) = some u := by
  induction u using Nat.strongRecOn with
  | _ u ih =>
    by_cases h : u < 10
    · rw [decDigits, dif_pos h]
      simp only [decFrom, digitVal_mk u h, Nat.zero_mul, Nat.zero_add]
    · rw [decDigits, dif_neg h, decFrom_snoc _ _ _ (u / 10) (u % 10) (ih _ (by omega)) (digitVal_mk _ (by omega))]
      congr 1
      omega
theorem decDigits_ne (u : Nat) : decDigits u ≠ [] := by
  intro h
  by_cases h1 : u < 10
  · rw [decDigits, dif_pos h1] at h; cases h
  · rw [decDigits, dif_neg h1] at h; simp at h
theorem decDigits_inj {u v : Nat} (h : decDigits u = decDigits v) : u = v := by
  have h1 := decFrom_decDigits u
  rw [h, decFrom_decDigits] at h1
  injection h1 with h1
  exact h1.symm
theorem decDigits_no (c : UInt8) (hc : c.toNat < 48) (u : Nat) : ∀ x ∈ decDigits u, x ≠ c := by
  intro x hx h
  have := decDigits_digit u x hx
  rw [h] at this
  omega
/-- A text divided at a byte. -/
def cutAll (c : UInt8) : List UInt8 → List (List UInt8)
  | [] => [[]]
  | b :: l => if b = c then [] :: cutAll c l else match cutAll c l with
    | [] => [[b]]
    | p :: r => (b :: p) :: r
theorem cutAll_ne (c : UInt8) (l : List UInt8) : cutAll c l ≠ [] := by
  cases l with
  | nil => simp [cutAll]
  | cons b l =>
    rw [cutAll]
    split
    · simp
    · cases cutAll c l <;> simp
theorem cutAll_hit (c : UInt8) (l r : List UInt8) (h : ∀ x ∈ l, x ≠ c) : cutAll c (l ++ c :: r) = l :: cutAll c r := by
  induction l with
  | nil => simp [cutAll]
  | cons b l ih =>
    rw [List.cons_append, cutAll, if_neg (h b (by simp)), ih (fun x hx => h x (by simp [hx]))]
theorem cutAll_miss (c : UInt8) (l : List UInt8) (h : ∀ x ∈ l, x ≠ c) : cutAll c l = [l] := by
  induction l with
  | nil => rfl
  | cons b l ih =>
    rw [cutAll, if_neg (h b (by simp)), ih (fun x hx => h x (by simp [hx]))]
theorem cutAll_no (c : UInt8) (l : List UInt8) : ∀ p ∈ cutAll c l, ∀ x ∈ p, x ≠ c := by
  induction l with
  | nil => simp [cutAll]
  | cons b l ih =>
    rw [cutAll]
    split
    · intro p hp
      rcases List.mem_cons.1 hp with rfl | hp
      · simp
      · exact ih p hp
    · rename_i hb
      cases h : cutAll c l with
      | nil => exact absurd h (cutAll_ne c l)
      | cons q r =>
        rw [h] at ih
        dsimp only
        intro p hp
        rcases List.mem_cons.1 hp with rfl | hp
        · intro x hx
          rcases List.mem_cons.1 hx with rfl | hx
          · exact hb
          · exact ih q (by simp) x hx
        · exact ih p (by simp [hp])
/-- The pieces put together again. -/
def glue (c : UInt8) : List (List UInt8) → List UInt8
  | [] => []
  | [p] => p
  | p :: q :: r => p ++ c :: glue c (q :: r)
theorem glue_cutAll (c : UInt8) (l : List UInt8) : glue c (cutAll c l) = l := by
  induction l with
  | nil => rfl
  | cons b l ih =>
    rw [cutAll]
    cases h : cutAll c l with
    | nil => exact absurd h (cutAll_ne c l)
    | cons q r =>
      rw [h] at ih
      split
      · rename_i hb
        rw [hb]
        show [] ++ c :: glue c (q :: r) = c :: l
        rw [ih]
        rfl
      · dsimp only
        cases r with
        | nil => simp only [glue] at ih ⊢; rw [ih]
        | cons q2 r => simp only [glue] at ih ⊢; rw [← ih]; simp
theorem cutAll_le (c : UInt8) (l : List UInt8) : ∀ p ∈ cutAll c l, p.length ≤ l.length := by
  induction l with
  | nil => simp [cutAll]
  | cons b l ih =>
    rw [cutAll]
    split
    · intro p hp
      rcases List.mem_cons.1 hp with rfl | hp
      · simp
      · have := ih p hp; simp; omega
    · cases h : cutAll c l with
      | nil => exact absurd h (cutAll_ne c l)
      | cons q r =>
        rw [h] at ih
        dsimp only
        intro p hp
        rcases List.mem_cons.1 hp with rfl | hp
        · have := ih q (by simp); simp; omega
        · have := ih p (by simp [hp]); simp; omega
theorem cutAll_len (c : UInt8) (l : List UInt8) : (cutAll c l).length ≤ l.length + 1 := by
  induction l with
  | nil => simp [cutAll]
  | cons b l ih =>
    rw [cutAll]
    split
    · simp; omega
    · cases h : cutAll c l with
      | nil => simp
      | cons q r => rw [h] at ih; simp at ih ⊢; omega
theorem decDigits_le {u : Nat} (h : u ≤ 1000000000) : (decDigits u).length ≤ 10 := by
  rw [decDigits_length]
  rw [nDigits]; split
  · omega
  rw [nDigits]; split
  · omega
  rw [nDigits]; split
  · omega
  rw [nDigits]; split
  · omega
  rw [nDigits]; split
  · omega
  rw [nDigits]; split
  · omega
  rw [nDigits]; split
  · omega
  rw [nDigits]; split
  · omega
  rw [nDigits]; split
  · omega
  rw [nDigits]; split
  · omega
  omega

theorem decNat_decDigits (u : Nat) : decNat (decDigits u) = some u := by
  unfold decNat
  rw [if_neg (by simpa using decDigits_ne u), decFrom_decDigits]

theorem decDigits_cons (u : Nat) : ∃ c r, decDigits u = c :: r ∧ 48 ≤ c.toNat ∧ c.toNat ≤ 57 := by
  cases h : decDigits u with
  | nil => exact absurd h (decDigits_ne u)
  | cons c r => exact ⟨c, r, rfl, decDigits_digit u c (by rw [h]; simp)⟩

theorem atoi_itoa (n : Int) : atoi (itoa n) = some n := by
  unfold itoa
  by_cases h : n < 0
  · rw [if_pos h]
    simp only [atoi, decNat_decDigits]
    simp
    omega
  · rw [if_neg h]
    obtain ⟨c, r, e, h1, h2⟩ := decDigits_cons n.toNat
    have h3 := decNat_decDigits n.toNat
    rw [e] at h3 ⊢
    have e1 : (c == 45) = false := by
      rw [beq_eq_false_iff_ne]; rintro rfl; simp at h1
    have e2 : (c == 43) = false := by
      rw [beq_eq_false_iff_ne]; rintro rfl; simp at h1
    simp only [atoi, e1, e2, h3]
    simp
    omega

theorem itoa_le {n : Int} (h : n.natAbs ≤ 1000000000) : (itoa n).length ≤ 11 := by
  unfold itoa
  split
  · have := decDigits_le h; simp; omega
  · have := decDigits_le (u := n.toNat) (by omega); omega

theorem itoa_le10 {n : Int} (h0 : 0 ≤ n) (h : n ≤ 1000000000) : (itoa n).length ≤ 10 := by
  unfold itoa
  rw [if_neg (by omega)]
  exact decDigits_le (u := n.toNat) (by omega)

/-- Atoi's number, if it is one. -/
def numv (l : List UInt8) : Option Int := match atoiAll l with
  | .ok v => some v
  | _ => none

theorem numv_itoa {n : Int} (h : n.natAbs ≤ 1000000000) : numv (itoa n) = some n := by
  have hl := itoa_le h
  unfold numv
  rw [atoiAll_short _ (by omega), atoi_itoa]
  rfl

theorem occAt_one (k : UInt8) (s : List UInt8) (i : Nat) : occAt s [k] i = (s[i]? == some k) := by
  unfold occAt
  cases h : s.drop i with
  | nil =>
    have : s[i]? = none := by
      rw [List.getElem?_eq_none_iff]
      have := congrArg List.length h
      simp at this
      omega
    simp [this]
  | cons c r =>
    have : s[i]? = some c := by
      have := congrArg (fun l => l[0]?) h
      simpa using this
    rw [this]
    have e : (some c == some k) = (c == k) := rfl
    have e2 : (k == c) = (c == k) := by rw [Bool.eq_iff_iff, beq_iff_eq, beq_iff_eq]; exact eq_comm
    simp only [List.isPrefixOf, Bool.and_true, e, e2]

theorem index_hit {k : UInt8} {l r : List UInt8} (h : ∀ c ∈ l, c ≠ k) : index (l ++ k :: r) [k] = (l.length : Int) := by
  refine index_first (by simp) ?_ (fun j hj => ?_)
  · rw [occAt_one]; simp
  · rw [occAt_one, List.getElem?_append_left hj, List.getElem?_eq_getElem hj]
    have := h l[j] (List.getElem_mem hj)
    simpa using this

theorem index_miss {k : UInt8} {l : List UInt8} (h : ∀ c ∈ l, c ≠ k) : index l [k] = -1 := by
  refine index_none (fun j hj => ?_)
  rw [occAt_one]
  by_cases hl : j < l.length
  · rw [List.getElem?_eq_getElem hl]
    have := h l[j] (List.getElem_mem hl)
    simpa using this
  · rw [List.getElem?_eq_none (by omega)]; rfl

theorem cut_hit {k : UInt8} {l r : List UInt8} (h : ∀ c ∈ l, c ≠ k) : cut (l ++ k :: r) [k] = (l, r, true) := by
  unfold cut
  rw [index_hit h, if_pos (by omega)]
  simp

theorem cut_miss {k : UInt8} {l : List UInt8} (h : ∀ c ∈ l, c ≠ k) : cut l [k] = (l, [], false) := by
  unfold cut
  rw [index_miss h, if_neg (by omega)]

theorem itoa_nat (n : Nat) : Lib.itoa (n : Int) = Lib.decDigits n := by unfold Lib.itoa; rw [if_neg (by omega)]; simp
/-- strings.Cut at one byte, by the pieces. -/
theorem cut_one (k : UInt8) (l : List UInt8) : (∃ p, cutAll k l = [p] ∧ cut l [k] = (p, [], false)) ∨ ∃ p r, cutAll k l = p :: cutAll k r ∧ cut l [k] = (p, r, true) ∧ l = p ++ k :: r := by
  have hg := glue_cutAll k l
  have hn := cutAll_no k l
  cases h : cutAll k l with
  | nil => exact absurd h (cutAll_ne k l)
  | cons p q =>
    rw [h] at hg hn
    cases q with
    | nil =>
      simp only [glue] at hg
      subst hg
      exact .inl ⟨p, rfl, cut_miss (hn p (by simp))⟩
    | cons q r =>
      simp only [glue] at hg
      have hp := hn p (by simp)
      refine .inr ⟨p, glue k (q :: r), ?_, ?_, hg.symm⟩
      · have := cutAll_hit k p (glue k (q :: r)) hp
        rw [hg, h] at this
        exact this
      · rw [← hg]
        exact cut_hit hp
end Go.Proofs.YtcpfmlaipejfpaaGreatDoor
namespace Go.Proofs.YtcpfmlaipejfpaaGreatDoor
open Go.Lib

def hexC (n : Nat) : UInt8 := if n < 10 then UInt8.ofNat (48 + n) else UInt8.ofNat (87 + n)
def hexL (s : List UInt8) : List UInt8 := s.flatMap fun c => [hexC (c.toNat / 16), hexC (c.toNat % 16)]
def hexV (c : UInt8) : Option Nat :=
  if 48 ≤ c.toNat ∧ c.toNat ≤ 57 then some (c.toNat - 48)
  else if 97 ≤ (c ||| 32).toNat ∧ (c ||| 32).toNat ≤ 102 then some ((c ||| 32).toNat - 87)
  else none
def unhexF : List UInt8 → Option (List UInt8)
  | [] => some []
  | [a] => match hexV a with
    | none => none
    | some x => some [UInt8.ofNat x]
  | a :: b :: r => match hexV a with
    | none => none
    | some x => match hexV b with
      | none => none
      | some y => match unhexF r with
        | none => none
        | some t => some (UInt8.ofNat (16 * x + y) :: t)
def formatT : List UInt8 := [102, 111, 114, 109, 97, 116]
def literalT : List UInt8 := [108, 105, 116, 101, 114, 97, 108]
def numberT : List UInt8 := [110, 117, 109, 98, 101, 114]
def bytesT : List UInt8 := [98, 121, 116, 101, 115]
def listT : List UInt8 := [108, 105, 115, 116]
def insideT : List UInt8 := [105, 110, 115, 105, 100, 101]
def checkT : List UInt8 := [99, 104, 101, 99, 107]
/-- The word between two numbers, with the blanks around it. -/
def fromT : List UInt8 := [32, 102, 114, 111, 109, 32]
def fromP : List UInt8 := [102, 114, 111, 109, 32]
def namedL (word : List UInt8) (n : Int) : List UInt8 := word ++ [32] ++ itoa n
def fromL (m : Int) : List UInt8 := fromT ++ itoa m
def lineF (f : Fld) : List UInt8 :=
  if f.kind = 1 then literalT ++ [32] ++ hexL f.text
  else if f.kind = 2 then namedL numberT f.n
  else if f.kind = 3 then (if 0 ≤ f.frm then bytesT ++ fromL f.frm else namedL bytesT f.n)
  else if f.kind = 4 then namedL listT f.n ++ fromL f.frm
  else if f.kind = 5 then namedL insideT f.n ++ fromL f.frm
  else namedL checkT f.n
def fieldsT (l : List Fld) : List UInt8 := l.flatMap fun f => lineF f ++ [10]
def fmtT (f : Fmt) : List UInt8 := namedL formatT f.id ++ [10] ++ fieldsT f.flds
def textF (l : List Fmt) : List UInt8 := l.flatMap fmtT
/-- P4.1: what Print returns. -/
def print4 (l : List Fmt) : List UInt8 × Int := if validT l then (textF l, 0) else ([], 40)
/-- A numeral as it is printed. -/
def numF (s : List UInt8) : Option Int := match numv s with
  | some v => if 0 ≤ v ∧ itoa v = s then some v else none
  | none => none
def fromOf (rest : List UInt8) : Option Int := if (cut rest fromT).2.2 then numF (cut rest fromT).2.1 else some (-1)
/-- The field that a word and what stands behind it can be. -/
def fieldOf (word rest : List UInt8) : Option Fld :=
  match fromOf rest with
  | none => none
  | some m =>
    if word = literalT then (unhexF rest).map fun t => ⟨1, 0, m, t⟩
    else if word = numberT then (numF rest).map fun n => ⟨2, n, m, []⟩
    else if word = bytesT then (if hasPrefix rest fromP then (numF (trimPrefix rest fromP)).map fun b => ⟨3, 0, b, []⟩ else (numF rest).map fun n => ⟨3, n, m, []⟩)
    else if word = listT then (numF (cut rest fromT).1).map fun n => ⟨4, n, m, []⟩
    else if word = insideT then (numF (cut rest fromT).1).map fun n => ⟨5, n, m, []⟩
    else if word = checkT then (numF rest).map fun n => ⟨6, n, m, []⟩
    else none
/-- The line of a format, or of a field, is taken into the table. -/
def readL (t : Tab) (line : List UInt8) : Option Tab :=
  if (cut line [32]).1 = formatT then
    match numF (cut line [32]).2.1 with
    | none => none
    | some id => t.beginT id
  else match fieldOf (cut line [32]).1 (cut line [32]).2.1 with
    | none => none
    | some f => if lineF f = line then t.addT f else none
/-- The lines are taken in, from the k-th on; left: the number of the line that is wrong. -/
def allL (t : Tab) : List (List UInt8) → Nat → Nat ⊕ Tab
  | [], k => .inl k
  | [p], k => if p = [] then (match t.fin with
    | none => .inl k
    | some t => .inr t) else .inl k
  | p :: q :: r, k => match readL t p with
    | none => .inl k
    | some t => allL t (q :: r) (k + 1)
/-- P4.1: what Parse returns. -/
def parse4 (s : List UInt8) : List Fmt × Nat × Int := match allL ⟨[], fun _ => none⟩ (cutAll 10 s) 1 with
  | .inl k => ([], k, 40)
  | .inr t => (t.list, 0, 0)

theorem hexC_val {k : Nat} (h : k < 16) : hexV (hexC k) = some k := by
  have : ∀ k : Fin 16, hexV (hexC k.1) = some k.1 := by decide
  exact this ⟨k, h⟩
theorem hexC_no {k : Nat} (h : k < 16) : 48 ≤ (hexC k).toNat ∧ (hexC k).toNat ≤ 102 := by
  have : ∀ k : Fin 16, 48 ≤ (hexC k.1).toNat ∧ (hexC k.1).toNat ≤ 102 := by decide
  exact this ⟨k, h⟩
theorem hexL_cons (c : UInt8) (s : List UInt8) : hexL (c :: s) = hexC (c.toNat / 16) :: hexC (c.toNat % 16) :: hexL s := rfl
theorem hexL_len (s : List UInt8) : (hexL s).length = 2 * s.length := by
  induction s with
  | nil => rfl
  | cons c s ih => rw [hexL_cons]; simp [ih]; omega
theorem hexL_no (s : List UInt8) : ∀ x ∈ hexL s, 48 ≤ x.toNat ∧ x.toNat ≤ 102 := by
  induction s with
  | nil => intro x hx; cases hx
  | cons c s ih =>
    have hc := c.toNat_lt
    rw [hexL_cons]
    intro x hx
    rcases List.mem_cons.1 hx with rfl | hx
    · exact hexC_no (by omega)
    · rcases List.mem_cons.1 hx with rfl | hx
      · exact hexC_no (by omega)
      · exact ih x hx
theorem unhex_hex (s : List UInt8) : unhexF (hexL s) = some s := by
  induction s with
  | nil => rfl
  | cons c s ih =>
    have hc := c.toNat_lt
    rw [hexL_cons, unhexF, hexC_val (by omega), hexC_val (by omega), ih]
    dsimp only
    rw [show 16 * (c.toNat / 16) + c.toNat % 16 = c.toNat by omega, UInt8.ofNat_toNat]
theorem numF_some {s : List UInt8} {n : Int} (h : numF s = some n) : 0 ≤ n ∧ itoa n = s := by
  unfold numF at h
  cases hv : numv s with
  | none => rw [hv] at h; cases h
  | some v =>
    rw [hv] at h
    dsimp only at h
    split at h
    · rename_i hh
      injection h with h
      subst h
      exact hh
    · cases h
theorem numF_mk {n : Int} (h0 : 0 ≤ n) (h : n ≤ 1000000000) : numF (itoa n) = some n := by
  unfold numF
  rw [numv_itoa (by omega)]
  dsimp only
  rw [if_pos ⟨h0, rfl⟩]
theorem itoa_no {n : Int} (h0 : 0 ≤ n) : ∀ x ∈ itoa n, 48 ≤ x.toNat ∧ x.toNat ≤ 57 := by
  obtain ⟨k, rfl⟩ : ∃ k : Nat, n = (k : Int) := ⟨n.toNat, by omega⟩
  rw [itoa_nat]
  exact decDigits_digit k
theorem no_of {l : List UInt8} (h : ∀ x ∈ l, 48 ≤ x.toNat) {c : UInt8} (hc : c.toNat < 48) : ∀ x ∈ l, x ≠ c := by
  rintro x hx rfl
  have := h x hx
  omega
theorem index_from_hit : ∀ (a b : List UInt8), (∀ x ∈ a, x ≠ 32) → index (a ++ (fromT ++ b)) fromT = (a.length : Int)
  | [], b, _ => by
    show index (32 :: ([102, 114, 111, 109, 32] ++ b)) fromT = 0
    rw [index, if_pos (by simp [fromT, List.isPrefixOf])]
  | c :: a, b, h => by
    have ih := index_from_hit a b (fun x hx => h x (by simp [hx]))
    have hc : (32 : UInt8) ≠ c := fun e => h c (by simp) e.symm
    rw [List.cons_append, index, if_neg (by simp [fromT, List.isPrefixOf, hc]), ih, if_neg (by simp)]
    simp
theorem index_from_no : ∀ (a : List UInt8), (∀ x ∈ a, x ≠ 32) → index a fromT = -1
  | [], _ => rfl
  | c :: a, h => by
    have ih := index_from_no a (fun x hx => h x (by simp [hx]))
    have hc : (32 : UInt8) ≠ c := fun e => h c (by simp) e.symm
    rw [index, if_neg (by simp [fromT, List.isPrefixOf, hc]), ih]
    rfl
theorem prefix_mem {p l : List UInt8} (h : p.isPrefixOf l = true) : ∀ x ∈ p, x ∈ l := by
  rw [List.isPrefixOf_iff_prefix] at h
  exact h.subset
theorem index_from_one : ∀ (a b : List UInt8), (∀ x ∈ a, x ≠ 32) → (∀ x ∈ b, x ≠ 32) → index (a ++ 32 :: b) fromT = -1
  | [], b, _, hb => by
    rw [List.nil_append, index, if_neg, index_from_no b hb]
    · rfl
    · intro h
      have h' : fromP.isPrefixOf b = true := by simpa [fromT, fromP, List.isPrefixOf] using h
      exact hb 32 (prefix_mem h' 32 (by decide)) rfl
  | c :: a, b, ha, hb => by
    have ih := index_from_one a b (fun x hx => ha x (by simp [hx])) hb
    have hc : (32 : UInt8) ≠ c := fun e => ha c (by simp) e.symm
    rw [List.cons_append, index, if_neg (by simp [fromT, List.isPrefixOf, hc]), ih]
    rfl
theorem cut_from_hit {a b : List UInt8} (h : ∀ x ∈ a, x ≠ 32) : cut (a ++ (fromT ++ b)) fromT = (a, b, true) := by
  unfold cut
  rw [index_from_hit a b h, if_pos (by omega)]
  simp
theorem cut_from_no {a : List UInt8} (h : ∀ x ∈ a, x ≠ 32) : cut a fromT = (a, [], false) := by
  unfold cut
  rw [index_from_no a h, if_neg (by omega)]
theorem cut_from_one {a b : List UInt8} (ha : ∀ x ∈ a, x ≠ 32) (hb : ∀ x ∈ b, x ≠ 32) : cut (a ++ 32 :: b) fromT = (a ++ 32 :: b, [], false) := by
  unfold cut
  rw [index_from_one a b ha hb, if_neg (by omega)]
end Go.Proofs.YtcpfmlaipejfpaaGreatDoor
namespace Go.Proofs.YtcpfmlaipejfpaaGreatDoor
open Go.Lib

/-- What holds of every table that came by its own door. -/
structure TabOk (t : Tab) : Prop where
  ids : ∀ f ∈ t.list, 1 ≤ f.id ∧ f.id ≤ 1000000
  keys : ∀ k v, t.m k = some v → 1 ≤ k ∧ k ≤ 1000000
  few : ∀ f ∈ t.list, f.flds.length ≤ 16
theorem TabOk.empty : TabOk ⟨[], fun _ => none⟩ := ⟨fun f h => (by cases h), fun k v h => (by cases h), fun f h => (by cases h)⟩
theorem TabOk.fin {t t' : Tab} (h : TabOk t) (hf : t.fin = some t') : TabOk t' ∧ t'.list = t.list := by
  unfold Tab.fin at hf
  cases hl : t.list.getLast? with
  | none =>
    rw [hl] at hf
    injection hf with hf
    subst hf
    exact ⟨h, rfl⟩
  | some f =>
    rw [hl] at hf
    dsimp only at hf
    split at hf
    · cases hf
    · injection hf with hf
      subst hf
      refine ⟨⟨h.ids, fun k v hk => ?_, h.few⟩, rfl⟩
      dsimp only [putM] at hk
      split at hk
      · rename_i e
        rw [e]
        exact h.ids f (List.mem_of_getLast? hl)
      · exact h.keys k v hk
theorem TabOk.begin {t t' : Tab} {id : Int} (h : TabOk t) (hb : t.beginT id = some t') : TabOk t' ∧ t'.list = t.list ++ [⟨id, []⟩] ∧ 1 ≤ id ∧ id ≤ 1000000 := by
  unfold Tab.beginT at hb
  cases hf : t.fin with
  | none => rw [hf] at hb; cases hb
  | some u =>
    rw [hf] at hb
    dsimp only at hb
    obtain ⟨hu, hl⟩ := h.fin hf
    split at hb
    · rename_i hc
      injection hb with hb
      subst hb
      simp only [Bool.and_eq_true] at hc
      have hid := withinZ_iff.1 hc.1.1
      refine ⟨⟨fun f hf => ?_, hu.keys, fun f hf => ?_⟩, by dsimp only; rw [hl], hid⟩
      · rcases List.mem_append.1 hf with hf | hf
        · exact hu.ids f hf
        · simp only [List.mem_singleton] at hf
          subst hf
          exact hid
      · rcases List.mem_append.1 hf with hf | hf
        · exact hu.few f hf
        · simp only [List.mem_singleton] at hf
          subst hf
          exact Nat.zero_le _
    · cases hb
theorem TabOk.add {t t' : Tab} {f : Fld} (h : TabOk t) (ha : t.addT f = some t') : TabOk t' ∧ ∃ g, t.list.getLast? = some g ∧ g.flds.length < 16 ∧ fitsF t.m g.flds f = true ∧ t'.m = t.m ∧ t'.list = t.list.dropLast ++ [⟨g.id, g.flds ++ [f]⟩] := by
  unfold Tab.addT at ha
  cases hl : t.list.getLast? with
  | none => rw [hl] at ha; cases ha
  | some g =>
    rw [hl] at ha
    dsimp only at ha
    split at ha
    · rename_i hc
      injection ha with ha
      subst ha
      simp only [Bool.and_eq_true, decide_eq_true_eq] at hc
      have hm := List.mem_of_getLast? hl
      refine ⟨⟨fun x hx => ?_, h.keys, fun x hx => ?_⟩, g, rfl, hc.1.1.2, hc.1.2, rfl, rfl⟩
      · rcases List.mem_append.1 hx with hx | hx
        · exact h.ids x (List.dropLast_subset _ hx)
        · simp only [List.mem_singleton] at hx
          subst hx
          exact h.ids g hm
      · rcases List.mem_append.1 hx with hx | hx
        · exact h.few x (List.dropLast_subset _ hx)
        · simp only [List.mem_singleton] at hx
          subst hx
          simp only [List.length_append, List.length_singleton]
          omega
    · cases ha
/-- The table's list behind fields and formats. -/
theorem addAll_list : ∀ (fs : List Fld) (t t' : Tab), TabOk t → t.addAll fs = some t' → TabOk t' ∧ ∀ l g, t.list = l ++ [g] → t'.list = l ++ [⟨g.id, g.flds ++ fs⟩]
  | [], t, t', h, ha => by
    injection ha with ha
    subst ha
    exact ⟨h, fun l g e => by rw [e, List.append_nil]⟩
  | f :: r, t, t', h, ha => by
    rw [Tab.addAll] at ha
    cases hf : t.addT f with
    | none => rw [hf] at ha; cases ha
    | some u =>
      rw [hf] at ha
      obtain ⟨hu, g, h1, _, _, _, h2⟩ := h.add hf
      obtain ⟨ht, hl⟩ := addAll_list r u t' hu ha
      refine ⟨ht, fun l g' e => ?_⟩
      rw [e, List.getLast?_concat] at h1
      injection h1 with h1
      subst h1
      rw [e, List.dropLast_concat] at h2
      rw [hl l _ h2]
      simp
theorem takeAll_list : ∀ (l : List Fmt) (t t' : Tab), TabOk t → t.takeAll l = some t' → TabOk t' ∧ t'.list = t.list ++ l
  | [], t, t', h, ha => by
    injection ha with ha
    subst ha
    exact ⟨h, by simp⟩
  | f :: r, t, t', h, ha => by
    rw [Tab.takeAll] at ha
    cases hb : t.beginT f.id with
    | none => rw [hb] at ha; cases ha
    | some u =>
      rw [hb] at ha
      dsimp only at ha
      obtain ⟨hu, e1, _⟩ := h.begin hb
      cases hA : u.addAll f.flds with
      | none => rw [hA] at ha; cases ha
      | some x =>
        rw [hA] at ha
        dsimp only at ha
        obtain ⟨hx, e2⟩ := addAll_list _ _ _ hu hA
        obtain ⟨ht, e3⟩ := takeAll_list r x t' hx ha
        refine ⟨ht, ?_⟩
        rw [e3, e2 _ _ e1]
        simp
theorem built_list {l : List Fmt} {t : Tab} (h : builtT l = some t) : TabOk t ∧ t.list = l := by
  unfold builtT at h
  cases hA : Tab.takeAll ⟨[], fun _ => none⟩ l with
  | none => rw [hA] at h; cases h
  | some u =>
    rw [hA] at h
    obtain ⟨hu, e⟩ := takeAll_list _ _ _ TabOk.empty hA
    obtain ⟨ht, e2⟩ := hu.fin h
    exact ⟨ht, by rw [e2, e]; rfl⟩
theorem word_no {l : List UInt8} (h : ∀ x ∈ l, 97 ≤ x.toNat) : ∀ x ∈ l, x ≠ 32 := by
  rintro x hx rfl
  have := h _ hx
  revert this
  decide
theorem named_cut {word : List UInt8} (h : ∀ x ∈ word, 97 ≤ x.toNat) (r : List UInt8) : cut (word ++ [32] ++ r) [32] = (word, r, true) := by
  rw [List.append_assoc, List.singleton_append]
  exact cut_hit (word_no h)
theorem from_cut {word : List UInt8} (h : ∀ x ∈ word, 97 ≤ x.toNat) (r : List UInt8) : cut (word ++ (fromT ++ r)) [32] = (word, fromP ++ r, true) := cut_hit (word_no h)
theorem digits_no32 {n : Int} (h : 0 ≤ n) : ∀ x ∈ itoa n, x ≠ 32 := no_of (fun x hx => (itoa_no h x hx).1) (by decide)
theorem counted_parts {l : List Fld} {f : Fld} (h : countedF l f = true) : 0 ≤ f.frm ∧ f.frm ≤ (l.length : Int) - 1 ∧ f.text = [] := by
  simp only [countedF, Bool.and_eq_true] at h
  have := withinZ_iff.1 h.1.1.1
  exact ⟨this.1, this.2, by simpa using h.1.2⟩
theorem alone_parts {f : Fld} (h : aloneF f = true) : f.frm = -1 ∧ f.text = [] := by
  simp only [aloneF, Bool.and_eq_true, beq_iff_eq] at h
  exact ⟨h.1, by simpa using h.2⟩
theorem fromOf_no {a : List UInt8} (h : ∀ x ∈ a, x ≠ 32) : fromOf a = some (-1) := by
  unfold fromOf
  rw [cut_from_no h]
  rfl
theorem fromOf_one {a b : List UInt8} (ha : ∀ x ∈ a, x ≠ 32) (hb : ∀ x ∈ b, x ≠ 32) : fromOf (a ++ 32 :: b) = some (-1) := by
  unfold fromOf
  rw [cut_from_one ha hb]
  rfl
theorem fromOf_hit {a : List UInt8} {m : Int} (ha : ∀ x ∈ a, x ≠ 32) (h0 : 0 ≤ m) (hm : m ≤ 1000000000) : fromOf (a ++ (fromT ++ itoa m)) = some m := by
  unfold fromOf
  rw [cut_from_hit ha]
  exact numF_mk h0 hm
theorem hasPrefix_self (p r : List UInt8) : hasPrefix (p ++ r) p = true := by
  unfold hasPrefix
  rw [List.isPrefixOf_iff_prefix]
  exact List.prefix_append p r
theorem trimPrefix_self (p r : List UInt8) : trimPrefix (p ++ r) p = r := by
  unfold trimPrefix
  rw [hasPrefix_self, if_pos rfl, List.drop_left]
theorem fromP_no {n : Int} (h : 0 ≤ n) : hasPrefix (itoa n) fromP = false := by
  cases he : hasPrefix (itoa n) fromP with
  | false => rfl
  | true =>
    have h1 := prefix_mem (l := itoa n) (p := fromP) he 102 (by decide)
    have := itoa_no h _ h1
    revert this
    decide
/-- A field that fits is read from its line. -/
theorem field_line {m : Int → Option Int} {l : List Fld} {f : Fld} (hm : ∀ k v, m k = some v → 1 ≤ k ∧ k ≤ 1000000) (hl : l.length ≤ 16) (h : fitsF m l f = true) :
    ∃ word rest, cut (lineF f) [32] = (word, rest, true) ∧ word ≠ formatT ∧ fieldOf word rest = some f := by
  obtain ⟨k, n, fr, t⟩ := f
  unfold fitsF at h
  dsimp only at h
  split at h
  · rename_i hk
    subst hk
    simp only [Bool.and_eq_true, beq_iff_eq] at h
    obtain ⟨⟨rfl, rfl⟩, _⟩ := h
    refine ⟨literalT, hexL t, named_cut (by decide) _, by decide, ?_⟩
    unfold fieldOf
    rw [fromOf_no (no_of (fun x hx => (hexL_no t x hx).1) (by decide))]
    dsimp only
    rw [if_pos rfl, unhex_hex]
    rfl
  · split at h
    · rename_i hk
      subst hk
      simp only [Bool.and_eq_true] at h
      obtain ⟨e1, e2⟩ := alone_parts h.1
      dsimp only at e1 e2
      subst e1 e2
      have hn := withinZ_iff.1 h.2
      refine ⟨numberT, itoa n, named_cut (by decide) _, by decide, ?_⟩
      unfold fieldOf
      rw [fromOf_no (digits_no32 (by omega))]
      dsimp only
      rw [if_neg (by decide), if_pos rfl, numF_mk (by omega) (by omega)]
      rfl
    · split at h
      · rename_i hk
        subst hk
        split at h
        · rename_i ha
          obtain ⟨e1, e2⟩ := alone_parts ha
          dsimp only at e1 e2
          subst e1 e2
          have hn := withinZ_iff.1 h
          refine ⟨bytesT, itoa n, named_cut (by decide) _, by decide, ?_⟩
          unfold fieldOf
          rw [fromOf_no (digits_no32 (by omega))]
          dsimp only
          rw [if_neg (by decide), if_neg (by decide), if_pos rfl, fromP_no (by omega), if_neg (by decide), numF_mk (by omega) (by omega)]
          rfl
        · simp only [Bool.and_eq_true, beq_iff_eq] at h
          obtain ⟨rfl, hc⟩ := h
          obtain ⟨c1, c2, c3⟩ := counted_parts hc
          dsimp only at c1 c2 c3
          subst c3
          refine ⟨bytesT, fromP ++ itoa fr, ?_, by decide, ?_⟩
          · unfold lineF
            dsimp only
            rw [if_neg (by decide), if_neg (by decide), if_pos rfl, if_pos c1, fromL]
            exact from_cut (by decide) _
          · unfold fieldOf
            rw [show fromP ++ itoa fr = [102, 114, 111, 109] ++ 32 :: itoa fr from rfl, fromOf_one (by decide) (digits_no32 c1)]
            dsimp only
            rw [if_neg (by decide), if_neg (by decide), if_pos rfl]
            rw [show [102, 114, 111, 109] ++ 32 :: itoa fr = fromP ++ itoa fr from rfl, hasPrefix_self, if_pos rfl, trimPrefix_self, numF_mk c1 (by omega)]
            rfl
      · split at h
        · rename_i hk
          subst hk
          simp only [Bool.and_eq_true] at h
          obtain ⟨c1, c2, c3⟩ := counted_parts h.2
          dsimp only at c1 c2 c3
          subst c3
          obtain ⟨v, hv⟩ := Option.isSome_iff_exists.1 h.1
          have hn := hm _ _ hv
          have hf := fromOf_hit (a := itoa n) (m := fr) (digits_no32 (by omega)) c1 (by omega)
          refine ⟨listT, itoa n ++ (fromT ++ itoa fr), ?_, by decide, ?_⟩
          · show cut (listT ++ [32] ++ itoa n ++ (fromT ++ itoa fr)) [32] = _
            rw [List.append_assoc (listT ++ [32])]
            exact named_cut (by decide) _
          · unfold fieldOf
            rw [hf]
            dsimp only
            rw [if_neg (by decide), if_neg (by decide), if_neg (by decide), if_pos rfl, cut_from_hit (digits_no32 (by omega)), numF_mk (by omega) (by omega)]
            rfl
        · split at h
          · rename_i hk
            subst hk
            cases hv : m n with
            | none => rw [hv] at h; cases h
            | some v =>
              rw [hv] at h
              simp only [Bool.and_eq_true] at h
              obtain ⟨c1, c2, c3⟩ := counted_parts h.1
              dsimp only at c1 c2 c3
              subst c3
              have hn := hm _ _ hv
              have hf := fromOf_hit (a := itoa n) (m := fr) (digits_no32 (by omega)) c1 (by omega)
              refine ⟨insideT, itoa n ++ (fromT ++ itoa fr), ?_, by decide, ?_⟩
              · show cut (insideT ++ [32] ++ itoa n ++ (fromT ++ itoa fr)) [32] = _
                rw [List.append_assoc (insideT ++ [32])]
                exact named_cut (by decide) _
              · unfold fieldOf
                rw [hf]
                dsimp only
                rw [if_neg (by decide), if_neg (by decide), if_neg (by decide), if_neg (by decide), if_pos rfl, cut_from_hit (digits_no32 (by omega)), numF_mk (by omega) (by omega)]
                rfl
          · split at h
            · rename_i hk
              subst hk
              simp only [Bool.and_eq_true] at h
              obtain ⟨e1, e2⟩ := alone_parts h.1
              dsimp only at e1 e2
              subst e1 e2
              have hn := withinZ_iff.1 h.2
              refine ⟨checkT, itoa n, named_cut (by decide) _, by decide, ?_⟩
              unfold fieldOf
              rw [fromOf_no (digits_no32 (by omega))]
              dsimp only
              rw [if_neg (by decide), if_neg (by decide), if_neg (by decide), if_neg (by decide), if_neg (by decide), if_pos rfl, numF_mk (by omega) (by omega)]
              rfl
            · cases h
theorem readL_field {t t' : Tab} {f : Fld} (h : TabOk t) (ha : t.addT f = some t') : readL t (lineF f) = some t' := by
  obtain ⟨_, g, h1, h2, h3, _⟩ := h.add ha
  obtain ⟨word, rest, hc, hw, hf⟩ := field_line h.keys (by omega) h3
  unfold readL
  rw [hc]
  dsimp only
  rw [if_neg hw, hf]
  dsimp only
  rw [if_pos rfl, ha]
theorem readL_format (t : Tab) {id : Int} (h0 : 0 ≤ id) (h : id ≤ 1000000000) : readL t (namedL formatT id) = t.beginT id := by
  unfold readL namedL
  rw [named_cut (by decide), if_pos rfl, numF_mk h0 h]
theorem word_no10 {l : List UInt8} (h : ∀ x ∈ l, 32 ≤ x.toNat) : ∀ x ∈ l, x ≠ 10 := by
  rintro x hx rfl
  have := h _ hx
  revert this
  decide
theorem itoa_no32 (n : Int) : ∀ x ∈ itoa n, 32 ≤ x.toNat := by
  intro x hx
  unfold itoa at hx
  split at hx
  · rcases List.mem_cons.1 hx with rfl | hx
    · decide
    · have := decDigits_digit _ _ hx
      omega
  · have := decDigits_digit _ _ hx
    omega
theorem named_no {word : List UInt8} (h : ∀ x ∈ word, 32 ≤ x.toNat) (n : Int) : ∀ x ∈ namedL word n, 32 ≤ x.toNat := by
  intro x hx
  unfold namedL at hx
  rcases List.mem_append.1 hx with hx | hx
  · rcases List.mem_append.1 hx with hx | hx
    · exact h x hx
    · simp only [List.mem_singleton] at hx
      subst hx
      decide
  · exact itoa_no32 n x hx
theorem from_no (m : Int) : ∀ x ∈ fromL m, 32 ≤ x.toNat := by
  intro x hx
  rcases List.mem_append.1 hx with hx | hx
  · exact (show ∀ x ∈ fromT, 32 ≤ x.toNat by decide) x hx
  · exact itoa_no32 m x hx
theorem line_no (f : Fld) : ∀ x ∈ lineF f, x ≠ 10 := by
  refine word_no10 ?_
  unfold lineF
  split
  · intro x hx
    rcases List.mem_append.1 hx with hx | hx
    · exact (show ∀ x ∈ literalT ++ [32], 32 ≤ x.toNat by decide) x hx
    · have := hexL_no _ x hx
      omega
  · split
    · exact named_no (by decide) _
    · split
      · split
        · intro x hx
          rcases List.mem_append.1 hx with hx | hx
          · exact (show ∀ x ∈ bytesT, 32 ≤ x.toNat by decide) x hx
          · exact from_no _ x hx
        · exact named_no (by decide) _
      · split
        · intro x hx
          rcases List.mem_append.1 hx with hx | hx
          · exact named_no (by decide) _ x hx
          · exact from_no _ x hx
        · split
          · intro x hx
            rcases List.mem_append.1 hx with hx | hx
            · exact named_no (by decide) _ x hx
            · exact from_no _ x hx
          · exact named_no (by decide) _
/-- One line more. -/
theorem allL_line (t : Tab) {l r : List UInt8} (k : Nat) (h : ∀ x ∈ l, x ≠ 10) : allL t (cutAll 10 (l ++ 10 :: r)) k = match readL t l with
    | none => .inl k
    | some t' => allL t' (cutAll 10 r) (k + 1) := by
  rw [cutAll_hit 10 l r h]
  cases hc : cutAll 10 r with
  | nil => exact absurd hc (cutAll_ne 10 r)
  | cons p q => rfl
theorem allL_fields : ∀ (fs : List Fld) (t t' : Tab) (r : List UInt8) (k : Nat), TabOk t → t.addAll fs = some t' → allL t (cutAll 10 (fieldsT fs ++ r)) k = allL t' (cutAll 10 r) (k + fs.length)
  | [], t, t', r, k, h, ha => by
    injection ha with ha
    subst ha
    rfl
  | f :: fs, t, t', r, k, h, ha => by
    rw [Tab.addAll] at ha
    cases hf : t.addT f with
    | none => rw [hf] at ha; cases ha
    | some u =>
      rw [hf] at ha
      have ih := allL_fields fs u t' r (k + 1) (h.add hf).1 ha
      rw [fieldsT, List.flatMap_cons, List.append_assoc, List.append_assoc, List.singleton_append, allL_line t k (line_no f), readL_field h hf]
      dsimp only
      rw [fieldsT] at ih
      rw [ih, List.length_cons]
      congr 1
      omega
def linesN (l : List Fmt) : Nat := (l.map fun f => f.flds.length + 1).sum
theorem allL_text : ∀ (l : List Fmt) (t t' : Tab) (r : List UInt8) (k : Nat), TabOk t → t.takeAll l = some t' → allL t (cutAll 10 (textF l ++ r)) k = allL t' (cutAll 10 r) (k + linesN l)
  | [], t, t', r, k, h, ha => by
    injection ha with ha
    subst ha
    rfl
  | f :: l, t, t', r, k, h, ha => by
    rw [Tab.takeAll] at ha
    cases hb : t.beginT f.id with
    | none => rw [hb] at ha; cases ha
    | some u =>
      rw [hb] at ha
      dsimp only at ha
      obtain ⟨hu, e1, hid⟩ := h.begin hb
      cases hA : u.addAll f.flds with
      | none => rw [hA] at ha; cases ha
      | some x =>
        rw [hA] at ha
        dsimp only at ha
        obtain ⟨hx, e2⟩ := addAll_list _ _ _ hu hA
        have ih := allL_text l x t' r (k + 1 + f.flds.length) hx ha
        have e : textF (f :: l) ++ r = namedL formatT f.id ++ 10 :: (fieldsT f.flds ++ (textF l ++ r)) := by
          simp [textF, fmtT]
        rw [e, allL_line t k (word_no10 (named_no (by decide) _)), readL_format t (by omega) (by omega), hb]
        dsimp only
        rw [allL_fields f.flds u x _ (k + 1) hu hA, ih]
        simp only [linesN, List.map_cons, List.sum_cons]
        congr 1
        omega
/-- P4.2: the text of a valid table is parsed into it. -/
theorem parse_text {l : List Fmt} (h : validT l = true) : parse4 (textF l) = (l, 0, 0) := by
  unfold validT at h
  obtain ⟨t, ht⟩ := Option.isSome_iff_exists.1 h
  obtain ⟨_, hl⟩ := built_list ht
  unfold builtT at ht
  cases hA : Tab.takeAll ⟨[], fun _ => none⟩ l with
  | none => rw [hA] at ht; cases ht
  | some u =>
    rw [hA] at ht
    dsimp only at ht
    have h1 := allL_text l _ u [] 1 TabOk.empty hA
    rw [List.append_nil] at h1
    have h2 : allL u (cutAll 10 []) (1 + linesN l) = .inr t := by
      show allL u [[]] (1 + linesN l) = _
      rw [allL, if_pos rfl, ht]
    unfold parse4
    rw [h1, h2]
    dsimp only
    rw [hl]
theorem text_inj {l m : List Fmt} (hl : validT l = true) (hm : validT m = true) (h : textF l = textF m) : l = m := by
  have h1 := parse_text hl
  have h2 := parse_text hm
  rw [h, h2] at h1
  exact (congrArg Prod.fst h1).symm
end Go.Proofs.YtcpfmlaipejfpaaGreatDoor
namespace Go.Proofs.YtcpfmlaipejfpaaGreatDoor
open Go.Lib

theorem fits_parts {m : Int → Option Int} {l : List Fld} {f : Fld} (h : fitsF m l f = true) : withinZ f.kind 1 6 = true ∧ f.text.length ≤ 16 := by
  obtain ⟨k, n, fr, t⟩ := f
  unfold fitsF at h
  dsimp only at h ⊢
  split at h
  · rename_i hk
    subst hk
    simp only [Bool.and_eq_true] at h
    have := withinZ_iff.1 h.2
    exact ⟨by decide, by omega⟩
  · split at h
    · rename_i hk
      subst hk
      simp only [Bool.and_eq_true] at h
      obtain ⟨_, e2⟩ := alone_parts h.1
      dsimp only at e2
      subst e2
      exact ⟨by decide, by simp⟩
    · split at h
      · rename_i hk
        subst hk
        split at h
        · rename_i ha
          obtain ⟨_, e2⟩ := alone_parts ha
          dsimp only at e2
          subst e2
          exact ⟨by decide, by simp⟩
        · simp only [Bool.and_eq_true] at h
          obtain ⟨_, _, e2⟩ := counted_parts h.2
          dsimp only at e2
          subst e2
          exact ⟨by decide, by simp⟩
      · split at h
        · rename_i hk
          subst hk
          simp only [Bool.and_eq_true] at h
          obtain ⟨_, _, e2⟩ := counted_parts h.2
          dsimp only at e2
          subst e2
          exact ⟨by decide, by simp⟩
        · split at h
          · rename_i hk
            subst hk
            cases hv : m n with
            | none => rw [hv] at h; cases h
            | some v =>
              rw [hv] at h
              simp only [Bool.and_eq_true] at h
              obtain ⟨_, _, e2⟩ := counted_parts h.1
              dsimp only at e2
              subst e2
              exact ⟨by decide, by simp⟩
          · split at h
            · rename_i hk
              subst hk
              simp only [Bool.and_eq_true] at h
              obtain ⟨_, e2⟩ := alone_parts h.1
              dsimp only at e2
              subst e2
              exact ⟨by decide, by simp⟩
            · cases h
/-- What fits everywhere. -/
structure TabFit (l : List Fmt) : Prop where
  len : l.length ≤ 60
  flen : ∀ g ∈ l, g.flds.length ≤ 16
  fld : ∀ g ∈ l, ∀ f ∈ g.flds, withinZ f.kind 1 6 = true ∧ f.text.length ≤ 16
  ids : ∀ g ∈ l, 1 ≤ g.id ∧ g.id ≤ 1000000
theorem fin_list {t t' : Tab} (hf : t.fin = some t') : t'.list = t.list := by
  unfold Tab.fin at hf
  cases hl : t.list.getLast? with
  | none => rw [hl] at hf; injection hf with hf; rw [hf]
  | some f =>
    rw [hl] at hf
    dsimp only at hf
    split at hf
    · cases hf
    · injection hf with hf; rw [← hf]
theorem begin_fit {t t' : Tab} {id : Int} (h : TabFit t.list) (hb : t.beginT id = some t') : TabFit t'.list := by
  unfold Tab.beginT at hb
  cases hf : t.fin with
  | none => rw [hf] at hb; cases hb
  | some u =>
    rw [hf] at hb
    dsimp only at hb
    rw [← fin_list hf] at h
    split at hb
    · rename_i hc
      injection hb with hb
      subst hb
      simp only [Bool.and_eq_true, decide_eq_true_eq] at hc
      refine ⟨by simp only [List.length_append, List.length_singleton]; omega, fun g hg => ?_, fun g hg => ?_, fun g hg => ?_⟩
      · rcases List.mem_append.1 hg with hg | hg
        · exact h.flen g hg
        · simp only [List.mem_singleton] at hg
          subst hg
          exact Nat.zero_le _
      · rcases List.mem_append.1 hg with hg | hg
        · exact h.fld g hg
        · simp only [List.mem_singleton] at hg
          subst hg
          intro f hf
          cases hf
      · rcases List.mem_append.1 hg with hg | hg
        · exact h.ids g hg
        · simp only [List.mem_singleton] at hg
          subst hg
          exact withinZ_iff.1 hc.1.1
    · cases hb
theorem add_fit {t t' : Tab} {f : Fld} (h : TabFit t.list) (ha : t.addT f = some t') : TabFit t'.list := by
  unfold Tab.addT at ha
  cases hl : t.list.getLast? with
  | none => rw [hl] at ha; cases ha
  | some g =>
    rw [hl] at ha
    dsimp only at ha
    have hm := List.mem_of_getLast? hl
    have hpos := List.length_pos_of_mem hm
    split at ha
    · rename_i hc
      injection ha with ha
      subst ha
      simp only [Bool.and_eq_true, decide_eq_true_eq] at hc
      have hlen := h.len
      refine ⟨by simp only [List.length_append, List.length_singleton, List.length_dropLast]; omega, fun x hx => ?_, fun x hx => ?_, fun x hx => ?_⟩
      · rcases List.mem_append.1 hx with hx | hx
        · exact h.flen x (List.dropLast_subset _ hx)
        · simp only [List.mem_singleton] at hx
          subst hx
          simp only [List.length_append, List.length_singleton]
          omega
      · rcases List.mem_append.1 hx with hx | hx
        · exact h.fld x (List.dropLast_subset _ hx)
        · simp only [List.mem_singleton] at hx
          subst hx
          intro y hy
          rcases List.mem_append.1 hy with hy | hy
          · exact h.fld g hm y hy
          · simp only [List.mem_singleton] at hy
            subst hy
            exact fits_parts hc.1.2
      · rcases List.mem_append.1 hx with hx | hx
        · exact h.ids x (List.dropLast_subset _ hx)
        · simp only [List.mem_singleton] at hx
          subst hx
          exact h.ids g hm
    · cases ha
theorem addAll_fit : ∀ (fs : List Fld) (t t' : Tab), TabFit t.list → t.addAll fs = some t' → TabFit t'.list
  | [], t, t', h, ha => by injection ha with ha; rw [← ha]; exact h
  | f :: r, t, t', h, ha => by
    rw [Tab.addAll] at ha
    cases hf : t.addT f with
    | none => rw [hf] at ha; cases ha
    | some u => rw [hf] at ha; exact addAll_fit r u t' (add_fit h hf) ha
theorem takeAll_fit : ∀ (l : List Fmt) (t t' : Tab), TabFit t.list → t.takeAll l = some t' → TabFit t'.list
  | [], t, t', h, ha => by injection ha with ha; rw [← ha]; exact h
  | f :: r, t, t', h, ha => by
    rw [Tab.takeAll] at ha
    cases hb : t.beginT f.id with
    | none => rw [hb] at ha; cases ha
    | some u =>
      rw [hb] at ha
      dsimp only at ha
      cases hA : u.addAll f.flds with
      | none => rw [hA] at ha; cases ha
      | some x => rw [hA] at ha; exact takeAll_fit r x t' (addAll_fit _ _ _ (begin_fit h hb) hA) ha
theorem tabFit_nil : TabFit [] := ⟨by simp, fun g h => (by cases h), fun g h => (by cases h), fun g h => (by cases h)⟩
theorem valid_fit {l : List Fmt} (h : validT l = true) : TabFit l := by
  unfold validT at h
  obtain ⟨t, ht⟩ := Option.isSome_iff_exists.1 h
  have hl := (built_list ht).2
  unfold builtT at ht
  cases hA : Tab.takeAll ⟨[], fun _ => none⟩ l with
  | none => rw [hA] at ht; cases ht
  | some u =>
    rw [hA] at ht
    have := takeAll_fit _ _ _ tabFit_nil hA
    rw [← fin_list ht, hl] at this
    exact this
theorem line_len {f : Fld} (hn : I64 f.n) (hm : I64 f.frm) (ht : f.text.length ≤ 16) : (lineF f).length ≤ 60 := by
  have h1 := itoa_length_le f.n hn.lo hn.hi
  have h2 := itoa_length_le f.frm hm.lo hm.hi
  have h3 := hexL_len f.text
  unfold lineF namedL fromL
  split
  · simp only [literalT, List.length_append, List.length_cons, List.length_nil]; omega
  · split
    · simp only [numberT, List.length_append, List.length_cons, List.length_nil]; omega
    · split
      · split
        · simp only [bytesT, fromT, List.length_append, List.length_cons, List.length_nil]; omega
        · simp only [bytesT, List.length_append, List.length_cons, List.length_nil]; omega
      · split
        · simp only [listT, fromT, List.length_append, List.length_cons, List.length_nil]; omega
        · split
          · simp only [insideT, fromT, List.length_append, List.length_cons, List.length_nil]; omega
          · simp only [checkT, List.length_append, List.length_cons, List.length_nil]; omega
theorem fieldsT_len : ∀ (l : List Fld), (∀ f ∈ l, (lineF f).length ≤ 60) → (fieldsT l).length ≤ 61 * l.length
  | [], _ => by simp [fieldsT]
  | f :: l, h => by
    have ih := fieldsT_len l (fun x hx => h x (by simp [hx]))
    have h1 := h f (by simp)
    simp only [fieldsT, List.flatMap_cons, List.length_append, List.length_cons, List.length_nil] at ih ⊢
    omega
theorem head_len {id : Int} (h : 1 ≤ id ∧ id ≤ 1000000) : (namedL formatT id ++ [10]).length ≤ 30 := by
  have h1 := itoa_length_le id (by omega) (by omega)
  simp only [namedL, formatT, List.length_append, List.length_cons, List.length_nil]
  omega
theorem textF_len : ∀ (l : List Fmt), (∀ g ∈ l, 1 ≤ g.id ∧ g.id ≤ 1000000) → (∀ g ∈ l, g.flds.length ≤ 16 ∧ ∀ f ∈ g.flds, (lineF f).length ≤ 60) → (textF l).length ≤ 1010 * l.length
  | [], _, _ => by simp [textF]
  | g :: l, hi, h => by
    have ih := textF_len l (fun x hx => hi x (by simp [hx])) (fun x hx => h x (by simp [hx]))
    have h1 := h g (by simp)
    have h2 := fieldsT_len g.flds h1.2
    have h3 := head_len (hi g (by simp))
    simp only [textF, List.flatMap_cons, fmtT, List.length_append, List.length_cons] at ih h3 ⊢
    omega
theorem textF_snoc (l : List Fmt) (i : Nat) (h : i < l.length) : textF (l.take (i + 1)) = textF (l.take i) ++ fmtT l[i]! := by
  rw [List.take_succ_eq_append_getElem h, textF, List.flatMap_append, getElem!_pos l i h]
  simp [textF]
theorem fieldsT_snoc (l : List Fld) (i : Nat) (h : i < l.length) : fieldsT (l.take (i + 1)) = fieldsT (l.take i) ++ (lineF l[i]! ++ [10]) := by
  rw [List.take_succ_eq_append_getElem h, fieldsT, List.flatMap_append, getElem!_pos l i h]
  simp [fieldsT]
end Go.Proofs.YtcpfmlaipejfpaaGreatDoor
