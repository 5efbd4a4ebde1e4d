/-
  Formats of chapter 4, plain: the line that Parse names depends on the lines up to it alone; the formats ahead of it are a valid table.
-/
import Derived.Test.YtcpfmlaipejfpaaGreatDoorK5
namespace Go.Proofs.YtcpfmlaipejfpaaGreatDoor
open Go.RowKit Go.Lib

def runL (t : Tab) : List (List UInt8) → Option Tab
  | [] => some t
  | p :: r => match readL t p with
    | none => none
    | some t => runL t r
theorem runL_app : ∀ (l r : List (List UInt8)) (t : Tab), runL t (l ++ r) = (runL t l).bind fun t => runL t r
  | [], _, _ => rfl
  | p :: l, r, t => by
    rw [List.cons_append, runL, runL]
    cases readL t p with
    | none => rfl
    | some u => exact runL_app l r u
theorem allL_run : ∀ (ls rest : List (List UInt8)) (t t' : Tab) (k : Nat), rest ≠ [] → runL t ls = some t' → allL t (ls ++ rest) k = allL t' rest (k + ls.length)
  | [], rest, t, t', k, _, h => by
    injection h with h
    subst h
    rfl
  | p :: ls, rest, t, t', k, hr, h => by
    rw [runL] at h
    cases hp : readL t p with
    | none => rw [hp] at h; cases h
    | some u =>
      rw [hp] at h
      have ih := allL_run ls rest u t' (k + 1) hr h
      rw [List.cons_append]
      cases hx : ls ++ rest with
      | nil => simp at hx; exact absurd hx.2 hr
      | cons q r =>
        rw [allL, hp]
        dsimp only
        rw [← hx, ih, List.length_cons]
        congr 1
        omega
theorem allL_bad {t : Tab} {p : List UInt8} {rest : List (List UInt8)} {k : Nat} (hr : rest ≠ []) (h : readL t p = none) : allL t (p :: rest) k = .inl k := by
  cases rest with
  | nil => exact absurd rfl hr
  | cons q r => rw [allL, h]
theorem allL_inl : ∀ (lines : List (List UInt8)) (t : Tab) (k n : Nat), allL t lines k = .inl n → n + 1 < k + lines.length → k ≤ n ∧ ∃ t', runL t (lines.take (n - k)) = some t' ∧ readL t' lines[n - k]! = none
  | [], t, k, n, h, hn => by
    rw [allL] at h
    injection h with h
    simp at hn
    omega
  | [p], t, k, n, h, hn => by
    have : n = k := by
      rw [allL] at h
      split at h
      · split at h
        · injection h with h; exact h.symm
        · cases h
      · injection h with h; exact h.symm
    simp at hn
    omega
  | p :: q :: r, t, k, n, h, hn => by
    rw [allL] at h
    cases hp : readL t p with
    | none =>
      rw [hp] at h
      injection h with h
      subst h
      exact ⟨Nat.le_refl _, t, by rw [Nat.sub_self]; rfl, by rw [Nat.sub_self]; exact hp⟩
    | some u =>
      rw [hp] at h
      obtain ⟨h1, t', h2, h3⟩ := allL_inl (q :: r) u (k + 1) n h (by simp at hn ⊢; omega)
      have e : n - k = (n - (k + 1)) + 1 := by omega
      refine ⟨by omega, t', ?_, ?_⟩
      · rw [e, List.take_succ_cons, runL, hp]
        exact h2
      · rw [e]
        exact h3
def linesE (L : List (List UInt8)) : List UInt8 := L.flatMap fun l => l ++ [10]
theorem cutAll_linesE : ∀ (L : List (List UInt8)) (r : List UInt8), (∀ l ∈ L, ∀ x ∈ l, x ≠ 10) → cutAll 10 (linesE L ++ r) = L ++ cutAll 10 r
  | [], _, _ => rfl
  | l :: L, r, h => by
    have ih := cutAll_linesE L r fun l hl => h l (by simp [hl])
    unfold linesE at ih ⊢
    rw [List.flatMap_cons, List.append_assoc, List.append_assoc, List.singleton_append, cutAll_hit 10 _ _ (h l (by simp)), ih, List.cons_append]
def fmtLine (l : List UInt8) : Bool := decide (6 ≤ l.length) && (l.take 6 == formatT)
def wholeTo (lines : List (List UInt8)) (n : Nat) : Nat → List UInt8
  | 0 => []
  | i + 1 => if i + 1 < n ∧ fmtLine lines[i]! = true then linesE (lines.take i) else wholeTo lines n i
theorem wholeTo_is (lines : List (List UInt8)) (n : Nat) : ∀ m, wholeTo lines n m = [] ∨ ∃ i, i < m ∧ i + 1 < n ∧ fmtLine lines[i]! = true ∧ wholeTo lines n m = linesE (lines.take i)
  | 0 => .inl rfl
  | m + 1 => by
    rw [wholeTo]
    split
    · rename_i h
      exact .inr ⟨m, by omega, h.1, h.2, rfl⟩
    · rcases wholeTo_is lines n m with h | ⟨i, h1, h2⟩
      · exact .inl h
      · exact .inr ⟨i, by omega, h2⟩
theorem fieldOf_f {word rest : List UInt8} {r : List UInt8} (h : word = 102 :: r) : fieldOf word rest = none := by
  unfold fieldOf
  cases fromOf rest with
  | none => rfl
  | some m =>
    dsimp only
    rw [if_neg (by rw [h]; simp [literalT]), if_neg (by rw [h]; simp [numberT]), if_neg (by rw [h]; simp [bytesT]), if_neg (by rw [h]; simp [listT]), if_neg (by rw [h]; simp [insideT]), if_neg (by rw [h]; simp [checkT])]
theorem read_fin {t t' : Tab} {line : List UInt8} (hl : fmtLine line = true) (h : readL t line = some t') : t.fin ≠ none := by
  unfold fmtLine at hl
  rw [Bool.and_eq_true, beq_iff_eq, decide_eq_true_eq] at hl
  obtain ⟨r, hr⟩ : ∃ r, line = 102 :: r := by
    cases line with
    | nil => simp at hl
    | cons a r =>
      have := hl.2
      simp only [formatT, List.take_succ_cons, List.cons.injEq] at this
      exact ⟨r, by rw [this.1]⟩
  unfold readL at h
  by_cases hf : (cut line [32]).1 = formatT
  · rw [if_pos hf] at h
    cases hn : numF (cut line [32]).2.1 with
    | none => rw [hn] at h; cases h
    | some id =>
      rw [hn] at h
      intro e
      dsimp only at h
      unfold Tab.beginT at h
      rw [e] at h
      cases h
  · rw [if_neg hf] at h
    have hw : ∃ q, (cut line [32]).1 = 102 :: q := by
      rcases cut_one 32 line with ⟨p, h1, h2⟩ | ⟨p, q, _, h2, h3⟩
      · have hg := glue_cutAll 32 line
        rw [h1] at hg
        rw [h2]
        exact ⟨r, by rw [← hr]; exact hg⟩
      · rw [h2]
        cases p with
        | nil => rw [hr] at h3; injection h3 with h3 _; exact absurd h3 (by decide)
        | cons a p =>
          rw [hr] at h3
          injection h3 with h3 _
          exact ⟨p, by rw [h3]⟩
    obtain ⟨q, hw⟩ := hw
    rw [fieldOf_f hw] at h
    cases h
theorem take_app_one {α : Type} [Inhabited α] {l : List α} {k : Nat} (h : k < l.length) : l.take (k + 1) = l.take k ++ [l[k]!] := by
  rw [List.take_succ_eq_append_getElem h, getElem!_pos l k h]
/-- P4.3. -/
theorem lines_plain {s : List UInt8} {n : Nat} (h : parse4 s = ([], n, 40)) (hn : n < (cutAll 10 s).length) :
    (1 ≤ n) ∧ (∀ more, parse4 (linesE ((cutAll 10 s).take n) ++ more) = ([], n, 40)) ∧ ∃ L, parse4 (wholeTo (cutAll 10 s) n n) = (L, 0, 0) := by
  have hno := cutAll_no 10 s
  have hall : allL ⟨[], fun _ => none⟩ (cutAll 10 s) 1 = .inl n := by
    unfold parse4 at h
    cases hx : allL ⟨[], fun _ => none⟩ (cutAll 10 s) 1 with
    | inl k =>
      rw [hx] at h
      have := (Prod.mk.inj (Prod.mk.inj h).2).1
      rw [this]
    | inr t =>
      rw [hx] at h
      have := (Prod.mk.inj (Prod.mk.inj h).2).2
      exact absurd this (by decide)
  generalize cutAll 10 s = lines at *
  obtain ⟨h1, t', h2, h3⟩ := allL_inl lines _ 1 n hall (by omega)
  have hrun : ∀ i, i + 1 ≤ n → ∃ u, runL ⟨[], fun _ => none⟩ (lines.take i) = some u := fun i hi => by
    have e : lines.take (n - 1) = lines.take i ++ (lines.take (n - 1)).drop i := by
      have := (List.take_append_drop i (lines.take (n - 1))).symm
      rw [List.take_take, Nat.min_eq_left (by omega)] at this
      exact this
    rw [e, runL_app] at h2
    cases hx : runL ⟨[], fun _ => none⟩ (lines.take i) with
    | none => rw [hx] at h2; cases h2
    | some u => exact ⟨u, rfl⟩
  refine ⟨h1, fun more => ?_, ?_⟩
  · unfold parse4
    rw [cutAll_linesE _ _ fun l hl => hno l (List.mem_of_mem_take hl)]
    have e : lines.take n = lines.take (n - 1) ++ [lines[n - 1]!] := by
      rw [← take_app_one (by omega), show n - 1 + 1 = n from by omega]
    rw [e, List.append_assoc, allL_run _ _ _ _ _ (by simp) h2, List.singleton_append, allL_bad (cutAll_ne _ _) h3, List.length_take, Nat.min_eq_left (by omega), show 1 + (n - 1) = n from by omega]
  · rcases wholeTo_is lines n n with hw | ⟨i, hi1, hi2, hf, hw⟩
    · rw [hw]
      exact ⟨[], by decide⟩
    · rw [hw]
      obtain ⟨u, hu⟩ := hrun i (by omega)
      obtain ⟨u', hu'⟩ := hrun (i + 1) (by omega)
      rw [take_app_one (by omega), runL_app, hu] at hu'
      have hrd : ∃ x, readL u lines[i]! = some x := by
        cases hx : readL u lines[i]! with
        | none =>
          rw [Option.bind_some, runL, hx] at hu'
          cases hu'
        | some x => exact ⟨x, rfl⟩
      obtain ⟨x, hx⟩ := hrd
      have hfin := read_fin hf hx
      unfold parse4
      have hc := cutAll_linesE (lines.take i) [] fun l hl => hno l (List.mem_of_mem_take hl)
      rw [List.append_nil] at hc
      rw [hc, show cutAll 10 [] = [[]] from rfl, allL_run _ _ _ _ _ (by simp) hu, allL, if_pos rfl]
      cases hz : u.fin with
      | none => exact absurd hz hfin
      | some z => exact ⟨z.list, rfl⟩
end Go.Proofs.YtcpfmlaipejfpaaGreatDoor
