/-
  Formats of chapter 4, plain: the formats that one format names, and itself, are a valid table with the same least lengths.
-/
import Derived.Test.YtcpfmlaipejfpaaGreatDoorKE
namespace Go.Proofs.YtcpfmlaipejfpaaGreatDoor
open Go.RowKit

def namesF (f : Fld) : Prop := f.kind = 4 ∨ f.kind = 5
theorem fitsF_congr {m m' : Int → Option Int} {p : List Fld} {f : Fld} (h : namesF f → m' f.n = m f.n) : fitsF m' p f = fitsF m p f := by
  unfold fitsF
  by_cases h4 : f.kind = 4
  · rw [h (.inl h4)]
  · by_cases h5 : f.kind = 5
    · rw [h (.inr h5)]
    · simp only [if_neg h4, if_neg h5]
theorem leastF_congr {m m' : Int → Option Int} {f : Fld} (h : namesF f → m' f.n = m f.n) : leastF m' f = leastF m f := by
  unfold leastF
  by_cases h5 : f.kind = 5
  · rw [h (.inr h5)]
  · simp only [if_neg h5]
theorem lenF_congr {m m' : Int → Option Int} {fs : List Fld} (h : ∀ f ∈ fs, namesF f → m' f.n = m f.n) : lenF m' fs = lenF m fs := by
  unfold lenF
  generalize (0 : Int) = a
  induction fs generalizing a with
  | nil => rfl
  | cons f fs ih =>
    rw [List.foldl_cons, List.foldl_cons, leastF_congr (h f (by simp))]
    exact ih (fun g hg => h g (by simp [hg])) _
theorem addOk_congr {m m' : Int → Option Int} {fs : List Fld} (h : ∀ f ∈ fs, namesF f → m' f.n = m f.n) (ha : AddOk m [] fs) : AddOk m' [] fs := by
  intro k hk
  obtain ⟨h1, h2, h3⟩ := ha k hk
  have hm : fs[k]! ∈ fs := by rw [getElem!_pos fs k hk]; exact List.getElem_mem hk
  refine ⟨h1, by rw [fitsF_congr (h _ hm)]; exact h2, ?_⟩
  rw [lenF_congr (m := m) fun f hf => h f (by
    rw [List.nil_append] at hf
    exact List.mem_of_mem_take hf)]
  exact h3
/-- A name that is known is a format's. -/
theorem mOf_some {l : List Fmt} {x : Int} (h : mOf l x ≠ none) : ∃ j, j < l.length ∧ l[j]!.id = x := by
  apply Classical.byContradiction
  intro hn
  apply h
  unfold mOf
  rw [idx_none _ fun a ha e => hn ⟨a, ha, e⟩, if_pos (by omega)]
theorem named_some {m : Int → Option Int} {p : List Fld} {f : Fld} (h : fitsF m p f = true) (hn : namesF f) : m f.n ≠ none := by
  intro e
  unfold fitsF at h
  rcases hn with hk | hk
  · rw [if_neg (by omega), if_neg (by omega), if_neg (by omega), if_pos hk, e] at h
    simp at h
  · rw [if_neg (by omega), if_neg (by omega), if_neg (by omega), if_neg (by omega), if_pos hk, e] at h
    simp at h
/-- The formats that are kept name kept ones alone. -/
def Kept (l : List Fmt) (keep : List Bool) (i : Nat) : Prop := keep[i]! = true → ∀ f ∈ l[i]!.flds, namesF f → ∀ j, j < i → l[j]!.id = f.n → keep[j]! = true
def subL (l : List Fmt) (keep : List Bool) : Nat → List Fmt
  | 0 => []
  | n + 1 => if keep[n]! = true then subL l keep n ++ [l[n]!] else subL l keep n
theorem subL_mem {l : List Fmt} {keep : List Bool} : ∀ n, ∀ f ∈ subL l keep n, ∃ i, i < n ∧ keep[i]! = true ∧ f = l[i]!
  | 0, f, h => (by cases h)
  | n + 1, f, h => by
    rw [subL] at h
    split at h
    · rename_i hk
      rcases List.mem_append.1 h with h | h
      · obtain ⟨i, h1, h2⟩ := subL_mem n f h
        exact ⟨i, by omega, h2⟩
      · exact ⟨n, by omega, hk, List.mem_singleton.1 h⟩
    · obtain ⟨i, h1, h2⟩ := subL_mem n f h
      exact ⟨i, by omega, h2⟩
theorem subL_len (l : List Fmt) (keep : List Bool) : ∀ n, (subL l keep n).length ≤ n
  | 0 => Nat.le_refl _
  | n + 1 => by
    have := subL_len l keep n
    rw [subL]
    split
    · rw [List.length_append, List.length_singleton]; omega
    · omega
theorem valid_snoc (l : List Fmt) (f : Fmt) : validR (l ++ [f]) = (decide (l.length + 1 ≤ 60) && validR l && nextR l f && decide (0 < f.flds.length)) := by
  rw [validR, beginsR_snoc, List.length_append, List.length_singleton, Nat.add_sub_cancel, get_last]
  simp
theorem named_all {l : List Fmt} {keep : List Bool} (hv : validR l = true) (hk : ∀ i, i < l.length → Kept l keep i) : ∀ n, n ≤ l.length → validR (subL l keep n) = true ∧ ∀ i, i < n → keep[i]! = true → mOf (subL l keep n) l[i]!.id = mOf (l.take n) l[i]!.id
  | 0, _ => ⟨rfl, fun i hi => absurd hi (Nat.not_lt_zero _)⟩
  | n + 1, hn => by
    obtain ⟨ih1, ih2⟩ := named_all hv hk n (by omega)
    have hasc := asc_valid hv
    have hvn := valid_take hv (l.length - (n + 1)) (n + 1) (by omega)
    have hvp := valid_take hv (l.length - n) n (by omega)
    rw [take_snoc (by omega), valid_snoc] at hvn
    simp only [Bool.and_eq_true, decide_eq_true_eq] at hvn
    obtain ⟨⟨⟨h60, _⟩, hnext⟩, hfull⟩ := hvn
    rw [List.length_take, Nat.min_eq_left (by omega)] at h60
    have tk := took (l := l.take n) (by rw [validR, Bool.and_eq_true] at hvp; exact hvp.1)
    have ts := took (l := subL l keep n) (by rw [validR, Bool.and_eq_true] at ih1; exact ih1.1)
    obtain ⟨⟨hid, _⟩, hadd⟩ := (nextR_iff tk.asc tk.mb).1 hnext
    have hfit : ∀ k, k < l[n]!.flds.length → fitsF (mOf (l.take n)) (l[n]!.flds.take k) l[n]!.flds[k]! = true := ((addOk_iff tk.mb _).1 hadd).2.1
    have hkinds := kinds_all hfit
    by_cases hkn : keep[n]! = true
    · have hagree : ∀ f ∈ l[n]!.flds, namesF f → mOf (subL l keep n) f.n = mOf (l.take n) f.n := fun f hf hnm => by
        obtain ⟨k, hk1, e⟩ := List.getElem_of_mem hf
        have hf2 := hfit k hk1
        rw [getElem!_pos _ k hk1, e] at hf2
        obtain ⟨j, hj, hje⟩ := mOf_some (named_some hf2 hnm)
        rw [List.length_take] at hj
        rw [get_take (by omega) (by omega)] at hje
        rw [← hje]
        exact ih2 j (by omega) (hk n (by omega) hkn f hf hnm j (by omega) hje)
      rw [subL, if_pos hkn]
      refine ⟨?_, fun i hi hki => ?_⟩
      · rw [valid_snoc]
        have hlen := subL_len l keep n
        simp only [Bool.and_eq_true, decide_eq_true_eq]
        refine ⟨⟨⟨by omega, ih1⟩, (nextR_iff ts.asc ts.mb).2 ⟨⟨hid, ?_⟩, addOk_congr hagree hadd⟩⟩, hfull⟩
        by_cases h0 : (subL l keep n).length = 0
        · exact .inl h0
        · right
          obtain ⟨i, hi, _, e⟩ := subL_mem (l := l) (keep := keep) n ((subL l keep n)[(subL l keep n).length - 1]!) (by
            rw [getElem!_pos (subL l keep n) ((subL l keep n).length - 1) (by omega)]
            exact List.getElem_mem _)
          rw [e]
          exact hasc i n hi (by omega)
      · rw [take_snoc (by omega), mOf_snoc, mOf_snoc, fmtR_eq ts.asc _ hkinds, fmtR_eq tk.asc _ hkinds, lenF_congr hagree]
        unfold putM
        by_cases hin : i = n
        · rw [hin, if_pos rfl, if_pos rfl]
        · rw [if_neg (asc_ne hasc (by omega) (by omega) hin), if_neg (asc_ne hasc (by omega) (by omega) hin)]
          exact ih2 i (by omega) hki
    · rw [subL, if_neg hkn]
      refine ⟨ih1, fun i hi hki => ?_⟩
      have hin : i ≠ n := fun e => hkn (by rw [← e]; exact hki)
      rw [take_snoc (by omega), mOf_snoc]
      unfold putM
      rw [if_neg (asc_ne hasc (by omega) (by omega) hin)]
      exact ih2 i (by omega) hki
/-- P4.4: the formats that one format names. -/
theorem named_plain {l : List Fmt} {keep : List Bool} (hv : validR l = true) (hk : ∀ i, i < l.length → Kept l keep i) : validT (subL l keep l.length) = true ∧ ∀ f ∈ subL l keep l.length, leastT (subL l keep l.length) f.id = leastT l f.id := by
  obtain ⟨h1, h2⟩ := named_all hv hk l.length (Nat.le_refl _)
  refine ⟨by rw [validT_eq]; exact h1, fun f hf => ?_⟩
  obtain ⟨i, hi, hki, rfl⟩ := subL_mem _ f hf
  rw [leastT_eq h1, leastT_eq hv, h2 i hi hki, List.take_of_length_le (Nat.le_refl _)]
end Go.Proofs.YtcpfmlaipejfpaaGreatDoor
