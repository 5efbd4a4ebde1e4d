/-
  Formats of chapter 4, plain: least lengths of what Make makes are small; least lengths add up.
-/
import Derived.Test.YtcpfmlaipejfpaaGreatDoorKG
namespace Go.Proofs.YtcpfmlaipejfpaaGreatDoor
open Go.RowKit

theorem countP_le {α : Type} {p q : α → Bool} : ∀ l : List α, (∀ x ∈ l, p x = true → q x = true) → l.countP p ≤ l.countP q
  | [], _ => Nat.le_refl _
  | a :: l, h => by
    have ih := countP_le l fun x hx => h x (by simp [hx])
    rw [List.countP_cons, List.countP_cons]
    by_cases hp : p a = true
    · rw [if_pos hp, if_pos (h a (by simp) hp)]; omega
    · rw [if_neg hp]; split <;> omega
theorem countP_lt {α : Type} {p q : α → Bool} {y : α} (hq : q y = true) (hp : p y = false) : ∀ l : List α, (∀ x ∈ l, p x = true → q x = true) → y ∈ l → l.countP p + 1 ≤ l.countP q
  | [], _, hm => (by cases hm)
  | a :: l, h, hm => by
    rw [List.countP_cons, List.countP_cons]
    rcases List.mem_cons.1 hm with rfl | hm
    · have ih := countP_le l fun x hx => h x (by simp [hx])
      rw [if_neg (by rw [hp]; simp), if_pos hq]; omega
    · have ih := countP_lt hq hp l (fun x hx => h x (by simp [hx])) hm
      by_cases hp : p a = true
      · rw [if_pos hp, if_pos (h a (by simp) hp)]; omega
      · rw [if_neg hp]; split <;> omega
def insC (p : List Fld) : Nat := p.countP fun f => f.kind == 5
def numC (p : List Fld) : Nat := p.countP fun f => f.kind == 2
def unQ (p : List Fld) (j : Nat) : Bool := (p[j]!.kind == 2) && !p.any fun g => g.frm == (j : Int)
def unC (p : List Fld) : Nat := (List.range p.length).countP (unQ p)
theorem fget_app {l r : List Fld} {j : Nat} (h : j < l.length) : (l ++ r)[j]! = l[j]! := by
  rw [getElem!_pos _ j (by rw [List.length_append]; omega), getElem!_pos l j h, List.getElem_append_left h]
theorem fget_last (l : List Fld) (f : Fld) : (l ++ [f])[l.length]! = f := by
  rw [getElem!_pos _ _ (by rw [List.length_append, List.length_singleton]; omega)]
  simp
theorem unQ_old {p : List Fld} {f : Fld} {j : Nat} (hj : j < p.length) : unQ (p ++ [f]) j = (unQ p j && !(f.frm == (j : Int))) := by
  unfold unQ
  rw [fget_app hj, List.any_append, List.any_cons, List.any_nil, Bool.or_false, Bool.not_or, Bool.and_assoc]
theorem ins_step {m : Int → Option Int} {p : List Fld} {f : Fld} (hf : fitsF m p f = true) (h : insC p + unC p ≤ numC p) : insC (p ++ [f]) + unC (p ++ [f]) ≤ numC (p ++ [f]) := by
  have hle : ∀ j ∈ List.range p.length, unQ (p ++ [f]) j = true → unQ p j = true := fun j hj hq => by
    rw [unQ_old (List.mem_range.1 hj), Bool.and_eq_true] at hq
    exact hq.1
  have e1 : unC (p ++ [f]) = (List.range p.length).countP (unQ (p ++ [f])) + (if unQ (p ++ [f]) p.length = true then 1 else 0) := by
    unfold unC
    rw [List.length_append, List.length_singleton, List.range_succ, List.countP_append, List.countP_cons, List.countP_nil, Nat.zero_add]
  have e2 : insC (p ++ [f]) = insC p + (if (f.kind == 5) = true then 1 else 0) := by
    unfold insC
    rw [List.countP_append, List.countP_cons, List.countP_nil, Nat.zero_add]
  have e3 : numC (p ++ [f]) = numC p + (if (f.kind == 2) = true then 1 else 0) := by
    unfold numC
    rw [List.countP_append, List.countP_cons, List.countP_nil, Nat.zero_add]
  have hlast : unQ (p ++ [f]) p.length = true → f.kind = 2 := fun hq => by
    unfold unQ at hq
    rw [fget_last, Bool.and_eq_true] at hq
    simpa using hq.1
  have hb := countP_le _ hle
  have hu : unC p = (List.range p.length).countP (unQ p) := rfl
  rw [e1, e2, e3]
  by_cases h5 : f.kind = 5
  · have hc : countedF p f = true := by
      unfold fitsF at hf
      rw [if_neg (by omega), if_neg (by omega), if_neg (by omega), if_neg (by omega), if_pos h5] at hf
      cases hm : m f.n with
      | none => rw [hm] at hf; cases hf
      | some x => rw [hm] at hf; dsimp only at hf; rw [Bool.and_eq_true] at hf; exact hf.1
    have hkd : ∃ j : Nat, j < p.length ∧ f.frm = (j : Int) ∧ unQ p j = true := by
      unfold countedF at hc
      simp only [Bool.and_eq_true, withinZ_iff, beq_iff_eq] at hc
      obtain ⟨⟨⟨⟨h0, h1⟩, h2⟩, _⟩, h3⟩ := hc
      refine ⟨f.frm.toNat, by omega, by omega, ?_⟩
      unfold unQ
      rw [h2, Int.toNat_of_nonneg h0, h3]
      rfl
    obtain ⟨j, hj, hje, hq⟩ := hkd
    have hq' : unQ (p ++ [f]) j = false := by
      rw [unQ_old hj, hje]
      simp
    have hlt := countP_lt hq hq' _ hle (List.mem_range.2 hj)
    rw [if_pos (show (f.kind == 5) = true by rw [h5]; rfl), if_neg (show ¬ unQ (p ++ [f]) p.length = true from fun e => by have := hlast e; omega), if_neg (show ¬ (f.kind == 2) = true by rw [h5]; decide)]
    omega
  · rw [if_neg (show ¬ (f.kind == 5) = true by simpa using h5)]
    by_cases h2 : f.kind = 2
    · rw [if_pos (show (f.kind == 2) = true by rw [h2]; rfl)]
      split <;> omega
    · rw [if_neg fun e => h2 (hlast e)]
      omega
theorem ftake_snoc {l : List Fld} {k : Nat} (h : k < l.length) : l.take (k + 1) = l.take k ++ [l[k]!] := by
  rw [List.take_succ_eq_append_getElem h, getElem!_pos l k h]
theorem ins_all {m : Int → Option Int} {fs : List Fld} (hf : ∀ k, k < fs.length → fitsF m (fs.take k) fs[k]! = true) : ∀ k, k ≤ fs.length → insC (fs.take k) + unC (fs.take k) ≤ numC (fs.take k)
  | 0, _ => by simp [insC, unC, numC]
  | k + 1, h => by
    rw [ftake_snoc (by omega)]
    exact ins_step (hf k (by omega)) (ins_all hf k (by omega))
theorem ins_num : ∀ p : List Fld, insC p + numC p ≤ p.length
  | [] => by simp [insC, numC]
  | f :: p => by
    have ih := ins_num p
    unfold insC numC at *
    rw [List.countP_cons, List.countP_cons, List.length_cons]
    by_cases h5 : f.kind = 5
    · rw [if_pos (show (f.kind == 5) = true by rw [h5]; rfl), if_neg (show ¬ (f.kind == 2) = true by rw [h5]; decide)]; omega
    · rw [if_neg (show ¬ (f.kind == 5) = true by simpa using h5)]
      split <;> omega
theorem ins_three {m : Int → Option Int} {fs : List Fld} (h6 : fs.length ≤ 6) (hf : ∀ k, k < fs.length → fitsF m (fs.take k) fs[k]! = true) : insC fs ≤ 3 := by
  have h1 := ins_all hf fs.length (Nat.le_refl _)
  rw [List.take_of_length_le (Nat.le_refl _)] at h1
  have h2 := ins_num fs
  omega
theorem leaf_small {m : Int → Option Int} {p : List Fld} {f : Fld} (h : fitsF m p f = true) (hs : SmallF f) (h5 : f.kind ≠ 5) : leastF m f ≤ 4 := by
  unfold leastF
  unfold fitsF at h
  obtain ⟨s1, s2⟩ := hs
  by_cases h1 : f.kind = 1
  · rw [if_pos h1]; omega
  rw [if_neg h1] at h ⊢
  by_cases h4 : f.kind = 4
  · rw [if_pos h4]; omega
  rw [if_neg h4, if_neg h5]
  by_cases h2 : f.kind = 2
  · rw [if_pos h2, Bool.and_eq_true, withinZ_iff] at h; omega
  rw [if_neg h2] at h
  by_cases h3 : f.kind = 3
  · exact s1 h3
  rw [if_neg h3, if_neg h4, if_neg h5] at h
  split at h
  · rw [Bool.and_eq_true, withinZ_iff] at h; omega
  · cases h
theorem lenF_one (m : Int → Option Int) (fs : List Fld) (f : Fld) : lenF m (fs ++ [f]) = w64i (lenF m fs + leastF m f) := by
  unfold lenF
  rw [List.foldl_append]
  rfl
theorem lenF_small {m : Int → Option Int} (hm : MB m) {B : Nat} (hB : B ≤ 65536) (hmb : ∀ x y, m x = some y → y ≤ (B : Int)) {fs : List Fld} (h6 : fs.length ≤ 6) (hs : ∀ f ∈ fs, SmallF f) (hf : ∀ k, k < fs.length → fitsF m (fs.take k) fs[k]! = true) : ∀ k, k ≤ fs.length → 0 ≤ lenF m (fs.take k) ∧ lenF m (fs.take k) ≤ ((4 * k + B * insC (fs.take k) : Nat) : Int)
  | 0, _ => by simp [lenF, insC]
  | k + 1, h => by
    obtain ⟨i1, i2⟩ := lenF_small hm hB hmb h6 hs hf k (by omega)
    have hfk := hf k (by omega)
    have hb := leastF_bound hm hfk
    have hsm : SmallF fs[k]! := hs _ (by rw [getElem!_pos fs k (by omega)]; exact List.getElem_mem _)
    have hI : insC (fs.take k) ≤ 6 := by
      have := ins_num (fs.take k)
      rw [List.length_take] at this
      omega
    rw [ftake_snoc (by omega), lenF_one]
    have e2 : insC (fs.take k ++ [fs[k]!]) = insC (fs.take k) + (if (fs[k]!.kind == 5) = true then 1 else 0) := by
      unfold insC
      rw [List.countP_append, List.countP_cons, List.countP_nil, Nat.zero_add]
    rw [e2]
    generalize insC (fs.take k) = I at *
    have hBI : B * I ≤ 65536 * 6 := Nat.mul_le_mul hB hI
    generalize lenF m (fs.take k) = L at *
    rw [i64_of_in ⟨by omega, by omega⟩]
    by_cases h5 : fs[k]!.kind = 5
    · have eB : B * (I + 1) = B * I + B := by rw [Nat.mul_add, Nat.mul_one]
      rw [if_pos (show (fs[k]!.kind == 5) = true by rw [h5]; rfl), eB]
      have : leastF m fs[k]! ≤ (B : Int) := by
        unfold leastF
        rw [if_neg (by omega), if_neg (by omega), if_pos h5]
        cases hx : m fs[k]!.n with
        | none => simp
        | some y => exact hmb _ _ hx
      omega
    · have := leaf_small hfk hsm h5
      rw [if_neg (show ¬ (fs[k]!.kind == 5) = true by simpa using h5), show B * (I + 0) = B * I from rfl]
      omega
def capN : Nat → Nat
  | 0 => 0
  | n + 1 => 24 + 3 * capN n
theorem cap_mono : ∀ n, capN n ≤ capN (n + 1)
  | 0 => by decide
  | n + 1 => by
    have := cap_mono n
    show 24 + 3 * capN n ≤ 24 + 3 * capN (n + 1)
    omega
theorem cap_six : ∀ n, n ≤ 6 → capN n ≤ 8736
  | 0, _ => by decide
  | 1, _ => by decide
  | 2, _ => by decide
  | 3, _ => by decide
  | 4, _ => by decide
  | 5, _ => by decide
  | 6, _ => by decide
  | n + 7, h => by omega
theorem made_small {l : List Fmt} (h : MkOk l) : ∀ n, n ≤ l.length → ∀ x y, mOf (l.take n) x = some y → y ≤ (capN n : Int)
  | 0, _, x, y, hy => by
    rw [List.take_zero] at hy
    cases hy
  | n + 1, hn, x, y, hy => by
    have h6 := h.len
    have ih := made_small h n (by omega)
    have hvn := valid_take h.valid (l.length - (n + 1)) (n + 1) (by omega)
    have hvp := valid_take h.valid (l.length - n) n (by omega)
    rw [take_snoc (by omega), valid_snoc] at hvn
    simp only [Bool.and_eq_true, decide_eq_true_eq] at hvn
    obtain ⟨⟨_, hnext⟩, _⟩ := hvn
    have tk := took (l := l.take n) (by rw [validR, Bool.and_eq_true] at hvp; exact hvp.1)
    obtain ⟨_, hadd⟩ := (nextR_iff tk.asc tk.mb).1 hnext
    have hfit := ((addOk_iff tk.mb _).1 hadd).2.1
    have hmem : l[n]! ∈ l := by rw [getElem!_pos l n (by omega)]; exact List.getElem_mem _
    have hf6 := h.flds _ hmem
    have hc6 := cap_six n (by omega)
    rw [take_snoc (by omega), mOf_snoc, fmtR_eq tk.asc _ (kinds_all hfit)] at hy
    unfold putM at hy
    by_cases hx : x = l[n]!.id
    · rw [if_pos hx] at hy
      cases hy
      obtain ⟨_, hle⟩ := lenF_small tk.mb (by omega) ih hf6 (h.small _ hmem) hfit _ (Nat.le_refl _)
      rw [List.take_of_length_le (Nat.le_refl _)] at hle
      have h3 := ins_three hf6 hfit
      have hBI : capN n * insC l[n]!.flds ≤ capN n * 3 := Nat.mul_le_mul (Nat.le_refl _) h3
      have : capN (n + 1) = 24 + 3 * capN n := rfl
      omega
    · rw [if_neg hx] at hy
      have := ih x y hy
      have := cap_mono n
      omega
def num3 : Fld := ⟨2, 3, -1, []⟩
def twoF (one two : Int) : Fmt := ⟨500, [num3, num3, ⟨5, one, 0, []⟩, ⟨5, two, 1, []⟩]⟩
def listF : Fmt := ⟨501, [⟨2, 1, -1, []⟩, ⟨4, 500, 0, []⟩]⟩
theorem mOf_at {l : List Fmt} {i : Nat} (hi : i < l.length) : ∃ y, mOf l l[i]!.id = some y := by
  unfold mOf
  have h : ∀ n, i < n → n ≤ l.length → ¬ idxTo l l[i]!.id n < 0 := by
    intro n
    induction n with
    | zero => intro h; omega
    | succ n ih =>
      intro h1 h2
      rw [idxTo]
      by_cases e : l[n]!.id = l[i]!.id
      · rw [if_pos e]; omega
      · rw [if_neg e]
        by_cases e2 : i = n
        · exact absurd (by rw [e2]) e
        · exact ih (by omega) (by omega)
  rw [if_neg (h _ hi (Nat.le_refl _))]
  exact ⟨_, rfl⟩
/-- P4.5: least lengths add up. -/
theorem least_plain {l : List Fmt} (h : MkOk l) {i j : Nat} (hi : i < l.length) (hj : j < l.length) :
    validT ((l ++ [twoF l[i]!.id l[j]!.id]) ++ [listF]) = true ∧ leastT (l ++ [twoF l[i]!.id l[j]!.id]) 500 = 6 + leastT l l[i]!.id + leastT l l[j]!.id ∧ leastT ((l ++ [twoF l[i]!.id l[j]!.id]) ++ [listF]) 501 = 1 ∧ leastT ((l ++ [twoF l[i]!.id l[j]!.id]) ++ [listF]) 500 = leastT (l ++ [twoF l[i]!.id l[j]!.id]) 500 ∧ 0 ≤ leastT l l[i]!.id ∧ leastT l l[i]!.id ≤ 8736 ∧ 0 ≤ leastT l l[j]!.id ∧ leastT l l[j]!.id ≤ 8736 := by
  have h6 := h.len
  have hids := h.ids
  have tl := took (l := l) (by have := h.valid; rw [validR, Bool.and_eq_true] at this; exact this.1)
  obtain ⟨a, ha⟩ := mOf_at hi
  obtain ⟨b, hb⟩ := mOf_at hj
  have hsm := made_small h l.length (Nat.le_refl _)
  rw [List.take_of_length_le (Nat.le_refl _)] at hsm
  have hc6 := cap_six _ h6
  have ha1 := tl.mb _ _ ha
  have hb1 := tl.mb _ _ hb
  have ha2 := hsm _ _ ha
  have hb2 := hsm _ _ hb
  have eA : leastT l l[i]!.id = a := by rw [leastT_eq h.valid, ha]; rfl
  have eB : leastT l l[j]!.id = b := by rw [leastT_eq h.valid, hb]; rfl
  generalize l[i]!.id = one at *
  generalize l[j]!.id = two at *
  have pw : (2 : Int) ^ (8 * (3 : Int)).toNat = 16777216 := by decide
  have hfitA : AddOk (mOf l) [] (twoF one two).flds := by
    rw [addOk_iff tl.mb]
    refine ⟨show (4 : Nat) ≤ 16 by decide, fun k hk => ?_, ?_⟩
    · obtain rfl | rfl | rfl | rfl : k = 0 ∨ k = 1 ∨ k = 2 ∨ k = 3 := by
        have : k < 4 := hk
        omega
      · rfl
      · rfl
      · show fitsF (mOf l) [num3, num3] ⟨5, one, 0, []⟩ = true
        simp only [fitsF]
        rw [if_neg (by decide), if_neg (by decide), if_neg (by decide), if_neg (by decide), if_pos trivial, ha]
        dsimp only
        rw [Bool.and_eq_true]
        exact ⟨by simp [countedF, num3, withinZ], decide_eq_true (by
          show a < 2 ^ (8 * (3 : Int)).toNat
          rw [pw]; omega)⟩
      · show fitsF (mOf l) [num3, num3, ⟨5, one, 0, []⟩] ⟨5, two, 1, []⟩ = true
        simp only [fitsF]
        rw [if_neg (by decide), if_neg (by decide), if_neg (by decide), if_neg (by decide), if_pos trivial, hb]
        dsimp only
        rw [Bool.and_eq_true]
        exact ⟨by simp [countedF, num3, withinZ], decide_eq_true (by
          show b < 2 ^ (8 * (3 : Int)).toNat
          rw [pw]; omega)⟩
    · have e : lenF (mOf l) (twoF one two).flds = w64i (w64i (6 + a) + b) := by
        show w64i (w64i (6 + (mOf l one).getD 0) + (mOf l two).getD 0) = _
        rw [ha, hb]; rfl
      rw [e, i64_of_in (n := 6 + a) ⟨by omega, by omega⟩, i64_of_in ⟨by omega, by omega⟩]
      omega
  have eL : lenF (mOf l) (twoF one two).flds = 6 + a + b := by
    show w64i (w64i (6 + (mOf l one).getD 0) + (mOf l two).getD 0) = _
    rw [ha, hb]
    show w64i (w64i (6 + a) + b) = _
    rw [i64_of_in (n := 6 + a) ⟨by omega, by omega⟩, i64_of_in ⟨by omega, by omega⟩]
  have hkA : ∀ f ∈ (twoF one two).flds, withinZ f.kind 1 6 = true := fun f hf => by
    simp only [twoF, List.mem_cons, List.not_mem_nil, or_false] at hf
    rcases hf with rfl | rfl | rfl | rfl <;> rfl
  have hvm : validR (l ++ [twoF one two]) = true := by
    rw [valid_snoc]
    simp only [Bool.and_eq_true, decide_eq_true_eq]
    refine ⟨⟨⟨by omega, h.valid⟩, (nextR_iff tl.asc tl.mb).2 ⟨⟨show withinZ 500 1 1000000 = true by decide, ?_⟩, hfitA⟩⟩, show (0 : Nat) < 4 by decide⟩
    by_cases h0 : l.length = 0
    · exact .inl h0
    · right
      have := hids (l.length - 1) (by omega)
      show l[l.length - 1]!.id < 500
      omega
  have tm := took (l := l ++ [twoF one two]) (by rw [validR, Bool.and_eq_true] at hvm; exact hvm.1)
  have e500 : mOf (l ++ [twoF one two]) 500 = some (6 + a + b) := by
    rw [mOf_snoc, fmtR_eq tl.asc _ hkA, eL]
    rfl
  have hfitB : AddOk (mOf (l ++ [twoF one two])) [] listF.flds := by
    rw [addOk_iff tm.mb]
    refine ⟨by decide, fun k hk => ?_, ?_⟩
    · obtain rfl | rfl : k = 0 ∨ k = 1 := by
        have : k < 2 := hk
        omega
      · rfl
      · show fitsF (mOf (l ++ [twoF one two])) [⟨2, 1, -1, []⟩] ⟨4, 500, 0, []⟩ = true
        simp only [fitsF]
        rw [if_neg (by decide), if_neg (by decide), if_neg (by decide), if_pos trivial, e500]
        rfl
    · show (1 : Int) ≤ 65536
      decide
  have hkB : ∀ f ∈ listF.flds, withinZ f.kind 1 6 = true := fun f hf => by
    simp only [listF, List.mem_cons, List.not_mem_nil, or_false] at hf
    rcases hf with rfl | rfl <;> rfl
  have hvn : validR ((l ++ [twoF one two]) ++ [listF]) = true := by
    rw [valid_snoc, List.length_append, List.length_singleton]
    simp only [Bool.and_eq_true, decide_eq_true_eq]
    refine ⟨⟨⟨by omega, hvm⟩, (nextR_iff tm.asc tm.mb).2 ⟨⟨by decide, .inr ?_⟩, hfitB⟩⟩, by decide⟩
    rw [List.length_append, List.length_singleton, Nat.add_sub_cancel, get_last]
    show (500 : Int) < 501
    decide
  have f501 : mOf ((l ++ [twoF one two]) ++ [listF]) 501 = some 1 := by
    rw [mOf_snoc, fmtR_eq tm.asc _ hkB]
    rfl
  have f500 : mOf ((l ++ [twoF one two]) ++ [listF]) 500 = some (6 + a + b) := by
    rw [mOf_snoc]
    unfold putM
    rw [if_neg (by decide), e500]
  refine ⟨by rw [validT_eq]; exact hvn, ?_, ?_, ?_, by omega, by omega, by omega, by omega⟩
  · rw [leastT_eq hvm, e500, eA, eB]; rfl
  · rw [leastT_eq hvn, f501]; rfl
  · rw [leastT_eq hvn, leastT_eq hvm, f500, e500]
end Go.Proofs.YtcpfmlaipejfpaaGreatDoor
