/-
  Formats of chapter 4, plain: the reference's fits and least lengths are those of the table that is being made.
  Formats of chapter 4, plain: the reference's Valid is the table's.
  Formats of chapter 4, plain: the reference's Valid is the table's, and so are the least lengths.
-/
import Derived.Test.YtcpfmlaipejfpaaGreatDoorKA
namespace Go.Proofs.YtcpfmlaipejfpaaGreatDoor
open Go.RowKit

/-- The least lengths of formats, by their IDs. -/
def mOf (l : List Fmt) : Int → Option Int := fun n => if idxTo l n l.length < 0 then none else some (leastsR l)[(idxTo l n l.length).toNat]!
theorem counted_number {fs : List Fld} {k : Nat} (hk : k < fs.length) : countedF (fs.take k) fs[k]! = (fs[k]!.text.isEmpty && (fs[k]!.frm != -1) && numberR fs k) := by
  unfold countedF numberR
  dsimp only
  have htl : (fs.take k).length = k := by rw [List.length_take]; omega
  rw [htl]
  generalize fs[k]! = f
  by_cases h : f.frm < 0 ∨ (k : Int) ≤ f.frm
  · rw [if_pos h, Bool.and_false]
    have : withinZ f.frm 0 ((k : Int) - 1) = false := by
      cases hw : withinZ f.frm 0 ((k : Int) - 1) with
      | false => rfl
      | true => have := withinZ_iff.1 hw; omega
    rw [this]
    rfl
  · rw [if_neg h]
    have hw : withinZ f.frm 0 ((k : Int) - 1) = true := withinZ_iff.2 (by omega)
    have hn : (f.frm != -1) = true := by rw [bne_iff_ne]; omega
    have he : (fs.take k)[f.frm.toNat]! = fs[f.frm.toNat]! := by rw [getElem!_pos _ _ (by omega), getElem!_pos fs _ (by omega), List.getElem_take]
    rw [hw, hn, he]
    cases f.text.isEmpty <;> cases (fs[f.frm.toNat]!.kind == 2) <;> simp
theorem counted_alone {l : List Fld} {f : Fld} (h : aloneF f = true) : countedF l f = false := by
  have h1 := (alone_parts h).1
  unfold countedF
  rw [h1]
  rfl
theorem counted_kind {fs : List Fld} {k : Nat} {f : Fld} (hk : k ≤ fs.length) (h : countedF (fs.take k) f = true) : ∃ j, j < k ∧ f.frm = (j : Int) ∧ fs[j]!.kind = 2 ∧ (fs.take k)[f.frm.toNat]! = fs[j]! := by
  have htl : (fs.take k).length = k := by rw [List.length_take]; omega
  simp only [countedF, Bool.and_eq_true] at h
  have h1 := withinZ_iff.1 h.1.1.1
  rw [htl] at h1
  obtain ⟨j, hj⟩ : ∃ j : Nat, f.frm = (j : Int) := ⟨f.frm.toNat, by omega⟩
  have he : (fs.take k)[f.frm.toNat]! = fs[j]! := by rw [hj, Int.toNat_natCast, getElem!_pos _ _ (by omega), getElem!_pos fs _ (by omega), List.getElem_take]
  refine ⟨j, by omega, hj, ?_, he⟩
  rw [← he]
  simpa using h.1.1.2
theorem pow256 (n : Int) (h : 0 ≤ n) : ((2 : Int) ^ (8 * n).toNat) = 256 ^ n.toNat := by
  obtain ⟨k, rfl⟩ : ∃ k : Nat, n = (k : Int) := ⟨n.toNat, by omega⟩
  rw [show (8 * (k : Int)).toNat = 8 * k by omega, Int.toNat_natCast, Int.pow_mul]
  rfl
/-- The reference's fits is the table's. -/
theorem fitsR_eq {prev : List Fmt} {fs : List Fld} {k : Nat} (hk : k < fs.length) (hpo : PrevOk (fs.take k)) : fitsR prev fs k = fitsF (mOf prev) (fs.take k) fs[k]! := by
  have hc := counted_number hk
  unfold fitsR fitsF mOf
  dsimp only
  rw [← hc]
  have hal : aloneF fs[k]! = true → countedF (fs.take k) fs[k]! = false := fun h => counted_alone h
  have hcp : countedF (fs.take k) fs[k]! = true → 0 ≤ (fs.take k)[fs[k]!.frm.toNat]!.n ∧ (fs.take k)[fs[k]!.frm.toNat]! = fs[fs[k]!.frm.toNat]! := fun h => by
    obtain ⟨j, hj, hf, h2, he⟩ := counted_kind (by omega) h
    have hm : fs[j]! ∈ fs.take k := by
      have e : (fs.take k)[j]! = fs[j]! := by rw [getElem!_pos _ j (by rw [List.length_take]; omega), getElem!_pos fs j (by omega), List.getElem_take]
      rw [← e, getElem!_pos _ j (by rw [List.length_take]; omega)]
      exact List.getElem_mem _
    have := hpo _ hm h2
    refine ⟨by rw [he]; omega, ?_⟩
    rw [he, hf, Int.toNat_natCast]
  have hr := idxTo_range prev fs[k]!.n prev.length
  generalize fs[k]! = f at *
  generalize countedF (fs.take k) f = C at *
  by_cases h1 : f.kind = 1
  · rw [if_pos h1, if_pos h1]
  · rw [if_neg h1, if_neg h1]
    by_cases h2 : f.kind = 2
    · rw [if_pos (.inl h2), if_pos h2]
    · rw [if_neg h2]
      by_cases h6 : f.kind = 6
      · rw [if_pos (.inr h6), if_neg (by omega), if_neg (by omega), if_neg (by omega), if_pos h6]
      · rw [if_neg (by omega)]
        by_cases h3 : f.kind = 3
        · rw [if_pos h3, if_pos h3]
          cases ha : aloneF f with
          | true => rw [hal ha, if_pos rfl]; simp
          | false => rw [if_neg (by simp)]; simp [Bool.and_comm]
        · rw [if_neg h3, if_neg h3]
          by_cases h4 : f.kind = 4
          · rw [if_pos h4, if_pos h4]
            by_cases hx : idxTo prev f.n prev.length < 0
            · rw [if_pos hx, decide_eq_false (by omega)]; simp
            · rw [if_neg hx, decide_eq_true (by omega)]; simp
          · rw [if_neg h4, if_neg h4]
            by_cases h5 : f.kind = 5
            · rw [if_pos h5, if_pos h5]
              by_cases hx : idxTo prev f.n prev.length < 0
              · rw [if_pos hx, decide_eq_false (by omega)]; simp
              · rw [if_neg hx, decide_eq_true (by omega)]
                cases hC : C with
                | false => rfl
                | true =>
                  obtain ⟨hn0, he⟩ := hcp hC
                  dsimp only
                  rw [pow256 _ hn0, he]
                  rfl
            · rw [if_neg h5, if_neg h5, if_neg h6]
/-- IDs ascend. -/
def Asc (l : List Fmt) : Prop := ∀ a b, a < b → b < l.length → l[a]!.id < l[b]!.id
theorem idx_none {l : List Fmt} {n : Int} : ∀ i, (∀ a, a < i → l[a]!.id ≠ n) → idxTo l n i = -1
  | 0, _ => rfl
  | i + 1, h => by rw [idxTo, if_neg (h i (by omega)), idx_none i (fun a ha => h a (by omega))]
theorem inR_idx {prev : List Fmt} {out : List Int} (ha : Asc prev) (hl : prev.length = out.length) (id n : Int) : ∀ j, j ≤ prev.length → inR id n ((prev.zip out).take j) = if idxTo prev id j < 0 then n else w64i (n + out[(idxTo prev id j).toNat]!)
  | 0, _ => rfl
  | j + 1, h => by
    rw [inR_snoc id n prev out j (by omega) hl, inR_idx ha hl id n j (by omega), idxTo]
    by_cases hid : prev[j]!.id = id
    · rw [if_pos hid, if_pos hid, idx_none j (fun a haj => by have := ha a j haj (by omega); omega), if_pos (by omega), if_neg (by omega), Int.toNat_natCast]
    · rw [if_neg hid, if_neg hid]
theorem i64_of_in {n : Int} (h : I64 n) : w64i n = n := IntWalk.i64_in _ ⟨h.lo, h.hi⟩
theorem leastsR_len (l : List Fmt) : (leastsR l).length = l.length := leastsTo_len l l.length
theorem stepR_eq {prev : List Fmt} (ha : Asc prev) {n : Int} (hn : I64 n) {f : Fld} (hk : withinZ f.kind 1 6 = true) : stepR prev (leastsR prev) n f = w64i (n + leastF (mOf prev) f) := by
  have h6 := kind6 hk
  unfold stepR leastF mOf
  rcases h6 with h | h | h | h | h | h
  · rw [if_pos h, if_pos h]
  · rw [if_neg (by omega), if_pos (by omega), if_neg (by omega), if_neg (by omega), if_neg (by omega)]
  · rw [if_neg (by omega), if_pos (by omega), if_neg (by omega), if_neg (by omega), if_neg (by omega)]
  · rw [if_neg (by omega), if_neg (by omega), if_neg (by omega), if_neg (by omega), if_pos h, Int.add_zero, i64_of_in hn]
  · rw [if_neg (by omega), if_neg (by omega), if_pos h, if_neg (by omega), if_neg (by omega), if_pos h]
    have hz := inR_idx ha (leastsR_len prev).symm f.n n prev.length (Nat.le_refl _)
    rw [List.take_of_length_le (by rw [List.length_zip, leastsR_len]; omega)] at hz
    rw [hz]
    by_cases hx : idxTo prev f.n prev.length < 0
    · rw [if_pos hx, if_pos hx]
      simp only [Option.getD_none, Int.add_zero]
      exact (i64_of_in hn).symm
    · rw [if_neg hx, if_neg hx]
      rfl
  · rw [if_neg (by omega), if_pos (by omega), if_neg (by omega), if_neg (by omega), if_neg (by omega)]
theorem fmtR_eq {prev : List Fmt} (ha : Asc prev) (fs : List Fld) (hk : ∀ f ∈ fs, withinZ f.kind 1 6 = true) : fmtR prev (leastsR prev) fs = lenF (mOf prev) fs := by
  have key : ∀ (fs : List Fld) (n : Int), I64 n → (∀ f ∈ fs, withinZ f.kind 1 6 = true) → fs.foldl (stepR prev (leastsR prev)) n = fs.foldl (fun n f => w64i (n + leastF (mOf prev) f)) n := by
    intro fs
    induction fs with
    | nil => intro n _ _; rfl
    | cons f r ih =>
      intro n hn h
      rw [List.foldl_cons, List.foldl_cons, stepR_eq ha hn (h f (by simp))]
      exact ih _ (i64_w64 _) (fun x hx => h x (by simp [hx]))
  exact key fs 0 ⟨by omega, by omega⟩ hk
end Go.Proofs.YtcpfmlaipejfpaaGreatDoor
namespace Go.Proofs.YtcpfmlaipejfpaaGreatDoor
open Go.RowKit

theorem takeAll_snoc : ∀ (l : List Fmt) (t : Tab) (f : Fmt), t.takeAll (l ++ [f]) = (t.takeAll l).bind fun t => (t.beginT f.id).bind fun t => t.addAll f.flds
  | [], t, f => by
    simp only [List.nil_append, Tab.takeAll, Option.bind_some]
    cases t.beginT f.id with
    | none => rfl
    | some u =>
      simp only [Option.bind_some]
      cases u.addAll f.flds <;> rfl
  | g :: l, t, f => by
    rw [List.cons_append, Tab.takeAll, Tab.takeAll]
    cases t.beginT g.id with
    | none => rfl
    | some u =>
      dsimp only
      cases u.addAll g.flds with
      | none => rfl
      | some x => exact takeAll_snoc l x f
def AddOk (m : Int → Option Int) (p fs : List Fld) : Prop := ∀ k, k < fs.length → p.length + k < 16 ∧ fitsF m (p ++ fs.take k) fs[k]! = true ∧ lenF m (p ++ fs.take (k + 1)) ≤ 65536
theorem addT_iff (t : Tab) (L : List Fmt) (id : Int) (p : List Fld) (f : Fld) (h : t.list = L ++ [⟨id, p⟩]) : t.addT f = if p.length < 16 ∧ fitsF t.m p f = true ∧ lenF t.m (p ++ [f]) ≤ 65536 then some ⟨L ++ [⟨id, p ++ [f]⟩], t.m⟩ else none := by
  unfold Tab.addT
  rw [h, List.getLast?_concat, List.dropLast_concat]
  dsimp only
  by_cases hc : p.length < 16 ∧ fitsF t.m p f = true ∧ lenF t.m (p ++ [f]) ≤ 65536
  · have h1 := (fits_parts hc.2.1).1
    rw [if_pos hc, h1, decide_eq_true hc.1, hc.2.1, decide_eq_true hc.2.2]
    rfl
  · rw [if_neg hc, if_neg]
    intro hh
    simp only [Bool.and_eq_true, decide_eq_true_eq] at hh
    exact hc ⟨hh.1.1.2, hh.1.2, hh.2⟩
theorem addAll_iff : ∀ (fs : List Fld) (t : Tab) (L : List Fmt) (id : Int) (p : List Fld), t.list = L ++ [⟨id, p⟩] → (AddOk t.m p fs → t.addAll fs = some ⟨L ++ [⟨id, p ++ fs⟩], t.m⟩) ∧ (¬ AddOk t.m p fs → t.addAll fs = none)
  | [], t, L, id, p, h => by
    refine ⟨fun _ => ?_, fun hn => absurd (fun k hk => absurd hk (Nat.not_lt_zero _)) hn⟩
    rw [List.append_nil, ← h]
    rfl
  | f :: r, t, L, id, p, h => by
    rw [Tab.addAll, addT_iff t L id p f h]
    by_cases hc : p.length < 16 ∧ fitsF t.m p f = true ∧ lenF t.m (p ++ [f]) ≤ 65536
    · rw [if_pos hc]
      dsimp only
      have ih := addAll_iff r ⟨L ++ [⟨id, p ++ [f]⟩], t.m⟩ L id (p ++ [f]) rfl
      have he : AddOk t.m p (f :: r) ↔ AddOk t.m (p ++ [f]) r := by
        constructor
        · intro ha k hk
          have := ha (k + 1) (by simpa using hk)
          simp only [List.take_succ_cons, List.getElem!_cons_succ] at this
          refine ⟨by rw [List.length_append, List.length_singleton]; omega, by simpa using this.2.1, by simpa using this.2.2⟩
        · intro ha k hk
          cases k with
          | zero => exact ⟨by omega, by simpa using hc.2.1, by simpa using hc.2.2⟩
          | succ k =>
            have := ha k (by simpa using hk)
            rw [List.length_append, List.length_singleton] at this
            simp only [List.take_succ_cons, List.getElem!_cons_succ]
            exact ⟨by omega, by simpa using this.2.1, by simpa using this.2.2⟩
      rw [he]
      simpa using ih
    · rw [if_neg hc]
      refine ⟨fun ha => ?_, fun _ => rfl⟩
      have := ha 0 (by simp)
      exact absurd ⟨by simpa using this.1, by simpa using this.2.1, by simpa using this.2.2⟩ hc
/-- Least lengths in bounds. -/
def MB (m : Int → Option Int) : Prop := ∀ n x, m n = some x → 0 ≤ x ∧ x ≤ 65536
theorem leastF_bound {m : Int → Option Int} (hm : MB m) {l : List Fld} {f : Fld} (h : fitsF m l f = true) : 0 ≤ leastF m f ∧ leastF m f ≤ 65536 := by
  obtain ⟨hk, ht⟩ := fits_parts h
  have h6 := kind6 hk
  unfold leastF
  unfold fitsF at h
  rcases h6 with h1 | h1 | h1 | h1 | h1 | h1
  · rw [if_pos h1]; omega
  · rw [if_neg (by omega), if_pos h1, Bool.and_eq_true] at h
    have := withinZ_iff.1 h.2
    rw [if_neg (by omega), if_neg (by omega), if_neg (by omega)]; omega
  · rw [if_neg (by omega), if_neg (by omega), if_pos h1] at h
    rw [if_neg (by omega), if_neg (by omega), if_neg (by omega)]
    split at h
    · have := withinZ_iff.1 h; omega
    · simp only [Bool.and_eq_true, beq_iff_eq] at h; omega
  · rw [if_neg (by omega), if_pos h1]; omega
  · rw [if_neg (by omega), if_neg (by omega), if_pos h1]
    cases hq : m f.n with
    | none => simp
    | some x => exact hm _ _ hq
  · rw [if_neg (by omega), if_neg (by omega), if_neg (by omega), if_neg (by omega), if_neg (by omega), if_pos h1, Bool.and_eq_true] at h
    have := withinZ_iff.1 h.2
    rw [if_neg (by omega), if_neg (by omega), if_neg (by omega)]; omega
theorem lenF_bound {m : Int → Option Int} (hm : MB m) {fs : List Fld} (hl : fs.length ≤ 16) (hf : ∀ k, k < fs.length → fitsF m (fs.take k) fs[k]! = true) : ∀ k, k ≤ fs.length → 0 ≤ lenF m (fs.take k) ∧ lenF m (fs.take k) ≤ 65536 * (k : Int) ∧ ∀ j, j ≤ k → lenF m (fs.take j) ≤ lenF m (fs.take k)
  | 0, _ => by
    refine ⟨by simp [lenF], by simp [lenF], fun j hj => ?_⟩
    have h0 : j = 0 := by omega
    rw [h0]
    exact Int.le_refl _
  | k + 1, hk => by
    have ih := lenF_bound hm hl hf k (by omega)
    have hb := leastF_bound hm (hf k (by omega))
    have hs := lenF_snoc m fs k (by omega)
    rw [i64_of_in ⟨by omega, by omega⟩] at hs
    refine ⟨by omega, by omega, fun j hj => ?_⟩
    by_cases h : j = k + 1
    · rw [h]; exact Int.le_refl _
    · have := ih.2.2 j (by omega)
      omega
theorem addOk_iff {m : Int → Option Int} (hm : MB m) (fs : List Fld) : AddOk m [] fs ↔ fs.length ≤ 16 ∧ (∀ k, k < fs.length → fitsF m (fs.take k) fs[k]! = true) ∧ lenF m fs ≤ 65536 := by
  constructor
  · intro ha
    refine ⟨?_, fun k hk => by simpa using (ha k hk).2.1, ?_⟩
    · rcases Nat.lt_or_ge 16 fs.length with h | h
      · have := (ha 16 h).1
        simp at this
      · exact h
    · cases hn : fs.length with
      | zero =>
        obtain rfl : fs = [] := List.eq_nil_of_length_eq_zero hn
        simp [lenF]
      | succ k =>
        have := (ha k (by omega)).2.2
        rw [List.nil_append, List.take_of_length_le (by omega)] at this
        exact this
  · rintro ⟨h1, h2, h3⟩ k hk
    have hb := (lenF_bound hm h1 h2 fs.length (Nat.le_refl _)).2.2 (k + 1) (by omega)
    rw [List.take_of_length_le (Nat.le_refl _)] at hb
    exact ⟨by simp; omega, by simpa using h2 k hk, by rw [List.nil_append]; omega⟩
theorem get_app {l r : List Fmt} {j : Nat} (h : j < l.length) : (l ++ r)[j]! = l[j]! := by
  rw [getElem!_pos _ j (by rw [List.length_append]; omega), getElem!_pos l j h, List.getElem_append_left]
theorem get_last (l : List Fmt) (f : Fmt) : (l ++ [f])[l.length]! = f := by
  rw [getElem!_pos _ _ (by simp), List.getElem_append_right (Nat.le_refl _)]
  simp
theorem leastsTo_app (l r : List Fmt) : ∀ i, i ≤ l.length → leastsTo (l ++ r) i = leastsTo l i
  | 0, _ => rfl
  | i + 1, h => by
    rw [leastsTo, leastsTo, leastsTo_app l r i (by omega), get_app (by omega), List.take_append_of_le_length (by omega)]
theorem leastsR_snoc (l : List Fmt) (f : Fmt) : leastsR (l ++ [f]) = leastsR l ++ [fmtR l (leastsR l) f.flds] := by
  rw [leastsR, List.length_append, List.length_singleton, leastsTo, leastsTo_app l [f] l.length (Nat.le_refl _), get_last, List.take_left]
  rfl
theorem idxTo_app (l r : List Fmt) (n : Int) : ∀ i, i ≤ l.length → idxTo (l ++ r) n i = idxTo l n i
  | 0, _ => rfl
  | i + 1, h => by rw [idxTo, idxTo, get_app (by omega), idxTo_app l r n i (by omega)]
theorem mOf_snoc (l : List Fmt) (f : Fmt) : mOf (l ++ [f]) = putM (mOf l) f.id (fmtR l (leastsR l) f.flds) := by
  funext n
  unfold mOf putM
  rw [List.length_append, List.length_singleton, idxTo, get_last, idxTo_app l [f] n l.length (Nat.le_refl _), leastsR_snoc]
  have hl := leastsR_len l
  have hr := idxTo_range l n l.length
  by_cases h : f.id = n
  · rw [if_pos h, if_neg (by omega), Int.toNat_natCast, getElem!_pos _ _ (by rw [List.length_append, List.length_singleton]; omega), List.getElem_append_right (by omega)]
    show _ = if n = f.id then _ else _
    rw [if_pos h.symm]
    simp [hl]
  · rw [if_neg h]
    show _ = if n = f.id then _ else (if idxTo l n l.length < 0 then none else some (leastsR l)[(idxTo l n l.length).toNat]!)
    rw [if_neg (fun e : n = f.id => h e.symm)]
    by_cases hx : idxTo l n l.length < 0
    · rw [if_pos hx, if_pos hx]
    · rw [if_neg hx, if_neg hx, getElem!_pos _ _ (by rw [List.length_append]; omega), List.getElem_append_left (by omega), getElem!_pos _ _ (by omega)]
theorem formR_app {l : List Fmt} (f : Fmt) {j : Nat} (h : j < l.length) : formR (l ++ [f]) j = (formR l j && decide (0 < l[j]!.flds.length)) := by
  unfold formR headR fieldsR
  rw [get_app h, List.take_append_of_le_length (by omega), List.take_append_of_le_length (by omega), List.length_append, List.length_singleton]
  have e1 : decide (j + 1 = l.length + 1) = false := decide_eq_false (by omega)
  have e2 : (decide (j = 0) || decide ((l ++ [f])[j - 1]!.id < l[j]!.id)) = (decide (j = 0) || decide (l[j - 1]!.id < l[j]!.id)) := by
    by_cases hj : j = 0
    · simp [hj]
    · rw [get_app (by omega)]
  rw [e1, e2]
  generalize withinZ l[j]!.id 1 1000000 = a
  generalize (decide (j = 0) || decide (l[j - 1]!.id < l[j]!.id)) = b
  generalize decide (l[j]!.flds.length ≤ 16) = c
  generalize decide (0 < l[j]!.flds.length) = d
  generalize decide (j + 1 = l.length) = e
  generalize ((List.range l[j]!.flds.length).all fun k => fitsR (l.take j) l[j]!.flds k) = g
  generalize decide ((leastsR (l.take (j + 1)))[j]! ≤ 65536) = i
  cases a <;> cases b <;> cases c <;> cases d <;> cases e <;> cases g <;> cases i <;> rfl
/-- Every format but the last has fields. -/
theorem formR_full {l : List Fmt} {j : Nat} (h : j + 1 < l.length) (hf : formR l j = true) : 0 < l[j]!.flds.length := by
  simp only [formR, headR, Bool.and_eq_true, Bool.or_eq_true, decide_eq_true_eq] at hf
  rcases hf.1.1.2 with h1 | h1
  · exact h1
  · omega
/-- A format behind others is as it should be. -/
def nextR (l : List Fmt) (f : Fmt) : Bool := withinZ f.id 1 1000000 && (decide (l.length = 0) || decide (l[l.length - 1]!.id < f.id)) && decide (f.flds.length ≤ 16) && ((List.range f.flds.length).all fun k => fitsR l f.flds k) && decide (fmtR l (leastsR l) f.flds ≤ 65536)
theorem formR_last (l : List Fmt) (f : Fmt) : formR (l ++ [f]) l.length = nextR l f := by
  unfold formR headR fieldsR nextR
  have e1 : (l ++ [f]).take (l.length + 1) = l ++ [f] := List.take_of_length_le (by simp)
  have e2 : decide (l.length + 1 = (l ++ [f]).length) = true := decide_eq_true (by simp)
  have e3 : (leastsR (l ++ [f]))[l.length]! = fmtR l (leastsR l) f.flds := by
    rw [leastsR_snoc, getElem!_pos _ _ (by rw [List.length_append, leastsR_len]; simp), List.getElem_append_right (by rw [leastsR_len]; exact Nat.le_refl _)]
    simp [leastsR_len]
  have e4 : (decide (l.length = 0) || decide ((l ++ [f])[l.length - 1]!.id < f.id)) = (decide (l.length = 0) || decide (l[l.length - 1]!.id < f.id)) := by
    by_cases hj : l.length = 0
    · simp [hj]
    · rw [get_app (by omega)]
  rw [get_last, List.take_left, e1, e2, e3, e4, Bool.or_true, Bool.and_true]
theorem beginsR_snoc (l : List Fmt) (f : Fmt) : beginsR (l ++ [f]) = (decide (l.length + 1 ≤ 60) && validR l && nextR l f) := by
  rw [Bool.eq_iff_iff]
  simp only [beginsR, validR, Bool.and_eq_true, Bool.or_eq_true, decide_eq_true_eq, List.length_append, List.length_singleton]
  rw [range_all, range_all]
  constructor
  · rintro ⟨h1, h2⟩
    have h3 : ∀ j, j < l.length → formR l j = true ∧ 0 < l[j]!.flds.length := fun j hj => by
      have := h2 j (by omega)
      rw [formR_app f hj, Bool.and_eq_true, decide_eq_true_eq] at this
      exact this
    refine ⟨⟨h1, ⟨by omega, fun j hj => (h3 j hj).1⟩, ?_⟩, by rw [← formR_last]; exact h2 l.length (by omega)⟩
    by_cases h0 : l.length = 0
    · exact .inl h0
    · exact .inr (h3 (l.length - 1) (by omega)).2
  · rintro ⟨⟨h1, ⟨_, h2⟩, h3⟩, h4⟩
    refine ⟨h1, fun j hj => ?_⟩
    by_cases hl : j = l.length
    · rw [hl, formR_last]; exact h4
    · have hjl : j < l.length := by omega
      rw [formR_app f hjl, h2 j hjl, Bool.true_and, decide_eq_true_eq]
      by_cases hlast : j + 1 = l.length
      · rcases h3 with h3 | h3
        · omega
        · rw [show l.length - 1 = j by omega] at h3
          exact h3
      · exact formR_full (by omega) (h2 j hjl)
end Go.Proofs.YtcpfmlaipejfpaaGreatDoor
namespace Go.Proofs.YtcpfmlaipejfpaaGreatDoor
open Go.RowKit

theorem fitsF_num {m : Int → Option Int} {l : List Fld} {f : Fld} (h : fitsF m l f = true) (hk : f.kind = 2) : 1 ≤ f.n ∧ f.n ≤ 3 := by
  unfold fitsF at h
  rw [if_neg (by omega), if_pos hk, Bool.and_eq_true] at h
  exact withinZ_iff.1 h.2
theorem prevOk_takeF {m : Int → Option Int} {fs : List Fld} {k : Nat} (hk : k ≤ fs.length) (h : ∀ j, j < k → fitsF m (fs.take j) fs[j]! = true) : PrevOk (fs.take k) := by
  intro g hg hk2
  obtain ⟨j, hj, rfl⟩ := List.getElem_of_mem hg
  rw [List.length_take] at hj
  rw [List.getElem_take] at hk2 ⊢
  have e : fs[j]! = fs[j]'(by omega) := getElem!_pos fs j (by omega)
  have := fitsF_num (h j (by omega)) (by rw [e]; exact hk2)
  rw [e] at this
  exact this
theorem fits_all (l : List Fmt) (fs : List Fld) : (∀ k, k < fs.length → fitsR l fs k = true) ↔ ∀ k, k < fs.length → fitsF (mOf l) (fs.take k) fs[k]! = true := by
  constructor
  · intro h k hk
    rw [← fitsR_eq hk (prevOk_take (by omega) fun j hj => h j (by omega))]
    exact h k hk
  · intro h k hk
    rw [fitsR_eq hk (prevOk_takeF (by omega) fun j hj => h j (by omega))]
    exact h k hk
theorem kinds_all {m : Int → Option Int} {fs : List Fld} (h : ∀ k, k < fs.length → fitsF m (fs.take k) fs[k]! = true) : ∀ f ∈ fs, withinZ f.kind 1 6 = true := by
  intro f hf
  obtain ⟨j, hj, rfl⟩ := List.getElem_of_mem hf
  have := (fits_parts (h j hj)).1
  rwa [getElem!_pos fs j hj] at this
theorem asc_snoc {l : List Fmt} {f : Fmt} (ha : Asc l) (h : l.length = 0 ∨ l[l.length - 1]!.id < f.id) : Asc (l ++ [f]) := by
  intro a b hab hb
  rw [List.length_append, List.length_singleton] at hb
  by_cases hbl : b = l.length
  · rw [hbl, get_last, get_app (by omega)]
    by_cases hal : a = l.length - 1
    · rw [hal]; exact h.resolve_left (by omega)
    · exact Int.lt_trans (ha a (l.length - 1) (by omega) (by omega)) (h.resolve_left (by omega))
  · rw [get_app (by omega), get_app (by omega)]
    exact ha a b hab (by omega)
theorem mb_put {m : Int → Option Int} (hm : MB m) {i x : Int} (h : 0 ≤ x ∧ x ≤ 65536) : MB (putM m i x) := by
  intro n y hy
  unfold putM at hy
  by_cases hn : n = i
  · rw [if_pos hn] at hy
    cases hy
    exact h
  · rw [if_neg hn] at hy
    exact hm n y hy
/-- A format behind others is as it should be: the table's reading. -/
theorem nextR_iff {l : List Fmt} {f : Fmt} (ha : Asc l) (hm : MB (mOf l)) : nextR l f = true ↔ (withinZ f.id 1 1000000 = true ∧ (l.length = 0 ∨ l[l.length - 1]!.id < f.id)) ∧ AddOk (mOf l) [] f.flds := by
  rw [addOk_iff hm]
  simp only [nextR, Bool.and_eq_true, Bool.or_eq_true, decide_eq_true_eq, range_all, fits_all]
  constructor
  · rintro ⟨⟨⟨⟨h1, h2⟩, h3⟩, h4⟩, h5⟩
    rw [fmtR_eq ha _ (kinds_all h4)] at h5
    exact ⟨⟨h1, h2⟩, h3, h4, h5⟩
  · rintro ⟨⟨h1, h2⟩, h3, h4, h5⟩
    rw [← fmtR_eq ha _ (kinds_all h4)] at h5
    exact ⟨⟨⟨⟨h1, h2⟩, h3⟩, h4⟩, h5⟩
def fullL (l : List Fmt) : Bool := decide (l.length = 0) || decide (0 < l[l.length - 1]!.flds.length)
/-- What a walk over formats that begin well leaves. -/
structure Took (l : List Fmt) : Prop where
  tab : Tab.takeAll ⟨[], fun _ => none⟩ l = some ⟨l, mOf l.dropLast⟩
  fin : Tab.fin ⟨l, mOf l.dropLast⟩ = if fullL l = true then some ⟨l, mOf l⟩ else none
  asc : Asc l
  mb : MB (mOf l)
theorem last_less (l : List Fmt) (id : Int) : lastLess l id = true ↔ (l.length = 0 ∨ l[l.length - 1]!.id < id) := by
  unfold lastLess
  rcases List.eq_nil_or_concat l with rfl | ⟨L, b, rfl⟩
  · simp
  · rw [List.concat_eq_append, List.getLast?_concat, show (L ++ [b]).length - 1 = L.length by simp, get_last]
    simp
theorem took_all : ∀ (n : Nat) (l : List Fmt), l.length = n → (beginsR l = true → Took l) ∧ (beginsR l = false → Tab.takeAll ⟨[], fun _ => none⟩ l = none)
  | 0, l, h => by
    obtain rfl : l = [] := List.eq_nil_of_length_eq_zero h
    refine ⟨fun _ => ⟨rfl, rfl, fun a b _ hb => absurd hb (Nat.not_lt_zero _), fun n x hx => ?_⟩, fun hb => ?_⟩
    · exact absurd hx (by simp [mOf, idxTo])
    · exact absurd hb (by decide)
  | n + 1, l, h => by
    rcases List.eq_nil_or_concat l with rfl | ⟨L, f, rfl⟩
    · exact absurd h (by simp)
    rw [List.concat_eq_append] at h ⊢
    have hL : L.length = n := by simpa using h
    have ih := took_all n L hL
    rw [beginsR_snoc, takeAll_snoc]
    cases hb : beginsR L with
    | false =>
      rw [ih.2 hb]
      refine ⟨fun hx => ?_, fun _ => rfl⟩
      rw [validR, hb] at hx
      simp at hx
    | true =>
      obtain ⟨ht, hf, ha, hm⟩ := ih.1 hb
      rw [ht, Option.bind_some]
      unfold Tab.beginT
      rw [hf]
      have hv : validR L = fullL L := by rw [validR, hb, Bool.true_and]; rfl
      rw [hv]
      by_cases hfull : fullL L = true
      · rw [if_pos hfull, hfull, Bool.and_true]
        dsimp only
        by_cases hid : withinZ f.id 1 1000000 = true ∧ (L.length = 0 ∨ L[L.length - 1]!.id < f.id)
        · by_cases hlen : L.length + 1 ≤ 60
          · rw [hid.1, decide_eq_true (show L.length < 60 by omega), (last_less _ _).2 hid.2, decide_eq_true hlen, Bool.true_and, if_pos (show (true && true && true) = true from rfl), Option.bind_some]
            have hadd := addAll_iff f.flds ⟨L ++ [⟨f.id, []⟩], mOf L⟩ L f.id [] rfl
            dsimp only at hadd
            have hn := nextR_iff (f := f) ha hm
            by_cases hok : AddOk (mOf L) [] f.flds
            · have hnx := hn.2 ⟨hid, hok⟩
              have hasc : Asc (L ++ [f]) := asc_snoc ha hid.2
              obtain ⟨o1, o2, o3⟩ := (addOk_iff hm f.flds).1 hok
              have hln : fmtR L (leastsR L) f.flds = lenF (mOf L) f.flds := fmtR_eq ha _ (kinds_all o2)
              have hmo := mOf_snoc L f
              rw [hln] at hmo
              refine ⟨fun _ => ⟨?_, ?_, hasc, ?_⟩, fun hx => ?_⟩
              · rw [takeAll_snoc, ht, Option.bind_some]
                unfold Tab.beginT
                rw [hf, if_pos hfull]
                dsimp only
                rw [hid.1, decide_eq_true (show L.length < 60 by omega), (last_less _ _).2 hid.2, if_pos (show (true && true && true) = true from rfl), Option.bind_some, hadd.1 hok, List.dropLast_concat, List.nil_append]
              · rw [List.dropLast_concat]
                unfold Tab.fin fullL
                rw [List.getLast?_concat, List.length_append, List.length_singleton, Nat.add_sub_cancel, get_last, hmo]
                dsimp only
                cases f.flds <;> simp
              · rw [hmo]
                have := lenF_bound hm o1 o2 f.flds.length (Nat.le_refl _)
                rw [List.take_of_length_le (Nat.le_refl _)] at this
                exact mb_put hm ⟨this.1, o3⟩
              · rw [hnx] at hx; cases hx
            · refine ⟨fun hx => absurd (hn.1 hx).2 hok, fun _ => ?_⟩
              rw [hadd.2 hok]
          · rw [decide_eq_false hlen, decide_eq_false (show ¬ L.length < 60 by omega)]
            simp
        · have hn : nextR L f = false := by
            cases hx : nextR L f with
            | false => rfl
            | true => exact absurd ((nextR_iff ha hm).1 hx).1 hid
          have hc : (withinZ f.id 1 1000000 && decide (L.length < 60) && lastLess L f.id) = false := by
            cases hx : (withinZ f.id 1 1000000 && decide (L.length < 60) && lastLess L f.id) with
            | false => rfl
            | true =>
              simp only [Bool.and_eq_true] at hx
              exact absurd ⟨hx.1.1, (last_less _ _).1 hx.2⟩ hid
          rw [hn, hc]
          simp
      · rw [if_neg hfull]
        have : fullL L = false := by simpa using hfull
        rw [this]
        simp
theorem took {l : List Fmt} (h : beginsR l = true) : Took l := (took_all l.length l rfl).1 h
theorem builtT_eq (l : List Fmt) : builtT l = if validR l = true then some ⟨l, mOf l⟩ else none := by
  unfold builtT
  cases hb : beginsR l with
  | false =>
    rw [(took_all l.length l rfl).2 hb, if_neg]
    rw [validR, hb]
    simp
  | true =>
    rw [(took hb).tab]
    dsimp only
    rw [(took hb).fin]
    have hv : validR l = fullL l := by rw [validR, hb, Bool.true_and]; rfl
    rw [hv]
theorem validT_eq (l : List Fmt) : validT l = validR l := by
  unfold validT
  rw [builtT_eq]
  cases validR l <;> rfl
theorem leastT_eq {l : List Fmt} (h : validR l = true) (id : Int) : leastT l id = (mOf l id).getD 0 := by
  unfold leastT
  rw [builtT_eq, if_pos h]
end Go.Proofs.YtcpfmlaipejfpaaGreatDoor
