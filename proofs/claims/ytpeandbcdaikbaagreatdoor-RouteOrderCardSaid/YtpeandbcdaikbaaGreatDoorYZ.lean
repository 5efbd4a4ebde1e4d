/-
  Routes of chapter 11: the law RouteOrder's cheaper edges and longer lives (plain).
  Routes of chapter 11: the law RouteOrder's cheaper edges and longer lives in memory.
-/
import Derived.Test.YtpeandbcdaikbaaGreatDoorYW
namespace Go.Proofs.YtpeandbcdaikbaaGreatDoor
open Go.RowKit Go.Shelf Go.Maps

/-- An edge's cost replaced. -/
def cheapE (l : List Edg) (k : Nat) (c : Int) : List Edg := l.set k { l[k]! with cost := c }
theorem cheapE_len (l : List Edg) (k : Nat) (c : Int) : (cheapE l k c).length = l.length := List.length_set
theorem cheapE_at (l : List Edg) (k : Nat) (c : Int) {i : Nat} (hi : i < l.length) : (cheapE l k c)[i]! = if i = k then { l[k]! with cost := c } else l[i]! := by
  unfold cheapE
  rw [getElem!_pos _ i (by rw [List.length_set]; exact hi), List.getElem_set]
  by_cases h : k = i
  · rw [if_pos h, if_pos h.symm]
  · rw [if_neg h, if_neg (fun e => h e.symm), getElem!_pos l i hi]
theorem cheapE_ok {l : List Edg} (hl : validE l = true) {k : Nat} (hk : k < l.length) {c : Int} (h0 : 0 ≤ c) (hc : c ≤ l[k]!.cost) : Cheap l (cheapE l k c) := by
  have hp := validE_parts hl
  have hmem : ∀ i, i < l.length → okE l[i]! = true := fun i hi => hp.2 _ (by rw [getElem!_pos l i hi]; exact List.getElem_mem hi)
  refine ⟨cheapE_len l k c, ?_, fun i hi => ?_⟩
  · unfold validE
    rw [Bool.and_eq_true, decide_eq_true_eq, cheapE_len, List.all_eq_true]
    refine ⟨by have := hp.1; omega, fun e he => ?_⟩
    obtain ⟨i, hi, rfl⟩ := List.mem_iff_getElem.1 he
    rw [cheapE_len] at hi
    have := cheapE_at l k c hi
    rw [getElem!_pos (cheapE l k c) i (by rw [cheapE_len]; exact hi)] at this
    rw [this]
    split
    · have h1 := hmem k hk
      obtain ⟨⟨a1, a2⟩, ⟨a3, a4⟩, a5⟩ := ok_parts h1
      simp only [Bool.and_eq_true, decide_eq_true_eq]
      exact ⟨⟨⟨h0, by omega⟩, a3, a4⟩, a5⟩
    · have h1 := hmem i hi
      obtain ⟨a1, a2, a3⟩ := ok_parts h1
      simp only [Bool.and_eq_true, decide_eq_true_eq]
      exact ⟨⟨a1, a2⟩, a3⟩
  · rw [cheapE_at l k c hi]
    split
    · rename_i h
      subst h
      exact ⟨rfl, rfl, hc⟩
    · exact ⟨rfl, rfl, Int.le_refl _⟩
/-- Longer lives. -/
theorem long_at (life : List Int) (m : Int) {i : Nat} (hi : i < life.length) : (life.map fun x => x + m)[i]! = life[i]! + m := by
  rw [getElem!_pos _ i (by rw [List.length_map]; exact hi), getElem!_pos life i hi, List.getElem_map]
theorem order_law {l : List Edg} (hl : validE l = true) {life : List Int} {f d : Int} {es : List Int} {a : Rou} (ha : ofP l life f d es = some a) {k : Nat} (hk : k < l.length) {c m : Int} (h0 : 0 ≤ c) (hc : c ≤ l[k]!.cost) (hm : 0 ≤ m) :
    ∃ r, ofP (cheapE l k c) (life.map fun x => x + m) f d es = some r ∧ betterP r a = true :=
  cheap_better (cheapE_ok hl hk h0 hc) (List.length_map _) (fun i hi => by rw [long_at life m hi]; omega) ha
end Go.Proofs.YtpeandbcdaikbaaGreatDoor
namespace Go.Proofs.YtpeandbcdaikbaaGreatDoor
open Go.RowKit Go.Shelf Go.Maps

theorem edC_one : ∀ (l : List Edg) (vs : List Value), vs.length = l.length → (∀ i, i < l.length → (vs[i]!).oneCell' = true) → ∀ u ∈ edC l vs, u.oneCell' = true
  | [], [], _, _, u, hu => by cases hu
  | d :: l, v :: vs, h, hv, u, hu => by
    have ih := edC_one l vs (by simpa using h) (fun i hi => by have := hv (i + 1) (by simpa using hi); simpa using this) u
    have h0 : v.oneCell' = true := hv 0 (by simp)
    rw [edC] at hu
    simp only [List.mem_cons] at hu
    rcases hu with rfl | rfl | rfl | rfl | rfl | rfl | rfl | hu
    all_goals first | rfl | exact h0 | exact ih hu
  | [], _ :: _, h, _, _, _ => by simp at h
  | _ :: _, [], h, _, _, _ => by simp at h
/-- Edges as the source of an append. -/
theorem EdgesT.src {w : World} {v : Value} {l : List Edg} (h : EdgesT w v l) : ∃ us : List Value, us.length = l.length ∧ SliceAt w w.heap.size v l.length (edC l us) ∧ (edC l us).length = l.length * 7 ∧ (∀ u ∈ edC l us, u.oneCell' = true) ∧ ∀ i, i < l.length → ClaimsT 104 w us[i]! l[i]!.does.keep := by
  obtain ⟨us, h1, h2, h3⟩ := h
  refine ⟨us, h1, h2.at, edC_len l us h1, edC_one l us h1 fun i hi => ?_, h3⟩
  obtain ⟨_, _, hr, _⟩ := h3 i hi
  obtain ⟨a, c, e, _⟩ := hr.len
  rw [e]
  rfl
theorem edC_set : ∀ (l : List Edg) (vs : List Value), vs.length = l.length → ∀ k, k < l.length → ∀ c : Int, (edC l vs).set (k * 7) (.int .i64 c) = edC (cheapE l k c) vs
  | d :: l, v :: vs, h, 0, _, c => by
    unfold cheapE
    rw [edC, Nat.zero_mul, List.set_cons_zero, List.set_cons_zero, edC]
    rfl
  | d :: l, v :: vs, h, k + 1, hk, c => by
    have ih := edC_set l vs (by simpa using h) k (by simpa using hk) c
    unfold cheapE at *
    rw [edC, show (k + 1) * 7 = k * 7 + 1 + 1 + 1 + 1 + 1 + 1 + 1 from by omega]
    simp only [List.set_cons_succ]
    rw [ih, edC]
    rfl
  | _ :: _, [], h, _, _, _ => by simp at h
  | [], _, _, _, h, _ => by simp at h
theorem cheapE_keep (l : List Edg) (k : Nat) (c : Int) {i : Nat} (hi : i < l.length) : ((cheapE l k c)[i]!).does = (l[i]!).does := by
  rw [cheapE_at l k c hi]
  split
  · rename_i h; rw [h]
  · rfl
theorem EdOwn.setCost {B g cap : Nat} {w : World} {l : List Edg} {us : List Value} (h : EdOwn B w (.slice (some ⟨g, 0, none⟩) l.length cap) l us) {k : Nat} (hk : k < l.length) (c : Int) :
    EdOwn B (w.setCell ⟨g, k * 7, none⟩ (.int .i64 c)) (.slice (some ⟨g, 0, none⟩) l.length cap) (cheapE l k c) us ∧ w.grownBy (w.setCell ⟨g, k * 7, none⟩ (.int .i64 c)) (some g) := by
  obtain ⟨h1, h2⟩ := h.own.stored (k * 7) (.int .i64 c)
  rw [edC_set l us h.len k hk c] at h1
  have hkt : KeepTy [30] w (w.setCell ⟨g, k * 7, none⟩ (.int .i64 c)) := KeepTy.grown h.own h2 (by decide)
  refine ⟨⟨by rw [cheapE_len]; exact h.len, by rw [cheapE_len]; exact h1, fun i hi => ?_⟩, h2⟩
  rw [cheapE_len] at hi
  rw [cheapE_keep l k c hi]
  exact (h.keeps i hi).keepTy (by decide) (by decide) hkt
theorem cheap_mig {l : List Edg} (h : ∀ e ∈ l, MigIn e.does) (k : Nat) (c : Int) : ∀ e ∈ cheapE l k c, MigIn e.does := fun e he => by
  obtain ⟨i, hi, rfl⟩ := List.mem_iff_getElem.1 he
  rw [cheapE_len] at hi
  rw [← getElem!_pos (cheapE l k c) i (by rw [cheapE_len]; exact hi), cheapE_keep l k c hi]
  exact h _ (by rw [getElem!_pos l i hi]; exact List.getElem_mem hi)
/-- Lives, the first ones longer. -/
def longTo (l : List Int) (m : Int) (i : Nat) : List Int := (l.take i).map (fun x => x + m) ++ l.drop i
theorem longTo_zero (l : List Int) (m : Int) : longTo l m 0 = l := by simp [longTo]
theorem longTo_all (l : List Int) (m : Int) : longTo l m l.length = l.map fun x => x + m := by simp [longTo]
theorem longTo_len (l : List Int) (m : Int) (i : Nat) : (longTo l m i).length = l.length := by
  unfold longTo
  rw [List.length_append, List.length_map, List.length_take, List.length_drop]
  omega
theorem longTo_at (l : List Int) (m : Int) {i : Nat} (hi : i < l.length) : (ints (longTo l m i))[i]? = some (.int .i64 l[i]!) := by
  unfold ints longTo
  rw [List.getElem?_map, List.getElem?_append_right (by simp; omega), getElem!_pos l i hi]
  simp only [List.length_map, List.length_take]
  rw [show i - min i l.length = 0 by omega, List.getElem?_drop]
  simp [hi]
theorem longTo_set (l : List Int) (m : Int) {i : Nat} (hi : i < l.length) : (ints (longTo l m i)).set i (.int .i64 (l[i]! + m)) = ints (longTo l m (i + 1)) := by
  unfold ints
  rw [← List.map_set]
  congr 1
  unfold longTo
  rw [List.set_append_right _ _ (by simp; omega), show i - ((l.take i).map fun x => x + m).length = 0 by simp; omega, List.drop_eq_getElem_cons hi, List.set_cons_zero, List.take_succ_eq_append_getElem hi, List.map_append, List.append_assoc, getElem!_pos l i hi]
  rfl
end Go.Proofs.YtpeandbcdaikbaaGreatDoor
