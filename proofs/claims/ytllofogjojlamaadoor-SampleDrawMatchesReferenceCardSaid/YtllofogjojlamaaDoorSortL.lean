/-
  The contract of slices.SortFunc at Draw's comparison: the row is sorted.
-/
import Derived.Test.YtllofogjojlamaaDoorRatio
import Derived.Test.YtllofogjojlamaaDoorSha3
import Derived.Shelf.SlSortCmp.NoneTotal
import Derived.Test.YtllofogjojlamaaDoorShelf
namespace Go.Proofs.YtllofogjojlamaaDoor
open Go.RowKit Go.Shelf Go.Lib Go.Sort

theorem lt_cmpv (x y : Int) : ltOf cmpv x y = decide (x < y) := by
  unfold ltOf cmpv
  by_cases h1 : x < y
  · simp [h1]
  · by_cases h2 : y < x <;> simp [h1, h2]
theorem swo_cmpv : SWO (ltOf cmpv) where
  irrefl x := by rw [lt_cmpv]; simp
  trans x y z h1 h2 := by rw [lt_cmpv] at *; simp at *; omega
  ntrans x y z h1 h2 := by rw [lt_cmpv] at *; simp at *; omega
theorem tot_cmpv (x y : Int) (h1 : ltOf cmpv x y = false) (h2 : ltOf cmpv y x = false) : x = y := by rw [lt_cmpv] at *; simp at *; omega
theorem le_cmpv : (fun x y : Int => !ltOf cmpv y x) = fun x y => decide (x ≤ y) := by
  funext x y
  rw [lt_cmpv]
  by_cases h : x ≤ y
  · have h' : ¬ y < x := by omega
    simp [h, h']
  · have h' : y < x := by omega
    simp [h, h']

set_option maxHeartbeats 400000 in
theorem drawIs_any (x y : Int) (W : World) : Calls Tryd.prog 18 #[.int .i64 x, .int .i64 y] W fun e w' => e = .returned (.int .i64 (cmpv x y)) ∧ ∃ q, w' = W.drewN q := by
  have hcon := cmp_any x y W
  generalize cmpv x y = r at hcon ⊢
  go_enter Tryd.func18, Tryd.ntmps18
  go_wp2_with (go_at_call 19; refine hcon.mono ?_; rintro e w' ⟨rfl, rfl⟩)
  go_ret
  exact ⟨rfl, 0, rfl⟩
theorem drawReads (blk off size : Nat) (w : World) : CmpReads Tryd.prog 18 #[] (Value.int .i64) cmpv blk off size w := fun _ _ _ _ x y => drawIs_any x y _

/-- Numbers in ascending order. -/
def sortI (l : List Int) : List Int := l.mergeSort fun x y => decide (x ≤ y)
theorem sortI_len (l : List Int) : (sortI l).length = l.length := by simp [sortI]

theorem but_sortWorld (enc : Int → Value) (w : World) (g n : Nat) (d : Array Int) (os : Array Obj) : BelowBut w.heap.size g w (sortWorld enc w g 0 n d os) := by
  unfold sortWorld
  refine ⟨rfl, rfl, rfl, ?_, fun k hk hne => ?_⟩
  · simp [Sort.ahead]
  · rw [heap_grow_old _ _ (by simpa [size_putRow, Sort.ahead] using hk)]
    have hne' : ¬ g = k := fun e => hne e.symm
    simp only [putRow, mapBlock, Array.getElem?_modify, if_neg hne']
    rfl

set_option maxHeartbeats 1000000 in
theorem sort_any (g cap : Nat) (l : List Int) (w : World) (hl : l.length ≤ 1000) (hg : g < w.heap.size)
    (hc : ∀ j, j < l.length → w.cell? ⟨g, j, none⟩ = some (.int .i64 (l.getD j 0)) ∧ w.frozen? ⟨g, j, none⟩ = false) :
    Calls Tryd.prog 17 #[.slice (some ⟨g, 0, none⟩) l.length cap, .func (.func 18) #[] #[]] w fun e w' =>
      e = .returned (.tuple #[]) ∧ (∀ j, j < l.length → w'.cell? ⟨g, j, none⟩ = some (.int .i64 ((sortI l).getD j 0))) ∧ BelowBut w.heap.size g w w' := by
  by_cases h0 : l = []
  · subst h0
    have hS := AnyF.slices_SortFunc_none (P := Tryd.prog) (ρ := Tryd.sortL_ren) { Tryd.sortL with } (some ⟨g, 0, none⟩) cap (.func (.func 18) #[] #[]) w
    change Calls Tryd.prog 17 _ _ _ at hS
    exact hS.mono fun e w' ⟨he, hw⟩ => ⟨he, fun j hj => by simp at hj, by rw [hw]; exact ⟨rfl, rfl, rfl, Nat.le_refl _, fun _ _ _ => rfl⟩⟩
  · have hH : Holds (Value.int .i64) w g 0 l.toArray := fun j hj => by
      have hj' : j < l.length := by simpa using hj
      have := hc j hj'
      rw [Nat.zero_add]
      simpa [List.getD_eq_getElem?_getD, hj'] using this
    have eg : ∀ args w, (callFunc 18 args).run Tryd.prog w = .ok (.enter 18 args) w := enters_of Tryd.func18 (by kernel_rfl) rfl
    have hS := Any.slices_SortFunc_total Tryd.sortL (Value.int .i64) (fun _ => rfl) cmpv swo_cmpv 18 #[] g 0 cap l.toArray w eg (drawReads g 0 l.toArray.size w).lays hH hg (by simp; omega) tot_cmpv
    rw [le_cmpv] at hS
    change Calls Tryd.prog 17 _ _ _ at hS
    rw [List.size_toArray] at hS
    refine hS.mono ?_
    rintro e w' ⟨he, n, os, rfl⟩
    have hd : (sortI l).toArray.size = l.toArray.size := by simp [sortI_len]
    have hh := holds_sortWorld (Value.int .i64) w g 0 n l.toArray (sortI l).toArray os hg hH hd
    have hd2 : sortI l = l.mergeSort fun x y => decide (x ≤ y) := rfl
    rw [← hd2]
    generalize sortI l = r at *
    refine ⟨he, fun j hj => ?_, but_sortWorld _ w g n _ os⟩
    have hj2 : j < r.length := by simp at hd; omega
    have := (hh j (by simpa using hj2)).1
    rw [Nat.zero_add] at this
    simpa [List.getD_eq_getElem?_getD, hj2] using this
end Go.Proofs.YtllofogjojlamaaDoor
