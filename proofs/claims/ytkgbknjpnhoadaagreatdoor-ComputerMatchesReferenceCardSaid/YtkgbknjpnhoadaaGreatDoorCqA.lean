/-
  The contracts of slices.Collect and slices.Clone over the computer's events.
-/
import Derived.Test.YtkgbknjpnhoadaaGreatDoorCq9
import Derived.Lib.LazyBuf
import Derived.OwnWalk
namespace Go.Proofs.YtkgbknjpnhoadaaGreatDoor
open Go.RowKit Go.Shelf

set_option maxRecDepth 100000 in
set_option maxHeartbeats 1000000 in
theorem CollectE_any (B b1 b2 most : Nat) (x0 : Cpu) (w : World) (hmost : most ≤ 20000) (ht0 : x0.time = 0) (hC : CpuAt w B x0)
    (hb1 : Arr w b1 72 [.pointer (some ⟨B, 0, none⟩)]) (hb2 : Arr w b2 3 [.int .i64 (most : Int)]) :
    Calls Tryz.prog 39 #[.func (.func 64) #[] #[.pointer (some ⟨b1, 0, none⟩), .pointer (some ⟨b2, 0, none⟩)]] w fun e W' =>
      ∃ v, e = .returned v ∧ W'.ownsRow w.heap.size 39 4 v (runs most x0).length (evCells (runs most x0)) ∧ BelowBut w.heap.size B w W' := by
  go_enter Tryz.func39, Tryz.ntmps39
  go_wp2_with fail
  refine (callsIn_wide.1 (AppendSeqE_in B b1 b2 most x0 _ hmost ht0 hC hb1 hb2)).mono ?_
  rintro e w' ⟨v, rfl, h1, h2⟩
  go_wp2_with fail
  go_ret
  exact ⟨v, rfl, h1, h2⟩

theorem sliceAt_of_own {w : World} {B s n : Nat} {e : TypeId} {v : Value} {xs : List Value} (h : w.ownsRow B e s v n xs) : SliceAt w w.heap.size v n xs := by
  obtain ⟨hl, h⟩ := h
  rcases h with ⟨rfl, rfl⟩ | ⟨g, cap, cur, rfl, hB, hg, h1, h2, h3, h4⟩
  · exact ⟨none, 0, rfl, Nat.le_refl _, by unfold maxLen; omega, fun h => by omega⟩
  · refine ⟨_, cap, rfl, h1, h2, fun _ => ⟨g, 0, rfl, (Array.getElem?_eq_some_iff.1 hg).1, fun j u hu => ?_⟩⟩
    subst h4
    rw [List.getElem?_take] at hu
    split at hu
    · rw [Nat.zero_add]
      simp only [World.cell?, hg]
      simpa using hu
    · cases hu

set_option maxRecDepth 100000 in
set_option maxHeartbeats 1000000 in
theorem CloneE_any (v : Value) (l : List Ev) (w : World) (hn : l.length ≤ 100) (hv : SliceAt w w.heap.size v l.length (evCells l)) :
    Calls Tryz.prog 38 #[v] w fun e w' => ∃ v', e = .returned v' ∧ SliceAt w' w'.heap.size v' l.length (evCells l) ∧ Below w.heap.size w w' := by
  obtain ⟨i0, hi, hz0, hz1, hz2⟩ := info_parts Tryz.info_ev
  obtain ⟨a, cap, rfl, h1, h2, hc⟩ := hv
  have hone : ∀ u ∈ evCells l, u.oneCell' = true := by
    intro u hu
    simp only [evCells, List.mem_flatMap] at hu
    obtain ⟨e, _, hu⟩ := hu
    simp only [List.mem_cons, List.not_mem_nil, or_false] at hu
    rcases hu with rfl | rfl | rfl | rfl <;> rfl
  have hel := evCells_len l
  generalize evCells l = L at *
  generalize l.length = n at *
  have hq : ∀ w : World, (binOp .eql 33 (.slice a n cap) (.slice none 0 0)).run Tryz.prog w = .ok (.bool a.isNone) w := fun w => Go.run_eql_slice_nil w _ _ a _ cap Tryz.underlying33
  cases a with
  | none =>
    obtain rfl : n = 0 := by
      rcases Nat.eq_zero_or_pos n with h | h
      · exact h
      · obtain ⟨b, o, ha, _⟩ := hc h
        cases ha
    clear hc
    go_enter Tryz.func38, Tryz.ntmps38
    go_wp2
    go_ret
    exact ⟨_, rfl, ⟨none, 0, rfl, by omega, by unfold maxLen; omega, by omega⟩, by repeat first | assumption | exact Below.refl _ _ | refine Below.drew ?_ | refine below_drewN ?_ _⟩
  | some ad =>
    have hnews : ∀ o : Obj, ∀ j u, L[j]? = some u → (w.alloc o).cell? (ad.add j) = some u := by
      intro ob j u hu
      have hl : 0 < n := by
        have := (List.getElem?_eq_some_iff.1 hu).1
        omega
      obtain ⟨b, o, ha, hlt, hx⟩ := hc hl
      cases ha
      have := hx j u hu
      simpa [Addr.add_mid] using (World.cell?_of_block (a := ⟨b, o + j, none⟩) (Below.heap_alloc w ob b hlt)).trans this
    have hown : (w.alloc (.cells #[] 39)).ownsRow w.heap.size 39 4 (.slice (some ⟨w.heap.size, 0, none⟩) 0 0) 0 [] :=
      ⟨rfl, .inr ⟨w.heap.size, 0, #[], rfl, Nat.le_refl _, World.alloc_heap_new w _, Nat.le_refl _, by unfold maxLen; omega, rfl, rfl⟩⟩
    replace hc := Lib.hid hc
    go_enter Tryz.func38, Tryz.ntmps38
    go_wp2_with (at_builtin; go_loud (refine wpList_append_own _ rfl _ _ 33 rfl w.heap.size 39 i0 (.agg #[.int .i64 0, .int .i64 0, .int .i64 0, .int .i64 0]) 4 32 Tryz.underlying33 hi hz0 hz1 hz2 rfl (by decide) (.slice (some ⟨w.heap.size, 0, none⟩) 0 0) 0 [] rfl hown ad n cap L rfl (by omega) (hnews _) hone (by unfold maxLen; omega) (by omega) (by simp) ?_; intro v' w1 hown' hgrow hnil))
    go_ret
    simp only [Nat.zero_add, List.nil_append] at hown'
    exact ⟨v', rfl, sliceAt_of_own hown', ((Below.refl _ w).alloc (Nat.le_refl _) _).grown hgrow (by simp) (fun k e => by simp [Value.ownBlock] at e; omega)⟩
end Go.Proofs.YtkgbknjpnhoadaaGreatDoor
