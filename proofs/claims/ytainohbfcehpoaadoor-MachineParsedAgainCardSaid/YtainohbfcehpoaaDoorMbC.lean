/-
  The contract of calculate.
-/
import Derived.Test.YtainohbfcehpoaaDoorMbB
namespace Go.Proofs.YtainohbfcehpoaaDoor
open Go.RowKit Go.Shelf

theorem own_top {W : World} {B g c : Nat} {st : List Int} {a u : Int} (h : W.ownsRow B 3 1 (.slice (some ⟨g, 0, none⟩) (st.length + 1) c) (st.length + 1) (intC (a :: st).reverse)) :
    (W.setCell ⟨g, st.length, none⟩ (.int .i64 u)).ownsRow B 3 1 (.slice (some ⟨g, 0, none⟩) (st.length + 1) c) (st.length + 1) (intC (u :: st).reverse) := by
  obtain ⟨_, h⟩ := h
  refine ⟨by simp [intC], ?_⟩
  rcases h with ⟨h, _⟩ | ⟨g', cap, cur, hv, h1, h2, h3, h4, h5, h6⟩
  · cases h
  · injection hv with e1 e2 e3
    injection e1 with e1
    injection e1 with e1
    subst e1 e3
    refine .inr ⟨g, c, cur.setIfInBounds st.length (.int .i64 u), rfl, h1, cell_setRow_ok h2 _, h3, h4, by simpa using h5, ?_⟩
    rw [Array.toList_setIfInBounds, List.take_set, h6]
    simp only [intC, List.reverse_cons, List.map_append, List.map_cons, List.map_nil]
    rw [List.set_append_right _ _ (by simp)]
    simp
theorem MAt.top {mB g c : Nat} {a u : Int} {st : List Int} {inp out : List UInt8} {W : World} {ov : Value} (hA : Arr W mB 63 [.slice (some ⟨g, 0, none⟩) (st.length + 1) c, .string (str inp), ov]) (h2 : W.ownsRow (mB + 1) 3 1 (.slice (some ⟨g, 0, none⟩) (st.length + 1) c) (st.length + 1) (intC (a :: st).reverse)) (h3 : W.ownsRow (mB + 1) 5 1 ov out.length (u8C out)) :
    MAt mB (u :: st) inp out (W.setCell ⟨g, st.length, none⟩ (.int .i64 u)) := by
  have hg := (h2.lt g rfl).1
  refine ⟨_, ov, hA.other _ (by omega), own_top h2, h3.1, ?_⟩
  rcases h3.2 with hh | ⟨g3, c3, cur3, hv, q1, q2, r⟩
  · exact .inl hh
  · refine .inr ⟨g3, c3, cur3, hv, q1, (heap_setCell_other _ _ _ _ ?_).trans q2, r⟩
    intro e
    simp only at e
    rcases h2.2 with ⟨h, _⟩ | ⟨g2, c2, cur2, hv2, _, hg2, _⟩
    · cases h
    · injection hv2 with e1
      injection e1 with e1
      injection e1 with e1
      rw [← e1, ← e, q2] at hg2
      injection hg2 with hg2
      injection hg2 with _ hg2 _
      exact absurd hg2 (by decide)
theorem w64_wrap (n : Int) : w64 n = wrap64 n := IntWalk.i64_left n
theorem belowBut_of {C B x : Nat} {w w' : World} (h : BelowBut B x w w') (hx : C ≤ x) (hC : C ≤ B) : Below C w w' := h.below hx hC
set_option maxRecDepth 100000 in
set_option maxHeartbeats 4000000 in
theorem calc0 (mB : Nat) (off opd to : Nat) (st : List Int) (inp out : List UInt8) (W : World) (h : MAt mB st inp out W) (hl : st.length ≤ 50000) :
    Calls Tryd.prog 29 #[.pointer (some ⟨mB, 0, none⟩), insAgg off 0 opd to] W fun e W' => e = .returned (.tuple #[]) ∧ MAt mB ((opd : Int) :: st) inp out W' ∧ Below mB W W' := by
  have hmB := h.lt
  have h1 : MAt mB st inp out (W.alloc (.cells #[.int .i64 (off : Int), .int .i64 0, .int .i64 (opd : Int), .int .i64 (to : Int)] 66)) := h.below ((Below.refl _ _).alloc (Nat.le_refl _) _)
  have hB1 : Below mB W (W.alloc (.cells #[.int .i64 (off : Int), .int .i64 0, .int .i64 (opd : Int), .int .i64 (to : Int)] 66)) := (Below.refl mB W).alloc (Nat.le_of_lt hmB) _
  have hs1 : W.heap.size < (W.alloc (.cells #[.int .i64 (off : Int), .int .i64 0, .int .i64 (opd : Int), .int .i64 (to : Int)] 66)).heap.size := by simp
  clear h
  unfold insAgg
  go_enter Tryd.func29, Tryd.ntmps29
  have hA1 : Arr ((W.alloc (.cells #[.int .i64 (off : Int), .int .i64 0, .int .i64 (opd : Int), .int .i64 (to : Int)] 66)).alloc (.cells #[.int .i64 (opd : Int)] 3)) (W.alloc (.cells #[.int .i64 (off : Int), .int .i64 0, .int .i64 (opd : Int), .int .i64 (to : Int)] 66)).heap.size 3 (intC [(opd : Int)]) := Arr.new rfl rfl
  have hp1 := Lib.hid (push_any mB st [(opd : Int)] inp out ((W.alloc (.cells #[.int .i64 (off : Int), .int .i64 0, .int .i64 (opd : Int), .int .i64 (to : Int)] 66)).alloc (.cells #[.int .i64 (opd : Int)] 3)) (W.alloc (.cells #[.int .i64 (off : Int), .int .i64 0, .int .i64 (opd : Int), .int .i64 (to : Int)] 66)).heap.size 1 rfl (h1.below ((Below.refl _ _).alloc (Nat.le_refl _) _)) hA1 (by first | omega | (simp; omega)) (by simp))
  have hB2 := hB1.alloc (Nat.le_of_lt h1.lt) (.cells #[.int .i64 (opd : Int)] 3)
  simp only [World.size_alloc] at hp1
  go_wp2_with fail
  refine hp1.out.mono ?_
  rintro e W2 ⟨rfl, h2, hbp2⟩
  replace hB2 := hB2.trans hbp2
  go_wp2_with fail
  go_end0
  exact ⟨rfl, h2, hB2⟩

set_option maxRecDepth 100000 in
set_option maxHeartbeats 4000000 in
theorem calc1 (mB : Nat) (off opd to : Nat) (a : Int) (st : List Int) (inp out : List UInt8) (W : World) (h : MAt mB (a :: st) inp out W) (hl : st.length ≤ 50000) :
    Calls Tryd.prog 29 #[.pointer (some ⟨mB, 0, none⟩), insAgg off 1 opd to] W fun e W' => e = .returned (.tuple #[]) ∧ MAt mB (a :: a :: st) inp out W' ∧ Below mB W W' := by
  have hmB := h.lt
  have h1 : MAt mB (a :: st) inp out (W.alloc (.cells #[.int .i64 (off : Int), .int .i64 1, .int .i64 (opd : Int), .int .i64 (to : Int)] 66)) := h.below ((Below.refl _ _).alloc (Nat.le_refl _) _)
  have hB1 : Below mB W (W.alloc (.cells #[.int .i64 (off : Int), .int .i64 1, .int .i64 (opd : Int), .int .i64 (to : Int)] 66)) := (Below.refl mB W).alloc (Nat.le_of_lt hmB) _
  have hs1 : W.heap.size < (W.alloc (.cells #[.int .i64 (off : Int), .int .i64 1, .int .i64 (opd : Int), .int .i64 (to : Int)] 66)).heap.size := by simp
  clear h
  unfold insAgg
  go_enter Tryd.func29, Tryd.ntmps29
  go_wp2_with fail
  obtain ⟨W1, hW1⟩ : ∃ W1, W1 = W.alloc (.cells #[.int .i64 (off : Int), .int .i64 1, .int .i64 (opd : Int), .int .i64 (to : Int)] 66) := ⟨_, rfl⟩
  rw [← hW1] at h1 hB1 hs1
  rw [← hW1]
  clear hW1
  refine (pop_any mB a st inp out W1 h1 (by first | omega | (simp; omega))).mono ?_
  rintro e W2 ⟨rfl, h2, hbb2, _⟩
  have hB2 := hB1.trans (hbb2.below (Nat.le_refl mB) (Nat.le_of_lt h1.lt))
  have hA2 : Arr (W2.alloc (.cells #[.int .i64 a, .int .i64 a] 3)) W2.heap.size 3 (intC [a, a]) := Arr.new rfl rfl
  have hp2 := Lib.hid (push_any mB st [a, a] inp out (W2.alloc (.cells #[.int .i64 a, .int .i64 a] 3)) W2.heap.size 2 rfl (h2.below ((Below.refl _ _).alloc (Nat.le_refl _) _)) hA2 (by first | omega | (simp; omega)) (by simp))
  have hB3 := hB2.alloc (Nat.le_of_lt h2.lt) (.cells #[.int .i64 a, .int .i64 a] 3)
  go_wp2_with fail
  refine hp2.out.mono ?_
  rintro e W3 ⟨rfl, h3, hbp3⟩
  replace hB3 := hB3.trans hbp3
  go_wp2_with fail
  go_end0
  exact ⟨rfl, h3, hB3⟩

set_option maxRecDepth 100000 in
set_option maxHeartbeats 4000000 in
theorem calc2 (mB : Nat) (off opd to : Nat) (b a : Int) (st : List Int) (inp out : List UInt8) (W : World) (h : MAt mB (b :: a :: st) inp out W) (hl : st.length ≤ 50000) :
    Calls Tryd.prog 29 #[.pointer (some ⟨mB, 0, none⟩), insAgg off 2 opd to] W fun e W' => e = .returned (.tuple #[]) ∧ MAt mB (a :: b :: st) inp out W' ∧ Below mB W W' := by
  have hmB := h.lt
  have h1 : MAt mB (b :: a :: st) inp out (W.alloc (.cells #[.int .i64 (off : Int), .int .i64 2, .int .i64 (opd : Int), .int .i64 (to : Int)] 66)) := h.below ((Below.refl _ _).alloc (Nat.le_refl _) _)
  have hB1 : Below mB W (W.alloc (.cells #[.int .i64 (off : Int), .int .i64 2, .int .i64 (opd : Int), .int .i64 (to : Int)] 66)) := (Below.refl mB W).alloc (Nat.le_of_lt hmB) _
  have hs1 : W.heap.size < (W.alloc (.cells #[.int .i64 (off : Int), .int .i64 2, .int .i64 (opd : Int), .int .i64 (to : Int)] 66)).heap.size := by simp
  clear h
  unfold insAgg
  go_enter Tryd.func29, Tryd.ntmps29
  go_wp2_with fail
  obtain ⟨W1, hW1⟩ : ∃ W1, W1 = W.alloc (.cells #[.int .i64 (off : Int), .int .i64 2, .int .i64 (opd : Int), .int .i64 (to : Int)] 66) := ⟨_, rfl⟩
  rw [← hW1] at h1 hB1 hs1
  rw [← hW1]
  clear hW1
  refine (pop_any mB b (a :: st) inp out W1 h1 (by first | omega | (simp; omega))).mono ?_
  rintro e W2 ⟨rfl, h2, hbb2, _⟩
  have hB2 := hB1.trans (hbb2.below (Nat.le_refl mB) (Nat.le_of_lt h1.lt))
  go_wp2_with fail
  refine (pop_any mB a st inp out W2 h2 (by first | omega | (simp; omega))).mono ?_
  rintro e W3 ⟨rfl, h3, hbb3, _⟩
  have hB3 := hB2.trans (hbb3.below (Nat.le_refl mB) (Nat.le_of_lt h2.lt))
  have hA3 : Arr (W3.alloc (.cells #[.int .i64 b, .int .i64 a] 3)) W3.heap.size 3 (intC [b, a]) := Arr.new rfl rfl
  have hp3 := Lib.hid (push_any mB st [b, a] inp out (W3.alloc (.cells #[.int .i64 b, .int .i64 a] 3)) W3.heap.size 2 rfl (h3.below ((Below.refl _ _).alloc (Nat.le_refl _) _)) hA3 (by first | omega | (simp; omega)) (by simp))
  have hB4 := hB3.alloc (Nat.le_of_lt h3.lt) (.cells #[.int .i64 b, .int .i64 a] 3)
  go_wp2_with fail
  refine hp3.out.mono ?_
  rintro e W4 ⟨rfl, h4, hbp4⟩
  replace hB4 := hB4.trans hbp4
  go_wp2_with fail
  go_end0
  exact ⟨rfl, h4, hB4⟩

set_option maxRecDepth 100000 in
set_option maxHeartbeats 4000000 in
theorem calc3 (mB : Nat) (off opd to : Nat) (a : Int) (st : List Int) (inp out : List UInt8) (W : World) (h : MAt mB (a :: st) inp out W) (hl : st.length ≤ 50000) :
    Calls Tryd.prog 29 #[.pointer (some ⟨mB, 0, none⟩), insAgg off 3 opd to] W fun e W' => e = .returned (.tuple #[]) ∧ MAt mB st inp out W' ∧ Below mB W W' := by
  have hmB := h.lt
  have h1 : MAt mB (a :: st) inp out (W.alloc (.cells #[.int .i64 (off : Int), .int .i64 3, .int .i64 (opd : Int), .int .i64 (to : Int)] 66)) := h.below ((Below.refl _ _).alloc (Nat.le_refl _) _)
  have hB1 : Below mB W (W.alloc (.cells #[.int .i64 (off : Int), .int .i64 3, .int .i64 (opd : Int), .int .i64 (to : Int)] 66)) := (Below.refl mB W).alloc (Nat.le_of_lt hmB) _
  have hs1 : W.heap.size < (W.alloc (.cells #[.int .i64 (off : Int), .int .i64 3, .int .i64 (opd : Int), .int .i64 (to : Int)] 66)).heap.size := by simp
  clear h
  unfold insAgg
  go_enter Tryd.func29, Tryd.ntmps29
  go_wp2_with fail
  obtain ⟨W1, hW1⟩ : ∃ W1, W1 = W.alloc (.cells #[.int .i64 (off : Int), .int .i64 3, .int .i64 (opd : Int), .int .i64 (to : Int)] 66) := ⟨_, rfl⟩
  rw [← hW1] at h1 hB1 hs1
  rw [← hW1]
  clear hW1
  refine (pop_any mB a st inp out W1 h1 (by first | omega | (simp; omega))).mono ?_
  rintro e W2 ⟨rfl, h2, hbb2, _⟩
  have hB2 := hB1.trans (hbb2.below (Nat.le_refl mB) (Nat.le_of_lt h1.lt))
  go_wp2_with fail
  go_end0
  exact ⟨rfl, h2, hB2⟩

set_option maxRecDepth 100000 in
set_option maxHeartbeats 4000000 in
theorem calc4 (mB : Nat) (off opd to : Nat) (b a : Int) (st : List Int) (inp out : List UInt8) (W : World) (h : MAt mB (b :: a :: st) inp out W) (hl : st.length ≤ 50000) :
    Calls Tryd.prog 29 #[.pointer (some ⟨mB, 0, none⟩), insAgg off 4 opd to] W fun e W' => e = .returned (.tuple #[]) ∧ MAt mB (w64 (a + b) :: st) inp out W' ∧ Below mB W W' := by
  have hmB := h.lt
  have h1 : MAt mB (b :: a :: st) inp out (W.alloc (.cells #[.int .i64 (off : Int), .int .i64 4, .int .i64 (opd : Int), .int .i64 (to : Int)] 66)) := h.below ((Below.refl _ _).alloc (Nat.le_refl _) _)
  have hB1 : Below mB W (W.alloc (.cells #[.int .i64 (off : Int), .int .i64 4, .int .i64 (opd : Int), .int .i64 (to : Int)] 66)) := (Below.refl mB W).alloc (Nat.le_of_lt hmB) _
  have hs1 : W.heap.size < (W.alloc (.cells #[.int .i64 (off : Int), .int .i64 4, .int .i64 (opd : Int), .int .i64 (to : Int)] 66)).heap.size := by simp
  clear h
  unfold insAgg
  go_enter Tryd.func29, Tryd.ntmps29
  go_wp2_with fail
  obtain ⟨W1, hW1⟩ : ∃ W1, W1 = W.alloc (.cells #[.int .i64 (off : Int), .int .i64 4, .int .i64 (opd : Int), .int .i64 (to : Int)] 66) := ⟨_, rfl⟩
  rw [← hW1] at h1 hB1 hs1
  rw [← hW1]
  clear hW1
  refine (pop_any mB b (a :: st) inp out W1 h1 (by first | omega | (simp; omega))).mono ?_
  rintro e W2 ⟨rfl, h2, hbb2, _⟩
  have hB2 := hB1.trans (hbb2.below (Nat.le_refl mB) (Nat.le_of_lt h1.lt))
  go_wp2_with fail
  refine (pop_any mB a st inp out W2 h2 (by first | omega | (simp; omega))).mono ?_
  rintro e W3 ⟨rfl, h3, hbb3, _⟩
  have hB3 := hB2.trans (hbb3.below (Nat.le_refl mB) (Nat.le_of_lt h2.lt))
  have hA3 : Arr (W3.alloc (.cells #[.int .i64 (w64 (a + b))] 3)) W3.heap.size 3 (intC [w64 (a + b)]) := Arr.new rfl rfl
  have hp3 := Lib.hid (push_any mB st [w64 (a + b)] inp out (W3.alloc (.cells #[.int .i64 (w64 (a + b))] 3)) W3.heap.size 1 rfl (h3.below ((Below.refl _ _).alloc (Nat.le_refl _) _)) hA3 (by first | omega | (simp; omega)) (by simp))
  have hB4 := hB3.alloc (Nat.le_of_lt h3.lt) (.cells #[.int .i64 (w64 (a + b))] 3)
  simp only [w64_wrap] at hp3 hB4
  go_wp2_with fail
  refine hp3.out.mono ?_
  rintro e W4 ⟨rfl, h4, hbp4⟩
  replace hB4 := hB4.trans hbp4
  go_wp2_with fail
  go_end0
  rw [w64_wrap]
  exact ⟨rfl, h4, hB4⟩

set_option maxRecDepth 100000 in
set_option maxHeartbeats 4000000 in
theorem calc5 (mB : Nat) (off opd to : Nat) (b a : Int) (st : List Int) (inp out : List UInt8) (W : World) (h : MAt mB (b :: a :: st) inp out W) (hl : st.length ≤ 50000) :
    Calls Tryd.prog 29 #[.pointer (some ⟨mB, 0, none⟩), insAgg off 5 opd to] W fun e W' => e = .returned (.tuple #[]) ∧ MAt mB (w64 (a - b) :: st) inp out W' ∧ Below mB W W' := by
  have hmB := h.lt
  have h1 : MAt mB (b :: a :: st) inp out (W.alloc (.cells #[.int .i64 (off : Int), .int .i64 5, .int .i64 (opd : Int), .int .i64 (to : Int)] 66)) := h.below ((Below.refl _ _).alloc (Nat.le_refl _) _)
  have hB1 : Below mB W (W.alloc (.cells #[.int .i64 (off : Int), .int .i64 5, .int .i64 (opd : Int), .int .i64 (to : Int)] 66)) := (Below.refl mB W).alloc (Nat.le_of_lt hmB) _
  have hs1 : W.heap.size < (W.alloc (.cells #[.int .i64 (off : Int), .int .i64 5, .int .i64 (opd : Int), .int .i64 (to : Int)] 66)).heap.size := by simp
  clear h
  unfold insAgg
  go_enter Tryd.func29, Tryd.ntmps29
  go_wp2_with fail
  obtain ⟨W1, hW1⟩ : ∃ W1, W1 = W.alloc (.cells #[.int .i64 (off : Int), .int .i64 5, .int .i64 (opd : Int), .int .i64 (to : Int)] 66) := ⟨_, rfl⟩
  rw [← hW1] at h1 hB1 hs1
  rw [← hW1]
  clear hW1
  refine (pop_any mB b (a :: st) inp out W1 h1 (by first | omega | (simp; omega))).mono ?_
  rintro e W2 ⟨rfl, h2, hbb2, _⟩
  have hB2 := hB1.trans (hbb2.below (Nat.le_refl mB) (Nat.le_of_lt h1.lt))
  go_wp2_with fail
  refine (pop_any mB a st inp out W2 h2 (by first | omega | (simp; omega))).mono ?_
  rintro e W3 ⟨rfl, h3, hbb3, _⟩
  have hB3 := hB2.trans (hbb3.below (Nat.le_refl mB) (Nat.le_of_lt h2.lt))
  have hA3 : Arr (W3.alloc (.cells #[.int .i64 (w64 (a - b))] 3)) W3.heap.size 3 (intC [w64 (a - b)]) := Arr.new rfl rfl
  have hp3 := Lib.hid (push_any mB st [w64 (a - b)] inp out (W3.alloc (.cells #[.int .i64 (w64 (a - b))] 3)) W3.heap.size 1 rfl (h3.below ((Below.refl _ _).alloc (Nat.le_refl _) _)) hA3 (by first | omega | (simp; omega)) (by simp))
  have hB4 := hB3.alloc (Nat.le_of_lt h3.lt) (.cells #[.int .i64 (w64 (a - b))] 3)
  simp only [w64_wrap] at hp3 hB4
  go_wp2_with fail
  refine hp3.out.mono ?_
  rintro e W4 ⟨rfl, h4, hbp4⟩
  replace hB4 := hB4.trans hbp4
  go_wp2_with fail
  go_end0
  rw [w64_wrap]
  exact ⟨rfl, h4, hB4⟩

set_option maxRecDepth 100000 in
set_option maxHeartbeats 4000000 in
theorem calc6 (mB : Nat) (off opd to : Nat) (b a : Int) (st : List Int) (inp out : List UInt8) (W : World) (h : MAt mB (b :: a :: st) inp out W) (hl : st.length ≤ 50000) :
    Calls Tryd.prog 29 #[.pointer (some ⟨mB, 0, none⟩), insAgg off 6 opd to] W fun e W' => e = .returned (.tuple #[]) ∧ MAt mB ((if a < b then 1 else 0) :: st) inp out W' ∧ Below mB W W' := by
  have hmB := h.lt
  have h1 : MAt mB (b :: a :: st) inp out (W.alloc (.cells #[.int .i64 (off : Int), .int .i64 6, .int .i64 (opd : Int), .int .i64 (to : Int)] 66)) := h.below ((Below.refl _ _).alloc (Nat.le_refl _) _)
  have hB1 : Below mB W (W.alloc (.cells #[.int .i64 (off : Int), .int .i64 6, .int .i64 (opd : Int), .int .i64 (to : Int)] 66)) := (Below.refl mB W).alloc (Nat.le_of_lt hmB) _
  have hs1 : W.heap.size < (W.alloc (.cells #[.int .i64 (off : Int), .int .i64 6, .int .i64 (opd : Int), .int .i64 (to : Int)] 66)).heap.size := by simp
  clear h
  unfold insAgg
  go_enter Tryd.func29, Tryd.ntmps29
  go_wp2_with fail
  obtain ⟨W1, hW1⟩ : ∃ W1, W1 = W.alloc (.cells #[.int .i64 (off : Int), .int .i64 6, .int .i64 (opd : Int), .int .i64 (to : Int)] 66) := ⟨_, rfl⟩
  rw [← hW1] at h1 hB1 hs1
  rw [← hW1]
  clear hW1
  refine (pop_any mB b (a :: st) inp out W1 h1 (by first | omega | (simp; omega))).mono ?_
  rintro e W2 ⟨rfl, h2, hbb2, _⟩
  have hB2 := hB1.trans (hbb2.below (Nat.le_refl mB) (Nat.le_of_lt h1.lt))
  go_wp2_with fail
  refine (pop_any mB a st inp out W2 h2 (by first | omega | (simp; omega))).mono ?_
  rintro e W3 ⟨rfl, h3, hbb3, _⟩
  have hB3 := hB2.trans (hbb3.below (Nat.le_refl mB) (Nat.le_of_lt h2.lt))
  have hA3 : Arr (W3.alloc (.cells #[.int .i64 0] 3)) W3.heap.size 3 (intC [0]) := Arr.new rfl rfl
  have hp3 := Lib.hid (push_any mB st [0] inp out (W3.alloc (.cells #[.int .i64 0] 3)) W3.heap.size 1 rfl (h3.below ((Below.refl _ _).alloc (Nat.le_refl _) _)) hA3 (by first | omega | (simp; omega)) (by simp))
  have hB4 := hB3.alloc (Nat.le_of_lt h3.lt) (.cells #[.int .i64 0] 3)
  go_wp2_with fail
  refine hp3.out.mono ?_
  rintro e W4 ⟨rfl, h4, hbp4⟩
  replace hB4 := hB4.trans hbp4
  by_cases hab : a < b
  · have hd : decide (a < b) = true := by simpa using hab
    obtain ⟨sv, ov, hA, q2, q3⟩ := h4.blk
    change W4.ownsRow (mB + 1) 3 1 sv (st.length + 1) (intC (0 :: st).reverse) at q2
    obtain ⟨g, c, rfl, hg, hc, hcm, hgl, hcells⟩ := own_cells q2
    have hT := Lib.hid (MAt.top (u := 1) hA q2 q3)
    have c0 := hA.cell (j := 0) rfl
    obtain ⟨cT, fT⟩ := hcells st.length (.int .i64 0) (by simp [intC])
    have d0 : (W4.setCell ⟨g, st.length, none⟩ (.int .i64 1)).cell? ⟨mB, 0, none⟩ = some (.slice (some ⟨g, 0, none⟩) (st.length + 1) c) := (World.cell?_setCell_other _ _ _ _ (by intro e; injection e with e _; omega)).trans c0
    have hw1 : IntKind.i64.wrap (st.length : Int) = (st.length : Int) := IntWalk.i64_in _ (by omega)
    have i1 : (0 : Int) ≤ (st.length : Int) := by omega
    have i2 : (st.length : Int) < (st.length : Int) + 1 := by omega
    clear hA q2 q3 hcells h1 h2 h3 h4 hp3 hA3
    go_wp2_with fail
    refine wp_region_held_drew (S := fun w' => w'.cell? ⟨mB, 0, none⟩ = some (.slice (some ⟨g, 0, none⟩) (st.length + 1) c)) (by kernel_rfl) (by exact c0) (fun hHeld => ?_)
    refine take_l (i := 0) (v := ?_) rfl (by kernel_rfl) (by kernel_rfl) (by kernel_rfl) (fun _ _ _ h => h) (Or.inl ⟨by kernel_rfl, ?_⟩) (by assumption) ?_
    rotate_left
    · intro w hSw; (try dsimp only at hSw); go_simp; (try with_reducible rfl)
    (try simp only [Act.put, List.setIfInBounds_toArray, List.set_cons_zero, List.set_cons_succ])
    refine take_l (i := 1) (v := ?_) rfl (by kernel_rfl) (by kernel_rfl) (by kernel_rfl) (fun _ _ _ h => h) (Or.inl ⟨by kernel_rfl, ?_⟩) (by assumption) ?_
    rotate_left
    · intro w hSw; (try dsimp only at hSw); go_simp; (try with_reducible rfl)
    (try simp only [Act.put, List.setIfInBounds_toArray, List.set_cons_zero, List.set_cons_succ])
    refine take_l (i := 2) (v := ?_) rfl (by kernel_rfl) (by kernel_rfl) (by kernel_rfl) (fun _ _ _ h => h) (Or.inl ⟨by kernel_rfl, ?_⟩) (by assumption) ?_
    rotate_left
    · intro w hSw; (try dsimp only at hSw); go_simp; (try with_reducible rfl)
    (try simp only [Act.put, List.setIfInBounds_toArray, List.set_cons_zero, List.set_cons_succ])
    refine take_l (i := 3) (v := ?_) rfl (by kernel_rfl) (by kernel_rfl) (by kernel_rfl) (fun _ _ _ h => h) (Or.inl ⟨by kernel_rfl, ?_⟩) (by assumption) ?_
    rotate_left
    · intro w hSw; (try dsimp only at hSw); go_simp; (try with_reducible rfl)
    (try simp only [Act.put, List.setIfInBounds_toArray, List.set_cons_zero, List.set_cons_succ])
    refine take_l (i := 4) (v := ?_) rfl (by kernel_rfl) (by kernel_rfl) (by kernel_rfl) (fun _ _ _ h => h) (Or.inl ⟨by kernel_rfl, ?_⟩) (by assumption) ?_
    rotate_left
    · intro w hSw; (try dsimp only at hSw); go_simp; (try with_reducible rfl)
    (try simp only [Act.put, List.setIfInBounds_toArray, List.set_cons_zero, List.set_cons_succ])
    refine take_l (i := 5) (v := ?_) rfl (by kernel_rfl) (by kernel_rfl) (by kernel_rfl) (fun _ _ _ h => h) (Or.inl ⟨by kernel_rfl, ?_⟩) (by assumption) ?_
    rotate_left
    · intro w hSw; (try dsimp only at hSw); go_simp; (try with_reducible rfl)
    (try simp only [Act.put, List.setIfInBounds_toArray, List.set_cons_zero, List.set_cons_succ])
    refine take_l (i := 6) (v := ?_) rfl (by kernel_rfl) (by kernel_rfl) (by kernel_rfl) (fun _ _ _ h => h) (Or.inl ⟨by kernel_rfl, ?_⟩) (by assumption) ?_
    rotate_left
    · intro w hSw; (try dsimp only at hSw); go_simp; (try with_reducible rfl)
    (try simp only [Act.put, List.setIfInBounds_toArray, List.set_cons_zero, List.set_cons_succ])
    refine take_l (i := 7) (v := ?_) rfl (by kernel_rfl) (by kernel_rfl) (by kernel_rfl) (fun _ _ _ h => h) (Or.inl ⟨by kernel_rfl, ?_⟩) (by assumption) ?_
    rotate_left
    · intro w hSw; (try dsimp only at hSw); go_simp; (try with_reducible rfl)
    (try simp only [Act.put, List.setIfInBounds_toArray, List.set_cons_zero, List.set_cons_succ])
    refine take_l (i := 8) (v := ?_) rfl (by kernel_rfl) (by kernel_rfl) (by kernel_rfl) (fun _ _ _ h => h) (Or.inl ⟨by kernel_rfl, ?_⟩) (by assumption) ?_
    rotate_left
    · intro w hSw; (try dsimp only at hSw); go_simp; (try with_reducible rfl)
    (try simp only [Act.put, List.setIfInBounds_toArray, List.set_cons_zero, List.set_cons_succ])
    refine take_l (i := 9) (v := ?_) rfl (by kernel_rfl) (by kernel_rfl) (by kernel_rfl) (fun _ _ _ h => h) (Or.inl ⟨by kernel_rfl, ?_⟩) (by assumption) ?_
    rotate_left
    · intro w hSw; (try dsimp only at hSw); go_simp; (try with_reducible rfl)
    (try simp only [Act.put, List.setIfInBounds_toArray, List.set_cons_zero, List.set_cons_succ])
    refine take_l (i := 10) (v := ?_) rfl (by kernel_rfl) (by kernel_rfl) (by kernel_rfl) (fun _ _ _ h => h) (Or.inl ⟨by kernel_rfl, ?_⟩) (by assumption) ?_
    rotate_left
    · intro w hSw; (try dsimp only at hSw); go_simp; (try with_reducible rfl)
    (try simp only [Act.put, List.setIfInBounds_toArray, List.set_cons_zero, List.set_cons_succ])
    refine wpAnyH_ready (rs := [11]) (by kernel_rfl) (by simp) ?_
    refine ready_l rfl (fun K hK => ?_) AllReadyH.nil
    go_simp
    refine hK.out _ _ (by exact d0) (fun hHeld => ?_)
    clear hK K
    (try simp only [Act.put, List.setIfInBounds_toArray, List.set_cons_zero, List.set_cons_succ])
    refine wpAnyH_done (by kernel_rfl) ?_ _
    go_wp2_with fail
    go_end0
    exact ⟨rfl, hT.out.below (Below.refl _ _).drew, (hB4.setCell (p := ⟨g, st.length, none⟩) (by show mB ≤ g; omega) _).drew⟩
  · have hd : decide (a < b) = false := by simpa using hab
    go_wp2_with fail
    go_end0
    exact ⟨rfl, h4, hB4⟩

theorem calculate_any (mB : Nat) (off op opd to : Nat) (st : List Int) (inp out : List UInt8) (W : World) (h : MAt mB st inp out W) (hl : st.length ≤ 50000) (ho : op < 7) (ht : takesOp op ≤ st.length) :
    Calls Tryd.prog 29 #[.pointer (some ⟨mB, 0, none⟩), insAgg off op opd to] W fun e W' => e = .returned (.tuple #[]) ∧ MAt mB (calcOp op opd st) inp out W' ∧ Below mB W W' := by
  have h7 : op = 0 ∨ op = 1 ∨ op = 2 ∨ op = 3 ∨ op = 4 ∨ op = 5 ∨ op = 6 := by omega
  rcases h7 with rfl | rfl | rfl | rfl | rfl | rfl | rfl
  · exact calc0 mB off opd to st inp out W h hl
  · match st, ht with
    | a :: r, _ => exact calc1 mB off opd to a r inp out W h (by simp at hl; omega)
  · match st, ht with
    | [a], ht => simp [takesOp] at ht
    | b :: a :: r, _ => exact calc2 mB off opd to b a r inp out W h (by simp at hl; omega)
  · match st, ht with
    | a :: r, _ => exact calc3 mB off opd to a r inp out W h (by simp at hl; omega)
  · match st, ht with
    | [a], ht => simp [takesOp] at ht
    | b :: a :: r, _ => exact calc4 mB off opd to b a r inp out W h (by simp at hl; omega)
  · match st, ht with
    | [a], ht => simp [takesOp] at ht
    | b :: a :: r, _ => exact calc5 mB off opd to b a r inp out W h (by simp at hl; omega)
  · match st, ht with
    | [a], ht => simp [takesOp] at ht
    | b :: a :: r, _ => exact calc6 mB off opd to b a r inp out W h (by simp at hl; omega)
end Go.Proofs.YtainohbfcehpoaaDoor
