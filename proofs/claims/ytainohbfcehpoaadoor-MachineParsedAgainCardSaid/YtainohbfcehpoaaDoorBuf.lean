/-
  A row of one-cell elements of the call's own, whatever mark lies behind its end (a conversion's row has one): one element more.
-/
import Derived.Test.YtainohbfcehpoaaDoorBas0
import Derived.Deep.AppendSrc
import Derived.OwnWalkIn
import Derived.Deep.Draws
import Derived.Deep.MidRow
import Derived.Lib.ConvBytes
namespace Go.Proofs.YtainohbfcehpoaaDoor
open Go.RowKit

/-- The value v is a slice whose row is the block g: it holds the cells xs. -/
def Buf (w : World) (g : Nat) (e : TypeId) (v : Value) (xs : List Value) : Prop :=
  ∃ cap cur fr, v = .slice (some ⟨g, 0, none⟩) xs.length cap ∧ w.heap[g]? = some (.cells cur e fr) ∧ (fr = (0, 0) ∨ cur.size ≤ fr.1) ∧ xs.length ≤ cap ∧ cap ≤ maxLen ∧ cur.size = cap ∧ cur.toList.take xs.length = xs
section
variable {w w' : World} {g : Nat} {e : TypeId} {v : Value} {xs : List Value}
theorem Buf.lt (h : Buf w g e v xs) : g < w.heap.size := by
  obtain ⟨cap, cur, fr, _, hg, _⟩ := h; exact (Array.getElem?_eq_some_iff.1 hg).1
theorem Buf.val (h : Buf w g e v xs) : ∃ cap, v = .slice (some ⟨g, 0, none⟩) xs.length cap ∧ xs.length ≤ cap ∧ cap ≤ maxLen := by
  obtain ⟨cap, cur, fr, hv, _, _, h1, h2, _⟩ := h; exact ⟨cap, hv, h1, h2⟩
theorem Buf.of_block (h : Buf w g e v xs) (hb : w'.heap[g]? = w.heap[g]?) : Buf w' g e v xs := by
  obtain ⟨cap, cur, fr, hv, hg, rest⟩ := h; exact ⟨cap, cur, fr, hv, hb.trans hg, rest⟩
theorem Buf.below (h : Buf w g e v xs) (hb : Below w.heap.size w w') : Buf w' g e v xs := h.of_block (hb.block g h.lt)
theorem Buf.alloc (h : Buf w g e v xs) (o : Obj) : Buf (w.alloc o) g e v xs := h.of_block (Below.heap_alloc w o g h.lt)
theorem Buf.drew (h : Buf w g e v xs) : Buf w.drew g e v xs := h.of_block rfl
theorem Buf.drewN (h : Buf w g e v xs) (n : Nat) : Buf (w.drewN n) g e v xs := h.of_block rfl
theorem Buf.other (h : Buf w g e v xs) {b o : Nat} (u : Value) (hne : b ≠ g) : Buf (w.setCell ⟨b, o, none⟩ u) g e v xs :=
  h.of_block (Below.heap_setCell w ⟨b, o, none⟩ u g (by simpa using fun e => hne e.symm))
theorem Buf.cell (h : Buf w g e v xs) {j : Nat} {u : Value} (hu : xs[j]? = some u) : w.cell? ⟨g, j, none⟩ = some u := by
  obtain ⟨cap, cur, fr, _, hg, _, _, _, _, ht⟩ := h
  rw [cell_of_row w g j cur e fr hg]
  rw [← ht, List.getElem?_take] at hu
  split at hu
  · simpa using hu
  · cases hu
end

theorem cell_setRow_ok {w : World} {g o : Nat} {cur : Array Value} {e : TypeId} {fr : Nat × Nat} (hg : w.heap[g]? = some (.cells cur e fr)) (u : Value) : (w.setCell ⟨g, o, none⟩ u).heap[g]? = some (.cells (cur.setIfInBounds o u) e fr) := by
  simp only [World.setCell, Array.getElem?_modify, if_pos, hg]
  rfl

theorem run_append_buf {P : Program} (w : World) (g : Nat) (t ty e : TypeId) (i : TypeInfo) (z : Value) (ht : P.underlying t = some (.slice e)) (hi : P.info? e = some i) (hz : i.zero = some z)
    (hsize : i.size = 1) (hby : i.bytes ≤ 8) (hzs : z.cells.size = 1) (v : Value) (xs : List Value) (h : Buf w g e v xs)
    (a : Addr) (c : Nat) (u : Value) (hu : w.cell? (a.add 0) = some u) (h1 : u.oneCell' = true) (hlen : xs.length + 1 ≤ 1000000) :
    ∃ v' w' g', (Builtin.append_ #[t, t] ty #[v, .slice (some a) 1 c]).run P w = .ok v' w' ∧ (g' = g ∨ g' = w.heap.size) ∧ Buf w' g' e v' (xs ++ [u]) ∧ w.grownBy w' (some g) := by
  obtain ⟨cap, cur, fr, rfl, hg, hfr, hle, hcm, hcs, htake⟩ := h
  have hs : Src P i.size t (.slice (some a) 1 c) 1 [u] w := Src.ofSlice w ht a 1 c [u] (by simp [hsize]) (fun j x hx => by
    match j, hx with
    | 0, hx => simp at hx; subst hx; exact hu) (by simpa using h1)
  by_cases hroom : xs.length + 1 ≤ cap
  · have hcell : (w.cell? ⟨g, xs.length, none⟩).isSome = true := by
      rw [cell_of_row w g _ cur e fr hg]; simp; omega
    have hfree : w.frozen? ⟨g, xs.length, none⟩ = false := by
      simp only [World.frozen?, hg]
      rcases hfr with rfl | hfr
      · simp
      · have : ¬ fr.1 ≤ xs.length := by omega
        simp [this]
    have hr := run_append_room_src (P := P) w t t ty e i ht hi g 0 xs.length cap (.slice (some a) 1 c) 1 [u] hs hroom
      (fun j hj => by simp at hj; subst hj; simpa [hsize] using hcell) (fun j hj => by simp at hj; subst hj; simpa [hsize] using hfree)
    simp only [hsize, Nat.mul_one, Nat.zero_add, World.setCells] at hr
    refine ⟨_, _, g, hr, .inl rfl, ⟨cap, cur.setIfInBounds xs.length u, fr, by simp, cell_setRow_ok hg u, by simpa using hfr, by simpa using hroom, hcm, by simpa using hcs, ?_⟩, ⟨rfl, rfl, rfl, by simp [World.setCell], fun k hk hne => Below.heap_setCell w ⟨g, xs.length, none⟩ u k (by simpa using hne)⟩⟩
    have hlt : xs.length < cur.toList.length := by simp; omega
    rw [Array.toList_setIfInBounds, List.length_append, List.length_singleton, List.take_succ_eq_append_getElem (by simpa using hlt)]
    simp [List.take_set_of_le, htake]
  · have hcap : xs.length = cap := by omega
    have hold : (Builtin.firstCells i.size xs.length (.slice (some ⟨g, 0, none⟩) xs.length cap)).run P w.drew = .ok xs.toArray w.drew :=
      run_firstCells_some w.drew i.size xs.length ⟨g, 0, none⟩ xs.length cap xs (by simp [hsize]) (fun j x hx => by
        rw [Addr.add_mid, Nat.zero_add]
        have hb : Buf w g e (.slice (some ⟨g, 0, none⟩) xs.length cap) xs := ⟨cap, cur, fr, rfl, hg, hfr, hle, hcm, hcs, htake⟩
        exact hb.drew.cell hx)
    have hn : Builtin.nextslicecap (xs.length + 1) cap * i.bytes ≤ 281474976710656 := by
      refine growslice_fits (by omega) ?_
      have : (xs.length + 1) * i.bytes ≤ 1000000 * 8 := Nat.mul_le_mul hlen hby
      omega
    have hr := run_append_grow_src (P := P) w t t ty e i z ht hi hz (some ⟨g, 0, none⟩) xs.length cap xs hold (.slice (some a) 1 c) 1 [u] hs (by omega) (by omega) hn
    have hge := grownCap_ge w (xs.length + 1) cap e
    have hcm' : grownCap w (xs.length + 1) cap e ≤ maxLen := grownCap_le_maxLen w (xs.length + 1) cap e (by simp [maxLen]; omega)
    refine ⟨_, _, w.heap.size, hr, .inr rfl, ⟨_, _, (0, 0), by simp, heap_alloc_new w.drew _, .inl rfl, by simpa using hge, hcm', ?_, ?_⟩, ⟨rfl, rfl, rfl, by simp, fun k hk _ => Below.heap_alloc w.drew _ k hk⟩⟩
    · simp only [Array.size_append, List.size_toArray, size_zeroCells, hzs, List.length_append, List.length_singleton, Nat.mul_one]
      omega
    · simp only [Array.toList_append]
      exact List.take_left

theorem wpListIn_append_buf {F : Fence} {n : Nat} {P : Program} {w : World} {ops : Array Oper} {rest : List Oper} {o : Oper} {a : Act} {Q : Exit → Act → World → Prop} (hgd : o.guard = none) (s x : Operand) (t : TypeId)
    (ho : o.op = .call { callee := .builtin .append, args := #[s, x], argTypes := #[t, t] })
    (g : Nat) (e : TypeId) (i : TypeInfo) (z : Value) (ht : P.underlying t = some (.slice e)) (hi : P.info? e = some i) (hz : i.zero = some z)
    (hsize : i.size = 1) (hby : i.bytes ≤ 8) (hzs : z.cells.size = 1) (v : Value) (xs : List Value) (hs : a.eval s = v) (hB : Buf w g e v xs)
    (ad : Addr) (c : Nat) (u : Value) (hx : a.eval x = .slice (some ad) 1 c) (hu : w.cell? (ad.add 0) = some u) (h1 : u.oneCell' = true) (hlen : xs.length + 1 ≤ 1000000)
    (h : ∀ v' w' g', (g' = g ∨ g' = w.heap.size) → Buf w' g' e v' (xs ++ [u]) → w.grownBy w' (some g) → wpListIn F n P ops Q rest (a.put o.dst v') w') : wpListIn F n P ops Q (o :: rest) a w := by
  refine wpListIn_plain hgd fun K hK' => ?_
  obtain ⟨v', w', g', hrun, r1, r2, r3⟩ := run_append_buf (P := P) w g t o.type e i z ht hi hz hsize hby hzs v xs hB ad c u hu h1 hlen
  unfold Oper.wpIn
  refine ⟨?_, ?_⟩
  · simp [Oper.about, ho, resolve, Target.leads, Sem.run_pure]
  · rw [Oper.semAt_plain F _ _ (by rw [ho]; intro c hc'; cases hc')]
    simp [execOp, ho, resolve, invoke, builtin, hs, hx, hrun, Result.andThen]
    exact hK' _ _ (h v' w' g' r1 r2 r3)

/-- '[]byte(s)' of a string that is no constant. -/
theorem buf_of_string (w : World) (e : TypeId) (s : ByteArray) (hs : s.size ≤ 1000000) :
    Buf (Lib.bytesWorld w e s) w.heap.size e (.slice (some ⟨w.heap.size, 0, none⟩) s.size (grownCap w s.size 0 e)) (s.data.toList.map fun b => Value.int .u8 b.toNat) := by
  have hge := grownCap_ge w s.size 0 e
  have hcm : grownCap w s.size 0 e ≤ maxLen := grownCap_le_maxLen w s.size 0 e (by simp [maxLen]; omega)
  have hl : s.data.toList.length = s.size := by simp
  refine ⟨grownCap w s.size 0 e, Lib.bytesCells w e s, _, by simp, Lib.bytesWorld_at_new w e s, .inr (Nat.le_refl _), by simpa using hge, hcm, ?_, ?_⟩
  · simp [Lib.bytesCells]; omega
  · unfold Lib.bytesCells
    rw [Array.toList_append, Array.toList_map, List.length_map]
    exact List.take_left' (by simp)
end Go.Proofs.YtainohbfcehpoaaDoor
