/-
  Rows of the call's own; regions walked by hand.
-/
import Derived.Test.YtainohbfcehpoaaDoorOwn
import Derived.Test.YtainohbfcehpoaaDoorBuf
import Derived.Maps.AppendAt
import Derived.RangeFuncBox
import Derived.Deep.RegionHeld3
import Derived.Deep.AppendLies
import Derived.IntWalk
namespace Go.Proofs.YtainohbfcehpoaaDoor
open Go.RowKit

theorem own_below {w w' : World} {B n s : Nat} {e : TypeId} {v : Value} {xs : List Value} (h : w.ownsRow B e s v n xs) (hb : Below w.heap.size w w') : w'.ownsRow B e s v n xs := by
  obtain ⟨hl, h⟩ := h
  refine ⟨hl, ?_⟩
  rcases h with h | ⟨g, cap, cur, hv, hB, hg, r⟩
  · exact .inl h
  · exact .inr ⟨g, cap, cur, hv, hB, (hb.block g (Array.getElem?_eq_some_iff.1 hg).1).trans hg, r⟩
theorem own_cell {w : World} {B n : Nat} {e : TypeId} {v : Value} {xs : List Value} (h : w.ownsRow B e 1 v n xs) {j : Nat} {u : Value} (hu : xs[j]? = some u) :
    ∃ g cap, v = .slice (some ⟨g, 0, none⟩) n cap ∧ B ≤ g ∧ w.cell? ⟨g, j, none⟩ = some u := by
  obtain ⟨hl, h⟩ := h
  have hj := (List.getElem?_eq_some_iff.1 hu).1
  rcases h with ⟨_, rfl⟩ | ⟨g, cap, cur, hv, hB, hg, h1, h2, h3, h4⟩
  · omega
  · refine ⟨g, cap, hv, hB, ?_⟩
    rw [cell_of_row w g j cur e (0, 0) hg]
    rw [← h4, List.getElem?_take] at hu
    split at hu
    · simpa using hu
    · cases hu
theorem own_cells {w : World} {B n : Nat} {e : TypeId} {v : Value} {xs : List Value} (h : w.ownsRow B e 1 v (n + 1) xs) :
    ∃ g cap, v = .slice (some ⟨g, 0, none⟩) (n + 1) cap ∧ B ≤ g ∧ n + 1 ≤ cap ∧ cap ≤ maxLen ∧ g < w.heap.size ∧ ∀ j u, xs[j]? = some u → w.cell? ⟨g, j, none⟩ = some u ∧ w.frozen? ⟨g, j, none⟩ = false := by
  obtain ⟨hl, h⟩ := h
  rcases h with ⟨_, h⟩ | ⟨g, cap, cur, hv, hB, hg, h1, h2, h3, h4⟩
  · omega
  · refine ⟨g, cap, hv, hB, h1, h2, (Array.getElem?_eq_some_iff.1 hg).1, fun j u hu => ⟨?_, frozen_of_row w g j cur e hg⟩⟩
    rw [cell_of_row w g j cur e (0, 0) hg]
    rw [← h4, List.getElem?_take] at hu
    split at hu
    · simpa using hu
    · cases hu
theorem own_slice {w : World} {B n s : Nat} {e : TypeId} {v : Value} {xs : List Value} (h : w.ownsRow B e s v n xs) (hn : 0 < n) : ∃ g cap, v = .slice (some ⟨g, 0, none⟩) n cap := by
  rcases h.2 with ⟨_, h0⟩ | ⟨g, cap, _, hv, _⟩
  · omega
  · exact ⟨g, cap, hv⟩
theorem own_len {w : World} {B n m s : Nat} {e : TypeId} {v : Value} {xs : List Value} (h : w.ownsRow B e s v n xs) (hn : n = m) : w.ownsRow B e s v m xs := hn ▸ h
theorem own_base {w : World} {B C n s : Nat} {e : TypeId} {v : Value} {xs : List Value} (h : w.ownsRow C e s v n xs) (hBC : B ≤ C) : w.ownsRow B e s v n xs := by
  obtain ⟨hl, h⟩ := h
  refine ⟨hl, ?_⟩
  rcases h with h | ⟨g, cap, cur, hv, hB, r⟩
  · exact .inl h
  · exact .inr ⟨g, cap, cur, hv, Nat.le_trans hBC hB, r⟩
theorem Buf.of_arr {w : World} {B : Nat} {T : TypeId} {L : List Value} (h : Arr w B T L) (hl : L.length ≤ maxLen) : Buf w B T (.slice (some ⟨B, 0, none⟩) L.length L.length) L :=
  ⟨L.length, L.toArray, (0, 0), rfl, h, .inl rfl, Nat.le_refl _, hl, by simp, by simp⟩
theorem cell_one_new0 (w : World) (u : Value) (t : TypeId) : (w.alloc (.cells #[u] t)).cell? ((⟨w.heap.size, 0, none⟩ : Addr).add 0) = some u := by
  rw [Addr.add_mid]; exact (Mine.new rfl).cell
theorem name_wpl {P : Program} {ops : Array Oper} {Q : Exit → Act → World → Prop} {l : List Oper} {a : Act} {W : World} (h : ∀ w', w' = W → wpList P ops Q l a w') : wpList P ops Q l a W := h W rfl
theorem cells_new (w : World) (L : List Value) (T : TypeId) (j : Nat) (u : Value) (hu : L[j]? = some u) : (w.alloc (.cells L.toArray T)).cell? ((⟨w.heap.size, 0, none⟩ : Addr).add j) = some u := by
  rw [Addr.add_mid, Nat.zero_add]; exact (Arr.new rfl rfl).cell hu
theorem Buf.set {w : World} {g : Nat} {e : TypeId} {v : Value} {xs : List Value} (h : Buf w g e v xs) {j : Nat} (u : Value) : Buf (w.setCell ⟨g, j, none⟩ u) g e v (xs.set j u) := by
  obtain ⟨cap, cur, fr, hv, hg, hfr, hle, hcm, hcs, ht⟩ := h
  refine ⟨cap, cur.setIfInBounds j u, fr, by simpa using hv, cell_setRow_ok hg u, by simpa using hfr, by simpa using hle, hcm, by simpa using hcs, ?_⟩
  rw [Array.toList_setIfInBounds, List.length_set, List.take_set]
  rw [ht]
theorem Buf.free {w : World} {g : Nat} {e : TypeId} {v : Value} {xs : List Value} (h : Buf w g e v xs) {j : Nat} (hj : j < xs.length) : w.frozen? ⟨g, j, none⟩ = false := by
  obtain ⟨cap, cur, fr, hv, hg, hfr, hle, hcm, hcs, ht⟩ := h
  simp only [World.frozen?, hg]
  rcases hfr with rfl | hfr
  · simp
  · have : ¬ fr.1 ≤ j := by omega
    simp [this]
theorem buf_of_own {w : World} {B : Nat} {e : TypeId} {v : Value} {n : Nat} {xs : List Value} (h : w.ownsRow B e 1 v (n + 1) xs) : ∃ g, B ≤ g ∧ Buf w g e v xs := by
  obtain ⟨hl, h⟩ := h
  rcases h with ⟨_, h⟩ | ⟨g, cap, cur, rfl, hb, hg, h1, h2, h3, h4⟩
  · omega
  · exact ⟨g, hb, cap, cur, (0, 0), by simp at hl; rw [hl], hg, .inl rfl, by omega, h2, by omega, by rw [hl]; exact h4⟩
theorem run_append_keep {P : Program} (w : World) (g : Nat) (t ty e : TypeId) (i : TypeInfo) (z : Value) (ht : P.underlying t = some (.slice e)) (hi : P.info? e = some i) (hz : i.zero = some z)
    (hsize : i.size = 1) (hby : i.bytes ≤ 8) (hzs : z.cells.size = 1) (v : Value) (xs : List Value) (h : Buf w g e v xs)
    (a : Addr) (c : Nat) (u : Value) (hu : w.cell? (a.add 0) = some u) (h1 : u.oneCell' = true) (hlen : xs.length + 1 ≤ 1000000) :
    ∃ v' w' g', (Builtin.append_ #[t, t] ty #[v, .slice (some a) 1 c]).run P w = .ok v' w' ∧ (g' = g ∨ g' = w.heap.size) ∧ Buf w' g' e v' (xs ++ [u]) ∧ w.grownBy w' (some g) ∧ ∀ j y, xs[j]? = some y → w'.cell? ⟨g, j, none⟩ = some y := by
  have hB := h
  obtain ⟨cap, cur, fr, rfl, hg, hfr, hle, hcm, hcs, htake⟩ := h
  have hs : Src P i.size t (.slice (some a) 1 c) 1 [u] w := Src.ofSlice w ht a 1 c [u] (by simp [hsize]) (fun j x hx => by
    match j, hx with
    | 0, hx => simp at hx; subst hx; exact hu) (by simpa using h1)
  by_cases hroom : xs.length + 1 ≤ cap
  · have hcell : (w.cell? ⟨g, xs.length, none⟩).isSome = true := by
      rw [cell_of_row w g _ cur e fr hg]; simp; omega
    have hfree : w.frozen? ⟨g, xs.length, none⟩ = false := by
      simp only [World.frozen?, hg]
      rcases hfr with rfl | hfr
      · simp
      · have : ¬ fr.1 ≤ xs.length := by omega
        simp [this]
    have hr := run_append_room_src (P := P) w t t ty e i ht hi g 0 xs.length cap (.slice (some a) 1 c) 1 [u] hs hroom
      (fun j hj => by simp at hj; subst hj; simpa [hsize] using hcell) (fun j hj => by simp at hj; subst hj; simpa [hsize] using hfree)
    simp only [hsize, Nat.mul_one, Nat.zero_add, World.setCells] at hr
    refine ⟨_, _, g, hr, .inl rfl, ⟨cap, cur.setIfInBounds xs.length u, fr, by simp, cell_setRow_ok hg u, by simpa using hfr, by simpa using hroom, hcm, by simpa using hcs, ?_⟩, ⟨rfl, rfl, rfl, by simp [World.setCell], fun k hk hne => Below.heap_setCell w ⟨g, xs.length, none⟩ u k (by simpa using hne)⟩, ?_⟩
    · have hlt : xs.length < cur.toList.length := by simp; omega
      rw [Array.toList_setIfInBounds, List.length_append, List.length_singleton, List.take_succ_eq_append_getElem (by simpa using hlt)]
      simp [List.take_set_of_le, htake]
    · intro j y hj
      have hjl := (List.getElem?_eq_some_iff.1 hj).1
      rw [World.cell?_setCell_other _ _ _ _ (by intro e; injection e with _ e; omega)]
      exact hB.cell hj
  · have hold : (Builtin.firstCells i.size xs.length (.slice (some ⟨g, 0, none⟩) xs.length cap)).run P w.drew = .ok xs.toArray w.drew :=
      run_firstCells_some w.drew i.size xs.length ⟨g, 0, none⟩ xs.length cap xs (by simp [hsize]) (fun j x hx => by
        rw [Addr.add_mid, Nat.zero_add]
        exact hB.drew.cell hx)
    have hn : Builtin.nextslicecap (xs.length + 1) cap * i.bytes ≤ 281474976710656 := by
      refine growslice_fits (by omega) ?_
      have : (xs.length + 1) * i.bytes ≤ 1000000 * 8 := Nat.mul_le_mul hlen hby
      omega
    have hr := run_append_grow_src (P := P) w t t ty e i z ht hi hz (some ⟨g, 0, none⟩) xs.length cap xs hold (.slice (some a) 1 c) 1 [u] hs (by omega) (by omega) hn
    have hge := grownCap_ge w (xs.length + 1) cap e
    have hcm' : grownCap w (xs.length + 1) cap e ≤ maxLen := grownCap_le_maxLen w (xs.length + 1) cap e (by simp [maxLen]; omega)
    refine ⟨_, _, w.heap.size, hr, .inr rfl, ⟨_, _, (0, 0), by simp, heap_alloc_new w.drew _, .inl rfl, by simpa using hge, hcm', ?_, ?_⟩, ⟨rfl, rfl, rfl, by simp, fun k hk _ => Below.heap_alloc w.drew _ k hk⟩, ?_⟩
    · simp only [Array.size_append, List.size_toArray, size_zeroCells, hzs, List.length_append, List.length_singleton, Nat.mul_one]
      omega
    · simp only [Array.toList_append]
      exact List.take_left
    · intro j y hj
      exact (hB.drew.alloc _).cell hj
theorem step_append_keep {P : Program} {ops : Array Oper} {o : Oper} {a : Act} {w : World} {K : Act → World → Prop} {Q : Exit → Act → World → Prop} {E : Prop} (hgd : o.guard = none) (s x : Operand) (t : TypeId)
    (ho : o.op = .call { callee := .builtin .append, args := #[s, x], argTypes := #[t, t] })
    (g : Nat) (e : TypeId) (i : TypeInfo) (z : Value) (ht : P.underlying t = some (.slice e)) (hi : P.info? e = some i) (hz : i.zero = some z)
    (hsize : i.size = 1) (hby : i.bytes ≤ 8) (hzs : z.cells.size = 1) (v : Value) (xs : List Value) (hs : a.eval s = v) (hB : Buf w g e v xs)
    (ad : Addr) (c : Nat) (u : Value) (hx : a.eval x = .slice (some ad) 1 c) (hu : w.cell? (ad.add 0) = some u) (h1 : u.oneCell' = true) (hlen : xs.length + 1 ≤ 1000000)
    (h : ∀ v' w' g', (g' = g ∨ g' = w.heap.size) → Buf w' g' e v' (xs ++ [u]) → w.grownBy w' (some g) → (∀ j y, xs[j]? = some y → w'.cell? ⟨g, j, none⟩ = some y) → K (a.put o.dst v') w') :
    if Region.wanted o (yielded ops a.tmps) = true then Oper.wp P o a w K Q else E := by
  have hw : Region.wanted o (yielded ops a.tmps) = true := by simp [Region.wanted, hgd]
  rw [if_pos hw]
  obtain ⟨v', w', g', hrun, r1, r2, r3, r4⟩ := run_append_keep (P := P) w g t o.type e i z ht hi hz hsize hby hzs v xs hB ad c u hu h1 hlen
  unfold Oper.wp
  simp [execOp, ho, resolve, invoke, builtin, hs, hx, hrun, Result.andThen]
  exact h v' w' g' r1 r2 r3 r4
section
variable {P : Program} {Q : Exit → Act → World → Prop} {md : Region.Mode} {S : World → Prop}
theorem take_l {l : List Oper} {i : Nat} {oi : Oper} {v : Value} {fuel : Nat} {listed : Array Bool} {a : Act} {w : World} (hi : l[i]? = some oi)
    (hs : Region.noSelect l.toArray = true) (hf : Region.free md l.toArray listed i = true) (hr : (Region.ready md l.toArray listed).contains i = true)
    (hQ : ∀ c a w, Q (.panic c) (a.put oi.dst v) w → Q (.panic c) a w) (hy : YieldsIf P l.toArray S oi v a) (hS : S w)
    (h : wpAnyH P md l.toArray Q S fuel (listed.setIfInBounds i true) (a.put oi.dst v) w) : wpAnyH P md l.toArray Q S (fuel + 1) listed a w :=
  wpAnyH_take (by simpa using hi) hs hf hr hQ hy hS h
theorem ready_l {l : List Oper} {fuel : Nat} {listed : Array Bool} {a : Act} {w : World} {i : Nat} {o : Oper} {rs : List Nat} (ho : l[i]? = some o)
    (h : ∀ K' : Act → World → Prop, Shut (∀ a w, S w → (S w → wpAnyH P md l.toArray Q S fuel (listed.setIfInBounds i true) a w) → K' a w) → if Region.wanted o (yielded l.toArray a.tmps) = true then Oper.wp P o a w K' Q else K' (a.put o.dst undef) w)
    (hs : AllReadyH P md l.toArray Q S fuel listed a w rs) : AllReadyH P md l.toArray Q S fuel listed a w (i :: rs) :=
  AllReadyH.cons (by simpa using ho) h hs
end
end Go.Proofs.YtainohbfcehpoaaDoor
