/-
  A queue of numbers: a row of the call's own, taken from at its front, appended to at its end; what other rows know of it.
  The reference's Depths. (Printed by genmn4.py.)
  The reference's Verify and Run. (Printed by genmn5.py.)
  MachineMatchesReference: the walk.
-/
import Derived.Test.YtainohbfcehpoaaDoorMzI
import Derived.Test.YtainohbfcehpoaaDoorMzE
import Derived.Test.YtainohbfcehpoaaDoorMzJ
import Derived.Test.YtainohbfcehpoaaDoorMzK
namespace Go.Proofs.YtainohbfcehpoaaDoor
open Go.RowKit Go.Shelf

/-- A row whose first elements have been taken: its block is g. -/
def Que (w : World) (g : Nat) (e : TypeId) (v : Value) (xs : List Value) : Prop :=
  ∃ off cap cur, v = .slice (some ⟨g, off, none⟩) xs.length cap ∧ w.heap[g]? = some (.cells cur e (0, 0)) ∧ xs.length ≤ cap ∧ cap ≤ maxLen ∧ off + cap ≤ cur.size ∧ (cur.toList.drop off).take xs.length = xs
section
variable {w w' : World} {g : Nat} {e : TypeId} {v : Value} {xs : List Value}
theorem Que.lt (h : Que w g e v xs) : g < w.heap.size := by
  obtain ⟨off, cap, cur, _, hg, _⟩ := h
  exact (Array.getElem?_eq_some_iff.1 hg).1
theorem Que.of_block (h : Que w g e v xs) (hb : w'.heap[g]? = w.heap[g]?) : Que w' g e v xs := by
  obtain ⟨off, cap, cur, h1, h2, h3⟩ := h
  exact ⟨off, cap, cur, h1, hb.trans h2, h3⟩
theorem Que.below (h : Que w g e v xs) (hb : Below w.heap.size w w') : Que w' g e v xs := h.of_block (hb.block g h.lt)
theorem Que.cells (h : Que w g e v xs) : ∃ off cap, v = .slice (some ⟨g, off, none⟩) xs.length cap ∧ xs.length ≤ cap ∧ cap ≤ maxLen ∧ ∀ j u, xs[j]? = some u → w.cell? ⟨g, off + j, none⟩ = some u := by
  obtain ⟨off, cap, cur, h1, h2, h3, h4, h5, h6⟩ := h
  refine ⟨off, cap, h1, h3, h4, fun j u hu => ?_⟩
  rw [cell_of_row w g _ cur e (0, 0) h2]
  rw [← h6, List.getElem?_take] at hu
  split at hu
  · rw [List.getElem?_drop] at hu
    simpa using hu
  · cases hu
end
theorem Que.pop {w : World} {g : Nat} {e : TypeId} {v x : Value} {xs : List Value} (h : Que w g e v (x :: xs)) :
    ∃ off cap, v = .slice (some ⟨g, off, none⟩) (xs.length + 1) (cap + 1) ∧ xs.length ≤ cap ∧ cap + 1 ≤ maxLen ∧ w.cell? ⟨g, off, none⟩ = some x ∧ Que w g e (.slice (some ⟨g, if cap = 0 then off else off + 1, none⟩) xs.length cap) xs := by
  obtain ⟨off, cap0, cur, h1, h2, h3, h4, h5, h6⟩ := id h
  rw [List.length_cons] at h1 h3 h6
  obtain ⟨cap, rfl⟩ : ∃ cap, cap0 = cap + 1 := ⟨cap0 - 1, by omega⟩
  have hlt : off < cur.toList.length := by simp; omega
  rw [List.drop_eq_getElem_cons hlt, List.take_succ_cons] at h6
  injection h6 with e1 e2
  refine ⟨off, cap, h1, by omega, h4, ?_, _, cap, cur, rfl, h2, by omega, by omega, by split <;> omega, ?_⟩
  rotate_left
  · by_cases hc : cap = 0
    · have : xs = [] := List.eq_nil_of_length_eq_zero (by omega)
      rw [this]; simp
    · rw [if_neg hc]; exact e2
  rw [cell_of_row w g _ cur e (0, 0) h2]
  rw [← e1]
  simp
theorem run_append_que {P : Program} (w : World) (g : Nat) (t ty e : TypeId) (i : TypeInfo) (z : Value) (ht : P.underlying t = some (.slice e)) (hi : P.info? e = some i) (hz : i.zero = some z)
    (hsize : i.size = 1) (hby : i.bytes ≤ 8) (hzs : z.cells.size = 1) (v : Value) (xs : List Value) (h : Que w g e v xs)
    (a : Addr) (c : Nat) (u : Value) (hu : w.cell? (a.add 0) = some u) (h1 : u.oneCell' = true) (hlen : xs.length + 1 ≤ 1000000) :
    ∃ v' w' g', (Builtin.append_ #[t, t] ty #[v, .slice (some a) 1 c]).run P w = .ok v' w' ∧ (g' = g ∨ g' = w.heap.size) ∧ Que w' g' e v' (xs ++ [u]) ∧ w.grownBy w' (some g) := by
  obtain ⟨off, cap, cur, rfl, hg, hle, hcm, hcs, htake⟩ := h
  have hs : Src P i.size t (.slice (some a) 1 c) 1 [u] w := Src.ofSlice w ht a 1 c [u] (by simp [hsize]) (fun j x hx => by
    match j, hx with
    | 0, hx => simp at hx; subst hx; exact hu) (by simpa using h1)
  by_cases hroom : xs.length + 1 ≤ cap
  · have hcell : (w.cell? ⟨g, off + xs.length, none⟩).isSome = true := by
      rw [cell_of_row w g _ cur e (0, 0) hg]; simp; omega
    have hfree : w.frozen? ⟨g, off + xs.length, none⟩ = false := by
      simp only [World.frozen?, hg]
      simp
    have hr := run_append_room_src (P := P) w t t ty e i ht hi g off xs.length cap (.slice (some a) 1 c) 1 [u] hs hroom
      (fun j hj => by simp at hj; subst hj; simpa [hsize] using hcell) (fun j hj => by simp at hj; subst hj; simpa [hsize] using hfree)
    simp only [hsize, Nat.mul_one, World.setCells] at hr
    refine ⟨_, _, g, hr, .inl rfl, ⟨off, cap, cur.setIfInBounds (off + xs.length) u, by simp, cell_setRow_ok hg u, by simpa using hroom, hcm, by simpa using hcs, ?_⟩, ⟨rfl, rfl, rfl, by simp [World.setCell], fun k hk hne => Below.heap_setCell w ⟨g, off + xs.length, none⟩ u k (by simpa using hne)⟩⟩
    have hlt : xs.length < (cur.toList.drop off).length := by simp; omega
    rw [Array.toList_setIfInBounds, List.length_append, List.length_singleton, List.drop_set, if_neg (by omega), show off + xs.length - off = xs.length by omega, List.take_succ_eq_append_getElem (by rw [List.length_set]; exact hlt)]
    rw [List.take_set_of_le (by omega), htake, List.getElem_set_self]
  · have hcap : xs.length = cap := by omega
    have hold : (Builtin.firstCells i.size xs.length (.slice (some ⟨g, off, none⟩) xs.length cap)).run P w.drew = .ok xs.toArray w.drew :=
      run_firstCells_some w.drew i.size xs.length ⟨g, off, none⟩ xs.length cap xs (by simp [hsize]) (fun j x hx => by
        rw [Addr.add_mid]
        have hb : Que w g e (.slice (some ⟨g, off, none⟩) xs.length cap) xs := ⟨off, cap, cur, rfl, hg, hle, hcm, hcs, htake⟩
        obtain ⟨o2, c2, hv, _, _, hc⟩ := hb.cells
        injection hv with hv _ _
        injection hv with hv
        injection hv with _ hv
        subst hv
        exact hc j x hx)
    have hn : Builtin.nextslicecap (xs.length + 1) cap * i.bytes ≤ 281474976710656 := by
      refine growslice_fits (by omega) ?_
      have : (xs.length + 1) * i.bytes ≤ 1000000 * 8 := Nat.mul_le_mul hlen hby
      omega
    have hr := run_append_grow_src (P := P) w t t ty e i z ht hi hz (some ⟨g, off, none⟩) xs.length cap xs hold (.slice (some a) 1 c) 1 [u] hs (by omega) (by omega) hn
    have hge := grownCap_ge w (xs.length + 1) cap e
    have hcm' : grownCap w (xs.length + 1) cap e ≤ maxLen := grownCap_le_maxLen w (xs.length + 1) cap e (by simp [maxLen]; omega)
    refine ⟨_, _, w.heap.size, hr, .inr rfl, ⟨0, _, _, by simp, heap_alloc_new w.drew _, by simpa using hge, hcm', ?_, ?_⟩, ⟨rfl, rfl, rfl, by simp, fun k hk _ => Below.heap_alloc w.drew _ k hk⟩⟩
    · simp only [Array.size_append, List.size_toArray, size_zeroCells, hzs, List.length_append, List.length_singleton, Nat.mul_one]
      omega
    · simp only [Array.toList_append, List.drop_zero]
      exact List.take_left
theorem que_of_own {w : World} {B : Nat} {e : TypeId} {v : Value} {n : Nat} {xs : List Value} (h : w.ownsRow B e 1 v n xs) (hn : 0 < n) : ∃ g, B ≤ g ∧ Que w g e v xs := by
  obtain ⟨hl, h⟩ := h
  rcases h with ⟨_, h⟩ | ⟨g, cap, cur, hv, hB, hg, h1, h2, h3, h4⟩
  · omega
  · refine ⟨g, hB, 0, cap, cur, ?_, hg, by omega, h2, by omega, ?_⟩
    · rw [hv, hl, Nat.mul_one]
    · rw [List.drop_zero]
      rw [show xs.length = n * 1 by omega]
      exact h4
/-- An element of a row of the call's own is turned. -/
theorem own_setAt {W : World} {B d n c i : Nat} {e : TypeId} {xs : List Value} {u : Value} (h : W.ownsRow B e 1 (.slice (some ⟨d, 0, none⟩) n c) n xs) (hi : i < n) :
    (W.setCell ⟨d, i, none⟩ u).ownsRow B e 1 (.slice (some ⟨d, 0, none⟩) n c) n (xs.set i u) ∧ (W.cell? ⟨d, i, none⟩).isSome = true ∧ W.frozen? ⟨d, i, none⟩ = false := by
  obtain ⟨hl, h⟩ := h
  rcases h with ⟨h, _⟩ | ⟨g', cap, cur, hv, h1, h2, h3, h4, h5, h6⟩
  · cases h
  · injection hv with e1 e2 e3
    injection e1 with e1
    injection e1 with e1
    subst e1 e3
    refine ⟨⟨by simpa using hl, .inr ⟨d, c, cur.setIfInBounds i u, rfl, h1, cell_setRow_ok h2 u, h3, h4, by simpa using h5, ?_⟩⟩, ?_, ?_⟩
    · rw [Array.toList_setIfInBounds, List.take_set, h6]
    · rw [cell_of_row W d _ cur e (0, 0) h2]; simp; omega
    · simp only [World.frozen?, h2]; simp
/-- What the reference's worklist knows: the depths in block dB, the list of what is still to do. -/
structure RW (B dB dc n : Nat) (ds : List Int) (td : List Nat) (v : Value) (w1 W : World) : Prop where
  len : ds.length = n
  dep : W.ownsRow B 3 1 (.slice (some ⟨dB, 0, none⟩) n dc) n (intC ds)
  que : ∃ q, q ≠ dB ∧ B ≤ q ∧ Que W q 3 v (natC td)
  bel : Below B w1 W
theorem RW.dlt {B dB dc n : Nat} {ds : List Int} {td : List Nat} {v : Value} {w1 W : World} (h : RW B dB dc n ds td v w1 W) : B ≤ dB ∧ dB < W.heap.size := by
  rcases h.dep.2 with ⟨h, _⟩ | ⟨g', cap, cur, hv, h1, h2, _⟩
  · cases h
  · injection hv with e1 e2 e3
    injection e1 with e1
    injection e1 with e1
    subst e1
    exact ⟨h1, (Array.getElem?_eq_some_iff.1 h2).1⟩
theorem RW.below {B dB dc n : Nat} {ds : List Int} {td : List Nat} {v : Value} {w1 W W' : World} (h : RW B dB dc n ds td v w1 W) (hB : B ≤ W.heap.size) (hb : Below W.heap.size W W') : RW B dB dc n ds td v w1 W' := by
  obtain ⟨q, h1, h2, h3⟩ := h.que
  exact ⟨h.len, own_below h.dep hb, ⟨q, h1, h2, h3.below hb⟩, h.bel.trans (hb.mono hB)⟩
theorem RW.dcell {B dB dc n : Nat} {ds : List Int} {td : List Nat} {v : Value} {w1 W : World} (h : RW B dB dc n ds td v w1 W) {i : Nat} (hi : i < n) : W.cell? ⟨dB, i, none⟩ = some (.int .i64 ds[i]!) ∧ W.frozen? ⟨dB, i, none⟩ = false ∧ n ≤ dc ∧ dc ≤ maxLen := by
  have h2 := (own_setAt (u := .int .i64 0) h.dep hi).2.2
  have hd := h.dep
  have hl := h.len
  obtain ⟨m, rfl⟩ : ∃ m, n = m + 1 := ⟨n - 1, by omega⟩
  obtain ⟨g, c, hv, hg, hc, hcm, hgl, hcells⟩ := own_cells hd
  injection hv with e1 e2 e3
  injection e1 with e1
  injection e1 with e1
  subst e1 e3
  exact ⟨(hcells i _ (intC_at (by omega))).1, h2, hc, hcm⟩
theorem RW.pop {B dB dc n : Nat} {ds : List Int} {td : List Nat} {i : Nat} {v : Value} {w1 W : World} (h : RW B dB dc n ds (i :: td) v w1 W) :
    ∃ q off cap, v = .slice (some ⟨q, off, none⟩) (td.length + 1) (cap + 1) ∧ td.length ≤ cap ∧ cap + 1 ≤ maxLen ∧ W.cell? ⟨q, off, none⟩ = some (.int .i64 (i : Int)) ∧ RW B dB dc n ds td (.slice (some ⟨q, if cap = 0 then off else off + 1, none⟩) td.length cap) w1 W := by
  obtain ⟨q, h1, h2, h3⟩ := h.que
  have h3' : Que W q 3 v (.int .i64 (i : Int) :: natC td) := h3
  obtain ⟨off, cap, hv, hc, hcm, hcell, hq⟩ := h3'.pop
  have el : (natC td).length = td.length := by simp [natC]
  rw [el] at hv hc hq
  exact ⟨q, off, cap, hv, hc, hcm, hcell, h.len, h.dep, ⟨q, h1, h2, hq⟩, h.bel⟩
theorem RW.val {B dB dc n : Nat} {ds : List Int} {td : List Nat} {v : Value} {w1 W : World} (h : RW B dB dc n ds td v w1 W) : ∃ a c, v = .slice a td.length c := by
  obtain ⟨q, h1, h2, h3⟩ := h.que
  obtain ⟨off, cap, hv, _⟩ := h3.cells
  exact ⟨_, _, by rw [hv]; simp [natC]; exact ⟨rfl, rfl⟩⟩
/-- A number is marked, and is still to do. -/
theorem RW.mark {B dB dc n : Nat} {ds : List Int} {td : List Nat} {v : Value} {w1 W : World} (h : RW B dB dc n ds td v w1 W) {j : Nat} (hj : j < n) (a : Nat) (hl : td.length ≤ 100000) (hB : B ≤ W.heap.size) :
    ∃ v' W', (Builtin.append_ #[31, 31] 31 #[v, .slice (some ⟨W.heap.size, 0, none⟩) 1 1]).run Tryd.prog ((W.setCell ⟨dB, j, none⟩ (.int .i64 (a : Int))).alloc (.cells #[.int .i64 (j : Int)] 3)) = .ok v' W' ∧ (∃ a c, v' = .slice a (td.length + 1) c) ∧
      RW B dB dc n (ds.set j (a : Int)) (td ++ [j]) v' w1 W' ∧ W.heap.size ≤ W'.heap.size ∧ ∀ x, x < W.heap.size → x ≠ dB → (∀ off len cap, v ≠ .slice (some ⟨x, off, none⟩) len cap) → W'.heap[x]? = W.heap[x]? ∧ (∀ off len cap, v' ≠ .slice (some ⟨x, off, none⟩) len cap) := by
  obtain ⟨q, h1, h2, h3⟩ := h.que
  obtain ⟨hdB, hdl⟩ := h.dlt
  have hq0 : (W.setCell ⟨dB, j, none⟩ (.int .i64 (a : Int))).heap[q]? = W.heap[q]? := heap_setCell_other _ _ _ _ (by simpa using h1)
  have hsz : (W.setCell ⟨dB, j, none⟩ (.int .i64 (a : Int))).heap.size = W.heap.size := by simp [World.setCell]
  obtain ⟨W1, hW1⟩ : ∃ W1, W1 = W.setCell ⟨dB, j, none⟩ (.int .i64 (a : Int)) := ⟨_, rfl⟩
  have hd1 := (own_setAt (u := .int .i64 (a : Int)) h.dep hj).1
  have hB1 := h.bel.setCell (p := ⟨dB, j, none⟩) hdB (.int .i64 (a : Int))
  rw [← hW1] at hq0 hsz hd1 hB1 ⊢
  have hal : Below W1.heap.size W1 (W1.alloc (.cells #[.int .i64 (j : Int)] 3)) := (Below.refl _ _).alloc (Nat.le_refl _) _
  have hq1 := (h3.of_block hq0).below hal
  obtain ⟨i0, hi, hz0, hz1, hz2⟩ := info_parts info_int
  have el : (natC td).length = td.length := by simp [natC]
  obtain ⟨v', W', g', hrun, hg', hq', hgr⟩ := run_append_que (P := Tryd.prog) (W1.alloc (.cells #[.int .i64 (j : Int)] 3)) q 31 31 3 i0 (.int .i64 0) Tryd.underlying31 hi hz0 hz1 (by omega) rfl v (natC td) hq1 ⟨W.heap.size, 0, none⟩ 1 (.int .i64 (j : Int)) (by
    have := cell_one_new0 W1 (.int .i64 (j : Int)) 3
    rwa [hsz] at this) rfl (by omega)
  have hq2 : Que W' g' 3 v' (natC (td ++ [j])) := by
    rw [show natC (td ++ [j]) = natC td ++ [Value.int .i64 (j : Int)] by simp [natC]]
    exact hq'
  have hne : q ≠ dB := h1
  have hdq : (W1.alloc (.cells #[.int .i64 (j : Int)] 3)).heap[dB]? = W1.heap[dB]? := Below.heap_alloc W1 _ _ (by omega)
  have hd2 : W'.heap[dB]? = W1.heap[dB]? := (hgr.block dB (by rw [World.size_alloc]; omega) (fun e => by injection e with e; exact h1 e.symm)).trans hdq
  refine ⟨v', W', hrun, ?_, ⟨by rw [List.length_set]; exact h.len, ?_, ⟨g', ?_, ?_, hq2⟩, ?_⟩, ?_, fun x hx hxd hxv => ?_⟩
  · obtain ⟨off, cap, hv, _⟩ := hq2.cells
    exact ⟨_, _, by rw [hv]; simp [natC]; exact ⟨rfl, rfl⟩⟩
  · have e : (intC ds).set j (.int .i64 (a : Int)) = intC (ds.set j (a : Int)) := by rw [intC, intC, List.map_set]
    rw [e] at hd1
    refine ⟨hd1.1, ?_⟩
    rcases hd1.2 with hh | ⟨g2, c2, cur2, hv2, k1, k2, k3⟩
    · exact .inl hh
    · have e2 : dB = g2 := congrArg (fun v : Value => match v with | .slice (some a) _ _ => a.block | _ => 0) hv2
      rw [e2] at hd2
      exact .inr ⟨g2, c2, cur2, hv2, k1, hd2.trans k2, k3⟩
  · rcases hg' with rfl | rfl
    · exact h1
    · rw [World.size_alloc]; omega
  · rcases hg' with rfl | rfl
    · exact h2
    · rw [World.size_alloc]; omega
  · exact (hB1.alloc (by omega) _).grown hgr (by rw [World.size_alloc]; omega) (fun k hk => by injection hk with hk; omega)
  · have := hgr.size
    rw [World.size_alloc] at this
    omega
  · have hxq : x ≠ q := fun e => by
      subst e
      obtain ⟨off, cap, hv, _⟩ := h3.cells
      exact hxv _ _ _ hv
    have e1 : W1.heap[x]? = W.heap[x]? := by rw [hW1]; exact heap_setCell_other _ _ _ _ (by simpa using hxd)
    refine ⟨?_, fun off len cap e => ?_⟩
    rotate_left
    · obtain ⟨off2, cap2, hv2, _⟩ := hq2.cells
      rw [hv2] at e
      have e2 : g' = x := congrArg (fun v : Value => match v with | .slice (some a) _ _ => a.block | _ => 0) e
      rcases hg' with h0 | h0
      · exact hxq (by rw [← e2, h0])
      · rw [World.size_alloc] at h0
        omega
    exact ((hgr.block x (by rw [World.size_alloc]; omega) (fun e => by injection e with e; exact hxq e)).trans (Below.heap_alloc W1 _ _ (by omega))).trans e1
/-- The worklist's measure, out of the world and the list's length. -/
def measR (dB n : Nat) (v : Value) (W : World) : Nat := 2 * (match W.heap[dB]? with | some (.cells cs _ _) => (cs.toList.take n).countP negV | _ => 0) + (match v with | .slice _ k _ => k | _ => 0)
theorem RW.meas {B dB dc n : Nat} {ds : List Int} {td : List Nat} {v : Value} {w1 W : World} (h : RW B dB dc n ds td v w1 W) : measR dB n v W = mu ds td := by
  obtain ⟨a, c, rfl⟩ := h.val
  rcases h.dep.2 with ⟨hh, _⟩ | ⟨g', cap, cur, hv, h1, h2, h3, h4, h5, h6⟩
  · cases hh
  · injection hv with e1 e2 e3
    injection e1 with e1
    injection e1 with e1
    subst e1
    unfold measR mu negC
    rw [h2]
    dsimp only
    rw [show cur.toList.take n = intC ds by rw [← h6, Nat.mul_one], intC, List.countP_map]
    rfl
theorem slice_pop (q off n cp : Nat) (h : n ≤ cp) (W : World) : (Instr.slice 31 (.slice (some ⟨q, off, none⟩) (n + 1) (cp + 1)) (some (.int .i64 1)) none none).run Tryd.prog W = .ok (.slice (some ⟨q, if cp = 0 then off else off + 1, none⟩) n cp) W := by
  cases cp with
  | zero =>
    obtain rfl : n = 0 := by omega
    go_simp
  | succ c =>
    go_simp
    exact fun h => by omega
/-- A row of numbers that has been made. -/
theorem next_row {W : World} {B : Nat} {st : List Int} {v ov : Value} (h : Two B st [] v ov W) (ns : List Nat) (hst : st.reverse = ns.map fun n : Nat => (n : Int)) (hn : 0 < ns.length) :
    ∃ gN cN, v = .slice (some ⟨gN, 0, none⟩) ns.length cN ∧ B ≤ gN ∧ gN < W.heap.size ∧ ns.length ≤ cN ∧ cN ≤ maxLen ∧ ∀ j, j < ns.length → W.cell? ⟨gN, j, none⟩ = some (.int .i64 ((ns[j]! : Nat) : Int)) := by
  have h2 := h.stk
  have hl : st.length = ns.length := by rw [← List.length_reverse, hst, List.length_map]
  rw [hl, hst] at h2
  obtain ⟨m, hm⟩ : ∃ m, ns.length = m + 1 := ⟨ns.length - 1, by omega⟩
  rw [hm] at h2
  obtain ⟨g, c, hv, hg, hc, hcm, hgl, hcells⟩ := own_cells h2
  refine ⟨g, c, by rw [hm]; exact hv, hg, hgl, by omega, hcm, fun j hj => (hcells j _ ?_).1⟩
  rw [intC, List.getElem?_map, List.getElem?_map, List.getElem?_eq_getElem hj, getElem!_pos ns j hj]
  rfl
end Go.Proofs.YtainohbfcehpoaaDoor
namespace Go.Proofs.YtainohbfcehpoaaDoor
open Go.RowKit Go.Shelf

/-- What Depths returns. -/
def DepPost (code : List UInt8) (w : World) (e : Ending) (w' : World) : Prop :=
  ((∃ l m v, formed code = some l ∧ Good l ∧ MostOf l m ∧ e = .returned (.tuple #[v, .int .i64 (m : Int), .bool true])) ∨
   ((∀ l, formed code = some l → ¬ Good l) ∧ e = .returned (.tuple #[.slice none 0 0, .int .i64 0, .bool false]))) ∧ Below w.heap.size w w'
theorem rw_start {B dB dc n : Nat} {w1 W : World} (h : W.ownsRow B 3 1 (.slice (some ⟨dB, 0, none⟩) n dc) n (intC (List.replicate n (-1)))) (hn : 0 < n) (hb : Below B w1 W) (hB : B ≤ W.heap.size) :
    RW B dB dc n ((List.replicate n (-1 : Int)).set 0 0) [0] (.slice (some ⟨W.heap.size, 0, none⟩) 1 1) w1 ((W.setCell ⟨dB, 0, none⟩ (.int .i64 0)).alloc (.cells #[.int .i64 0] 3)) ∧ W.cell? ⟨dB, 0, none⟩ = some (.int .i64 (-1)) ∧ W.frozen? ⟨dB, 0, none⟩ = false ∧ B ≤ dB ∧ dB < W.heap.size ∧ n ≤ dc := by
  obtain ⟨m, rfl⟩ : ∃ m, n = m + 1 := ⟨n - 1, by omega⟩
  obtain ⟨g, c, hv, hg, hc, hcm, hgl, hcells⟩ := own_cells h
  have e1 : dB = g := congrArg (fun v : Value => match v with | .slice (some a) _ _ => a.block | _ => 0) hv
  have e2 : dc = c := congrArg (fun v : Value => match v with | .slice _ _ c => c | _ => 0) hv
  subst e1 e2
  obtain ⟨h1, h2, h3⟩ := own_setAt (u := .int .i64 0) h hn
  have hsz : (W.setCell ⟨dB, 0, none⟩ (.int .i64 0)).heap.size = W.heap.size := by simp [World.setCell]
  have hdl := hgl
  have hal : Below (W.setCell ⟨dB, 0, none⟩ (.int .i64 0)).heap.size (W.setCell ⟨dB, 0, none⟩ (.int .i64 0)) ((W.setCell ⟨dB, 0, none⟩ (.int .i64 0)).alloc (.cells #[.int .i64 0] 3)) := (Below.refl _ _).alloc (Nat.le_refl _) _
  refine ⟨⟨by simp, ?_, ⟨W.heap.size, by omega, hB, 0, 1, #[.int .i64 0], rfl, ?_, by simp [natC], by unfold maxLen; omega, Nat.le_refl _, rfl⟩, (hb.setCell (p := ⟨dB, 0, none⟩) hg _).alloc (by rw [hsz]; exact hB) _⟩, (hcells 0 _ (by simp [intC])).1, h3, hg, hdl, hc⟩
  · have e : (intC (List.replicate (m + 1) (-1))).set 0 (.int .i64 0) = intC ((List.replicate (m + 1) (-1 : Int)).set 0 0) := by rw [intC, intC, List.map_set]
    rw [← e]
    exact own_below h1 hal
  · have := heap_alloc_new (W.setCell ⟨dB, 0, none⟩ (.int .i64 0)) (.cells #[.int .i64 0] 3)
    rwa [hsz] at this
set_option maxRecDepth 100000 in
set_option maxHeartbeats 24000000 in
theorem depR_any (code : List UInt8) (w : World) (hc : code.length ≤ 1000000) (hE : EnvR w) :
    Calls Tryd.prog 28 #[.string (str code)] w fun e w' => DepPost code w e w' := by
  have hP := Lib.hid (insR_any code w hc)
  go_enter Tryd.func28, Tryd.ntmps28
  go_wp2_with fail
  refine hP.out.mono ?_
  rintro e w1 ⟨hyes, hno, hb1⟩
  cases hf : formed code with
  | none =>
    obtain rfl := hno hf
    have hfin : Hid (DepPost code w (.returned (.tuple #[.slice none 0 0, .int .i64 0, .bool false])) w1) := ⟨.inr ⟨fun l h => (by rw [hf] at h; cases h), rfl⟩, hb1⟩
    clear hyes hno hf hP
    go_wp2_with fail
    exact bodyPost_ret (v := .tuple #[.slice none 0 0, .int .i64 0, .bool false]) (by simp [results, Tryd.f28, go_sem]) rfl hfin.out
  | some L =>
    obtain ⟨g, cap, rfl, hg0, hg1, hLc, hcm, hRR⟩ := hyes L hf
    obtain ⟨hne, hlen, hdec, hLaid, hForm⟩ := formed_parts hf
    have hL1 : L.length ≤ 1024 := by
      have h1 := (evSeq_dec _ code (Nat.le_refl _) 0).1 L hdec
      have h2 := evSeq_len _ code (Nat.le_refl _) 0
      rw [h1, List.length_map] at h2
      omega
    have hL0 : 0 < L.length := by
      have h1 := (evSeq_dec _ code (Nat.le_refl _) 0).1 L hdec
      have h2 := evSeq_pos code hne
      rw [h1, List.length_map] at h2
      exact h2
    have hE1 := hE.below hb1
    replace hf := Lib.hid hf
    clear hyes hno hP hdec hLaid
    go_wp2_with fail
    go_loopw [7, 8] (fun dv iv wr => ∃ (k : Nat) (v : Value), v = dv ∧ k ≤ L.length ∧ iv = .int .i64 (k : Int) ∧ Hid (Two w1.heap.size (List.replicate k (-1)) [] v (.slice none 0 0) wr ∧ Below w1.heap.size w1 wr)) (fun _ iv _ => L.length - (intOf iv).toNat)
    case atStart => exact ⟨0, _, rfl, Nat.zero_le _, rfl, (show Hid _ from ⟨Two.nil _ _, Below.refl _ _⟩)⟩
    case round =>
      obtain ⟨k, v, rfl, hk, rfl, hall⟩ := hrel
      obtain ⟨h2, hB⟩ := hall.out
      clear hall
      obtain ⟨⟨va, vc, rfl⟩, _⟩ := h2.sval
      rw [List.length_replicate]
      by_cases hlt : k < L.length
      · have hd : decide ((k : Int) < (L.length : Int)) = true := by simpa using hlt
        have hwk : IntKind.i64.wrap ((k : Int) + 1) = ((k + 1 : Nat) : Int) := by rw [Int.natCast_succ]; exact IntWalk.i64_in _ (by omega)
        have hal : Below wr.heap.size wr (wr.alloc (.cells #[.int .i64 (-1)] 3)) := (Below.refl _ _).alloc (Nat.le_refl _) _
        obtain ⟨v', W', hrun, ⟨a', c', rfl⟩, hT, hBf⟩ := (h2.below hal).push [-1] wr.heap.size (Arr.new rfl rfl) (by simp; omega) (by simp) (by have := hB.size; simp; omega)
        have hT2 : Two w1.heap.size (List.replicate (k + 1) (-1)) [] (.slice a' (k + 1) c') (.slice none 0 0) W' := by
          have e : [(-1 : Int)].reverse ++ List.replicate k (-1) = List.replicate (k + 1) (-1) := rfl
          rw [e] at hT
          simpa using hT
        have hB' := hBf _ (hB.alloc hB.size _)
        rw [List.length_replicate] at hrun
        have hfin := Lib.hid (And.intro hT2 hB')
        replace hrun := Lib.hid hrun
        clear h2 hT hT2 hal hB'
        go_wp2_with (at_builtin; go_loud (refine wpList_append_known rfl _ _ _ _ rfl _ _ rfl rfl hrun.out ?_))
        exact ⟨⟨k + 1, _, rfl, by omega, by first | rfl | go_num, by first | exact hfin | simpa using hfin⟩, by simp [intOf]; omega⟩
      · have hd : decide ((k : Int) < (L.length : Int)) = false := by simpa using hlt
        obtain rfl : k = L.length := by omega
        have hown := h2.stk
        rw [List.length_replicate, List.reverse_replicate] at hown
        obtain ⟨dB, dc, hv⟩ := own_slice hown hL0
        have hv1 : va = some ⟨dB, 0, none⟩ := congrArg (fun v : Value => match v with | .slice a _ _ => a | _ => none) hv
        have hv2 : dc = vc := (congrArg (fun v : Value => match v with | .slice _ _ c => c | _ => 0) hv).symm
        subst hv1 hv2
        clear hv
        obtain ⟨hRW, cD0, fD0, hdB, hdl, hdc⟩ := rw_start hown hL0 hB hB.size
        have hdc2 := (hRW.dcell hL0).2.2.2
        have hBs := hB.size
        have i0 : (0 : Int) < (L.length : Int) := by omega
        obtain ⟨W3, hW3⟩ : ∃ W3, W3 = (wr.setCell ⟨dB, 0, none⟩ (.int .i64 0)).alloc (.cells #[.int .i64 0] 3) := ⟨_, rfl⟩
        have hss : (wr.setCell ⟨dB, 0, none⟩ (.int .i64 0)).heap.size = wr.heap.size := by simp [World.setCell]
        rw [← hW3] at hRW
        have hVM0 := VM.start' L hL0
        have hmu0 := mu_start' L.length
        obtain ⟨q0, hq0⟩ : ∃ q, q = wr.heap.size := ⟨_, rfl⟩
        rw [← hq0] at hRW
        clear hown h2 hB
        go_wp2_with fail
        rw [← hW3, ← hq0]
        clear hW3 hss hq0
        go_loopw [9, 10] (fun mv tv wr => ∃ (ds : List Int) (td : List Nat) (m : Nat) (v : Value), mv = .int .i64 (m : Int) ∧ v = tv ∧ Hid (RW w1.heap.size dB dc L.length ds td v w1 wr ∧ VM L ds td m ∧ mu ds td ≤ 5000)) (fun _ tv wr => measR dB L.length tv wr)
        case atStart => exact ⟨_, _, 0, _, rfl, rfl, (show Hid _ from ⟨hRW, hVM0, by omega⟩)⟩
        case round =>
          obtain ⟨ds, td, m, v, rfl, rfl, hall⟩ := hrel
          obtain ⟨hR0, hVM, hmu5⟩ := hall.out
          clear hall hRW hVM0 hmu0
          cases td with
          | nil =>
            obtain ⟨a0, c0, rfl⟩ := hR0.val
            have hB := hR0.bel
            have hfin : Hid (DepPost code w (.returned (.tuple #[.slice (some ⟨dB, 0, none⟩) L.length dc, .int .i64 (m : Int), .bool true])) wr) := ⟨.inl ⟨L, m, _, hf.out, hVM.marks.good, hVM.marks.most hVM.got, rfl⟩, hb1.trans (hB.mono hb1.size)⟩
            clear hVM hR0 hB
            go_wp2_with fail
            exact bodyPost_ret (v := .tuple #[.slice (some ⟨dB, 0, none⟩) L.length dc, .int .i64 (m : Int), .bool true]) (by simp [results, Tryd.f28, go_sem]) rfl hfin.out
          | cons i td0 =>
            have hms := hR0.meas
            obtain ⟨q, off, cp, rfl, hcp, hcpm, cQ, hR1⟩ := hR0.pop
            have hsl := fun W => slice_pop q off td0.length cp hcp W
            obtain ⟨off2, hoff2⟩ : ∃ o, o = if cp = 0 then off else off + 1 := ⟨_, rfl⟩
            rw [← hoff2] at hR1 hsl
            replace hoff2 := Lib.hid hoff2
            have hB := hR1.bel
            have hBT := hb1.trans (hB.mono hb1.size)
            have hi := hVM.ins i (by simp)
            obtain ⟨d, hd⟩ := hVM.marks.known i (by simp)
            have hd16 := hVM.le i d hd
            have hRch := hVM.marks.reach i d hd
            obtain ⟨hil, hdi⟩ := depOf_some hd
            have hlenD := hR1.len
            obtain ⟨cD, fD, hdcx, hdcy⟩ := hR1.dcell hi
            rw [hdi] at cD
            have hRRw := hRR.keep (hB.block g hg1)
            obtain ⟨_, m1, m2⟩ := hRRw i hi
            simp only [Nat.zero_add] at m1 m2
            have ho12 := hForm.ops i hi
            have hto : leadOp L[i]!.op = true → idxOf L L[i]!.opd = some (toOf L L[i]!) ∧ toOf L L[i]! < L.length := fun h => ⟨hForm.to hi h, (toOf_lt hForm hi h).1⟩
            have hmu : Hid (measR dB L.length (.slice (some ⟨q, off, none⟩) (td0.length + 1) (cp + 1)) wr = mu ds (i :: td0)) := hms
            have htl : td0.length ≤ 5000 := by simp only [mu, List.length_cons] at hmu5; omega
            obtain ⟨z, hz⟩ : ∃ z, z = L[i]! := ⟨_, rfl⟩
            rw [← hz] at m1 m2 ho12 hto
            obtain ⟨tz, htz⟩ : ∃ tz, tz = toOf L z := ⟨_, rfl⟩
            rw [← htz] at hto
            replace hz := Lib.hid hz
            replace htz := Lib.hid htz
            replace hto := Lib.hid hto
            replace hd := Lib.hid hd
            replace hdi := Lib.hid hdi
            have hEw := hE.below hBT
            have cT := hEw.takes z.op ho12
            have cP := hEw.puts z.op ho12
            have hcur : ∀ o, o < 12 → takesOp o ≤ 2 ∧ putsOp o ≤ 2 := fun o ho => by
              have h12 : o = 0 ∨ o = 1 ∨ o = 2 ∨ o = 3 ∨ o = 4 ∨ o = 5 ∨ o = 6 ∨ o = 7 ∨ o = 8 ∨ o = 9 ∨ o = 10 ∨ o = 11 := by omega
              rcases h12 with rfl | rfl | rfl | rfl | rfl | rfl | rfl | rfl | rfl | rfl | rfl | rfl <;> decide
            obtain ⟨ht2, hp2⟩ := hcur z.op ho12
            clear hcur hms hR0
            have i1 : (0 : Int) ≤ (i : Int) := by omega
            have i2 : (i : Int) < (L.length : Int) := by omega
            have i3 : (0 : Int) ≤ (z.op : Int) := by omega
            have i4 : (z.op : Int) < 12 := by omega
            have hdt : decide (0 < td0.length + 1) = true := by simp
            have hdt2 : decide ((td0.length : Int) + 1 > 0) = true := by simp; try omega
            have i5 : (0 : Int) < (td0.length : Int) + 1 := by omega
            have hwA : IntKind.i64.wrap ((d : Int) - (takesOp z.op : Nat)) = (d : Int) - (takesOp z.op : Nat) := IntWalk.i64_in _ (by omega)
            have hwB : IntKind.i64.wrap ((d : Int) - (takesOp z.op : Nat) + (putsOp z.op : Nat)) = (d : Int) - (takesOp z.op : Nat) + (putsOp z.op : Nat) := IntWalk.i64_in _ (by omega)
            have hKc : Hid (∀ W : World, W.heap = wr.heap → W.cell? ⟨dB, i, none⟩ = some (.int .i64 (d : Int)) ∧ W.cell? ⟨0, z.op, none⟩ = some (.int .i64 (takesOp z.op : Nat)) ∧ W.cell? ⟨1, z.op, none⟩ = some (.int .i64 (putsOp z.op : Nat))) := fun W hW => by
              have hc : ∀ a : Addr, W.cell? a = wr.cell? a := fun a => World.cell?_of_block (by rw [hW])
              exact ⟨(hc _).trans cD, (hc _).trans cT, (hc _).trans cP⟩
            go_wp2_with fail
            refine wp_region_held_drew (S := fun w' => w'.cell? ⟨dB, i, none⟩ = some (.int .i64 (d : Int)) ∧ w'.cell? ⟨0, z.op, none⟩ = some (.int .i64 (takesOp z.op : Nat)) ∧ w'.cell? ⟨1, z.op, none⟩ = some (.int .i64 (putsOp z.op : Nat))) (by kernel_rfl) (by exact hKc.out _ rfl) (fun hHeld => ?_)
            refine take_l (i := 0) (v := ?_) rfl (by kernel_rfl) (by kernel_rfl) (by kernel_rfl) (fun _ _ _ h => h) (Or.inl ⟨by kernel_rfl, ?_⟩) (by assumption) ?_
            rotate_left
            · intro w hSw; (try dsimp only at hSw); go_simp; (try with_reducible rfl)
            (try simp only [Act.put, List.setIfInBounds_toArray, List.set_cons_zero, List.set_cons_succ])
            refine take_l (i := 1) (v := ?_) rfl (by kernel_rfl) (by kernel_rfl) (by kernel_rfl) (fun _ _ _ h => h) (Or.inl ⟨by kernel_rfl, ?_⟩) (by assumption) ?_
            rotate_left
            · intro w hSw; (try dsimp only at hSw); go_simp; (try with_reducible rfl)
            (try simp only [Act.put, List.setIfInBounds_toArray, List.set_cons_zero, List.set_cons_succ])
            refine take_l (i := 2) (v := ?_) rfl (by kernel_rfl) (by kernel_rfl) (by kernel_rfl) (fun _ _ _ h => h) (Or.inl ⟨by kernel_rfl, ?_⟩) (by assumption) ?_
            rotate_left
            · intro w hSw; (try dsimp only at hSw); go_simp; (try with_reducible rfl)
            (try simp only [Act.put, List.setIfInBounds_toArray, List.set_cons_zero, List.set_cons_succ])
            refine take_l (i := 3) (v := ?_) rfl (by kernel_rfl) (by kernel_rfl) (by kernel_rfl) (fun _ _ _ h => h) (Or.inl ⟨by kernel_rfl, ?_⟩) (by assumption) ?_
            rotate_left
            · intro w hSw; (try dsimp only at hSw); go_simp; (try with_reducible rfl)
            (try simp only [Act.put, List.setIfInBounds_toArray, List.set_cons_zero, List.set_cons_succ])
            refine take_l (i := 4) (v := ?_) rfl (by kernel_rfl) (by kernel_rfl) (by kernel_rfl) (fun _ _ _ h => h) (Or.inl ⟨by kernel_rfl, ?_⟩) (by assumption) ?_
            rotate_left
            · intro w hSw; (try dsimp only at hSw); go_simp; (try with_reducible rfl)
            (try simp only [Act.put, List.setIfInBounds_toArray, List.set_cons_zero, List.set_cons_succ])
            refine take_l (i := 5) (v := ?_) rfl (by kernel_rfl) (by kernel_rfl) (by kernel_rfl) (fun _ _ _ h => h) (Or.inl ⟨by kernel_rfl, ?_⟩) (by assumption) ?_
            rotate_left
            · intro w hSw; (try dsimp only at hSw); go_simp; (try with_reducible rfl)
            (try simp only [Act.put, List.setIfInBounds_toArray, List.set_cons_zero, List.set_cons_succ])
            refine take_l (i := 6) (v := ?_) rfl (by kernel_rfl) (by kernel_rfl) (by kernel_rfl) (fun _ _ _ h => h) (Or.inl ⟨by kernel_rfl, ?_⟩) (by assumption) ?_
            rotate_left
            · intro w hSw; (try dsimp only at hSw); go_simp; (try with_reducible rfl)
            (try simp only [Act.put, List.setIfInBounds_toArray, List.set_cons_zero, List.set_cons_succ])
            refine take_l (i := 7) (v := ?_) rfl (by kernel_rfl) (by kernel_rfl) (by kernel_rfl) (fun _ _ _ h => h) (Or.inl ⟨by kernel_rfl, ?_⟩) (by assumption) ?_
            rotate_left
            · intro w hSw; (try dsimp only at hSw); go_simp; (try with_reducible rfl)
            (try simp only [Act.put, List.setIfInBounds_toArray, List.set_cons_zero, List.set_cons_succ])
            refine take_l (i := 8) (v := ?_) rfl (by kernel_rfl) (by kernel_rfl) (by kernel_rfl) (fun _ _ _ h => h) (Or.inl ⟨by kernel_rfl, ?_⟩) (by assumption) ?_
            rotate_left
            · intro w hSw; (try dsimp only at hSw); go_simp; (try with_reducible rfl)
            (try simp only [Act.put, List.setIfInBounds_toArray, List.set_cons_zero, List.set_cons_succ])
            refine take_l (i := 9) (v := ?_) rfl (by kernel_rfl) (by kernel_rfl) (by kernel_rfl) (fun _ _ _ h => h) (Or.inl ⟨by kernel_rfl, ?_⟩) (by assumption) ?_
            rotate_left
            · intro w hSw; (try dsimp only at hSw); go_simp; (try with_reducible rfl)
            (try simp only [Act.put, List.setIfInBounds_toArray, List.set_cons_zero, List.set_cons_succ])
            refine take_l (i := 10) (v := ?_) rfl (by kernel_rfl) (by kernel_rfl) (by kernel_rfl) (fun _ _ _ h => h) (Or.inl ⟨by kernel_rfl, ?_⟩) (by assumption) ?_
            rotate_left
            · intro w hSw; (try dsimp only at hSw); go_simp; (try with_reducible rfl)
            (try simp only [Act.put, List.setIfInBounds_toArray, List.set_cons_zero, List.set_cons_succ])
            refine take_l (i := 11) (v := ?_) rfl (by kernel_rfl) (by kernel_rfl) (by kernel_rfl) (fun _ _ _ h => h) (Or.inl ⟨by kernel_rfl, ?_⟩) (by assumption) ?_
            rotate_left
            · intro w hSw; (try dsimp only at hSw); go_simp; (try with_reducible rfl)
            (try simp only [Act.put, List.setIfInBounds_toArray, List.set_cons_zero, List.set_cons_succ])
            refine take_l (i := 12) (v := ?_) rfl (by kernel_rfl) (by kernel_rfl) (by kernel_rfl) (fun _ _ _ h => h) (Or.inl ⟨by kernel_rfl, ?_⟩) (by assumption) ?_
            rotate_left
            · intro w hSw; (try dsimp only at hSw); go_simp; (try with_reducible rfl)
            (try simp only [Act.put, List.setIfInBounds_toArray, List.set_cons_zero, List.set_cons_succ])
            refine wpAnyH_done (by kernel_rfl) ?_ _
            clear hHeld
            have hRr := hR1.below hR1.bel.size (Below.refl _ _).drew
            have hBTd := hBT.drew
            have m1d : wr.drew.cell? ⟨g, i * 3 + 1, none⟩ = some (.int .i64 (z.op : Int)) := m1
            have m2d : wr.drew.cell? ⟨g, i * 3 + 2, none⟩ = some (.int .i64 (z.opd : Int)) := m2
            have hKc2 : Hid (∀ W : World, W.heap = wr.drew.heap → W.cell? ⟨dB, i, none⟩ = some (.int .i64 (d : Int)) ∧ W.cell? ⟨0, z.op, none⟩ = some (.int .i64 (takesOp z.op : Nat))) := fun W hW => ⟨(hKc.out W hW).1, (hKc.out W hW).2.1⟩
            have hRd : RefRow wr.drew g 0 L := hRRw
            have hmuq := hmu
            generalize wr.drew = wx at *
            by_cases hbad : d < takesOp z.op ∨ 16 < afterOp z.op d
            · have hng : ¬ Good L := by
                rcases hbad with h | h
                · exact not_takes hRch (by rw [← hz.out]; exact h)
                · exact not_room hRch (by rw [← hz.out]; exact h)
              have hBX := hBTd.drew
              by_cases hb1' : d < takesOp z.op
              · have hdd : decide (d < takesOp z.op) = true := by simpa using hb1'
                have hdd2 : decide ((d : Int) < (takesOp z.op : Nat)) = true := by simp; omega
                replace hbad := Lib.hid hbad
                go_wp2_with fail
                refine wp_region_held_drew (S := fun w' => w'.cell? ⟨dB, i, none⟩ = some (.int .i64 (d : Int)) ∧ w'.cell? ⟨0, z.op, none⟩ = some (.int .i64 (takesOp z.op : Nat))) (by kernel_rfl) (by exact hKc2.out _ rfl) (fun hHeld => ?_)
                refine take_l (i := 0) (v := ?_) rfl (by kernel_rfl) (by kernel_rfl) (by kernel_rfl) (fun _ _ _ h => h) (Or.inl ⟨by kernel_rfl, ?_⟩) (by assumption) ?_
                rotate_left
                · intro w hSw; (try dsimp only at hSw); go_simp; (try with_reducible rfl)
                (try simp only [Act.put, List.setIfInBounds_toArray, List.set_cons_zero, List.set_cons_succ])
                refine take_l (i := 1) (v := ?_) rfl (by kernel_rfl) (by kernel_rfl) (by kernel_rfl) (fun _ _ _ h => h) (Or.inl ⟨by kernel_rfl, ?_⟩) (by assumption) ?_
                rotate_left
                · intro w hSw; (try dsimp only at hSw); go_simp; (try with_reducible rfl)
                (try simp only [Act.put, List.setIfInBounds_toArray, List.set_cons_zero, List.set_cons_succ])
                refine take_l (i := 2) (v := ?_) rfl (by kernel_rfl) (by kernel_rfl) (by kernel_rfl) (fun _ _ _ h => h) (Or.inl ⟨by kernel_rfl, ?_⟩) (by assumption) ?_
                rotate_left
                · intro w hSw; (try dsimp only at hSw); go_simp; (try with_reducible rfl)
                (try simp only [Act.put, List.setIfInBounds_toArray, List.set_cons_zero, List.set_cons_succ])
                refine take_l (i := 3) (v := ?_) rfl (by kernel_rfl) (by kernel_rfl) (by kernel_rfl) (fun _ _ _ h => h) (Or.inl ⟨by kernel_rfl, ?_⟩) (by assumption) ?_
                rotate_left
                · intro w hSw; (try dsimp only at hSw); go_simp; (try with_reducible rfl)
                (try simp only [Act.put, List.setIfInBounds_toArray, List.set_cons_zero, List.set_cons_succ])
                refine take_l (i := 4) (v := ?_) rfl (by kernel_rfl) (by kernel_rfl) (by kernel_rfl) (fun _ _ _ h => h) (Or.inl ⟨by kernel_rfl, ?_⟩) (by assumption) ?_
                rotate_left
                · intro w hSw; (try dsimp only at hSw); go_simp; (try with_reducible rfl)
                (try simp only [Act.put, List.setIfInBounds_toArray, List.set_cons_zero, List.set_cons_succ])
                refine take_l (i := 5) (v := ?_) rfl (by kernel_rfl) (by kernel_rfl) (by kernel_rfl) (fun _ _ _ h => h) (Or.inl ⟨by kernel_rfl, ?_⟩) (by assumption) ?_
                rotate_left
                · intro w hSw; (try dsimp only at hSw); go_simp; (try with_reducible rfl)
                (try simp only [Act.put, List.setIfInBounds_toArray, List.set_cons_zero, List.set_cons_succ])
                refine take_l (i := 6) (v := ?_) rfl (by kernel_rfl) (by kernel_rfl) (by kernel_rfl) (fun _ _ _ h => h) (Or.inl ⟨by kernel_rfl, ?_⟩) (by assumption) ?_
                rotate_left
                · intro w hSw; (try dsimp only at hSw); go_simp; (try with_reducible rfl)
                (try simp only [Act.put, List.setIfInBounds_toArray, List.set_cons_zero, List.set_cons_succ])
                refine take_l (i := 7) (v := ?_) rfl (by kernel_rfl) (by kernel_rfl) (by kernel_rfl) (fun _ _ _ h => h) (Or.inl ⟨by kernel_rfl, ?_⟩) (by assumption) ?_
                rotate_left
                · intro w hSw; (try dsimp only at hSw); go_simp; (try with_reducible rfl)
                (try simp only [Act.put, List.setIfInBounds_toArray, List.set_cons_zero, List.set_cons_succ])
                refine take_l (i := 8) (v := ?_) rfl (by kernel_rfl) (by kernel_rfl) (by kernel_rfl) (fun _ _ _ h => h) (Or.inl ⟨by kernel_rfl, ?_⟩) (by assumption) ?_
                rotate_left
                · intro w hSw; (try dsimp only at hSw); go_simp; (try with_reducible rfl)
                (try simp only [Act.put, List.setIfInBounds_toArray, List.set_cons_zero, List.set_cons_succ])
                refine take_l (i := 9) (v := undef) rfl (by kernel_rfl) (by kernel_rfl) (by kernel_rfl) (fun _ _ _ h => h) (Or.inr ⟨by kernel_rfl, rfl⟩) (by assumption) ?_
                (try simp only [Act.put, List.setIfInBounds_toArray, List.set_cons_zero, List.set_cons_succ])
                refine take_l (i := 10) (v := undef) rfl (by kernel_rfl) (by kernel_rfl) (by kernel_rfl) (fun _ _ _ h => h) (Or.inr ⟨by kernel_rfl, rfl⟩) (by assumption) ?_
                (try simp only [Act.put, List.setIfInBounds_toArray, List.set_cons_zero, List.set_cons_succ])
                refine take_l (i := 11) (v := ?_) rfl (by kernel_rfl) (by kernel_rfl) (by kernel_rfl) (fun _ _ _ h => h) (Or.inl ⟨by kernel_rfl, ?_⟩) (by assumption) ?_
                rotate_left
                · intro w hSw; (try dsimp only at hSw); go_simp; (try with_reducible rfl)
                (try simp only [Act.put, List.setIfInBounds_toArray, List.set_cons_zero, List.set_cons_succ])
                refine wpAnyH_done (by kernel_rfl) ?_ _
                clear hHeld
                have hfin : Hid (DepPost code w (.returned (.tuple #[.slice none 0 0, .int .i64 0, .bool false])) wx.drew) := ⟨.inr ⟨fun l h => (by rw [hf.out] at h; injection h with h; subst h; exact hng), rfl⟩, hBX⟩
                clear hng
                go_wp2_with fail
                exact bodyPost_ret (v := .tuple #[.slice none 0 0, .int .i64 0, .bool false]) (by simp [results, Tryd.f28, go_sem]) rfl hfin.out
              · have hdd : decide (d < takesOp z.op) = false := by simpa using hb1'
                have hdd2 : decide ((d : Int) < (takesOp z.op : Nat)) = false := by simp; omega
                have hgt : 16 < (d : Int) - (takesOp z.op : Nat) + (putsOp z.op : Nat) := by
                  rcases hbad with h | h
                  · exact absurd h hb1'
                  · unfold afterOp at h; omega
                have hgt2 : decide (16 < (d : Int) - (takesOp z.op : Nat) + (putsOp z.op : Nat)) = true := by simpa using hgt
                replace hbad := Lib.hid hbad
                go_wp2_with fail
                refine wp_region_held_drew (S := fun w' => w'.cell? ⟨dB, i, none⟩ = some (.int .i64 (d : Int)) ∧ w'.cell? ⟨0, z.op, none⟩ = some (.int .i64 (takesOp z.op : Nat))) (by kernel_rfl) (by exact hKc2.out _ rfl) (fun hHeld => ?_)
                refine take_l (i := 0) (v := ?_) rfl (by kernel_rfl) (by kernel_rfl) (by kernel_rfl) (fun _ _ _ h => h) (Or.inl ⟨by kernel_rfl, ?_⟩) (by assumption) ?_
                rotate_left
                · intro w hSw; (try dsimp only at hSw); go_simp; (try with_reducible rfl)
                (try simp only [Act.put, List.setIfInBounds_toArray, List.set_cons_zero, List.set_cons_succ])
                refine take_l (i := 1) (v := ?_) rfl (by kernel_rfl) (by kernel_rfl) (by kernel_rfl) (fun _ _ _ h => h) (Or.inl ⟨by kernel_rfl, ?_⟩) (by assumption) ?_
                rotate_left
                · intro w hSw; (try dsimp only at hSw); go_simp; (try with_reducible rfl)
                (try simp only [Act.put, List.setIfInBounds_toArray, List.set_cons_zero, List.set_cons_succ])
                refine take_l (i := 2) (v := ?_) rfl (by kernel_rfl) (by kernel_rfl) (by kernel_rfl) (fun _ _ _ h => h) (Or.inl ⟨by kernel_rfl, ?_⟩) (by assumption) ?_
                rotate_left
                · intro w hSw; (try dsimp only at hSw); go_simp; (try with_reducible rfl)
                (try simp only [Act.put, List.setIfInBounds_toArray, List.set_cons_zero, List.set_cons_succ])
                refine take_l (i := 3) (v := ?_) rfl (by kernel_rfl) (by kernel_rfl) (by kernel_rfl) (fun _ _ _ h => h) (Or.inl ⟨by kernel_rfl, ?_⟩) (by assumption) ?_
                rotate_left
                · intro w hSw; (try dsimp only at hSw); go_simp; (try with_reducible rfl)
                (try simp only [Act.put, List.setIfInBounds_toArray, List.set_cons_zero, List.set_cons_succ])
                refine take_l (i := 4) (v := ?_) rfl (by kernel_rfl) (by kernel_rfl) (by kernel_rfl) (fun _ _ _ h => h) (Or.inl ⟨by kernel_rfl, ?_⟩) (by assumption) ?_
                rotate_left
                · intro w hSw; (try dsimp only at hSw); go_simp; (try with_reducible rfl)
                (try simp only [Act.put, List.setIfInBounds_toArray, List.set_cons_zero, List.set_cons_succ])
                refine take_l (i := 5) (v := ?_) rfl (by kernel_rfl) (by kernel_rfl) (by kernel_rfl) (fun _ _ _ h => h) (Or.inl ⟨by kernel_rfl, ?_⟩) (by assumption) ?_
                rotate_left
                · intro w hSw; (try dsimp only at hSw); go_simp; (try with_reducible rfl)
                (try simp only [Act.put, List.setIfInBounds_toArray, List.set_cons_zero, List.set_cons_succ])
                refine take_l (i := 6) (v := ?_) rfl (by kernel_rfl) (by kernel_rfl) (by kernel_rfl) (fun _ _ _ h => h) (Or.inl ⟨by kernel_rfl, ?_⟩) (by assumption) ?_
                rotate_left
                · intro w hSw; (try dsimp only at hSw); go_simp; (try with_reducible rfl)
                (try simp only [Act.put, List.setIfInBounds_toArray, List.set_cons_zero, List.set_cons_succ])
                refine take_l (i := 7) (v := ?_) rfl (by kernel_rfl) (by kernel_rfl) (by kernel_rfl) (fun _ _ _ h => h) (Or.inl ⟨by kernel_rfl, ?_⟩) (by assumption) ?_
                rotate_left
                · intro w hSw; (try dsimp only at hSw); go_simp; (try with_reducible rfl)
                (try simp only [Act.put, List.setIfInBounds_toArray, List.set_cons_zero, List.set_cons_succ])
                refine take_l (i := 8) (v := ?_) rfl (by kernel_rfl) (by kernel_rfl) (by kernel_rfl) (fun _ _ _ h => h) (Or.inl ⟨by kernel_rfl, ?_⟩) (by assumption) ?_
                rotate_left
                · intro w hSw; (try dsimp only at hSw); go_simp; (try with_reducible rfl)
                (try simp only [Act.put, List.setIfInBounds_toArray, List.set_cons_zero, List.set_cons_succ])
                refine take_l (i := 9) (v := ?_) rfl (by kernel_rfl) (by kernel_rfl) (by kernel_rfl) (fun _ _ _ h => h) (Or.inl ⟨by kernel_rfl, ?_⟩) (by assumption) ?_
                rotate_left
                · intro w hSw; (try dsimp only at hSw); go_simp; (try with_reducible rfl)
                (try simp only [Act.put, List.setIfInBounds_toArray, List.set_cons_zero, List.set_cons_succ])
                refine take_l (i := 10) (v := ?_) rfl (by kernel_rfl) (by kernel_rfl) (by kernel_rfl) (fun _ _ _ h => h) (Or.inl ⟨by kernel_rfl, ?_⟩) (by assumption) ?_
                rotate_left
                · intro w hSw; (try dsimp only at hSw); go_simp; (try with_reducible rfl)
                (try simp only [Act.put, List.setIfInBounds_toArray, List.set_cons_zero, List.set_cons_succ])
                refine take_l (i := 11) (v := ?_) rfl (by kernel_rfl) (by kernel_rfl) (by kernel_rfl) (fun _ _ _ h => h) (Or.inl ⟨by kernel_rfl, ?_⟩) (by assumption) ?_
                rotate_left
                · intro w hSw; (try dsimp only at hSw); go_simp; (try with_reducible rfl)
                (try simp only [Act.put, List.setIfInBounds_toArray, List.set_cons_zero, List.set_cons_succ])
                refine wpAnyH_done (by kernel_rfl) ?_ _
                clear hHeld
                have hfin : Hid (DepPost code w (.returned (.tuple #[.slice none 0 0, .int .i64 0, .bool false])) wx.drew) := ⟨.inr ⟨fun l h => (by rw [hf.out] at h; injection h with h; subst h; exact hng), rfl⟩, hBX⟩
                clear hng
                go_wp2_with fail
                exact bodyPost_ret (v := .tuple #[.slice none 0 0, .int .i64 0, .bool false]) (by simp [results, Tryd.f28, go_sem]) rfl hfin.out
            · have hb1' : ¬ d < takesOp z.op := fun h => hbad (.inl h)
              have hb2' : afterOp z.op d ≤ 16 := Nat.le_of_not_lt fun h => hbad (.inr h)
              clear hbad
              have he : (d : Int) - (takesOp z.op : Nat) + (putsOp z.op : Nat) = ((afterOp z.op d : Nat) : Int) := by unfold afterOp; omega
              obtain ⟨af, haf⟩ : ∃ af, af = afterOp z.op d := ⟨_, rfl⟩
              rw [← haf] at he hb2'
              have hmx := fun W => run_max3 m d (af : Int) W
              have hMx : max (max (m : Int) (d : Int)) (af : Int) = ((max (max m d) af : Nat) : Int) := by omega
              rw [hMx] at hmx
              obtain ⟨M, hM⟩ : ∃ M, M = max (max m d) af := ⟨_, rfl⟩
              rw [← hM] at hmx
              rw [he]
              have hdd : decide (d < takesOp z.op) = false := by simpa using hb1'
              have hdd2 : decide ((d : Int) < (takesOp z.op : Nat)) = false := by simp; omega
              have hgt : ¬ 16 < (af : Int) := by omega
              have hgt2 : decide (16 < (af : Int)) = false := by simp; omega
              clear hMx
              rw [he] at hwB
              replace he := Lib.hid he
              replace haf := Lib.hid haf
              replace hM := Lib.hid hM
              have hid12 : Hid (takesOp z.op ≤ d) := Nat.le_of_not_lt hb1'
              have hz8 := hto
              go_wp2_with fail
              refine wp_region_held_drew (S := fun w' => w'.cell? ⟨dB, i, none⟩ = some (.int .i64 (d : Int)) ∧ w'.cell? ⟨0, z.op, none⟩ = some (.int .i64 (takesOp z.op : Nat))) (by kernel_rfl) (by exact hKc2.out _ rfl) (fun hHeld => ?_)
              refine take_l (i := 0) (v := ?_) rfl (by kernel_rfl) (by kernel_rfl) (by kernel_rfl) (fun _ _ _ h => h) (Or.inl ⟨by kernel_rfl, ?_⟩) (by assumption) ?_
              rotate_left
              · intro w hSw; (try dsimp only at hSw); go_simp; (try with_reducible rfl)
              (try simp only [Act.put, List.setIfInBounds_toArray, List.set_cons_zero, List.set_cons_succ])
              refine take_l (i := 1) (v := ?_) rfl (by kernel_rfl) (by kernel_rfl) (by kernel_rfl) (fun _ _ _ h => h) (Or.inl ⟨by kernel_rfl, ?_⟩) (by assumption) ?_
              rotate_left
              · intro w hSw; (try dsimp only at hSw); go_simp; (try with_reducible rfl)
              (try simp only [Act.put, List.setIfInBounds_toArray, List.set_cons_zero, List.set_cons_succ])
              refine take_l (i := 2) (v := ?_) rfl (by kernel_rfl) (by kernel_rfl) (by kernel_rfl) (fun _ _ _ h => h) (Or.inl ⟨by kernel_rfl, ?_⟩) (by assumption) ?_
              rotate_left
              · intro w hSw; (try dsimp only at hSw); go_simp; (try with_reducible rfl)
              (try simp only [Act.put, List.setIfInBounds_toArray, List.set_cons_zero, List.set_cons_succ])
              refine take_l (i := 3) (v := ?_) rfl (by kernel_rfl) (by kernel_rfl) (by kernel_rfl) (fun _ _ _ h => h) (Or.inl ⟨by kernel_rfl, ?_⟩) (by assumption) ?_
              rotate_left
              · intro w hSw; (try dsimp only at hSw); go_simp; (try with_reducible rfl)
              (try simp only [Act.put, List.setIfInBounds_toArray, List.set_cons_zero, List.set_cons_succ])
              refine take_l (i := 4) (v := ?_) rfl (by kernel_rfl) (by kernel_rfl) (by kernel_rfl) (fun _ _ _ h => h) (Or.inl ⟨by kernel_rfl, ?_⟩) (by assumption) ?_
              rotate_left
              · intro w hSw; (try dsimp only at hSw); go_simp; (try with_reducible rfl)
              (try simp only [Act.put, List.setIfInBounds_toArray, List.set_cons_zero, List.set_cons_succ])
              refine take_l (i := 5) (v := ?_) rfl (by kernel_rfl) (by kernel_rfl) (by kernel_rfl) (fun _ _ _ h => h) (Or.inl ⟨by kernel_rfl, ?_⟩) (by assumption) ?_
              rotate_left
              · intro w hSw; (try dsimp only at hSw); go_simp; (try with_reducible rfl)
              (try simp only [Act.put, List.setIfInBounds_toArray, List.set_cons_zero, List.set_cons_succ])
              refine take_l (i := 6) (v := ?_) rfl (by kernel_rfl) (by kernel_rfl) (by kernel_rfl) (fun _ _ _ h => h) (Or.inl ⟨by kernel_rfl, ?_⟩) (by assumption) ?_
              rotate_left
              · intro w hSw; (try dsimp only at hSw); go_simp; (try with_reducible rfl)
              (try simp only [Act.put, List.setIfInBounds_toArray, List.set_cons_zero, List.set_cons_succ])
              refine take_l (i := 7) (v := ?_) rfl (by kernel_rfl) (by kernel_rfl) (by kernel_rfl) (fun _ _ _ h => h) (Or.inl ⟨by kernel_rfl, ?_⟩) (by assumption) ?_
              rotate_left
              · intro w hSw; (try dsimp only at hSw); go_simp; (try with_reducible rfl)
              (try simp only [Act.put, List.setIfInBounds_toArray, List.set_cons_zero, List.set_cons_succ])
              refine take_l (i := 8) (v := ?_) rfl (by kernel_rfl) (by kernel_rfl) (by kernel_rfl) (fun _ _ _ h => h) (Or.inl ⟨by kernel_rfl, ?_⟩) (by assumption) ?_
              rotate_left
              · intro w hSw; (try dsimp only at hSw); go_simp; (try with_reducible rfl)
              (try simp only [Act.put, List.setIfInBounds_toArray, List.set_cons_zero, List.set_cons_succ])
              refine take_l (i := 9) (v := ?_) rfl (by kernel_rfl) (by kernel_rfl) (by kernel_rfl) (fun _ _ _ h => h) (Or.inl ⟨by kernel_rfl, ?_⟩) (by assumption) ?_
              rotate_left
              · intro w hSw; (try dsimp only at hSw); go_simp; (try with_reducible rfl)
              (try simp only [Act.put, List.setIfInBounds_toArray, List.set_cons_zero, List.set_cons_succ])
              refine take_l (i := 10) (v := ?_) rfl (by kernel_rfl) (by kernel_rfl) (by kernel_rfl) (fun _ _ _ h => h) (Or.inl ⟨by kernel_rfl, ?_⟩) (by assumption) ?_
              rotate_left
              · intro w hSw; (try dsimp only at hSw); go_simp; (try with_reducible rfl)
              (try simp only [Act.put, List.setIfInBounds_toArray, List.set_cons_zero, List.set_cons_succ])
              refine take_l (i := 11) (v := ?_) rfl (by kernel_rfl) (by kernel_rfl) (by kernel_rfl) (fun _ _ _ h => h) (Or.inl ⟨by kernel_rfl, ?_⟩) (by assumption) ?_
              rotate_left
              · intro w hSw; (try dsimp only at hSw); go_simp; (try with_reducible rfl)
              (try simp only [Act.put, List.setIfInBounds_toArray, List.set_cons_zero, List.set_cons_succ])
              refine wpAnyH_done (by kernel_rfl) ?_ _
              clear hHeld
              have hRb := hRr.below (hRr.bel.size) (Below.refl _ _).drew
              have hBTe := hBTd.drew
              have m1e : wx.drew.cell? ⟨g, i * 3 + 1, none⟩ = some (.int .i64 (z.op : Int)) := m1d
              have m2e : wx.drew.cell? ⟨g, i * 3 + 2, none⟩ = some (.int .i64 (z.opd : Int)) := m2d
              have hRe : RefRow wx.drew g 0 L := hRd
              have cDe : wx.drew.cell? ⟨dB, i, none⟩ = some (.int .i64 (d : Int)) := (hKc2.out _ rfl).1
              generalize wx.drew = wy at *
              have hBye := hRb.bel
              clear hRr hBTd m1d m2d hRd hKc hKc2 m1 m2 hRRw cD hR1 hBT hB cT cP hEw cQ
              have hoc : z.op = 11 ∨ z.op = 7 ∨ z.op = 8 ∨ (z.op ≠ 11 ∧ z.op ≠ 7 ∧ z.op ≠ 8) := by omega
              rcases hoc with ho | ho | ho | ⟨ho1, ho2, ho3⟩
              · have hl8 : Hid (leadOp z.op = false) := by show _ = _; rw [ho]; rfl
                have e7 : ((z.op : Int) == 7) = false := by rw [beq_eq_false_iff_ne]; omega
                have e7b : ((z.op : Int) != 7) = true := by rw [bne, e7]; rfl
                have e11 : ((z.op : Int) == 11) = true := by rw [beq_iff_eq]; omega
                have e11b : ((z.op : Int) != 11) = false := by rw [bne, e11]; rfl
                have hnx : nextL L i = [] := by
                  unfold nextL toOf
                  rw [← hz.out]
                  rw [ho]; simp [leadOp]
                have hLd := Lib.hid (leads_any z.op wy ho12)
                rw [hl8.out] at hLd
                obtain ⟨hVM2, hmu2⟩ := VM.roundL hForm hVM hd.out (by rw [← hz.out]; exact hid12.out) (by rw [← hz.out, ← haf.out]; exact hb2') (ds2 := ds) (td2 := td0) (by rw [hnx]; exact ExtL.nil _ _ _) (by rw [hnx]; intro j hj; cases hj)
                rw [← hz.out, ← haf.out, ← hM.out] at hVM2
                have hms := hRb.meas
                replace hVM2 := Lib.hid hVM2
                replace hmu2 := Lib.hid hmu2
                replace hms := Lib.hid hms
                replace hnx := Lib.hid hnx
                replace ho := Lib.hid ho
                go_wp2_with fail
                refine hLd.out.mono ?_
                rintro e W2 ⟨rfl, q2, rfl⟩
                have hR2 := hRb.below hRb.bel.size (below_drewQ (Below.refl wy.heap.size wy) q2)
                generalize wy.drewN q2 = W2 at *
                go_wp2_with fail
                go_loopw [15, 10] (fun kv tv wr => kv = .int .i64 0 ∧ tv = .slice (some ⟨q, off2, none⟩) td0.length cp ∧ wr = W2) (fun _ _ _ => 0)
                case atStart => exact ⟨rfl, rfl, rfl⟩
                case round =>
                  obtain ⟨rfl, rfl, rfl⟩ := hrel
                  have hms2 := hR2.meas
                  have hfin := (show RW w1.heap.size dB dc L.length ds td0 (.slice (some ⟨q, off2, none⟩) td0.length cp) w1 wr ∧ VM L ds td0 M ∧ mu ds td0 ≤ 5000 from ⟨hR2, hVM2.out, by have := hmu2.out; omega⟩)
                  replace hfin := Lib.hid hfin
                  replace hms2 := Lib.hid hms2
                  go_wp2_with fail
                  refine ⟨⟨_, _, M, _, rfl, rfl, hfin⟩, ?_⟩
                  rw [hms2.out, hmu.out]
                  exact hmu2.out
              · have hl8 : Hid (leadOp z.op = true) := by show _ = _; rw [ho]; rfl
                have e7 : ((z.op : Int) == 7) = true := by rw [beq_iff_eq]; omega
                have e7b : ((z.op : Int) != 7) = false := by rw [bne, e7]; rfl
                have e11 : ((z.op : Int) == 11) = false := by rw [beq_eq_false_iff_ne]; omega
                have e11b : ((z.op : Int) != 11) = true := by rw [bne, e11]; rfl
                have hnx : nextL L i = [tz] := by
                  unfold nextL toOf
                  rw [← hz.out]
                  rw [if_neg (by rw [ho]; simp), if_pos hl8.out, htz.out, toOf]; rfl
                have hnxL := Lib.hid hnx
                have hLd := Lib.hid (leads_any z.op wy ho12)
                rw [hl8.out] at hLd
                clear hnx
                replace ho := Lib.hid ho
                go_wp2_with fail
                refine hLd.out.mono ?_
                rintro e W2 ⟨rfl, q2, rfl⟩
                have hb2x : Below wy.heap.size wy (wy.drewN q2) := below_drewQ (Below.refl _ _) q2
                have hRR2 : RefRow (wy.drewN q2) g 0 L := hRe
                have y2' : (wy.drewN q2).cell? ⟨g, i * 3 + 2, none⟩ = some (.int .i64 (z.opd : Int)) := m2e
                have hT2 := Two.nil wy.heap.size (wy.drewN q2)
                generalize wy.drewN q2 = W2 at *
                have hzt := hto.out hl8.out
                have hfz : findZ L z.opd = (tz : Int) := by rw [findZ, hzt.1]
                have hF := Lib.hid (find8_any g 0 cap L z.opd W2 (by omega) hRR2)
                rw [hfz] at hF
                have hal2 : Below W2.heap.size W2 (W2.alloc (.cells #[.int .i64 (tz : Int)] 3)) := (Below.refl _ _).alloc (Nat.le_refl _) _
                obtain ⟨v3, W3, hrun3, ⟨a3, c3, rfl⟩, hT3, hBf3⟩ := (hT2.below hal2).push [(tz : Int)] W2.heap.size (Arr.new rfl rfl) (by simp) (by simp) (by have := hb2x.size; simp; try omega)
                have hb3x := hBf3 _ (hb2x.alloc hb2x.size _)
                replace hrun3 := Lib.hid hrun3
                replace hzt := Lib.hid hzt
                replace hfz := Lib.hid hfz
                clear hBf3 hal2
                go_wp2_with fail
                refine hF.out.mono ?_
                rintro e W4 ⟨rfl, rfl⟩
                go_wp2_with (at_builtin; go_loud (refine wpList_append_known rfl _ _ _ _ rfl _ _ rfl rfl hrun3.out ?_))
                obtain ⟨ns, hns⟩ : ∃ ns, ns = [tz] := ⟨_, rfl⟩
                obtain ⟨gN, cN, hnv, hgNB, hgNl, hcN1, hcN2, hncells⟩ := next_row hT3 ns (by rw [hns]; simp) (by rw [hns]; simp)
                have hnl : ns.length = 1 := by rw [hns]; rfl
                have hnsL : Hid (ns = nextL L i) := by show _ = _; rw [hnxL.out]; exact hns
                have hnb : Hid (∀ x ∈ ns, x < L.length) := fun x hx => by
                  rw [hns] at hx
                  simp only [List.mem_cons, List.not_mem_nil, or_false] at hx
                  rw [hx]; exact hzt.out.2
                have hns2 : ns.length ≤ 2 := by omega
                have hRb2 := hRb.below hRb.bel.size hb3x
                have hqlt : q < wy.heap.size := by
                  obtain ⟨q', k1, k2, k3⟩ := hRb.que
                  obtain ⟨o', c', hv', _⟩ := k3.cells
                  have e : q = q' := congrArg (fun v : Value => match v with | .slice (some a) _ _ => a.block | _ => 0) hv'
                  rw [e]; exact k3.lt
                have hdlt2 := hRb.dlt
                have hgN2 : ∀ o l c, Value.slice (some ⟨q, off2, none⟩) td0.length cp ≠ .slice (some ⟨gN, o, none⟩) l c := fun o l c e => by
                  have e2 : q = gN := congrArg (fun v : Value => match v with | .slice (some a) _ _ => a.block | _ => 0) e
                  omega
                have hgd : Hid (gN ≠ dB) := by show _ ≠ _; omega
                have hnv2 := hnv
                rw [hnl] at hnv
                injection hnv with hn1 hn2 hn3
                subst hn1 hn3
                clear hnv2
                replace hns := Lib.hid hns
                replace hnl := Lib.hid hnl
                have hRn := hRb2
                obtain ⟨Wn, hWn⟩ : ∃ Wn, Wn = W3 := ⟨_, rfl⟩
                rw [← hWn] at hRn hncells hgNl ⊢
                clear hWn
                have hE0 := ExtL.nil ds td0 af
                go_loopw [15, 10] (fun kv tv wr => ∃ (j : Nat) (ds' : List Int) (td' : List Nat) (v' : Value), kv = .int .i64 (j : Int) ∧ v' = tv ∧ j ≤ 1 ∧ Hid (RW w1.heap.size dB dc L.length ds' td' v' w1 wr ∧ ExtL ds td0 (ns.take j) af ds' td' ∧ wr.heap[gN]? = Wn.heap[gN]? ∧ (∀ off len cap, v' ≠ .slice (some ⟨gN, off, none⟩) len cap) ∧ Wn.heap.size ≤ wr.heap.size)) (fun kv _ _ => 1 - (intOf kv).toNat)
                case atStart => exact ⟨0, ds, td0, _, rfl, rfl, Nat.zero_le _, (show Hid _ from ⟨hRn, hE0, rfl, hgN2, Nat.le_refl _⟩)⟩
                case round =>
                  obtain ⟨j, ds', td', v', rfl, rfl, hj, hall⟩ := hrel
                  obtain ⟨hRr, hEr, hgr, hvr, hszr⟩ := hall.out
                  clear hall hE0 hRn hRb hRb2
                  obtain ⟨av, cv, rfl⟩ := hRr.val
                  have hmu3 := hEr.mu
                  have htl : td'.length ≤ 5000 := by simp only [mu, List.length_cons] at hmu3 hmu5; omega
                  by_cases hjl : j < 1
                  · have hdj : decide ((j : Int) < 1) = true := by simp; omega
                    have cN0 : wr.cell? ⟨gN, j, none⟩ = some (.int .i64 ((ns[j]! : Nat) : Int)) := by
                      rw [World.cell?_of_block (a := ⟨gN, j, none⟩) hgr]
                      exact hncells j (by rw [hnl.out]; exact hjl)
                    have hjn : j < ns.length := by rw [hnl.out]; exact hjl
                    have hmem : ns[j]! ∈ ns := by rw [getElem!_pos ns j hjn]; exact List.getElem_mem _
                    have hmemL : ns[j]! ∈ nextL L i := hnsL.out ▸ hmem
                    have hnx := hnb.out _ hmem
                    have htk : ns.take (j + 1) = ns.take j ++ [ns[j]!] := by rw [List.take_succ_eq_append_getElem hjn, getElem!_pos ns j hjn]
                    obtain ⟨nx, hnxe⟩ : ∃ nx, nx = ns[j]! := ⟨_, rfl⟩
                    rw [← hnxe] at cN0 hmemL hnx htk
                    replace hnxe := Lib.hid hnxe
                    obtain ⟨cD, fD, hdc1, hdc2⟩ := hRr.dcell hnx
                    have hlen' := hRr.len
                    have j0 : (0 : Int) ≤ (j : Int) := by omega
                    have j1 : (j : Int) < 1 := by omega
                    have j2 : (0 : Int) ≤ (nx : Int) := by omega
                    have j3 : (nx : Int) < (L.length : Int) := by omega
                    have hwj : IntKind.i64.wrap ((j : Int) + 1) = ((j + 1 : Nat) : Int) := by rw [Int.natCast_succ]; exact IntWalk.i64_in _ (by omega)
                    by_cases hneg : ds'[nx]! < 0
                    · have hdn : decide (ds'[nx]! < 0) = true := by simpa using hneg
                      have hEx := ext_new (td := td') (a := af) (j := nx) (by omega) hneg
                      have hE2 := hEr.snoc hEx
                      rw [← htk] at hE2
                      obtain ⟨v2, W2, hrun, ⟨a2, c2, rfl⟩, hR2, hsz2, hkeep⟩ := hRr.mark hnx af (by omega) hRr.bel.size
                      have hdlt := hRr.dlt
                      have hgN3 : gN < wr.heap.size := by omega
                      obtain ⟨hgk, hv2⟩ := hkeep gN hgN3 hgd.out (fun off len cap e => hvr off len cap e)
                      generalize ds'[nx]! = dx at *
                      have hfin := (show RW w1.heap.size dB dc L.length (ds'.set nx (af : Int)) (td' ++ [nx]) (.slice a2 (td'.length + 1) c2) w1 W2 ∧ ExtL ds td0 (ns.take (j + 1)) af (ds'.set nx (af : Int)) (td' ++ [nx]) ∧ W2.heap[gN]? = Wn.heap[gN]? ∧ (∀ off len cap, Value.slice a2 (td'.length + 1) c2 ≠ .slice (some ⟨gN, off, none⟩) len cap) ∧ Wn.heap.size ≤ W2.heap.size from ⟨hR2, hE2, hgk.trans hgr, hv2, Nat.le_trans hszr hsz2⟩)
                      replace hfin := Lib.hid hfin
                      replace hrun := Lib.hid hrun
                      replace hneg := Lib.hid hneg
                      replace hE2 := Lib.hid hE2
                      replace htk := Lib.hid htk
                      replace hmu3 := Lib.hid hmu3
                      clear hRr hEr hEx hkeep hgk hv2 hR2 hvr
                      go_wp2_with (at_builtin; go_loud (refine wpList_append_known rfl _ _ _ _ rfl _ _ rfl rfl hrun.out ?_))
                      exact ⟨⟨j + 1, _, _, _, by first | rfl | go_num, rfl, by omega, hfin⟩, by simp [intOf]; omega⟩
                    · have hdn : decide (ds'[nx]! < 0) = false := by simpa using hneg
                      have hsome : depOf ds' nx = some ds'[nx]!.toNat := by rw [depOf_at (by omega), if_neg hneg]
                      by_cases heq : ds'[nx]! = (af : Int)
                      · have hEx := ext_old (td := td') (a := af) (j := nx) (by omega) heq
                        have hE2 := hEr.snoc hEx
                        rw [← htk] at hE2
                        rw [heq] at cD hdn
                        have hfin := (show RW w1.heap.size dB dc L.length ds' td' (.slice av td'.length cv) w1 wr ∧ ExtL ds td0 (ns.take (j + 1)) af ds' td' ∧ wr.heap[gN]? = Wn.heap[gN]? ∧ (∀ off len cap, Value.slice av td'.length cv ≠ .slice (some ⟨gN, off, none⟩) len cap) ∧ Wn.heap.size ≤ wr.heap.size from ⟨hRr, hE2, hgr, hvr, hszr⟩)
                        replace hfin := Lib.hid hfin
                        replace heq := Lib.hid heq
                        replace hneg := Lib.hid hneg
                        replace hsome := Lib.hid hsome
                        replace hE2 := Lib.hid hE2
                        replace htk := Lib.hid htk
                        replace hmu3 := Lib.hid hmu3
                        clear hRr hEr hEx hvr
                        have hdn0 : decide ((af : Int) < 0) = false := by simp
                        go_wp2_with fail
                        exact ⟨⟨j + 1, _, _, _, by first | rfl | go_num, rfl, by omega, hfin⟩, by simp [intOf]; omega⟩
                      · have hqn : (ds'[nx]! == (af : Int)) = false := by rw [beq_eq_false_iff_ne]; exact heq
                        have hng : ¬ Good L := bad_next hForm hVM hd.out (by rw [← hz.out, ← haf.out]; exact hEr) hmemL hsome (by rw [← hz.out, ← haf.out]; omega)
                        have hBX := hb1.trans (hRr.bel.mono hb1.size)
                        generalize ds'[nx]! = dx at *
                        replace heq := Lib.hid heq
                        replace hneg := Lib.hid hneg
                        replace hsome := Lib.hid hsome
                        replace htk := Lib.hid htk
                        replace hmu3 := Lib.hid hmu3
                        clear hRr hEr hvr
                        have hfin : Hid (DepPost code w (.returned (.tuple #[.slice none 0 0, .int .i64 0, .bool false])) wr) := ⟨.inr ⟨fun l h => (by rw [hf.out] at h; injection h with h; subst h; exact hng), rfl⟩, hBX⟩
                        clear hng
                        go_wp2_with fail
                        exact bodyPost_ret (v := .tuple #[.slice none 0 0, .int .i64 0, .bool false]) (by simp [results, Tryd.f28, go_sem]) rfl hfin.out
                  · have hdj : decide ((j : Int) < 1) = false := by simp; omega
                    obtain rfl : j = 1 := by omega
                    rw [List.take_of_length_le (by rw [hnl.out]; exact Nat.le_refl _)] at hEr
                    obtain ⟨hVM2, hmu2⟩ := VM.roundL hForm hVM hd.out (by rw [← hz.out]; exact hid12.out) (by rw [← hz.out, ← haf.out]; exact hb2') (ds2 := ds') (td2 := td') (by rw [← hz.out, ← haf.out, ← hnsL.out]; exact hEr) (by rw [← hnsL.out]; exact hnb.out)
                    rw [← hz.out, ← haf.out, ← hM.out] at hVM2
                    have hms := hRr.meas
                    have hrb := hRr.bel
                    have hfin := (show RW w1.heap.size dB dc L.length ds' td' (.slice av td'.length cv) w1 wr ∧ VM L ds' td' M ∧ mu ds' td' ≤ 5000 from ⟨hRr, hVM2, by omega⟩)
                    replace hfin := Lib.hid hfin
                    replace hms := Lib.hid hms
                    replace hmu2 := Lib.hid hmu2
                    replace hmu3 := Lib.hid hmu3
                    clear hRr hEr hVM2 hvr
                    go_wp2_with fail
                    refine ⟨⟨_, _, M, _, rfl, rfl, hfin⟩, ?_⟩
                    rw [hms.out, hmu.out]
                    exact hmu2.out
              · have hl8 : Hid (leadOp z.op = true) := by show _ = _; rw [ho]; rfl
                have e7 : ((z.op : Int) == 7) = false := by rw [beq_eq_false_iff_ne]; omega
                have e7b : ((z.op : Int) != 7) = true := by rw [bne, e7]; rfl
                have e11 : ((z.op : Int) == 11) = false := by rw [beq_eq_false_iff_ne]; omega
                have e11b : ((z.op : Int) != 11) = true := by rw [bne, e11]; rfl
                have hnx : nextL L i = [i + 1, tz] := by
                  unfold nextL toOf
                  rw [← hz.out]
                  rw [if_pos (by rw [ho]; simp), if_pos hl8.out, htz.out, toOf]; rfl
                have hnxL := Lib.hid hnx
                have hwi : IntKind.i64.wrap ((i : Int) + 1) = (i : Int) + 1 := IntWalk.i64_in _ (by omega)
                clear hnx
                by_cases hlast : i + 1 = L.length
                · have hng : ¬ Good L := not_end hRch hi (by rw [← hz.out]; omega) (by rw [← hz.out]; omega) hlast
                  have hq9 : (((i + 1 : Nat) : Int) == (L.length : Int)) = true := by rw [beq_iff_eq]; omega
                  have hq9b : ((i : Int) + 1 == (L.length : Int)) = true := by rw [beq_iff_eq]; omega
                  have hBX := hBTe
                  replace ho := Lib.hid ho
                  replace hlast := Lib.hid hlast
                  have hfin : Hid (DepPost code w (.returned (.tuple #[.slice none 0 0, .int .i64 0, .bool false])) wy) := ⟨.inr ⟨fun l h => (by rw [hf.out] at h; injection h with h; subst h; exact hng), rfl⟩, hBX⟩
                  clear hng
                  go_wp2_with fail
                  exact bodyPost_ret (v := .tuple #[.slice none 0 0, .int .i64 0, .bool false]) (by simp [results, Tryd.f28, go_sem]) rfl hfin.out
                · have hq9 : (((i + 1 : Nat) : Int) == (L.length : Int)) = false := by rw [beq_eq_false_iff_ne]; omega
                  have hq9b : ((i : Int) + 1 == (L.length : Int)) = false := by rw [beq_eq_false_iff_ne]; omega
                  have hal : Below wy.heap.size wy (wy.alloc (.cells #[.int .i64 ((i : Int) + 1)] 3)) := (Below.refl _ _).alloc (Nat.le_refl _) _
                  obtain ⟨v1, W1, hrun1, ⟨a1, c1, rfl⟩, hT1, hBf1⟩ := ((Two.nil wy.heap.size wy).below hal).push [(i : Int) + 1] wy.heap.size (Arr.new rfl rfl) (by simp) (by simp) (by simp)
                  have hb1x := hBf1 _ hal
                  have hLd := Lib.hid (leads_any z.op W1 ho12)
                  rw [hl8.out] at hLd
                  have hRR1 : RefRow W1 g 0 L := hRe.keep (hb1x.block g (by have := hBye.size; omega))
                  obtain ⟨_, _, y2⟩ := hRR1 i hi
                  simp only [Nat.zero_add] at y2
                  rw [← hz.out] at y2
                  replace hrun1 := Lib.hid hrun1
                  replace hT1 := Lib.hid hT1
                  replace ho := Lib.hid ho
                  have hlast2 : i + 1 < L.length := by omega
                  replace hlast := Lib.hid hlast
                  clear hBf1
                  go_wp2_with (at_builtin; go_loud (refine wpList_append_known rfl _ _ _ _ rfl _ _ rfl rfl hrun1.out ?_))
                  refine hLd.out.mono ?_
                  rintro e W2 ⟨rfl, q2, rfl⟩
                  have hT2 := hT1.out.below (below_drewQ (Below.refl W1.heap.size W1) q2)
                  have hb2x : Below wy.heap.size wy (W1.drewN q2) := below_drewQ hb1x q2
                  have hRR2 : RefRow (W1.drewN q2) g 0 L := hRR1
                  have y2' : (W1.drewN q2).cell? ⟨g, i * 3 + 2, none⟩ = some (.int .i64 (z.opd : Int)) := y2
                  generalize W1.drewN q2 = W2 at *
                  clear hT1 hb1x hRR1 y2 hal
                  have hzt := hto.out hl8.out
                  have hfz : findZ L z.opd = (tz : Int) := by rw [findZ, hzt.1]
                  have hF := Lib.hid (find8_any g 0 cap L z.opd W2 (by omega) hRR2)
                  rw [hfz] at hF
                  have hal2 : Below W2.heap.size W2 (W2.alloc (.cells #[.int .i64 (tz : Int)] 3)) := (Below.refl _ _).alloc (Nat.le_refl _) _
                  obtain ⟨v3, W3, hrun3, ⟨a3, c3, rfl⟩, hT3, hBf3⟩ := (hT2.below hal2).push [(tz : Int)] W2.heap.size (Arr.new rfl rfl) (by simp) (by simp) (by have := hb2x.size; simp; try omega)
                  have hb3x := hBf3 _ (hb2x.alloc hb2x.size _)
                  replace hrun3 := Lib.hid hrun3
                  replace hzt := Lib.hid hzt
                  replace hfz := Lib.hid hfz
                  clear hBf3 hal2
                  go_wp2_with fail
                  refine hF.out.mono ?_
                  rintro e W4 ⟨rfl, rfl⟩
                  go_wp2_with (at_builtin; go_loud (refine wpList_append_known rfl _ _ _ _ rfl _ _ rfl rfl hrun3.out ?_))
                  obtain ⟨ns, hns⟩ : ∃ ns, ns = [i + 1, tz] := ⟨_, rfl⟩
                  obtain ⟨gN, cN, hnv, hgNB, hgNl, hcN1, hcN2, hncells⟩ := next_row hT3 ns (by rw [hns]; simp) (by rw [hns]; simp)
                  have hnl : ns.length = 2 := by rw [hns]; rfl
                  have hnsL : Hid (ns = nextL L i) := by show _ = _; rw [hnxL.out]; exact hns
                  have hnb : Hid (∀ x ∈ ns, x < L.length) := fun x hx => by
                    rw [hns] at hx
                    simp only [List.mem_cons, List.not_mem_nil, or_false] at hx
                    rcases hx with hx | hx
                    · omega
                    · rw [hx]; exact hzt.out.2
                  have hns2 : ns.length ≤ 2 := by omega
                  have hRb2 := hRb.below hRb.bel.size hb3x
                  have hqlt : q < wy.heap.size := by
                    obtain ⟨q', k1, k2, k3⟩ := hRb.que
                    obtain ⟨o', c', hv', _⟩ := k3.cells
                    have e : q = q' := congrArg (fun v : Value => match v with | .slice (some a) _ _ => a.block | _ => 0) hv'
                    rw [e]; exact k3.lt
                  have hdlt2 := hRb.dlt
                  have hgN2 : ∀ o l c, Value.slice (some ⟨q, off2, none⟩) td0.length cp ≠ .slice (some ⟨gN, o, none⟩) l c := fun o l c e => by
                    have e2 : q = gN := congrArg (fun v : Value => match v with | .slice (some a) _ _ => a.block | _ => 0) e
                    omega
                  have hgd : Hid (gN ≠ dB) := by show _ ≠ _; omega
                  have hnv2 := hnv
                  rw [hnl] at hnv
                  injection hnv with hn1 hn2 hn3
                  subst hn1 hn3
                  clear hnv2
                  replace hns := Lib.hid hns
                  replace hnl := Lib.hid hnl
                  have hRn := hRb2
                  obtain ⟨Wn, hWn⟩ : ∃ Wn, Wn = W3 := ⟨_, rfl⟩
                  rw [← hWn] at hRn hncells hgNl ⊢
                  clear hWn
                  have hE0 := ExtL.nil ds td0 af
                  go_loopw [15, 10] (fun kv tv wr => ∃ (j : Nat) (ds' : List Int) (td' : List Nat) (v' : Value), kv = .int .i64 (j : Int) ∧ v' = tv ∧ j ≤ 2 ∧ Hid (RW w1.heap.size dB dc L.length ds' td' v' w1 wr ∧ ExtL ds td0 (ns.take j) af ds' td' ∧ wr.heap[gN]? = Wn.heap[gN]? ∧ (∀ off len cap, v' ≠ .slice (some ⟨gN, off, none⟩) len cap) ∧ Wn.heap.size ≤ wr.heap.size)) (fun kv _ _ => 2 - (intOf kv).toNat)
                  case atStart => exact ⟨0, ds, td0, _, rfl, rfl, Nat.zero_le _, (show Hid _ from ⟨hRn, hE0, rfl, hgN2, Nat.le_refl _⟩)⟩
                  case round =>
                    obtain ⟨j, ds', td', v', rfl, rfl, hj, hall⟩ := hrel
                    obtain ⟨hRr, hEr, hgr, hvr, hszr⟩ := hall.out
                    clear hall hE0 hRn hRb hRb2
                    obtain ⟨av, cv, rfl⟩ := hRr.val
                    have hmu3 := hEr.mu
                    have htl : td'.length ≤ 5000 := by simp only [mu, List.length_cons] at hmu3 hmu5; omega
                    by_cases hjl : j < 2
                    · have hdj : decide ((j : Int) < 2) = true := by simp; omega
                      have cN0 : wr.cell? ⟨gN, j, none⟩ = some (.int .i64 ((ns[j]! : Nat) : Int)) := by
                        rw [World.cell?_of_block (a := ⟨gN, j, none⟩) hgr]
                        exact hncells j (by rw [hnl.out]; exact hjl)
                      have hjn : j < ns.length := by rw [hnl.out]; exact hjl
                      have hmem : ns[j]! ∈ ns := by rw [getElem!_pos ns j hjn]; exact List.getElem_mem _
                      have hmemL : ns[j]! ∈ nextL L i := hnsL.out ▸ hmem
                      have hnx := hnb.out _ hmem
                      have htk : ns.take (j + 1) = ns.take j ++ [ns[j]!] := by rw [List.take_succ_eq_append_getElem hjn, getElem!_pos ns j hjn]
                      obtain ⟨nx, hnxe⟩ : ∃ nx, nx = ns[j]! := ⟨_, rfl⟩
                      rw [← hnxe] at cN0 hmemL hnx htk
                      replace hnxe := Lib.hid hnxe
                      obtain ⟨cD, fD, hdc1, hdc2⟩ := hRr.dcell hnx
                      have hlen' := hRr.len
                      have j0 : (0 : Int) ≤ (j : Int) := by omega
                      have j1 : (j : Int) < 2 := by omega
                      have j2 : (0 : Int) ≤ (nx : Int) := by omega
                      have j3 : (nx : Int) < (L.length : Int) := by omega
                      have hwj : IntKind.i64.wrap ((j : Int) + 1) = ((j + 1 : Nat) : Int) := by rw [Int.natCast_succ]; exact IntWalk.i64_in _ (by omega)
                      by_cases hneg : ds'[nx]! < 0
                      · have hdn : decide (ds'[nx]! < 0) = true := by simpa using hneg
                        have hEx := ext_new (td := td') (a := af) (j := nx) (by omega) hneg
                        have hE2 := hEr.snoc hEx
                        rw [← htk] at hE2
                        obtain ⟨v2, W2, hrun, ⟨a2, c2, rfl⟩, hR2, hsz2, hkeep⟩ := hRr.mark hnx af (by omega) hRr.bel.size
                        have hdlt := hRr.dlt
                        have hgN3 : gN < wr.heap.size := by omega
                        obtain ⟨hgk, hv2⟩ := hkeep gN hgN3 hgd.out (fun off len cap e => hvr off len cap e)
                        generalize ds'[nx]! = dx at *
                        have hfin := (show RW w1.heap.size dB dc L.length (ds'.set nx (af : Int)) (td' ++ [nx]) (.slice a2 (td'.length + 1) c2) w1 W2 ∧ ExtL ds td0 (ns.take (j + 1)) af (ds'.set nx (af : Int)) (td' ++ [nx]) ∧ W2.heap[gN]? = Wn.heap[gN]? ∧ (∀ off len cap, Value.slice a2 (td'.length + 1) c2 ≠ .slice (some ⟨gN, off, none⟩) len cap) ∧ Wn.heap.size ≤ W2.heap.size from ⟨hR2, hE2, hgk.trans hgr, hv2, Nat.le_trans hszr hsz2⟩)
                        replace hfin := Lib.hid hfin
                        replace hrun := Lib.hid hrun
                        replace hneg := Lib.hid hneg
                        replace hE2 := Lib.hid hE2
                        replace htk := Lib.hid htk
                        replace hmu3 := Lib.hid hmu3
                        clear hRr hEr hEx hkeep hgk hv2 hR2 hvr
                        go_wp2_with (at_builtin; go_loud (refine wpList_append_known rfl _ _ _ _ rfl _ _ rfl rfl hrun.out ?_))
                        exact ⟨⟨j + 1, _, _, _, by first | rfl | go_num, rfl, by omega, hfin⟩, by simp [intOf]; omega⟩
                      · have hdn : decide (ds'[nx]! < 0) = false := by simpa using hneg
                        have hsome : depOf ds' nx = some ds'[nx]!.toNat := by rw [depOf_at (by omega), if_neg hneg]
                        by_cases heq : ds'[nx]! = (af : Int)
                        · have hEx := ext_old (td := td') (a := af) (j := nx) (by omega) heq
                          have hE2 := hEr.snoc hEx
                          rw [← htk] at hE2
                          rw [heq] at cD hdn
                          have hfin := (show RW w1.heap.size dB dc L.length ds' td' (.slice av td'.length cv) w1 wr ∧ ExtL ds td0 (ns.take (j + 1)) af ds' td' ∧ wr.heap[gN]? = Wn.heap[gN]? ∧ (∀ off len cap, Value.slice av td'.length cv ≠ .slice (some ⟨gN, off, none⟩) len cap) ∧ Wn.heap.size ≤ wr.heap.size from ⟨hRr, hE2, hgr, hvr, hszr⟩)
                          replace hfin := Lib.hid hfin
                          replace heq := Lib.hid heq
                          replace hneg := Lib.hid hneg
                          replace hsome := Lib.hid hsome
                          replace hE2 := Lib.hid hE2
                          replace htk := Lib.hid htk
                          replace hmu3 := Lib.hid hmu3
                          clear hRr hEr hEx hvr
                          have hdn0 : decide ((af : Int) < 0) = false := by simp
                          go_wp2_with fail
                          exact ⟨⟨j + 1, _, _, _, by first | rfl | go_num, rfl, by omega, hfin⟩, by simp [intOf]; omega⟩
                        · have hqn : (ds'[nx]! == (af : Int)) = false := by rw [beq_eq_false_iff_ne]; exact heq
                          have hng : ¬ Good L := bad_next hForm hVM hd.out (by rw [← hz.out, ← haf.out]; exact hEr) hmemL hsome (by rw [← hz.out, ← haf.out]; omega)
                          have hBX := hb1.trans (hRr.bel.mono hb1.size)
                          generalize ds'[nx]! = dx at *
                          replace heq := Lib.hid heq
                          replace hneg := Lib.hid hneg
                          replace hsome := Lib.hid hsome
                          replace htk := Lib.hid htk
                          replace hmu3 := Lib.hid hmu3
                          clear hRr hEr hvr
                          have hfin : Hid (DepPost code w (.returned (.tuple #[.slice none 0 0, .int .i64 0, .bool false])) wr) := ⟨.inr ⟨fun l h => (by rw [hf.out] at h; injection h with h; subst h; exact hng), rfl⟩, hBX⟩
                          clear hng
                          go_wp2_with fail
                          exact bodyPost_ret (v := .tuple #[.slice none 0 0, .int .i64 0, .bool false]) (by simp [results, Tryd.f28, go_sem]) rfl hfin.out
                    · have hdj : decide ((j : Int) < 2) = false := by simp; omega
                      obtain rfl : j = 2 := by omega
                      rw [List.take_of_length_le (by rw [hnl.out]; exact Nat.le_refl _)] at hEr
                      obtain ⟨hVM2, hmu2⟩ := VM.roundL hForm hVM hd.out (by rw [← hz.out]; exact hid12.out) (by rw [← hz.out, ← haf.out]; exact hb2') (ds2 := ds') (td2 := td') (by rw [← hz.out, ← haf.out, ← hnsL.out]; exact hEr) (by rw [← hnsL.out]; exact hnb.out)
                      rw [← hz.out, ← haf.out, ← hM.out] at hVM2
                      have hms := hRr.meas
                      have hrb := hRr.bel
                      have hfin := (show RW w1.heap.size dB dc L.length ds' td' (.slice av td'.length cv) w1 wr ∧ VM L ds' td' M ∧ mu ds' td' ≤ 5000 from ⟨hRr, hVM2, by omega⟩)
                      replace hfin := Lib.hid hfin
                      replace hms := Lib.hid hms
                      replace hmu2 := Lib.hid hmu2
                      replace hmu3 := Lib.hid hmu3
                      clear hRr hEr hVM2 hvr
                      go_wp2_with fail
                      refine ⟨⟨_, _, M, _, rfl, rfl, hfin⟩, ?_⟩
                      rw [hms.out, hmu.out]
                      exact hmu2.out
              · have hl8 : Hid (leadOp z.op = false) := by show _ = _; simp [leadOp]; omega
                have e7 : ((z.op : Int) == 7) = false := by rw [beq_eq_false_iff_ne]; omega
                have e7b : ((z.op : Int) != 7) = true := by rw [bne, e7]; rfl
                have e11 : ((z.op : Int) == 11) = false := by rw [beq_eq_false_iff_ne]; omega
                have e11b : ((z.op : Int) != 11) = true := by rw [bne, e11]; rfl
                have hnx : nextL L i = [i + 1] := by
                  unfold nextL toOf
                  rw [← hz.out]
                  rw [if_pos ⟨ho2, ho1⟩, if_neg (by rw [hl8.out]; decide)]; rfl
                have hnxL := Lib.hid hnx
                have hwi : IntKind.i64.wrap ((i : Int) + 1) = (i : Int) + 1 := IntWalk.i64_in _ (by omega)
                clear hnx
                by_cases hlast : i + 1 = L.length
                · have hng : ¬ Good L := not_end hRch hi (by rw [← hz.out]; omega) (by rw [← hz.out]; omega) hlast
                  have hq9 : (((i + 1 : Nat) : Int) == (L.length : Int)) = true := by rw [beq_iff_eq]; omega
                  have hq9b : ((i : Int) + 1 == (L.length : Int)) = true := by rw [beq_iff_eq]; omega
                  have hBX := hBTe
                  replace ho1 := Lib.hid ho1
                  replace ho2 := Lib.hid ho2
                  replace ho3 := Lib.hid ho3
                  replace hlast := Lib.hid hlast
                  have hfin : Hid (DepPost code w (.returned (.tuple #[.slice none 0 0, .int .i64 0, .bool false])) wy) := ⟨.inr ⟨fun l h => (by rw [hf.out] at h; injection h with h; subst h; exact hng), rfl⟩, hBX⟩
                  clear hng
                  go_wp2_with fail
                  exact bodyPost_ret (v := .tuple #[.slice none 0 0, .int .i64 0, .bool false]) (by simp [results, Tryd.f28, go_sem]) rfl hfin.out
                · have hq9 : (((i + 1 : Nat) : Int) == (L.length : Int)) = false := by rw [beq_eq_false_iff_ne]; omega
                  have hq9b : ((i : Int) + 1 == (L.length : Int)) = false := by rw [beq_eq_false_iff_ne]; omega
                  have hal : Below wy.heap.size wy (wy.alloc (.cells #[.int .i64 ((i : Int) + 1)] 3)) := (Below.refl _ _).alloc (Nat.le_refl _) _
                  obtain ⟨v1, W1, hrun1, ⟨a1, c1, rfl⟩, hT1, hBf1⟩ := ((Two.nil wy.heap.size wy).below hal).push [(i : Int) + 1] wy.heap.size (Arr.new rfl rfl) (by simp) (by simp) (by simp)
                  have hb1x := hBf1 _ hal
                  have hLd := Lib.hid (leads_any z.op W1 ho12)
                  rw [hl8.out] at hLd
                  have hRR1 : RefRow W1 g 0 L := hRe.keep (hb1x.block g (by have := hBye.size; omega))
                  obtain ⟨_, _, y2⟩ := hRR1 i hi
                  simp only [Nat.zero_add] at y2
                  rw [← hz.out] at y2
                  replace hrun1 := Lib.hid hrun1
                  replace hT1 := Lib.hid hT1
                  replace ho1 := Lib.hid ho1
                  replace ho2 := Lib.hid ho2
                  replace ho3 := Lib.hid ho3
                  have hlast2 : i + 1 < L.length := by omega
                  replace hlast := Lib.hid hlast
                  clear hBf1
                  go_wp2_with (at_builtin; go_loud (refine wpList_append_known rfl _ _ _ _ rfl _ _ rfl rfl hrun1.out ?_))
                  refine hLd.out.mono ?_
                  rintro e W2 ⟨rfl, q2, rfl⟩
                  have hT2 := hT1.out.below (below_drewQ (Below.refl W1.heap.size W1) q2)
                  have hb2x : Below wy.heap.size wy (W1.drewN q2) := below_drewQ hb1x q2
                  have hRR2 : RefRow (W1.drewN q2) g 0 L := hRR1
                  have y2' : (W1.drewN q2).cell? ⟨g, i * 3 + 2, none⟩ = some (.int .i64 (z.opd : Int)) := y2
                  generalize W1.drewN q2 = W2 at *
                  clear hT1 hb1x hRR1 y2 hal
                  go_wp2_with fail
                  obtain ⟨ns, hns⟩ : ∃ ns, ns = [i + 1] := ⟨_, rfl⟩
                  obtain ⟨gN, cN, hnv, hgNB, hgNl, hcN1, hcN2, hncells⟩ := next_row hT2 ns (by rw [hns]; simp) (by rw [hns]; simp)
                  have hnl : ns.length = 1 := by rw [hns]; rfl
                  have hnsL : Hid (ns = nextL L i) := by show _ = _; rw [hnxL.out]; exact hns
                  have hnb : Hid (∀ x ∈ ns, x < L.length) := fun x hx => by
                    rw [hns] at hx
                    simp only [List.mem_cons, List.not_mem_nil, or_false] at hx
                    omega
                  have hns2 : ns.length ≤ 2 := by omega
                  have hRb2 := hRb.below hRb.bel.size hb2x
                  have hqlt : q < wy.heap.size := by
                    obtain ⟨q', k1, k2, k3⟩ := hRb.que
                    obtain ⟨o', c', hv', _⟩ := k3.cells
                    have e : q = q' := congrArg (fun v : Value => match v with | .slice (some a) _ _ => a.block | _ => 0) hv'
                    rw [e]; exact k3.lt
                  have hdlt2 := hRb.dlt
                  have hgN2 : ∀ o l c, Value.slice (some ⟨q, off2, none⟩) td0.length cp ≠ .slice (some ⟨gN, o, none⟩) l c := fun o l c e => by
                    have e2 : q = gN := congrArg (fun v : Value => match v with | .slice (some a) _ _ => a.block | _ => 0) e
                    omega
                  have hgd : Hid (gN ≠ dB) := by show _ ≠ _; omega
                  have hnv2 := hnv
                  rw [hnl] at hnv
                  injection hnv with hn1 hn2 hn3
                  subst hn1 hn3
                  clear hnv2
                  replace hns := Lib.hid hns
                  replace hnl := Lib.hid hnl
                  have hRn := hRb2
                  obtain ⟨Wn, hWn⟩ : ∃ Wn, Wn = W2 := ⟨_, rfl⟩
                  rw [← hWn] at hRn hncells hgNl ⊢
                  clear hWn
                  have hE0 := ExtL.nil ds td0 af
                  go_loopw [15, 10] (fun kv tv wr => ∃ (j : Nat) (ds' : List Int) (td' : List Nat) (v' : Value), kv = .int .i64 (j : Int) ∧ v' = tv ∧ j ≤ 1 ∧ Hid (RW w1.heap.size dB dc L.length ds' td' v' w1 wr ∧ ExtL ds td0 (ns.take j) af ds' td' ∧ wr.heap[gN]? = Wn.heap[gN]? ∧ (∀ off len cap, v' ≠ .slice (some ⟨gN, off, none⟩) len cap) ∧ Wn.heap.size ≤ wr.heap.size)) (fun kv _ _ => 1 - (intOf kv).toNat)
                  case atStart => exact ⟨0, ds, td0, _, rfl, rfl, Nat.zero_le _, (show Hid _ from ⟨hRn, hE0, rfl, hgN2, Nat.le_refl _⟩)⟩
                  case round =>
                    obtain ⟨j, ds', td', v', rfl, rfl, hj, hall⟩ := hrel
                    obtain ⟨hRr, hEr, hgr, hvr, hszr⟩ := hall.out
                    clear hall hE0 hRn hRb hRb2
                    obtain ⟨av, cv, rfl⟩ := hRr.val
                    have hmu3 := hEr.mu
                    have htl : td'.length ≤ 5000 := by simp only [mu, List.length_cons] at hmu3 hmu5; omega
                    by_cases hjl : j < 1
                    · have hdj : decide ((j : Int) < 1) = true := by simp; omega
                      have cN0 : wr.cell? ⟨gN, j, none⟩ = some (.int .i64 ((ns[j]! : Nat) : Int)) := by
                        rw [World.cell?_of_block (a := ⟨gN, j, none⟩) hgr]
                        exact hncells j (by rw [hnl.out]; exact hjl)
                      have hjn : j < ns.length := by rw [hnl.out]; exact hjl
                      have hmem : ns[j]! ∈ ns := by rw [getElem!_pos ns j hjn]; exact List.getElem_mem _
                      have hmemL : ns[j]! ∈ nextL L i := hnsL.out ▸ hmem
                      have hnx := hnb.out _ hmem
                      have htk : ns.take (j + 1) = ns.take j ++ [ns[j]!] := by rw [List.take_succ_eq_append_getElem hjn, getElem!_pos ns j hjn]
                      obtain ⟨nx, hnxe⟩ : ∃ nx, nx = ns[j]! := ⟨_, rfl⟩
                      rw [← hnxe] at cN0 hmemL hnx htk
                      replace hnxe := Lib.hid hnxe
                      obtain ⟨cD, fD, hdc1, hdc2⟩ := hRr.dcell hnx
                      have hlen' := hRr.len
                      have j0 : (0 : Int) ≤ (j : Int) := by omega
                      have j1 : (j : Int) < 1 := by omega
                      have j2 : (0 : Int) ≤ (nx : Int) := by omega
                      have j3 : (nx : Int) < (L.length : Int) := by omega
                      have hwj : IntKind.i64.wrap ((j : Int) + 1) = ((j + 1 : Nat) : Int) := by rw [Int.natCast_succ]; exact IntWalk.i64_in _ (by omega)
                      by_cases hneg : ds'[nx]! < 0
                      · have hdn : decide (ds'[nx]! < 0) = true := by simpa using hneg
                        have hEx := ext_new (td := td') (a := af) (j := nx) (by omega) hneg
                        have hE2 := hEr.snoc hEx
                        rw [← htk] at hE2
                        obtain ⟨v2, W2, hrun, ⟨a2, c2, rfl⟩, hR2, hsz2, hkeep⟩ := hRr.mark hnx af (by omega) hRr.bel.size
                        have hdlt := hRr.dlt
                        have hgN3 : gN < wr.heap.size := by omega
                        obtain ⟨hgk, hv2⟩ := hkeep gN hgN3 hgd.out (fun off len cap e => hvr off len cap e)
                        generalize ds'[nx]! = dx at *
                        have hfin := (show RW w1.heap.size dB dc L.length (ds'.set nx (af : Int)) (td' ++ [nx]) (.slice a2 (td'.length + 1) c2) w1 W2 ∧ ExtL ds td0 (ns.take (j + 1)) af (ds'.set nx (af : Int)) (td' ++ [nx]) ∧ W2.heap[gN]? = Wn.heap[gN]? ∧ (∀ off len cap, Value.slice a2 (td'.length + 1) c2 ≠ .slice (some ⟨gN, off, none⟩) len cap) ∧ Wn.heap.size ≤ W2.heap.size from ⟨hR2, hE2, hgk.trans hgr, hv2, Nat.le_trans hszr hsz2⟩)
                        replace hfin := Lib.hid hfin
                        replace hrun := Lib.hid hrun
                        replace hneg := Lib.hid hneg
                        replace hE2 := Lib.hid hE2
                        replace htk := Lib.hid htk
                        replace hmu3 := Lib.hid hmu3
                        clear hRr hEr hEx hkeep hgk hv2 hR2 hvr
                        go_wp2_with (at_builtin; go_loud (refine wpList_append_known rfl _ _ _ _ rfl _ _ rfl rfl hrun.out ?_))
                        exact ⟨⟨j + 1, _, _, _, by first | rfl | go_num, rfl, by omega, hfin⟩, by simp [intOf]; omega⟩
                      · have hdn : decide (ds'[nx]! < 0) = false := by simpa using hneg
                        have hsome : depOf ds' nx = some ds'[nx]!.toNat := by rw [depOf_at (by omega), if_neg hneg]
                        by_cases heq : ds'[nx]! = (af : Int)
                        · have hEx := ext_old (td := td') (a := af) (j := nx) (by omega) heq
                          have hE2 := hEr.snoc hEx
                          rw [← htk] at hE2
                          rw [heq] at cD hdn
                          have hfin := (show RW w1.heap.size dB dc L.length ds' td' (.slice av td'.length cv) w1 wr ∧ ExtL ds td0 (ns.take (j + 1)) af ds' td' ∧ wr.heap[gN]? = Wn.heap[gN]? ∧ (∀ off len cap, Value.slice av td'.length cv ≠ .slice (some ⟨gN, off, none⟩) len cap) ∧ Wn.heap.size ≤ wr.heap.size from ⟨hRr, hE2, hgr, hvr, hszr⟩)
                          replace hfin := Lib.hid hfin
                          replace heq := Lib.hid heq
                          replace hneg := Lib.hid hneg
                          replace hsome := Lib.hid hsome
                          replace hE2 := Lib.hid hE2
                          replace htk := Lib.hid htk
                          replace hmu3 := Lib.hid hmu3
                          clear hRr hEr hEx hvr
                          have hdn0 : decide ((af : Int) < 0) = false := by simp
                          go_wp2_with fail
                          exact ⟨⟨j + 1, _, _, _, by first | rfl | go_num, rfl, by omega, hfin⟩, by simp [intOf]; omega⟩
                        · have hqn : (ds'[nx]! == (af : Int)) = false := by rw [beq_eq_false_iff_ne]; exact heq
                          have hng : ¬ Good L := bad_next hForm hVM hd.out (by rw [← hz.out, ← haf.out]; exact hEr) hmemL hsome (by rw [← hz.out, ← haf.out]; omega)
                          have hBX := hb1.trans (hRr.bel.mono hb1.size)
                          generalize ds'[nx]! = dx at *
                          replace heq := Lib.hid heq
                          replace hneg := Lib.hid hneg
                          replace hsome := Lib.hid hsome
                          replace htk := Lib.hid htk
                          replace hmu3 := Lib.hid hmu3
                          clear hRr hEr hvr
                          have hfin : Hid (DepPost code w (.returned (.tuple #[.slice none 0 0, .int .i64 0, .bool false])) wr) := ⟨.inr ⟨fun l h => (by rw [hf.out] at h; injection h with h; subst h; exact hng), rfl⟩, hBX⟩
                          clear hng
                          go_wp2_with fail
                          exact bodyPost_ret (v := .tuple #[.slice none 0 0, .int .i64 0, .bool false]) (by simp [results, Tryd.f28, go_sem]) rfl hfin.out
                    · have hdj : decide ((j : Int) < 1) = false := by simp; omega
                      obtain rfl : j = 1 := by omega
                      rw [List.take_of_length_le (by rw [hnl.out]; exact Nat.le_refl _)] at hEr
                      obtain ⟨hVM2, hmu2⟩ := VM.roundL hForm hVM hd.out (by rw [← hz.out]; exact hid12.out) (by rw [← hz.out, ← haf.out]; exact hb2') (ds2 := ds') (td2 := td') (by rw [← hz.out, ← haf.out, ← hnsL.out]; exact hEr) (by rw [← hnsL.out]; exact hnb.out)
                      rw [← hz.out, ← haf.out, ← hM.out] at hVM2
                      have hms := hRr.meas
                      have hrb := hRr.bel
                      have hfin := (show RW w1.heap.size dB dc L.length ds' td' (.slice av td'.length cv) w1 wr ∧ VM L ds' td' M ∧ mu ds' td' ≤ 5000 from ⟨hRr, hVM2, by omega⟩)
                      replace hfin := Lib.hid hfin
                      replace hms := Lib.hid hms
                      replace hmu2 := Lib.hid hmu2
                      replace hmu3 := Lib.hid hmu3
                      clear hRr hEr hVM2 hvr
                      go_wp2_with fail
                      refine ⟨⟨_, _, M, _, rfl, rfl, hfin⟩, ?_⟩
                      rw [hms.out, hmu.out]
                      exact hmu2.out
end Go.Proofs.YtainohbfcehpoaaDoor
namespace Go.Proofs.YtainohbfcehpoaaDoor
open Go.RowKit Go.Shelf

theorem dep_yes {code : List UInt8} {l : List Ins} {m : Nat} {w w' : World} {e : Ending} (h : DepPost code w e w') (hf : formed code = some l) (hg : Good l) (hm : MostOf l m) : ∃ v, e = .returned (.tuple #[v, .int .i64 (m : Int), .bool true]) := by
  rcases h.1 with ⟨l', m', v, h1, h2, h3, rfl⟩ | ⟨hn, _⟩
  · rw [hf] at h1
    injection h1 with h1
    subst h1
    rw [h3.unique hm]
    exact ⟨v, rfl⟩
  · exact absurd hg (hn l hf)
set_option maxRecDepth 100000 in
set_option maxHeartbeats 1000000 in
theorem vfyR_any (code : List UInt8) (w : World) (hc : code.length ≤ 1000000) (hE : EnvR w) :
    Calls Tryd.prog 15 #[.string (str code)] w fun e w' => VfyPost code e ∧ Below w.heap.size w w' := by
  have hD := Lib.hid (depR_any code w hc hE)
  go_enter Tryd.func15, Tryd.ntmps15
  go_wp2_with fail
  refine hD.out.mono ?_
  rintro e w1 ⟨⟨l, m, v, hf, hg, hm, rfl⟩ | ⟨hn, rfl⟩, hb1⟩
  · have hfin : Hid (VfyPost code (.returned (.tuple #[.int .i64 (m : Int), .int .i64 0]))) := .inl ⟨l, m, hf, hg, hm, rfl⟩
    replace hf := Lib.hid hf
    clear hD
    go_wp2_with fail
    go_ret2
    exact ⟨hfin.out, hb1⟩
  · have hfin : Hid (VfyPost code (.returned (.tuple #[.int .i64 0, .int .i64 80]))) := .inr ⟨hn, rfl⟩
    clear hD hn
    go_wp2_with fail
    go_ret2
    exact ⟨hfin.out, hb1⟩
set_option maxRecDepth 100000 in
theorem slice_to (ao : Option Addr) (n c k : Nat) (h : k ≤ c) (W : World) : (Instr.slice 31 (.slice ao n c) none (some (.int .i64 (k : Int))) none).run Tryd.prog W = .ok (.slice ao k c) W := by
  have h1 : (0 : Int) ≤ (k : Int) := by omega
  have h2 : (k : Int) ≤ (c : Int) := by omega
  have e : ∀ s, sliced ao 0 (k : Int).toNat c s = .slice ao k c := fun s => by
    unfold sliced
    rw [Int.toNat_natCast]
    split
    · rw [Nat.sub_zero, Nat.sub_zero]
    · cases ao with
      | none => rfl
      | some a => obtain ⟨x, y, z⟩ := a; simp [Addr.add]
  rw [run_slice_h (P := Tryd.prog) W 31 ao n c Tryd.underlying31 .i64 (k : Int) h1 h2]
  simp only [e]
  go_simp
theorem Two.le {B : Nat} {st : List Int} {out : List UInt8} {sv ov : Value} {W : World} (h : Two B st out sv ov W) : ∃ a c, sv = .slice a st.length c ∧ st.length ≤ c := by
  rcases h.stk.2 with ⟨rfl, h0⟩ | ⟨g, cap, cur, hv, _, _, h3, _⟩
  · exact ⟨none, 0, by rw [h0], by omega⟩
  · exact ⟨_, _, hv, h3⟩
/-- Two numbers are taken. -/
theorem Two.pop2 {B : Nat} {st : List Int} {a b : Int} {out : List UInt8} {sv ov : Value} {W : World} (h : Two B (b :: a :: st) out sv ov W) :
    ∃ g c, sv = .slice (some ⟨g, 0, none⟩) (st.length + 1 + 1) c ∧ st.length + 1 + 1 ≤ c ∧ c ≤ maxLen ∧ W.cell? ⟨g, st.length, none⟩ = some (.int .i64 a) ∧ W.cell? ⟨g, st.length + 1, none⟩ = some (.int .i64 b) ∧ Two B st out (.slice (some ⟨g, 0, none⟩) st.length c) ov W := by
  obtain ⟨g, c, rfl, hc, hcm, hgl, hcells, h2⟩ := h.pop
  rw [List.length_cons] at hc h2
  obtain ⟨g', c', hv, _, _, _, _, h3⟩ := h2.pop
  have e1 : g = g' := congrArg (fun v : Value => match v with | .slice (some a) _ _ => a.block | _ => 0) hv
  have e2 : c = c' := congrArg (fun v : Value => match v with | .slice _ _ c => c | _ => 0) hv
  subst e1 e2
  exact ⟨g, c, by rw [List.length_cons], hc, hcm, hcells _ _ (by simp), hcells _ _ (by simp), h3⟩
theorem Two.pop1 {B : Nat} {st : List Int} {a : Int} {out : List UInt8} {sv ov : Value} {W : World} (h : Two B (a :: st) out sv ov W) :
    ∃ g c, sv = .slice (some ⟨g, 0, none⟩) (st.length + 1) c ∧ st.length + 1 ≤ c ∧ c ≤ maxLen ∧ W.cell? ⟨g, st.length, none⟩ = some (.int .i64 a) ∧ Two B st out (.slice (some ⟨g, 0, none⟩) st.length c) ov W := by
  obtain ⟨g, c, rfl, hc, hcm, hgl, hcells, h2⟩ := h.pop
  exact ⟨g, c, rfl, hc, hcm, hcells _ _ (by simp), h2⟩
/-- What lies while the reference runs. -/
structure RRA (L : List Ins) (w1 : World) (inp : List UInt8) (mn : Nat) (R : Option (List UInt8 × Nat)) (rd n : Nat) (c : Conf) (sv ov : Value) (W : World) : Prop where
  lo : 1 ≤ n
  hi : n ≤ mn + 1
  two : Two w1.heap.size c.st c.out sv ov W
  inq : inp.drop rd = c.inp
  rle : rd ≤ inp.length
  rch : Reach L c.pc c.st.length
  run : runM L (mn + 1 - n) n c = R
  bel : Below w1.heap.size w1 W
  ol : c.out.length ≤ 65536
set_option maxRecDepth 100000 in
set_option maxHeartbeats 40000000 in
theorem runR_any (code inp : List UInt8) (most : Int) (w : World) (hc : code.length ≤ 1000000) (hi : inp.length ≤ 1000000) (hE : EnvR w) (hI : I64 most) :
    Calls Tryd.prog 18 #[.string (str code), .string (str inp), .int .i64 most] w fun e w' => RunPost code inp most w e w' := by
  have hD := Lib.hid (depR_any code w hc hE)
  have hIn := fun W => Lib.hid (insR_any code W hc)
  go_enter Tryd.func18, Tryd.ntmps18
  go_wp2_with fail
  refine hD.out.mono ?_
  rintro e w1 ⟨⟨L, m, v, hf, hg, hm, rfl⟩ | ⟨hn, rfl⟩, hb1⟩
  · by_cases hneg : most < 0
    · have hfin : Hid (RunPost code inp most w (runE none) w1) := ⟨.inr ⟨.inr (.inl hneg), rfl⟩, hb1⟩
      have hd1 : decide (most < 0) = true := by simpa using hneg
      replace hf := Lib.hid hf
      clear hD hIn
      go_wp2_with fail
      exact bodyPost_ret (v := .tuple #[.string (str []), .int .i64 0, .int .i64 80]) (by simp [results, Tryd.f18, go_sem, str]) rfl hfin.out
    · have hd1 : decide (most < 0) = false := by simpa using hneg
      by_cases hbig : 1000000 < most
      · have hfin : Hid (RunPost code inp most w (runE none) w1) := ⟨.inr ⟨.inr (.inr hbig), rfl⟩, hb1⟩
        have hd2 : decide (1000000 < most) = true := by simpa using hbig
        replace hf := Lib.hid hf
        clear hD hIn
        go_wp2_with fail
        exact bodyPost_ret (v := .tuple #[.string (str []), .int .i64 0, .int .i64 80]) (by simp [results, Tryd.f18, go_sem, str]) rfl hfin.out
      · have hd2 : decide (1000000 < most) = false := by simpa using hbig
        obtain ⟨mn, rfl⟩ : ∃ mn : Nat, most = (mn : Int) := ⟨most.toNat, by omega⟩
        have hmn : mn ≤ 1000000 := by omega
        have hfinR : ∀ W, Below w.heap.size w W → RunPost code inp mn w (runE (runM L mn 1 ⟨0, [], inp, []⟩)) W := fun W hb => ⟨.inl ⟨L, hf, hg, by omega, by omega, by unfold runOf; rw [Int.toNat_natCast]⟩, hb⟩
        obtain ⟨R, hR⟩ : ∃ R, R = runM L mn 1 ⟨0, [], inp, []⟩ := ⟨_, rfl⟩
        rw [← hR] at hfinR
        have hForm := (formed_parts hf).2.2.2.2
        have hOps := hForm.ops
        have hnd := (formed_parts hf).2.2.1
        have hL1 : L.length ≤ 1024 := by
          have h0 := (formed_parts hf).2.1
          have h1 := (evSeq_dec _ code (Nat.le_refl _) 0).1 L hnd
          have h2 := evSeq_len _ code (Nat.le_refl _) 0
          rw [h1, List.length_map] at h2
          omega
        have hPG : ∀ j (h : j < (str inp).size), (((str inp)[j].toNat : Nat) : Int) = (inp[j]!.toNat : Nat) := fun j h => by
          rw [getElem!_pos inp j (by rw [str_size] at h; exact h)]
          show (((str inp).data[j]'_ : UInt8).toNat : Int) = _
          simp [str]
        have hps := str_size inp
        generalize str inp = P at *
        replace hPG := Lib.hid hPG
        replace hfinR := Lib.hid hfinR
        replace hf := Lib.hid hf
        replace hR := Lib.hid hR
        clear hD hneg hbig hnd
        go_wp2_with fail
        refine (hIn w1).out.mono ?_
        rintro e w2 ⟨hyes, _, hb2⟩
        obtain ⟨g, cap, rfl, hg0, hg1, hLc, hcm, hRR⟩ := hyes L hf.out
        have hB2 := hb1.trans (hb2.mono hb1.size)
        have hE2 := hE.below hB2
        clear hyes hIn
        go_wp2_with fail
        go_loopw [14, 15, 16, 17, 18] (fun sv ov rv iv nv wr => ∃ (s o : Value) (rd n : Nat) (c : Conf), s = sv ∧ o = ov ∧ rv = .int .i64 (rd : Int) ∧ iv = .int .i64 (c.pc : Int) ∧ nv = .int .i64 (n : Int) ∧ Hid (RRA L w2 inp mn R rd n c s o wr)) (fun _ _ _ _ nv _ => mn + 1 - (intOf nv).toNat)
        case atStart => exact ⟨_, _, 0, 1, ⟨0, [], inp, []⟩, rfl, rfl, rfl, rfl, rfl, (show Hid _ from ⟨Nat.le_refl _, by omega, Two.nil _ _, rfl, Nat.zero_le _, .zero, by rw [show mn + 1 - 1 = mn by omega]; exact hR.out.symm, Below.refl _ _, by simp⟩)⟩
        case round =>
          obtain ⟨sv, ov, rd, n, c, rfl, rfl, rfl, rfl, rfl, hall⟩ := hrel
          obtain ⟨hlo, hhi, hTwo, hinp, hrle, hrch, hrun, hB, hol⟩ := hall.out
          obtain ⟨pc, st, ip, out⟩ := c
          dsimp only at hTwo hinp hrch hrun hol
          dsimp only
          clear hall
          have hBT := hB2.trans (hB.mono hB2.size)
          by_cases hle : n ≤ mn
          · have hd : decide ((n : Int) ≤ (mn : Int)) = true := by simpa using hle
            obtain ⟨f, hfe⟩ : ∃ f, mn + 1 - n = f + 1 := ⟨mn - n, by omega⟩
            rw [hfe] at hrun
            have hfe2 : mn + 1 - (n + 1) = f := by omega
            have hpc := hg.inside _ _ hrch
            have htk := hg.takes _ _ hrch
            have h16 := reach_le hg hrch
            have hsr := fun c' (hs : stepM L ⟨pc, st, ip, out⟩ = .go c') => step_reach hForm hg (c := ⟨pc, st, ip, out⟩) hrch hs
            have hRw := hRR.keep (hB.block g hg1)
            obtain ⟨n0, n1, n2⟩ := hRw pc hpc
            simp only [Nat.zero_add] at n0 n1 n2
            have hop := hOps pc hpc
            have hLto := fun (h : leadOp L[pc]!.op = true) => (hForm.to hpc h)
            have hEw := hE2.below hB
            have hwn : IntKind.i64.wrap ((n : Int) + 1) = ((n + 1 : Nat) : Int) := by rw [Int.natCast_succ]; exact IntWalk.i64_in _ (by omega)
            have hwp : IntKind.i64.wrap ((pc : Int) + 1) = ((pc + 1 : Nat) : Int) := by rw [Int.natCast_succ]; exact IntWalk.i64_in _ (by omega)
            have j0 : (0 : Int) ≤ (pc : Int) := by omega
            have j1 : (pc : Int) < (L.length : Int) := by omega
            obtain ⟨z, hz⟩ : ∃ z, z = L[pc]! := ⟨_, rfl⟩
            rw [← hz] at n0 n1 n2 hop htk hLto
            obtain ⟨zo, zp, zd⟩ := z
            dsimp only at n0 n1 n2 hop htk hLto
            have hzop : L[pc]!.op = zp := by rw [← hz]
            have hzd : L[pc]!.opd = zd := by rw [← hz]
            have hzz : Hid (⟨zo, zp, zd⟩ = L[pc]!) := hz
            clear hz
            have hRx : ∀ o, RefRow (wr.alloc o) g 0 L := fun o => hRw.keep (Below.heap_alloc wr o g (by have := hB.size; omega))
            have hbx : ∀ o, Below wr.heap.size wr (wr.alloc o) := fun o => (Below.refl _ _).alloc (Nat.le_refl _) _
            have hB2x : ∀ o, Below w2.heap.size w2 (wr.alloc o) := fun o => hB.alloc hB.size _
            replace hrun := Lib.hid hrun
            replace hsr := Lib.hid hsr
            replace hfe := Lib.hid hfe
            replace hfe2 := Lib.hid hfe2
            replace hinp := Lib.hid hinp
            replace hRw := Lib.hid hRw
            replace hRx := Lib.hid hRx
            have hbad2 := hfinR.out _ hBT
            have h12 : zp = 0 ∨ zp = 1 ∨ zp = 2 ∨ zp = 3 ∨ zp = 4 ∨ zp = 5 ∨ zp = 6 ∨ zp = 7 ∨ zp = 8 ∨ zp = 9 ∨ zp = 10 ∨ zp = 11 := by omega
            replace hbad2 := Lib.hid hbad2
            clear hop hOps
            rcases h12 with rfl | rfl | rfl | rfl | rfl | rfl | rfl | rfl | rfl | rfl | rfl | rfl
            · have cT : wr.cell? ⟨0, 0, none⟩ = some (.int .i64 0) := hEw.takes 0 (by omega)
              have cX : (wr.alloc (.cells #[.int .i64 (zo : Int), .int .i64 0, .int .i64 (zd : Int)] 43)).cell? ⟨0, 0, none⟩ = some (.int .i64 0) := cell_below cT (hbx _)
              have hT0 := hTwo.below (hbx (.cells #[.int .i64 (zo : Int), .int .i64 0, .int .i64 (zd : Int)] 43))
              clear hTwo
              obtain ⟨⟨sa, sc, rfl, hsc⟩, ⟨oa, oc, rfl⟩⟩ := And.intro hT0.le hT0.sval.2
              have hsl := fun W => slice_to sa st.length sc st.length hsc W
              have hT1 := hT0
              have hwl : IntKind.i64.wrap (st.length : Int) = (st.length : Int) := IntWalk.i64_in _ (by omega)
              have hs : stepM L ⟨pc, st, ip, out⟩ = .go ⟨pc + 1, (zd : Int) :: st, ip, out⟩ := by rw [stepc (by rw [hzop]; omega), hzop, hzd]; rfl
              have hal : Below (wr.alloc (.cells #[.int .i64 (zo : Int), .int .i64 0, .int .i64 (zd : Int)] 43)).heap.size (wr.alloc (.cells #[.int .i64 (zo : Int), .int .i64 0, .int .i64 (zd : Int)] 43)) ((wr.alloc (.cells #[.int .i64 (zo : Int), .int .i64 0, .int .i64 (zd : Int)] 43)).alloc (.cells #[.int .i64 (zd : Int)] 3)) := (Below.refl _ _).alloc (Nat.le_refl _) _
              obtain ⟨v3, W3, hrun3, ⟨a3, c3, rfl⟩, hT3, hBf3⟩ := (hT1.below hal).push [(zd : Int)] (wr.alloc (.cells #[.int .i64 (zo : Int), .int .i64 0, .int .i64 (zd : Int)] 43)).heap.size (Arr.new rfl rfl) (by first | omega | (simp at h16 ⊢; omega)) (by simp) (by have := (hB2x (.cells #[.int .i64 (zo : Int), .int .i64 0, .int .i64 (zd : Int)] 43)).size; simp at this ⊢; omega)
              have hB3 := hBf3 _ ((hB2x (.cells #[.int .i64 (zo : Int), .int .i64 0, .int .i64 (zd : Int)] 43)).alloc (hB2x _).size _)
              simp only [World.size_alloc] at hrun3
              obtain ⟨k3, hk3⟩ : ∃ k3, k3 = st.length + [((zd : Int) : Int)].length := ⟨_, rfl⟩
              rw [← hk3] at hrun3 hT3
              have hfin : RRA L w2 inp mn R rd (n + 1) ⟨pc + 1, (zd : Int) :: st, ip, out⟩ (.slice a3 k3 c3) (.slice oa out.length oc) W3 := ⟨by omega, by omega, hT3, hinp.out, hrle, hsr.out _ hs, (by rw [hfe2.out]; exact runM_go hrun.out hs), hB3, hol⟩
              replace hfin := Lib.hid hfin
              replace hrun3 := Lib.hid hrun3
              replace hk3 := Lib.hid hk3
              clear hT3 hB3 hBf3 hal hT1 hT0
              go_wp2_with (at_builtin; go_loud (refine wpList_append_known rfl _ _ _ _ rfl _ _ rfl rfl hrun3.out ?_))
              exact ⟨⟨_, _, rd, n + 1, _, rfl, rfl, by first | rfl | go_num, by first | rfl | go_num, by first | rfl | go_num, hfin⟩, by simp [intOf]; omega⟩
            · have cT : wr.cell? ⟨0, 1, none⟩ = some (.int .i64 1) := hEw.takes 1 (by omega)
              have cX : (wr.alloc (.cells #[.int .i64 (zo : Int), .int .i64 1, .int .i64 (zd : Int)] 43)).cell? ⟨0, 1, none⟩ = some (.int .i64 1) := cell_below cT (hbx _)
              have hT0 := hTwo.below (hbx (.cells #[.int .i64 (zo : Int), .int .i64 1, .int .i64 (zd : Int)] 43))
              clear hTwo
              cases st with
              | nil => (simp [takesOp] at htk)
              | cons a r =>
                obtain ⟨sg, sc, rfl, hsc, hscm, cA, hT1⟩ := hT0.pop1
                obtain ⟨oa, oc, rfl⟩ := hT0.sval.2
                have hsl := fun W => slice_to (some ⟨sg, 0, none⟩) (r.length + 1) sc r.length (by omega) W
                rw [List.length_cons] at htk h16
                have hwl : IntKind.i64.wrap ((r.length : Int) + 1 - 1) = (r.length : Int) := by rw [show (r.length : Int) + 1 - 1 = (r.length : Int) by omega]; exact IntWalk.i64_in _ (by omega)
                have hwl2 : IntKind.i64.wrap (r.length : Int) = (r.length : Int) := IntWalk.i64_in _ (by omega)
                have l0 : (0 : Int) ≤ (r.length : Int) := by omega
                have l1 : (r.length : Int) < (r.length : Int) + 1 := by omega
                have hs : stepM L ⟨pc, (a :: r), ip, out⟩ = .go ⟨pc + 1, a :: a :: r, ip, out⟩ := by rw [stepc (by rw [hzop]; omega), hzop, hzd]; rfl
                have hal : Below (wr.alloc (.cells #[.int .i64 (zo : Int), .int .i64 1, .int .i64 (zd : Int)] 43)).heap.size (wr.alloc (.cells #[.int .i64 (zo : Int), .int .i64 1, .int .i64 (zd : Int)] 43)) ((wr.alloc (.cells #[.int .i64 (zo : Int), .int .i64 1, .int .i64 (zd : Int)] 43)).alloc (.cells #[.int .i64 a, .int .i64 a] 3)) := (Below.refl _ _).alloc (Nat.le_refl _) _
                obtain ⟨v3, W3, hrun3, ⟨a3, c3, rfl⟩, hT3, hBf3⟩ := (hT1.below hal).push [a, a] (wr.alloc (.cells #[.int .i64 (zo : Int), .int .i64 1, .int .i64 (zd : Int)] 43)).heap.size (Arr.new rfl rfl) (by first | omega | (simp at h16 ⊢; omega)) (by simp) (by have := (hB2x (.cells #[.int .i64 (zo : Int), .int .i64 1, .int .i64 (zd : Int)] 43)).size; simp at this ⊢; omega)
                have hB3 := hBf3 _ ((hB2x (.cells #[.int .i64 (zo : Int), .int .i64 1, .int .i64 (zd : Int)] 43)).alloc (hB2x _).size _)
                simp only [World.size_alloc] at hrun3
                obtain ⟨k3, hk3⟩ : ∃ k3, k3 = r.length + [(a : Int), (a : Int)].length := ⟨_, rfl⟩
                rw [← hk3] at hrun3 hT3
                have hfin : RRA L w2 inp mn R rd (n + 1) ⟨pc + 1, a :: a :: r, ip, out⟩ (.slice a3 k3 c3) (.slice oa out.length oc) W3 := ⟨by omega, by omega, hT3, hinp.out, hrle, hsr.out _ hs, (by rw [hfe2.out]; exact runM_go hrun.out hs), hB3, hol⟩
                replace hfin := Lib.hid hfin
                replace hrun3 := Lib.hid hrun3
                replace hk3 := Lib.hid hk3
                clear hT3 hB3 hBf3 hal hT1 hT0
                go_wp2_with (at_builtin; go_loud (refine wpList_append_known rfl _ _ _ _ rfl _ _ rfl rfl hrun3.out ?_))
                exact ⟨⟨_, _, rd, n + 1, _, rfl, rfl, by first | rfl | go_num, by first | rfl | go_num, by first | rfl | go_num, hfin⟩, by simp [intOf]; omega⟩
            · have cT : wr.cell? ⟨0, 2, none⟩ = some (.int .i64 2) := hEw.takes 2 (by omega)
              have cX : (wr.alloc (.cells #[.int .i64 (zo : Int), .int .i64 2, .int .i64 (zd : Int)] 43)).cell? ⟨0, 2, none⟩ = some (.int .i64 2) := cell_below cT (hbx _)
              have hT0 := hTwo.below (hbx (.cells #[.int .i64 (zo : Int), .int .i64 2, .int .i64 (zd : Int)] 43))
              clear hTwo
              cases st with
              | nil => (simp [takesOp] at htk)
              | cons b r =>
              cases r with
              | nil => (simp [takesOp] at htk)
              | cons a r =>
                obtain ⟨sg, sc, rfl, hsc, hscm, cA, cB, hT1⟩ := hT0.pop2
                obtain ⟨oa, oc, rfl⟩ := hT0.sval.2
                have hsl := fun W => slice_to (some ⟨sg, 0, none⟩) (r.length + 1 + 1) sc r.length (by omega) W
                rw [List.length_cons, List.length_cons] at htk h16
                have hwl : IntKind.i64.wrap ((r.length : Int) + 1 + 1 - 2) = (r.length : Int) := by rw [show (r.length : Int) + 1 + 1 - 2 = (r.length : Int) by omega]; exact IntWalk.i64_in _ (by omega)
                have hwl2 : IntKind.i64.wrap ((r.length : Int) + 1 + 1 - 1) = (r.length : Int) + 1 := by rw [show (r.length : Int) + 1 + 1 - 1 = (r.length : Int) + 1 by omega]; exact IntWalk.i64_in _ (by omega)
                have hwl3 : IntKind.i64.wrap ((r.length : Int) + 1) = (r.length : Int) + 1 := IntWalk.i64_in _ (by omega)
                have hwl4 : IntKind.i64.wrap (r.length : Int) = (r.length : Int) := IntWalk.i64_in _ (by omega)
                have l0 : (0 : Int) ≤ (r.length : Int) := by omega
                have l1 : (0 : Int) ≤ (r.length : Int) + 1 := by omega
                have l2 : (r.length : Int) < (r.length : Int) + 1 + 1 := by omega
                have l3 : (r.length : Int) + 1 < (r.length : Int) + 1 + 1 := by omega
                have l4 : ((r.length : Int) + 1).toNat = r.length + 1 := by omega
                have hs : stepM L ⟨pc, (b :: a :: r), ip, out⟩ = .go ⟨pc + 1, a :: b :: r, ip, out⟩ := by rw [stepc (by rw [hzop]; omega), hzop, hzd]; rfl
                have hal : Below (wr.alloc (.cells #[.int .i64 (zo : Int), .int .i64 2, .int .i64 (zd : Int)] 43)).heap.size (wr.alloc (.cells #[.int .i64 (zo : Int), .int .i64 2, .int .i64 (zd : Int)] 43)) ((wr.alloc (.cells #[.int .i64 (zo : Int), .int .i64 2, .int .i64 (zd : Int)] 43)).alloc (.cells #[.int .i64 b, .int .i64 a] 3)) := (Below.refl _ _).alloc (Nat.le_refl _) _
                obtain ⟨v3, W3, hrun3, ⟨a3, c3, rfl⟩, hT3, hBf3⟩ := (hT1.below hal).push [b, a] (wr.alloc (.cells #[.int .i64 (zo : Int), .int .i64 2, .int .i64 (zd : Int)] 43)).heap.size (Arr.new rfl rfl) (by first | omega | (simp at h16 ⊢; omega)) (by simp) (by have := (hB2x (.cells #[.int .i64 (zo : Int), .int .i64 2, .int .i64 (zd : Int)] 43)).size; simp at this ⊢; omega)
                have hB3 := hBf3 _ ((hB2x (.cells #[.int .i64 (zo : Int), .int .i64 2, .int .i64 (zd : Int)] 43)).alloc (hB2x _).size _)
                simp only [World.size_alloc] at hrun3
                obtain ⟨k3, hk3⟩ : ∃ k3, k3 = r.length + [(b : Int), (a : Int)].length := ⟨_, rfl⟩
                rw [← hk3] at hrun3 hT3
                have hfin : RRA L w2 inp mn R rd (n + 1) ⟨pc + 1, a :: b :: r, ip, out⟩ (.slice a3 k3 c3) (.slice oa out.length oc) W3 := ⟨by omega, by omega, hT3, hinp.out, hrle, hsr.out _ hs, (by rw [hfe2.out]; exact runM_go hrun.out hs), hB3, hol⟩
                replace hfin := Lib.hid hfin
                replace hrun3 := Lib.hid hrun3
                replace hk3 := Lib.hid hk3
                clear hT3 hB3 hBf3 hal hT1 hT0
                go_wp2_with (at_builtin; go_loud (refine wpList_append_known rfl _ _ _ _ rfl _ _ rfl rfl hrun3.out ?_))
                exact ⟨⟨_, _, rd, n + 1, _, rfl, rfl, by first | rfl | go_num, by first | rfl | go_num, by first | rfl | go_num, hfin⟩, by simp [intOf]; omega⟩
            · have cT : wr.cell? ⟨0, 3, none⟩ = some (.int .i64 1) := hEw.takes 3 (by omega)
              have cX : (wr.alloc (.cells #[.int .i64 (zo : Int), .int .i64 3, .int .i64 (zd : Int)] 43)).cell? ⟨0, 3, none⟩ = some (.int .i64 1) := cell_below cT (hbx _)
              have hT0 := hTwo.below (hbx (.cells #[.int .i64 (zo : Int), .int .i64 3, .int .i64 (zd : Int)] 43))
              clear hTwo
              cases st with
              | nil => (simp [takesOp] at htk)
              | cons a r =>
                obtain ⟨sg, sc, rfl, hsc, hscm, cA, hT1⟩ := hT0.pop1
                obtain ⟨oa, oc, rfl⟩ := hT0.sval.2
                have hsl := fun W => slice_to (some ⟨sg, 0, none⟩) (r.length + 1) sc r.length (by omega) W
                rw [List.length_cons] at htk h16
                have hwl : IntKind.i64.wrap ((r.length : Int) + 1 - 1) = (r.length : Int) := by rw [show (r.length : Int) + 1 - 1 = (r.length : Int) by omega]; exact IntWalk.i64_in _ (by omega)
                have hwl2 : IntKind.i64.wrap (r.length : Int) = (r.length : Int) := IntWalk.i64_in _ (by omega)
                have l0 : (0 : Int) ≤ (r.length : Int) := by omega
                have l1 : (r.length : Int) < (r.length : Int) + 1 := by omega
                have hs : stepM L ⟨pc, (a :: r), ip, out⟩ = .go ⟨pc + 1, r, ip, out⟩ := by rw [stepc (by rw [hzop]; omega), hzop, hzd]; rfl
                have hfin : RRA L w2 inp mn R rd (n + 1) ⟨pc + 1, r, ip, out⟩ (.slice (some ⟨sg, 0, none⟩) r.length sc) (.slice oa out.length oc) (wr.alloc (.cells #[.int .i64 (zo : Int), .int .i64 3, .int .i64 (zd : Int)] 43)) := ⟨by omega, by omega, hT1, hinp.out, hrle, hsr.out _ hs, (by rw [hfe2.out]; exact runM_go hrun.out hs), hB2x _, hol⟩
                replace hfin := Lib.hid hfin
                clear hT1 hT0
                go_wp2_with fail
                exact ⟨⟨_, _, rd, n + 1, _, rfl, rfl, by first | rfl | go_num, by first | rfl | go_num, by first | rfl | go_num, hfin⟩, by simp [intOf]; omega⟩
            · have cT : wr.cell? ⟨0, 4, none⟩ = some (.int .i64 2) := hEw.takes 4 (by omega)
              have cX : (wr.alloc (.cells #[.int .i64 (zo : Int), .int .i64 4, .int .i64 (zd : Int)] 43)).cell? ⟨0, 4, none⟩ = some (.int .i64 2) := cell_below cT (hbx _)
              have hT0 := hTwo.below (hbx (.cells #[.int .i64 (zo : Int), .int .i64 4, .int .i64 (zd : Int)] 43))
              clear hTwo
              cases st with
              | nil => (simp [takesOp] at htk)
              | cons b r =>
              cases r with
              | nil => (simp [takesOp] at htk)
              | cons a r =>
                obtain ⟨sg, sc, rfl, hsc, hscm, cA, cB, hT1⟩ := hT0.pop2
                obtain ⟨oa, oc, rfl⟩ := hT0.sval.2
                have hsl := fun W => slice_to (some ⟨sg, 0, none⟩) (r.length + 1 + 1) sc r.length (by omega) W
                rw [List.length_cons, List.length_cons] at htk h16
                have hwl : IntKind.i64.wrap ((r.length : Int) + 1 + 1 - 2) = (r.length : Int) := by rw [show (r.length : Int) + 1 + 1 - 2 = (r.length : Int) by omega]; exact IntWalk.i64_in _ (by omega)
                have hwl2 : IntKind.i64.wrap ((r.length : Int) + 1 + 1 - 1) = (r.length : Int) + 1 := by rw [show (r.length : Int) + 1 + 1 - 1 = (r.length : Int) + 1 by omega]; exact IntWalk.i64_in _ (by omega)
                have hwl3 : IntKind.i64.wrap ((r.length : Int) + 1) = (r.length : Int) + 1 := IntWalk.i64_in _ (by omega)
                have hwl4 : IntKind.i64.wrap (r.length : Int) = (r.length : Int) := IntWalk.i64_in _ (by omega)
                have l0 : (0 : Int) ≤ (r.length : Int) := by omega
                have l1 : (0 : Int) ≤ (r.length : Int) + 1 := by omega
                have l2 : (r.length : Int) < (r.length : Int) + 1 + 1 := by omega
                have l3 : (r.length : Int) + 1 < (r.length : Int) + 1 + 1 := by omega
                have l4 : ((r.length : Int) + 1).toNat = r.length + 1 := by omega
                obtain ⟨sm, hsm⟩ : ∃ s, s = w64 (a + b) := ⟨_, rfl⟩
                have hw1 : IntKind.i64.wrap (a + b) = sm := hsm.symm
                have hw2 : wrap64 (a + b) = sm := by rw [hsm, w64_wrap]
                have hs : stepM L ⟨pc, (b :: a :: r), ip, out⟩ = .go ⟨pc + 1, sm :: r, ip, out⟩ := by rw [stepc (by rw [hzop]; omega), hzop, hzd, hsm]; rfl
                replace hsm := Lib.hid hsm
                have hal : Below (wr.alloc (.cells #[.int .i64 (zo : Int), .int .i64 4, .int .i64 (zd : Int)] 43)).heap.size (wr.alloc (.cells #[.int .i64 (zo : Int), .int .i64 4, .int .i64 (zd : Int)] 43)) ((wr.alloc (.cells #[.int .i64 (zo : Int), .int .i64 4, .int .i64 (zd : Int)] 43)).alloc (.cells #[.int .i64 sm] 3)) := (Below.refl _ _).alloc (Nat.le_refl _) _
                obtain ⟨v3, W3, hrun3, ⟨a3, c3, rfl⟩, hT3, hBf3⟩ := (hT1.below hal).push [sm] (wr.alloc (.cells #[.int .i64 (zo : Int), .int .i64 4, .int .i64 (zd : Int)] 43)).heap.size (Arr.new rfl rfl) (by first | omega | (simp at h16 ⊢; omega)) (by simp) (by have := (hB2x (.cells #[.int .i64 (zo : Int), .int .i64 4, .int .i64 (zd : Int)] 43)).size; simp at this ⊢; omega)
                have hB3 := hBf3 _ ((hB2x (.cells #[.int .i64 (zo : Int), .int .i64 4, .int .i64 (zd : Int)] 43)).alloc (hB2x _).size _)
                simp only [World.size_alloc] at hrun3
                obtain ⟨k3, hk3⟩ : ∃ k3, k3 = r.length + [(sm : Int)].length := ⟨_, rfl⟩
                rw [← hk3] at hrun3 hT3
                have hfin : RRA L w2 inp mn R rd (n + 1) ⟨pc + 1, sm :: r, ip, out⟩ (.slice a3 k3 c3) (.slice oa out.length oc) W3 := ⟨by omega, by omega, hT3, hinp.out, hrle, hsr.out _ hs, (by rw [hfe2.out]; exact runM_go hrun.out hs), hB3, hol⟩
                replace hfin := Lib.hid hfin
                replace hrun3 := Lib.hid hrun3
                replace hk3 := Lib.hid hk3
                clear hT3 hB3 hBf3 hal hT1 hT0
                go_wp2_with (at_builtin; go_loud (refine wpList_append_known rfl _ _ _ _ rfl _ _ rfl rfl hrun3.out ?_))
                exact ⟨⟨_, _, rd, n + 1, _, rfl, rfl, by first | rfl | go_num, by first | rfl | go_num, by first | rfl | go_num, hfin⟩, by simp [intOf]; omega⟩
            · have cT : wr.cell? ⟨0, 5, none⟩ = some (.int .i64 2) := hEw.takes 5 (by omega)
              have cX : (wr.alloc (.cells #[.int .i64 (zo : Int), .int .i64 5, .int .i64 (zd : Int)] 43)).cell? ⟨0, 5, none⟩ = some (.int .i64 2) := cell_below cT (hbx _)
              have hT0 := hTwo.below (hbx (.cells #[.int .i64 (zo : Int), .int .i64 5, .int .i64 (zd : Int)] 43))
              clear hTwo
              cases st with
              | nil => (simp [takesOp] at htk)
              | cons b r =>
              cases r with
              | nil => (simp [takesOp] at htk)
              | cons a r =>
                obtain ⟨sg, sc, rfl, hsc, hscm, cA, cB, hT1⟩ := hT0.pop2
                obtain ⟨oa, oc, rfl⟩ := hT0.sval.2
                have hsl := fun W => slice_to (some ⟨sg, 0, none⟩) (r.length + 1 + 1) sc r.length (by omega) W
                rw [List.length_cons, List.length_cons] at htk h16
                have hwl : IntKind.i64.wrap ((r.length : Int) + 1 + 1 - 2) = (r.length : Int) := by rw [show (r.length : Int) + 1 + 1 - 2 = (r.length : Int) by omega]; exact IntWalk.i64_in _ (by omega)
                have hwl2 : IntKind.i64.wrap ((r.length : Int) + 1 + 1 - 1) = (r.length : Int) + 1 := by rw [show (r.length : Int) + 1 + 1 - 1 = (r.length : Int) + 1 by omega]; exact IntWalk.i64_in _ (by omega)
                have hwl3 : IntKind.i64.wrap ((r.length : Int) + 1) = (r.length : Int) + 1 := IntWalk.i64_in _ (by omega)
                have hwl4 : IntKind.i64.wrap (r.length : Int) = (r.length : Int) := IntWalk.i64_in _ (by omega)
                have l0 : (0 : Int) ≤ (r.length : Int) := by omega
                have l1 : (0 : Int) ≤ (r.length : Int) + 1 := by omega
                have l2 : (r.length : Int) < (r.length : Int) + 1 + 1 := by omega
                have l3 : (r.length : Int) + 1 < (r.length : Int) + 1 + 1 := by omega
                have l4 : ((r.length : Int) + 1).toNat = r.length + 1 := by omega
                obtain ⟨sm, hsm⟩ : ∃ s, s = w64 (a - b) := ⟨_, rfl⟩
                have hw1 : IntKind.i64.wrap (a - b) = sm := hsm.symm
                have hw2 : wrap64 (a - b) = sm := by rw [hsm, w64_wrap]
                have hs : stepM L ⟨pc, (b :: a :: r), ip, out⟩ = .go ⟨pc + 1, sm :: r, ip, out⟩ := by rw [stepc (by rw [hzop]; omega), hzop, hzd, hsm]; rfl
                replace hsm := Lib.hid hsm
                have hal : Below (wr.alloc (.cells #[.int .i64 (zo : Int), .int .i64 5, .int .i64 (zd : Int)] 43)).heap.size (wr.alloc (.cells #[.int .i64 (zo : Int), .int .i64 5, .int .i64 (zd : Int)] 43)) ((wr.alloc (.cells #[.int .i64 (zo : Int), .int .i64 5, .int .i64 (zd : Int)] 43)).alloc (.cells #[.int .i64 sm] 3)) := (Below.refl _ _).alloc (Nat.le_refl _) _
                obtain ⟨v3, W3, hrun3, ⟨a3, c3, rfl⟩, hT3, hBf3⟩ := (hT1.below hal).push [sm] (wr.alloc (.cells #[.int .i64 (zo : Int), .int .i64 5, .int .i64 (zd : Int)] 43)).heap.size (Arr.new rfl rfl) (by first | omega | (simp at h16 ⊢; omega)) (by simp) (by have := (hB2x (.cells #[.int .i64 (zo : Int), .int .i64 5, .int .i64 (zd : Int)] 43)).size; simp at this ⊢; omega)
                have hB3 := hBf3 _ ((hB2x (.cells #[.int .i64 (zo : Int), .int .i64 5, .int .i64 (zd : Int)] 43)).alloc (hB2x _).size _)
                simp only [World.size_alloc] at hrun3
                obtain ⟨k3, hk3⟩ : ∃ k3, k3 = r.length + [(sm : Int)].length := ⟨_, rfl⟩
                rw [← hk3] at hrun3 hT3
                have hfin : RRA L w2 inp mn R rd (n + 1) ⟨pc + 1, sm :: r, ip, out⟩ (.slice a3 k3 c3) (.slice oa out.length oc) W3 := ⟨by omega, by omega, hT3, hinp.out, hrle, hsr.out _ hs, (by rw [hfe2.out]; exact runM_go hrun.out hs), hB3, hol⟩
                replace hfin := Lib.hid hfin
                replace hrun3 := Lib.hid hrun3
                replace hk3 := Lib.hid hk3
                clear hT3 hB3 hBf3 hal hT1 hT0
                go_wp2_with (at_builtin; go_loud (refine wpList_append_known rfl _ _ _ _ rfl _ _ rfl rfl hrun3.out ?_))
                exact ⟨⟨_, _, rd, n + 1, _, rfl, rfl, by first | rfl | go_num, by first | rfl | go_num, by first | rfl | go_num, hfin⟩, by simp [intOf]; omega⟩
            · have cT : wr.cell? ⟨0, 6, none⟩ = some (.int .i64 2) := hEw.takes 6 (by omega)
              have cX : (wr.alloc (.cells #[.int .i64 (zo : Int), .int .i64 6, .int .i64 (zd : Int)] 43)).cell? ⟨0, 6, none⟩ = some (.int .i64 2) := cell_below cT (hbx _)
              have hT0 := hTwo.below (hbx (.cells #[.int .i64 (zo : Int), .int .i64 6, .int .i64 (zd : Int)] 43))
              clear hTwo
              cases st with
              | nil => (simp [takesOp] at htk)
              | cons b r =>
              cases r with
              | nil => (simp [takesOp] at htk)
              | cons a r =>
                obtain ⟨sg, sc, rfl, hsc, hscm, cA, cB, hT1⟩ := hT0.pop2
                obtain ⟨oa, oc, rfl⟩ := hT0.sval.2
                have hsl := fun W => slice_to (some ⟨sg, 0, none⟩) (r.length + 1 + 1) sc r.length (by omega) W
                rw [List.length_cons, List.length_cons] at htk h16
                have hwl : IntKind.i64.wrap ((r.length : Int) + 1 + 1 - 2) = (r.length : Int) := by rw [show (r.length : Int) + 1 + 1 - 2 = (r.length : Int) by omega]; exact IntWalk.i64_in _ (by omega)
                have hwl2 : IntKind.i64.wrap ((r.length : Int) + 1 + 1 - 1) = (r.length : Int) + 1 := by rw [show (r.length : Int) + 1 + 1 - 1 = (r.length : Int) + 1 by omega]; exact IntWalk.i64_in _ (by omega)
                have hwl3 : IntKind.i64.wrap ((r.length : Int) + 1) = (r.length : Int) + 1 := IntWalk.i64_in _ (by omega)
                have hwl4 : IntKind.i64.wrap (r.length : Int) = (r.length : Int) := IntWalk.i64_in _ (by omega)
                have l0 : (0 : Int) ≤ (r.length : Int) := by omega
                have l1 : (0 : Int) ≤ (r.length : Int) + 1 := by omega
                have l2 : (r.length : Int) < (r.length : Int) + 1 + 1 := by omega
                have l3 : (r.length : Int) + 1 < (r.length : Int) + 1 + 1 := by omega
                have l4 : ((r.length : Int) + 1).toNat = r.length + 1 := by omega
                by_cases hab : a < b
                · have hdab : decide (a < b) = true := by simpa using hab
                  have hs : stepM L ⟨pc, (b :: a :: r), ip, out⟩ = .go ⟨pc + 1, 1 :: r, ip, out⟩ := by rw [stepc (by rw [hzop]; omega), hzop, hzd]; show Res.go ⟨pc + 1, (if a < b then 1 else 0) :: r, ip, out⟩ = _; rw [if_pos hab]
                  have hal : Below (wr.alloc (.cells #[.int .i64 (zo : Int), .int .i64 6, .int .i64 (zd : Int)] 43)).heap.size (wr.alloc (.cells #[.int .i64 (zo : Int), .int .i64 6, .int .i64 (zd : Int)] 43)) ((wr.alloc (.cells #[.int .i64 (zo : Int), .int .i64 6, .int .i64 (zd : Int)] 43)).alloc (.cells #[.int .i64 1] 3)) := (Below.refl _ _).alloc (Nat.le_refl _) _
                  obtain ⟨v3, W3, hrun3, ⟨a3, c3, rfl⟩, hT3, hBf3⟩ := (hT1.below hal).push [1] (wr.alloc (.cells #[.int .i64 (zo : Int), .int .i64 6, .int .i64 (zd : Int)] 43)).heap.size (Arr.new rfl rfl) (by first | omega | (simp at h16 ⊢; omega)) (by simp) (by have := (hB2x (.cells #[.int .i64 (zo : Int), .int .i64 6, .int .i64 (zd : Int)] 43)).size; simp at this ⊢; omega)
                  have hB3 := hBf3 _ ((hB2x (.cells #[.int .i64 (zo : Int), .int .i64 6, .int .i64 (zd : Int)] 43)).alloc (hB2x _).size _)
                  simp only [World.size_alloc] at hrun3
                  obtain ⟨k3, hk3⟩ : ∃ k3, k3 = r.length + [(1 : Int)].length := ⟨_, rfl⟩
                  rw [← hk3] at hrun3 hT3
                  have hfin : RRA L w2 inp mn R rd (n + 1) ⟨pc + 1, 1 :: r, ip, out⟩ (.slice a3 k3 c3) (.slice oa out.length oc) W3 := ⟨by omega, by omega, hT3, hinp.out, hrle, hsr.out _ hs, (by rw [hfe2.out]; exact runM_go hrun.out hs), hB3, hol⟩
                  replace hfin := Lib.hid hfin
                  replace hrun3 := Lib.hid hrun3
                  replace hk3 := Lib.hid hk3
                  clear hT3 hB3 hBf3 hal hT1 hT0
                  go_wp2_with (at_builtin; go_loud (refine wpList_append_known rfl _ _ _ _ rfl _ _ rfl rfl hrun3.out ?_))
                  exact ⟨⟨_, _, rd, n + 1, _, rfl, rfl, by first | rfl | go_num, by first | rfl | go_num, by first | rfl | go_num, hfin⟩, by simp [intOf]; omega⟩
                · have hdab : decide (a < b) = false := by simpa using hab
                  have hs : stepM L ⟨pc, (b :: a :: r), ip, out⟩ = .go ⟨pc + 1, 0 :: r, ip, out⟩ := by rw [stepc (by rw [hzop]; omega), hzop, hzd]; show Res.go ⟨pc + 1, (if a < b then 1 else 0) :: r, ip, out⟩ = _; rw [if_neg hab]
                  have hal : Below (wr.alloc (.cells #[.int .i64 (zo : Int), .int .i64 6, .int .i64 (zd : Int)] 43)).heap.size (wr.alloc (.cells #[.int .i64 (zo : Int), .int .i64 6, .int .i64 (zd : Int)] 43)) ((wr.alloc (.cells #[.int .i64 (zo : Int), .int .i64 6, .int .i64 (zd : Int)] 43)).alloc (.cells #[.int .i64 0] 3)) := (Below.refl _ _).alloc (Nat.le_refl _) _
                  obtain ⟨v3, W3, hrun3, ⟨a3, c3, rfl⟩, hT3, hBf3⟩ := (hT1.below hal).push [0] (wr.alloc (.cells #[.int .i64 (zo : Int), .int .i64 6, .int .i64 (zd : Int)] 43)).heap.size (Arr.new rfl rfl) (by first | omega | (simp at h16 ⊢; omega)) (by simp) (by have := (hB2x (.cells #[.int .i64 (zo : Int), .int .i64 6, .int .i64 (zd : Int)] 43)).size; simp at this ⊢; omega)
                  have hB3 := hBf3 _ ((hB2x (.cells #[.int .i64 (zo : Int), .int .i64 6, .int .i64 (zd : Int)] 43)).alloc (hB2x _).size _)
                  simp only [World.size_alloc] at hrun3
                  obtain ⟨k3, hk3⟩ : ∃ k3, k3 = r.length + [(0 : Int)].length := ⟨_, rfl⟩
                  rw [← hk3] at hrun3 hT3
                  have hfin : RRA L w2 inp mn R rd (n + 1) ⟨pc + 1, 0 :: r, ip, out⟩ (.slice a3 k3 c3) (.slice oa out.length oc) W3 := ⟨by omega, by omega, hT3, hinp.out, hrle, hsr.out _ hs, (by rw [hfe2.out]; exact runM_go hrun.out hs), hB3, hol⟩
                  replace hfin := Lib.hid hfin
                  replace hrun3 := Lib.hid hrun3
                  replace hk3 := Lib.hid hk3
                  clear hT3 hB3 hBf3 hal hT1 hT0
                  go_wp2_with (at_builtin; go_loud (refine wpList_append_known rfl _ _ _ _ rfl _ _ rfl rfl hrun3.out ?_))
                  exact ⟨⟨_, _, rd, n + 1, _, rfl, rfl, by first | rfl | go_num, by first | rfl | go_num, by first | rfl | go_num, hfin⟩, by simp [intOf]; omega⟩
            · have cT : wr.cell? ⟨0, 7, none⟩ = some (.int .i64 0) := hEw.takes 7 (by omega)
              have cX : (wr.alloc (.cells #[.int .i64 (zo : Int), .int .i64 7, .int .i64 (zd : Int)] 43)).cell? ⟨0, 7, none⟩ = some (.int .i64 0) := cell_below cT (hbx _)
              have hT0 := hTwo.below (hbx (.cells #[.int .i64 (zo : Int), .int .i64 7, .int .i64 (zd : Int)] 43))
              clear hTwo
              obtain ⟨⟨sa, sc, rfl, hsc⟩, ⟨oa, oc, rfl⟩⟩ := And.intro hT0.le hT0.sval.2
              have hsl := fun W => slice_to sa st.length sc st.length hsc W
              have hT1 := hT0
              have hwl : IntKind.i64.wrap (st.length : Int) = (st.length : Int) := IntWalk.i64_in _ (by omega)
              have hto := hLto rfl
              have hF := Lib.hid (find8_any g 0 cap L zd (wr.alloc (.cells #[.int .i64 (zo : Int), .int .i64 7, .int .i64 (zd : Int)] 43)) (by omega) (hRx.out _))
              obtain ⟨tz, htz⟩ : ∃ t, t = toOf L ⟨zo, 7, zd⟩ := ⟨_, rfl⟩
              have hfz : findZ L zd = (tz : Int) := by rw [findZ, hto, htz]
              rw [hfz] at hF
              have hs : stepM L ⟨pc, st, ip, out⟩ = .go ⟨tz, st, ip, out⟩ := by rw [step7 hzop, ← hzz.out, htz]
              replace htz := Lib.hid htz
              replace hto := Lib.hid hto
              replace hfz := Lib.hid hfz
              have hfin : RRA L w2 inp mn R rd (n + 1) ⟨tz, st, ip, out⟩ (.slice sa st.length sc) (.slice oa out.length oc) (wr.alloc (.cells #[.int .i64 (zo : Int), .int .i64 7, .int .i64 (zd : Int)] 43)) := ⟨by omega, by omega, hT1, hinp.out, hrle, hsr.out _ hs, (by rw [hfe2.out]; exact runM_go hrun.out hs), hB2x _, hol⟩
              replace hfin := Lib.hid hfin
              clear hT1 hT0
              go_wp2_with fail
              refine hF.out.mono ?_
              rintro e w3 ⟨rfl, rfl⟩
              go_wp2_with fail
              exact ⟨⟨_, _, rd, n + 1, _, rfl, rfl, by first | rfl | go_num, by first | rfl | go_num, by first | rfl | go_num, hfin⟩, by simp [intOf]; omega⟩
            · have cT : wr.cell? ⟨0, 8, none⟩ = some (.int .i64 1) := hEw.takes 8 (by omega)
              have cX : (wr.alloc (.cells #[.int .i64 (zo : Int), .int .i64 8, .int .i64 (zd : Int)] 43)).cell? ⟨0, 8, none⟩ = some (.int .i64 1) := cell_below cT (hbx _)
              have hT0 := hTwo.below (hbx (.cells #[.int .i64 (zo : Int), .int .i64 8, .int .i64 (zd : Int)] 43))
              clear hTwo
              cases st with
              | nil => (simp [takesOp] at htk)
              | cons a r =>
                obtain ⟨sg, sc, rfl, hsc, hscm, cA, hT1⟩ := hT0.pop1
                obtain ⟨oa, oc, rfl⟩ := hT0.sval.2
                have hsl := fun W => slice_to (some ⟨sg, 0, none⟩) (r.length + 1) sc r.length (by omega) W
                rw [List.length_cons] at htk h16
                have hwl : IntKind.i64.wrap ((r.length : Int) + 1 - 1) = (r.length : Int) := by rw [show (r.length : Int) + 1 - 1 = (r.length : Int) by omega]; exact IntWalk.i64_in _ (by omega)
                have hwl2 : IntKind.i64.wrap (r.length : Int) = (r.length : Int) := IntWalk.i64_in _ (by omega)
                have l0 : (0 : Int) ≤ (r.length : Int) := by omega
                have l1 : (r.length : Int) < (r.length : Int) + 1 := by omega
                have hto := hLto rfl
                have hF := Lib.hid (find8_any g 0 cap L zd (wr.alloc (.cells #[.int .i64 (zo : Int), .int .i64 8, .int .i64 (zd : Int)] 43)) (by omega) (hRx.out _))
                obtain ⟨tz, htz⟩ : ∃ t, t = toOf L ⟨zo, 8, zd⟩ := ⟨_, rfl⟩
                have hfz : findZ L zd = (tz : Int) := by rw [findZ, hto, htz]
                rw [hfz] at hF
                by_cases ha0 : a = 0
                · have hq : (a == 0) = true := by rw [ha0]; rfl
                  have hq2 : (a != 0) = false := by rw [ha0]; rfl
                  have hs : stepM L ⟨pc, (a :: r), ip, out⟩ = .go ⟨pc + 1, r, ip, out⟩ := by rw [step8 hzop, if_pos ha0]
                  replace htz := Lib.hid htz
                  replace hto := Lib.hid hto
                  replace hfz := Lib.hid hfz
                  replace ha0 := Lib.hid ha0
                  have hfin : RRA L w2 inp mn R rd (n + 1) ⟨pc + 1, r, ip, out⟩ (.slice (some ⟨sg, 0, none⟩) r.length sc) (.slice oa out.length oc) (wr.alloc (.cells #[.int .i64 (zo : Int), .int .i64 8, .int .i64 (zd : Int)] 43)) := ⟨by omega, by omega, hT1, hinp.out, hrle, hsr.out _ hs, (by rw [hfe2.out]; exact runM_go hrun.out hs), hB2x _, hol⟩
                  replace hfin := Lib.hid hfin
                  clear hT1 hT0
                  go_wp2_with fail
                  exact ⟨⟨_, _, rd, n + 1, _, rfl, rfl, by first | rfl | go_num, by first | rfl | go_num, by first | rfl | go_num, hfin⟩, by simp [intOf]; omega⟩
                · have hq : (a == 0) = false := by rw [beq_eq_false_iff_ne]; exact ha0
                  have hq2 : (a != 0) = true := by rw [bne, hq]; rfl
                  have hs : stepM L ⟨pc, (a :: r), ip, out⟩ = .go ⟨tz, r, ip, out⟩ := by rw [step8 hzop, if_neg ha0, ← hzz.out, htz]
                  replace htz := Lib.hid htz
                  replace hto := Lib.hid hto
                  replace hfz := Lib.hid hfz
                  replace ha0 := Lib.hid ha0
                  have hfin : RRA L w2 inp mn R rd (n + 1) ⟨tz, r, ip, out⟩ (.slice (some ⟨sg, 0, none⟩) r.length sc) (.slice oa out.length oc) (wr.alloc (.cells #[.int .i64 (zo : Int), .int .i64 8, .int .i64 (zd : Int)] 43)) := ⟨by omega, by omega, hT1, hinp.out, hrle, hsr.out _ hs, (by rw [hfe2.out]; exact runM_go hrun.out hs), hB2x _, hol⟩
                  replace hfin := Lib.hid hfin
                  clear hT1 hT0
                  go_wp2_with fail
                  refine hF.out.mono ?_
                  rintro e w3 ⟨rfl, rfl⟩
                  go_wp2_with fail
                  exact ⟨⟨_, _, rd, n + 1, _, rfl, rfl, by first | rfl | go_num, by first | rfl | go_num, by first | rfl | go_num, hfin⟩, by simp [intOf]; omega⟩
            · have cT : wr.cell? ⟨0, 9, none⟩ = some (.int .i64 0) := hEw.takes 9 (by omega)
              have cX : (wr.alloc (.cells #[.int .i64 (zo : Int), .int .i64 9, .int .i64 (zd : Int)] 43)).cell? ⟨0, 9, none⟩ = some (.int .i64 0) := cell_below cT (hbx _)
              have hT0 := hTwo.below (hbx (.cells #[.int .i64 (zo : Int), .int .i64 9, .int .i64 (zd : Int)] 43))
              clear hTwo
              obtain ⟨⟨sa, sc, rfl, hsc⟩, ⟨oa, oc, rfl⟩⟩ := And.intro hT0.le hT0.sval.2
              have hsl := fun W => slice_to sa st.length sc st.length hsc W
              have hT1 := hT0
              have hwl : IntKind.i64.wrap (st.length : Int) = (st.length : Int) := IntWalk.i64_in _ (by omega)
              by_cases hrl : rd < inp.length
              · have hdr : decide ((rd : Int) < (inp.length : Int)) = true := by simpa using hrl
                have hj0 : rd < P.size := by omega
                have hgx := hPG.out rd hj0
                have i1 : (0 : Int) ≤ (rd : Int) := by omega
                have i2 : (rd : Int) < (inp.length : Int) := by omega
                have hwr : IntKind.i64.wrap ((rd : Int) + 1) = ((rd + 1 : Nat) : Int) := by rw [Int.natCast_succ]; exact IntWalk.i64_in _ (by omega)
                have hipe : ip = inp[rd]! :: inp.drop (rd + 1) := by rw [← hinp.out, drop_cons inp rd hrl]
                have hxl := (inp[rd]!).toNat_lt
                obtain ⟨y, hy⟩ : ∃ y, y = (inp[rd]!).toNat := ⟨_, rfl⟩
                have hs : stepM L ⟨pc, st, ip, out⟩ = .go ⟨pc + 1, (y : Int) :: st, inp.drop (rd + 1), out⟩ := by rw [step9 hzop, hipe, hy]; rfl
                rw [← hy] at hgx hxl
                have hwy : IntKind.i64.wrap (y : Int) = (y : Int) := IntWalk.i64_in _ (by omega)
                replace hy := Lib.hid hy
                replace hipe := Lib.hid hipe
                have hal : Below (wr.alloc (.cells #[.int .i64 (zo : Int), .int .i64 9, .int .i64 (zd : Int)] 43)).heap.size (wr.alloc (.cells #[.int .i64 (zo : Int), .int .i64 9, .int .i64 (zd : Int)] 43)) ((wr.alloc (.cells #[.int .i64 (zo : Int), .int .i64 9, .int .i64 (zd : Int)] 43)).alloc (.cells #[.int .i64 (y : Int)] 3)) := (Below.refl _ _).alloc (Nat.le_refl _) _
                obtain ⟨v3, W3, hrun3, ⟨a3, c3, rfl⟩, hT3, hBf3⟩ := (hT1.below hal).push [(y : Int)] (wr.alloc (.cells #[.int .i64 (zo : Int), .int .i64 9, .int .i64 (zd : Int)] 43)).heap.size (Arr.new rfl rfl) (by first | omega | (simp at h16 ⊢; omega)) (by simp) (by have := (hB2x (.cells #[.int .i64 (zo : Int), .int .i64 9, .int .i64 (zd : Int)] 43)).size; simp at this ⊢; omega)
                have hB3 := hBf3 _ ((hB2x (.cells #[.int .i64 (zo : Int), .int .i64 9, .int .i64 (zd : Int)] 43)).alloc (hB2x _).size _)
                simp only [World.size_alloc] at hrun3
                obtain ⟨k3, hk3⟩ : ∃ k3, k3 = st.length + [((y : Int) : Int)].length := ⟨_, rfl⟩
                rw [← hk3] at hrun3 hT3
                have hfin : RRA L w2 inp mn R (rd + 1) (n + 1) ⟨pc + 1, (y : Int) :: st, inp.drop (rd + 1), out⟩ (.slice a3 k3 c3) (.slice oa out.length oc) W3 := ⟨by omega, by omega, hT3, rfl, hrl, hsr.out _ hs, (by rw [hfe2.out]; exact runM_go hrun.out hs), hB3, hol⟩
                replace hfin := Lib.hid hfin
                replace hrun3 := Lib.hid hrun3
                replace hk3 := Lib.hid hk3
                clear hT3 hB3 hBf3 hal hT1 hT0
                go_wp2_with (at_builtin; go_loud (refine wpList_append_known rfl _ _ _ _ rfl _ _ rfl rfl hrun3.out ?_))
                exact ⟨⟨_, _, rd + 1, n + 1, _, rfl, rfl, by first | rfl | go_num, by first | rfl | go_num, by first | rfl | go_num, hfin⟩, by simp [intOf]; omega⟩
              · have hdr : decide ((rd : Int) < (inp.length : Int)) = false := by simpa using hrl
                have hipe : ip = [] := by rw [← hinp.out]; exact List.drop_eq_nil_of_le (by omega)
                have hs : stepM L ⟨pc, st, ip, out⟩ = .go ⟨pc + 1, -1 :: st, ip, out⟩ := by rw [step9 hzop, hipe]; rfl
                replace hipe := Lib.hid hipe
                have hal : Below (wr.alloc (.cells #[.int .i64 (zo : Int), .int .i64 9, .int .i64 (zd : Int)] 43)).heap.size (wr.alloc (.cells #[.int .i64 (zo : Int), .int .i64 9, .int .i64 (zd : Int)] 43)) ((wr.alloc (.cells #[.int .i64 (zo : Int), .int .i64 9, .int .i64 (zd : Int)] 43)).alloc (.cells #[.int .i64 (-1)] 3)) := (Below.refl _ _).alloc (Nat.le_refl _) _
                obtain ⟨v3, W3, hrun3, ⟨a3, c3, rfl⟩, hT3, hBf3⟩ := (hT1.below hal).push [(-1)] (wr.alloc (.cells #[.int .i64 (zo : Int), .int .i64 9, .int .i64 (zd : Int)] 43)).heap.size (Arr.new rfl rfl) (by first | omega | (simp at h16 ⊢; omega)) (by simp) (by have := (hB2x (.cells #[.int .i64 (zo : Int), .int .i64 9, .int .i64 (zd : Int)] 43)).size; simp at this ⊢; omega)
                have hB3 := hBf3 _ ((hB2x (.cells #[.int .i64 (zo : Int), .int .i64 9, .int .i64 (zd : Int)] 43)).alloc (hB2x _).size _)
                simp only [World.size_alloc] at hrun3
                obtain ⟨k3, hk3⟩ : ∃ k3, k3 = st.length + [((-1) : Int)].length := ⟨_, rfl⟩
                rw [← hk3] at hrun3 hT3
                have hfin : RRA L w2 inp mn R rd (n + 1) ⟨pc + 1, -1 :: st, ip, out⟩ (.slice a3 k3 c3) (.slice oa out.length oc) W3 := ⟨by omega, by omega, hT3, hinp.out, hrle, hsr.out _ hs, (by rw [hfe2.out]; exact runM_go hrun.out hs), hB3, hol⟩
                replace hfin := Lib.hid hfin
                replace hrun3 := Lib.hid hrun3
                replace hk3 := Lib.hid hk3
                clear hT3 hB3 hBf3 hal hT1 hT0
                go_wp2_with (at_builtin; go_loud (refine wpList_append_known rfl _ _ _ _ rfl _ _ rfl rfl hrun3.out ?_))
                exact ⟨⟨_, _, rd, n + 1, _, rfl, rfl, by first | rfl | go_num, by first | rfl | go_num, by first | rfl | go_num, hfin⟩, by simp [intOf]; omega⟩
            · have cT : wr.cell? ⟨0, 10, none⟩ = some (.int .i64 1) := hEw.takes 10 (by omega)
              have cX : (wr.alloc (.cells #[.int .i64 (zo : Int), .int .i64 10, .int .i64 (zd : Int)] 43)).cell? ⟨0, 10, none⟩ = some (.int .i64 1) := cell_below cT (hbx _)
              have hT0 := hTwo.below (hbx (.cells #[.int .i64 (zo : Int), .int .i64 10, .int .i64 (zd : Int)] 43))
              clear hTwo
              cases st with
              | nil => (simp [takesOp] at htk)
              | cons a r =>
                obtain ⟨sg, sc, rfl, hsc, hscm, cA, hT1⟩ := hT0.pop1
                obtain ⟨oa, oc, rfl⟩ := hT0.sval.2
                have hsl := fun W => slice_to (some ⟨sg, 0, none⟩) (r.length + 1) sc r.length (by omega) W
                rw [List.length_cons] at htk h16
                have hwl : IntKind.i64.wrap ((r.length : Int) + 1 - 1) = (r.length : Int) := by rw [show (r.length : Int) + 1 - 1 = (r.length : Int) by omega]; exact IntWalk.i64_in _ (by omega)
                have hwl2 : IntKind.i64.wrap (r.length : Int) = (r.length : Int) := IntWalk.i64_in _ (by omega)
                have l0 : (0 : Int) ≤ (r.length : Int) := by omega
                have l1 : (r.length : Int) < (r.length : Int) + 1 := by omega
                have hs0 := step10 (a := a) (st := r) (ip := ip) (out := out) hzop
                by_cases hfull : out.length = 65536
                · rw [if_pos hfull] at hs0
                  have hRe := runM_over hrun.out hs0
                  have hq : ((out.length : Int) == 65536) = true := by rw [hfull]; rfl
                  have hfin := hfinR.out _ (hB2.trans ((hB2x (.cells #[.int .i64 (zo : Int), .int .i64 10, .int .i64 (zd : Int)] 43)).mono hB2.size))
                  rw [hRe] at hfin
                  replace hfin := Lib.hid hfin
                  replace hfull := Lib.hid hfull
                  clear hT1 hT0 hs0 hRe
                  go_wp2_with fail
                  (try rw [Exit.noGoto_ret])
                  exact bodyPost_ret (v := .tuple #[.string (str []), .int .i64 0, .int .i64 80]) (by simp [results, Tryd.f18, go_sem, str]) rfl hfin.out
                · rw [if_neg hfull] at hs0
                  obtain ⟨b, hb⟩ : ∃ b, b = UInt8.ofNat (a % 256).toNat := ⟨_, rfl⟩
                  rw [← hb] at hs0
                  have hs : stepM L ⟨pc, a :: r, ip, out⟩ = .go ⟨pc + 1, r, ip, out ++ [b]⟩ := hs0
                  have hq : ((out.length : Int) == 65536) = false := by rw [beq_eq_false_iff_ne]; omega
                  have hbn : ((b.toNat : Nat) : Int) = a % 256 := by rw [hb, UInt8.toNat_ofNat']; omega
                  have hw8 : IntKind.u8.wrap a = ((b.toNat : Nat) : Int) := by rw [hbn]; simp [IntKind.wrap, IntKind.bits, IntKind.signed]
                  have hw9 : a % 256 = ((b.toNat : Nat) : Int) := hbn.symm
                  replace hb := Lib.hid hb
                  replace hbn := Lib.hid hbn
                  have hal : Below (wr.alloc (.cells #[.int .i64 (zo : Int), .int .i64 10, .int .i64 (zd : Int)] 43)).heap.size (wr.alloc (.cells #[.int .i64 (zo : Int), .int .i64 10, .int .i64 (zd : Int)] 43)) ((wr.alloc (.cells #[.int .i64 (zo : Int), .int .i64 10, .int .i64 (zd : Int)] 43)).alloc (.cells #[.int .u8 (b.toNat : Int)] 5)) := (Below.refl _ _).alloc (Nat.le_refl _) _
                  obtain ⟨v3, W3, hrun3, ⟨a3, c3, rfl⟩, hT3, hBf3⟩ := (hT1.below hal).write b (wr.alloc (.cells #[.int .i64 (zo : Int), .int .i64 10, .int .i64 (zd : Int)] 43)).heap.size (Arr.new rfl rfl) (by omega) (by have := (hB2x (.cells #[.int .i64 (zo : Int), .int .i64 10, .int .i64 (zd : Int)] 43)).size; simp at this ⊢; omega)
                  have hB3 := hBf3 _ ((hB2x (.cells #[.int .i64 (zo : Int), .int .i64 10, .int .i64 (zd : Int)] 43)).alloc (hB2x _).size _)
                  simp only [World.size_alloc] at hrun3
                  have hol2 : (out ++ [b]).length ≤ 65536 := by rw [List.length_append, List.length_singleton]; omega
                  have hfin : RRA L w2 inp mn R rd (n + 1) ⟨pc + 1, r, ip, out ++ [b]⟩ (.slice (some ⟨sg, 0, none⟩) r.length sc) (.slice a3 (out.length + 1) c3) W3 := ⟨by omega, by omega, hT3, hinp.out, hrle, hsr.out _ hs, (by rw [hfe2.out]; exact runM_go hrun.out hs), hB3, hol2⟩
                  replace hfin := Lib.hid hfin
                  replace hrun3 := Lib.hid hrun3
                  replace hfull := Lib.hid hfull
                  clear hT3 hB3 hBf3 hal hT1 hT0
                  go_wp2_with (at_builtin; go_loud (refine wpList_append_known rfl _ _ _ _ rfl _ _ rfl rfl hrun3.out ?_))
                  exact ⟨⟨_, _, rd, n + 1, _, rfl, rfl, by first | rfl | go_num, by first | rfl | go_num, by first | rfl | go_num, hfin⟩, by simp [intOf]; omega⟩
            · have cT : wr.cell? ⟨0, 11, none⟩ = some (.int .i64 0) := hEw.takes 11 (by omega)
              have cX : (wr.alloc (.cells #[.int .i64 (zo : Int), .int .i64 11, .int .i64 (zd : Int)] 43)).cell? ⟨0, 11, none⟩ = some (.int .i64 0) := cell_below cT (hbx _)
              have hT0 := hTwo.below (hbx (.cells #[.int .i64 (zo : Int), .int .i64 11, .int .i64 (zd : Int)] 43))
              clear hTwo
              obtain ⟨⟨sa, sc, rfl, hsc⟩, ⟨oa, oc, rfl⟩⟩ := And.intro hT0.le hT0.sval.2
              have hsl := fun W => slice_to sa st.length sc st.length hsc W
              have hT1 := hT0
              have hwl : IntKind.i64.wrap (st.length : Int) = (st.length : Int) := IntWalk.i64_in _ (by omega)
              have hs0 := step11 (st := st) (ip := ip) (out := out) hzop
              have hRe := runM_halt hrun.out hs0
              have hfin := hfinR.out _ (hB2.trans ((hB2x (.cells #[.int .i64 (zo : Int), .int .i64 11, .int .i64 (zd : Int)] 43)).mono hB2.size))
              rw [hRe] at hfin
              have hcv := conv_u8 hT0.out
              replace hfin := Lib.hid hfin
              clear hT1 hT0 hs0 hRe
              go_wp2_with fail
              (try rw [Exit.noGoto_ret])
              exact bodyPost_ret (v := .tuple #[.string (str out), .int .i64 (n : Int), .int .i64 0]) (by simp [results, Tryd.f18, go_sem, str]) rfl hfin.out
          · have hd : decide ((n : Int) ≤ (mn : Int)) = false := by simpa using hle
            have hRe : R = none := by
              rw [← hrun, show mn + 1 - n = 0 by omega]; rfl
            have hfin := hfinR.out _ hBT
            rw [hRe] at hfin
            replace hfin := Lib.hid hfin
            obtain ⟨⟨sa, sc, rfl⟩, ⟨oa, oc, rfl⟩⟩ := hTwo.sval
            clear hTwo hrch hrun
            go_wp2_with fail
            exact bodyPost_ret (v := .tuple #[.string (str []), .int .i64 0, .int .i64 80]) (by simp [results, Tryd.f18, go_sem, str]) rfl hfin.out
  · have hfin : Hid (RunPost code inp most w (runE none) w1) := ⟨.inr ⟨.inl hn, rfl⟩, hb1⟩
    clear hD hIn hn
    go_wp2_with fail
    exact bodyPost_ret (v := .tuple #[.string (str []), .int .i64 0, .int .i64 80]) (by simp [results, Tryd.f18, go_sem, str]) rfl hfin.out
end Go.Proofs.YtainohbfcehpoaaDoor
namespace Go.Proofs.YtainohbfcehpoaaDoor
open Go.RowKit Go.Shelf

theorem vfy_same {code : List UInt8} {e e' : Ending} (h : VfyPost code e) (k : VfyPost code e') : e' = e := by
  rcases h with ⟨l, m, h1, h2, h3, rfl⟩ | ⟨h1, rfl⟩
  · exact vfy_yes k h1 h2 h3
  · exact vfy_no k h1
theorem vfy_form {code : List UInt8} {e : Ending} (h : VfyPost code e) : ∃ d x : Int, e = .returned (.tuple #[.int .i64 d, .int .i64 x]) := by
  rcases h with ⟨l, m, _, _, _, rfl⟩ | ⟨_, rfl⟩
  · exact ⟨_, _, rfl⟩
  · exact ⟨_, _, rfl⟩
theorem runE_form (r : Option (List UInt8 × Nat)) : ∃ (s : List UInt8) (k x : Int), runE r = .returned (.tuple #[.string (str s), .int .i64 k, .int .i64 x]) := by
  cases r with
  | none => exact ⟨[], 0, 80, rfl⟩
  | some p => obtain ⟨o, k⟩ := p; exact ⟨o, k, 0, rfl⟩
theorem run_form {code inp : List UInt8} {most : Int} {w w' : World} {e : Ending} (h : RunPost code inp most w e w') : ∃ (s : List UInt8) (k x : Int), e = .returned (.tuple #[.string (str s), .int .i64 k, .int .i64 x]) := by
  rcases h.1 with ⟨l, _, _, _, _, rfl⟩ | ⟨_, rfl⟩
  · exact runE_form _
  · exact runE_form _
theorem run_same {code inp : List UInt8} {most : Int} {w w' x x' : World} {e e' : Ending} (h : RunPost code inp most w e w') (k : RunPost code inp most x e' x') : e' = e := by
  rcases h.1 with ⟨l, h1, h2, h3, h4, rfl⟩ | ⟨h1, rfl⟩
  · exact run_yes k h1 h2 h3 h4
  · exact run_no k h1
set_option maxRecDepth 100000 in
set_option maxHeartbeats 8000000 in
theorem Matches_walk (raw : List UInt8) (v : Value) (n : Nat) (zs : List Int) (at_ : Int) (c : Nat) (input : List UInt8) (most : Int) (w : World) (hr : raw.length ≤ 9223372036854775807) (hs : SliceAt w w.heap.size v n (zs.map (Value.int .i64))) (hz : zs.length = n * 2) (hI : ∀ z ∈ zs, I64 z) (ha : I64 at_) (_ : c < 256) (hin : input.length ≤ 9223372036854775807) (hm : I64 most) (hE : EnvR w) :
    Calls Tryd.prog 3 #[.string (str raw), v, .int .i64 at_, .int .u8 (c : Int), .string (str input), .int .i64 most] w fun e w' => e = .returned (.bool true) ∧ Below w.heap.size w w' := by
  have hsn := Lib.hid (sane_any w hE.env)
  have hmd := fun W (hb : Below w.heap.size w W) => Lib.hid (Made_any v n zs W (hs.later hb) hz hI (hE.below hb))
  obtain ⟨⟨ml, hmf, hmg⟩, hml⟩ := made_facts zs
  generalize madeB 0 0 (prs40 zs) = made at *
  have hcl := changedB_len made at_ c
  have hch := fun W => Lib.hid (changed_any made at_ c W (by omega) ha)
  have hpk := fun W => Lib.hid (pick_any most 2000 W hm (by omega) (by omega))
  have hpl := pickv_lt most 2000 (by omega)
  have hex := extract_take raw
  have hps := str_size raw
  have hmn : (min (raw.length : Int) 60).toNat = min raw.length 60 := by omega
  have hm1 : (0 : Int) ≤ min (raw.length : Int) 60 := by omega
  have hm2 : min (raw.length : Int) 60 ≤ (raw.length : Int) := by omega
  have hexm := hex (min raw.length 60)
  have hrl : (raw.take (min raw.length 60)).length ≤ 60 := by rw [List.length_take]; omega
  have hexi := extract_take input
  have hpsi := str_size input
  have hmni : (min (input.length : Int) 40).toNat = min input.length 40 := by omega
  have hmi1 : (0 : Int) ≤ min (input.length : Int) 40 := by omega
  have hmi2 : min (input.length : Int) 40 ≤ (input.length : Int) := by omega
  have hexim := hexi (min input.length 40)
  have hil : (input.take (min input.length 40)).length ≤ 40 := by rw [List.length_take]; omega
  generalize raw.take (min raw.length 60) = r2 at *
  generalize input.take (min input.length 40) = inp at *
  generalize changedB made at_ c = chg at *
  generalize pickv most 2000 = pk at *
  have hmo1 : I64 (min most 2000) := ⟨by have := hm.1; omega, by have := hm.2; omega⟩
  have hmo2 : I64 (pk : Int) := ⟨by omega, by omega⟩
  have hmo3 : I64 (2000 : Int) := ⟨by omega, by omega⟩
  clear hex hexi hmf hmg
  go_enter Tryd.func3, Tryd.ntmps3
  go_wp2_with fail
  refine hsn.out.mono ?_
  rintro e w1 ⟨rfl, hb1⟩
  go_wp2_with fail
  refine (hmd w1 hb1).out.mono ?_
  rintro e w2 ⟨rfl, hb2⟩
  have hB2 := hb1.trans (hb2.mono hb1.size)
  clear hsn hmd
  go_wp2_with fail
  refine wp_region_held_drew (S := fun w' => True) (by kernel_rfl) (by trivial) (fun hHeld => ?_)
  refine take_l (i := 0) (v := ?_) rfl (by kernel_rfl) (by kernel_rfl) (by kernel_rfl) (fun _ _ _ h => h) (Or.inl ⟨by kernel_rfl, ?_⟩) (by assumption) ?_
  rotate_left
  · intro w hSw; (try dsimp only at hSw); go_simp; (try with_reducible rfl)
  (try simp only [Act.put, List.setIfInBounds_toArray, List.set_cons_zero, List.set_cons_succ])
  refine take_l (i := 1) (v := ?_) rfl (by kernel_rfl) (by kernel_rfl) (by kernel_rfl) (fun _ _ _ h => h) (Or.inl ⟨by kernel_rfl, ?_⟩) (by assumption) ?_
  rotate_left
  · intro w hSw; (try dsimp only at hSw); go_simp; (try with_reducible rfl)
  (try simp only [Act.put, List.setIfInBounds_toArray, List.set_cons_zero, List.set_cons_succ])
  refine take_l (i := 2) (v := ?_) rfl (by kernel_rfl) (by kernel_rfl) (by kernel_rfl) (fun _ _ _ h => h) (Or.inl ⟨by kernel_rfl, ?_⟩) (by assumption) ?_
  rotate_left
  · intro w hSw; (try dsimp only at hSw); go_simp; (try with_reducible rfl)
  (try simp only [Act.put, List.setIfInBounds_toArray, List.set_cons_zero, List.set_cons_succ])
  refine take_l (i := 3) (v := ?_) rfl (by kernel_rfl) (by kernel_rfl) (by kernel_rfl) (fun _ _ _ h => h) (Or.inl ⟨by kernel_rfl, ?_⟩) (by assumption) ?_
  rotate_left
  · intro w hSw; (try dsimp only at hSw); go_simp; (try with_reducible rfl)
  (try simp only [Act.put, List.setIfInBounds_toArray, List.set_cons_zero, List.set_cons_succ])
  refine take_l (i := 4) (v := ?_) rfl (by kernel_rfl) (by kernel_rfl) (by kernel_rfl) (fun _ _ _ h => h) (Or.inl ⟨by kernel_rfl, ?_⟩) (by assumption) ?_
  rotate_left
  · intro w hSw; (try dsimp only at hSw); go_simp; (try with_reducible rfl)
  (try simp only [Act.put, List.setIfInBounds_toArray, List.set_cons_zero, List.set_cons_succ])
  refine take_l (i := 5) (v := ?_) rfl (by kernel_rfl) (by kernel_rfl) (by kernel_rfl) (fun _ _ _ h => h) (Or.inl ⟨by kernel_rfl, ?_⟩) (by assumption) ?_
  rotate_left
  · intro w hSw; (try dsimp only at hSw); go_simp; (try with_reducible rfl)
  (try simp only [Act.put, List.setIfInBounds_toArray, List.set_cons_zero, List.set_cons_succ])
  refine take_l (i := 6) (v := ?_) rfl (by kernel_rfl) (by kernel_rfl) (by kernel_rfl) (fun _ _ _ h => h) (Or.inl ⟨by kernel_rfl, ?_⟩) (by assumption) ?_
  rotate_left
  · intro w hSw; (try dsimp only at hSw); go_simp; (try with_reducible rfl)
  (try simp only [Act.put, List.setIfInBounds_toArray, List.set_cons_zero, List.set_cons_succ])
  refine take_l (i := 7) (v := ?_) rfl (by kernel_rfl) (by kernel_rfl) (by kernel_rfl) (fun _ _ _ h => h) (Or.inl ⟨by kernel_rfl, ?_⟩) (by assumption) ?_
  rotate_left
  · intro w hSw; (try dsimp only at hSw); go_simp; (try with_reducible rfl)
  (try simp only [Act.put, List.setIfInBounds_toArray, List.set_cons_zero, List.set_cons_succ])
  refine take_l (i := 8) (v := ?_) rfl (by kernel_rfl) (by kernel_rfl) (by kernel_rfl) (fun _ _ _ h => h) (Or.inl ⟨by kernel_rfl, ?_⟩) (by assumption) ?_
  rotate_left
  · intro w hSw; (try dsimp only at hSw); go_simp; (try with_reducible rfl)
  (try simp only [Act.put, List.setIfInBounds_toArray, List.set_cons_zero, List.set_cons_succ])
  refine take_l (i := 12) (v := ?_) rfl (by kernel_rfl) (by kernel_rfl) (by kernel_rfl) (fun _ _ _ h => h) (Or.inl ⟨by kernel_rfl, ?_⟩) (by assumption) ?_
  rotate_left
  · intro w hSw; (try dsimp only at hSw); go_simp; (try with_reducible rfl)
  (try simp only [Act.put, List.setIfInBounds_toArray, List.set_cons_zero, List.set_cons_succ])
  refine wpAnyH_ready (rs := [9]) (by kernel_rfl) (by simp) ?_
  refine ready_l rfl (fun K hK => ?_) AllReadyH.nil
  go_simp
  (go_at_call 13; (with_reducible refine ((hch _).out).mono ?_); rintro e vA ⟨rfl, hbvA⟩; have hBvA : Below w2.heap.size w2 vA := Below.trans (by repeat first | with_reducible exact Below.refl _ _ | with_reducible assumption | with_reducible refine below_drewN ?_ _ | with_reducible refine Below.drew ?_ | with_reducible refine Below.setCell ?_ (by first | exact Nat.le_refl _ | (simp; done) | (simp; omega) | omega) _ | with_reducible refine Below.alloc ?_ (by first | exact Nat.le_refl _ | (simp; done) | (simp; omega) | omega) _ | exact Below.refl _ _ | assumption) (hbvA.mono (by first | exact Nat.le_refl _ | assumption | (simp; done) | (simp; omega) | omega)); have hzvA := hbvA.size; )
  refine hK.out _ _ (by trivial) (fun hHeld => ?_)
  clear hK K
  (try simp only [Act.put, List.setIfInBounds_toArray, List.set_cons_zero, List.set_cons_succ])
  refine wpAnyH_ready (rs := [10]) (by kernel_rfl) (by simp) ?_
  refine ready_l rfl (fun K hK => ?_) AllReadyH.nil
  go_simp
  refine hK.out _ _ (by trivial) (fun hHeld => ?_)
  clear hK K
  (try simp only [Act.put, List.setIfInBounds_toArray, List.set_cons_zero, List.set_cons_succ])
  refine take_l (i := 11) (v := ?_) rfl (by kernel_rfl) (by kernel_rfl) (by kernel_rfl) (fun _ _ _ h => h) (Or.inl ⟨by kernel_rfl, ?_⟩) (by assumption) ?_
  rotate_left
  · intro w hSw; (try dsimp only at hSw); go_simp; (try with_reducible rfl)
  (try simp only [Act.put, List.setIfInBounds_toArray, List.set_cons_zero, List.set_cons_succ])
  refine wpAnyH_done (by kernel_rfl) ?_ _
  have hBA : Below w.heap.size w vA := hB2.trans (hBvA.mono hB2.size)
  obtain ⟨g, hg⟩ : ∃ g, g = vA.heap.size := ⟨_, rfl⟩
  obtain ⟨W, hW⟩ : ∃ W, W = vA.alloc (Obj.cells #[Value.string (str r2), Value.string (str made), Value.string (str chg)] 9) := ⟨_, rfl⟩
  have hA : Arr W g 9 [.string (str r2), .string (str made), .string (str chg)] := by rw [hW, hg]; exact Arr.new rfl rfl
  have hBW : Below w.heap.size w W := by rw [hW]; exact hBA.alloc hBA.size _
  rw [← hW, ← hg]
  clear hW hg hBA hBvA hbvA hB2 hb2 hb1 hch
  have hgW := hA.lt
  go_wp2_with fail
  go_loopw [49] (fun i wr => ∃ k : Nat, k ≤ 3 ∧ i = .int .i64 (k : Int) ∧ Hid (Below W.heap.size W wr)) (fun i _ => 3 - (intOf i).toNat)
  case atStart => exact ⟨0, Nat.zero_le _, rfl, (show Hid _ from Below.refl _ _)⟩
  case round =>
    obtain ⟨k, hk, rfl, hall⟩ := hrel
    have hBr := hall.out
    clear hall
    by_cases hlt : k < 3
    · have hd : decide ((k : Int) < 3) = true := by simp; omega
      have hAr : Arr wr g 9 [.string (str r2), .string (str made), .string (str chg)] := (hBr.block g hgW).trans hA
      obtain ⟨cd, hcd, hcl2⟩ : ∃ cd, wr.cell? ⟨g, k, none⟩ = some (.string (str cd)) ∧ cd.length ≤ 1000 := by
        rcases (show k = 0 ∨ k = 1 ∨ k = 2 by omega) with rfl | rfl | rfl
        · exact ⟨r2, hAr.cell (j := 0) rfl, by omega⟩
        · exact ⟨made, hAr.cell (j := 1) rfl, by omega⟩
        · exact ⟨chg, hAr.cell (j := 2) rfl, by omega⟩
      have i2 : 0 ≤ (k : Int) := by omega
      have hBT := hBW.trans (hBr.mono hBW.size)
      have hV := Lib.hid (Verify_any cd wr (by omega) (hE.below hBT).env.ops)
      have hV2 := fun W' (hb : Below w.heap.size w W') => Lib.hid (vfyR_any cd W' (by omega) (hE.below hb))
      have hRu := fun W' (hb : Below w.heap.size w W') z (hz : I64 z) => Lib.hid (Run_any cd inp z W' (by omega) (by omega) (hE.below hb).env.ops hz)
      have hRu2 := fun W' (hb : Below w.heap.size w W') z (hz : I64 z) => Lib.hid (runR_any cd inp z W' (by omega) (by omega) (hE.below hb) hz)
      have hw1k : IntKind.i64.wrap ((k : Int) + 1) = ((k + 1 : Nat) : Int) := by rw [Int.natCast_succ]; exact IntWalk.i64_in _ (by omega)
      replace hA := Lib.hid hA
      clear hAr
      go_wp2_with fail
      refine hV.out.mono ?_
      rintro e w3 ⟨hv1, hb3⟩
      obtain ⟨d, x, rfl⟩ := vfy_form hv1
      have hB3 := hBr.trans (hb3.mono hBr.size)
      have hBT3 := hBW.trans (hB3.mono hBW.size)
      replace hv1 := Lib.hid hv1
      go_wp2_with fail
      refine (hV2 _ hBT3).out.mono ?_
      rintro e w4 ⟨hv2, hb4⟩
      obtain rfl := vfy_same hv1.out hv2
      have hB4 := hB3.trans (hb4.mono hB3.size)
      clear hV hV2 hv1 hv2
      go_wp2_with fail
      refine (hpk _).out.mono ?_
      rintro e w5 ⟨rfl, rfl⟩
      go_wp2_with fail
      obtain ⟨X, hX⟩ : ∃ X, X = w5.alloc (Obj.cells #[Value.int .i64 (min most 2000), Value.int .i64 (pk : Int), Value.int .i64 2000] 3) := ⟨_, rfl⟩
      obtain ⟨g2, hg2⟩ : ∃ g, g = w5.heap.size := ⟨_, rfl⟩
      have hA2 : Arr X g2 3 [.int .i64 (min most 2000), .int .i64 (pk : Int), .int .i64 2000] := by rw [hX, hg2]; exact Arr.new rfl rfl
      have hBX : Below W.heap.size W X := by rw [hX]; exact hB4.alloc hB4.size _
      rw [← hX, ← hg2]
      clear hX hg2 hB4 hb4 hB3 hb3 hBr hBT hBT3
      have hgX := hA2.lt
      go_loopw [77] (fun i wr => ∃ k : Nat, k ≤ 3 ∧ i = .int .i64 (k : Int) ∧ Hid (Below X.heap.size X wr)) (fun i _ => 3 - (intOf i).toNat)
      case atStart => exact ⟨0, Nat.zero_le _, rfl, (show Hid _ from Below.refl _ _)⟩
      case round =>
        obtain ⟨j, hj, rfl, hall⟩ := hrel
        have hBj := hall.out
        clear hall
        have hBk := hBX.trans (hBj.mono hBX.size)
        by_cases hjl : j < 3
        · have hdj : decide ((j : Int) < 3) = true := by simp; omega
          have hAr2 : Arr wr g2 3 [.int .i64 (min most 2000), .int .i64 (pk : Int), .int .i64 2000] := (hBj.block g2 hgX).trans hA2
          obtain ⟨z, hzc, hzI⟩ : ∃ z, wr.cell? ⟨g2, j, none⟩ = some (.int .i64 z) ∧ I64 z := by
            rcases (show j = 0 ∨ j = 1 ∨ j = 2 by omega) with rfl | rfl | rfl
            · exact ⟨min most 2000, hAr2.cell (j := 0) rfl, hmo1⟩
            · exact ⟨pk, hAr2.cell (j := 1) rfl, hmo2⟩
            · exact ⟨2000, hAr2.cell (j := 2) rfl, hmo3⟩
          have i3 : 0 ≤ (j : Int) := by omega
          have hw1j : IntKind.i64.wrap ((j : Int) + 1) = ((j + 1 : Nat) : Int) := by rw [Int.natCast_succ]; exact IntWalk.i64_in _ (by omega)
          have hBT := hBW.trans (hBk.mono hBW.size)
          have hq1 := hRu _ hBT z hzI
          have hq2 := fun W' hb => hRu2 W' hb z hzI
          replace hA2 := Lib.hid hA2
          clear hAr2 hRu hRu2
          go_wp2_with fail
          refine hq1.out.mono ?_
          rintro e w6 hp1
          have hb6 := hp1.2
          obtain ⟨s, k9, x9, rfl⟩ := run_form hp1
          have hB6 := hBj.trans (hb6.mono hBj.size)
          have hBT6 := hBW.trans ((hBX.trans (hB6.mono hBX.size)).mono hBW.size)
          replace hp1 := Lib.hid hp1
          have heq := str_eqq s
          go_wp2_with fail
          refine (hq2 _ hBT6).out.mono ?_
          rintro e w7 hp2
          have hb7 := hp2.2
          obtain rfl := run_same hp1.out hp2
          have hB7 := hB6.trans (hb7.mono hB6.size)
          clear hp1 hp2 hq1 hq2
          go_wp2_with fail
          exact ⟨⟨j + 1, by omega, by first | rfl | go_num, hB7⟩, by simp [intOf]; omega⟩
        · have hdj : decide ((j : Int) < 3) = false := by simp; omega
          clear hRu hRu2
          go_wp2_with fail
          exact ⟨⟨k + 1, by omega, by first | rfl | go_num, hBk⟩, by simp [intOf]; omega⟩
    · have hd : decide ((k : Int) < 3) = false := by simp; omega
      have hBT := hBW.trans (hBr.mono hBW.size)
      go_wp2_with fail
      go_ret
      exact ⟨rfl, hBT⟩
end Go.Proofs.YtainohbfcehpoaaDoor
