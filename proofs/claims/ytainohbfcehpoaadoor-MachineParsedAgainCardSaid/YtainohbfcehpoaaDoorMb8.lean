/-
  The contract of verified's closure: an instruction is reached at a depth.
-/
import Derived.Test.YtainohbfcehpoaaDoorMb7
namespace Go.Proofs.YtainohbfcehpoaaDoor
open Go.RowKit Go.Shelf

theorem info_int : (Tryd.prog.info? 3).map (fun i => (i.zero, i.size, i.bytes)) = some (some (.int .i64 0), 1, 8) := by kernel_rfl
def natC (l : List Nat) : List Value := l.map fun n : Nat => Value.int .i64 (n : Int)
def intC (l : List Int) : List Value := l.map (Value.int .i64)
/-- What verified's variables hold while it works. -/
structure VS (b5 b7 b10 g cap dB n : Nat) (ds : List Int) (td : List Nat) (W : World) : Prop where
  lst : Boxed W b5 56 (.slice (some ⟨g, 0, none⟩) n cap)
  dep : Boxed W b7 31 (.slice (some ⟨dB, 0, none⟩) (n + 1) (n + 1))
  row : Arr W dB 3 (intC ds)
  tod : ∃ v, Boxed W b10 31 v ∧ W.ownsRow (dB + 1) 3 1 v td.length (natC td)
  len : ds.length = n + 1
structure KeepVS (dB : Nat) (W W' : World) : Prop where
  bel : Below dB W W'
  oth : ∀ (k : Nat) (cs : Array Value) (T : TypeId) (fr : Nat × Nat), W.heap[k]? = some (.cells cs T fr) → T ≠ 3 → T ≠ 31 → W'.heap[k]? = some (.cells cs T fr)
theorem KeepVS.refl (dB : Nat) (W : World) : KeepVS dB W W := ⟨Below.refl _ _, fun _ _ _ _ h _ _ => h⟩
theorem KeepVS.trans {dB : Nat} {A B C : World} (h : KeepVS dB A B) (k : KeepVS dB B C) : KeepVS dB A C := ⟨h.bel.trans k.bel, fun i cs T fr e h1 h2 => k.oth i cs T fr (h.oth i cs T fr e h1 h2) h1 h2⟩
theorem KeepVS.of_below {dB : Nat} {W W' : World} (h : Below W.heap.size W W') (hd : dB ≤ W.heap.size) : KeepVS dB W W' := ⟨h.mono hd, fun k _ _ _ e _ _ => (h.block k (Array.getElem?_eq_some_iff.1 e).1).trans e⟩
theorem KeepVS.set {dB b o : Nat} {W : World} {cs : Array Value} {T : TypeId} {fr : Nat × Nat} (u : Value) (hb : W.heap[b]? = some (.cells cs T fr)) (hT : T = 3 ∨ T = 31) (hd : dB ≤ b) : KeepVS dB W (W.setCell ⟨b, o, none⟩ u) :=
  ⟨(Below.refl _ _).setCell (p := ⟨b, o, none⟩) hd u, fun k cs' T' fr' e h1 h2 => (heap_setCell_other W ⟨b, o, none⟩ k u (by
    intro hk
    simp only at hk
    subst hk
    rw [hb] at e
    injection e with e
    injection e with _ e _
    subst e
    rcases hT with h | h
    · exact h1 h
    · exact h2 h)).trans e⟩
theorem KeepVS.arr {dB b : Nat} {W W' : World} {T : TypeId} {L : List Value} (h : KeepVS dB W W') (hA : Arr W b T L) (h1 : T ≠ 3) (h2 : T ≠ 31) : Arr W' b T L := h.oth _ _ _ _ hA h1 h2
theorem VS.below {b5 b7 b10 g cap dB n : Nat} {ds : List Int} {td : List Nat} {W W' : World} (h : VS b5 b7 b10 g cap dB n ds td W) (hb : Below W.heap.size W W') : VS b5 b7 b10 g cap dB n ds td W' := by
  obtain ⟨v, h1, h2⟩ := h.tod
  exact ⟨boxed_below h.lst hb, boxed_below h.dep hb, h.row.below hb, ⟨v, boxed_below h1 hb, own_below h2 hb⟩, h.len⟩
/-- A store into the row of depths. -/
theorem VS.setRow {b5 b7 b10 g cap dB n : Nat} {ds : List Int} {td : List Nat} {W : World} (h : VS b5 b7 b10 g cap dB n ds td W) (i : Nat) (d : Int) : VS b5 b7 b10 g cap dB n (ds.set i d) td (W.setCell ⟨dB, i, none⟩ (.int .i64 d)) := by
  obtain ⟨v, h1, h2⟩ := h.tod
  have hr := h.row
  have key : ∀ {b t u}, Boxed W b t u → t ≠ 3 → Boxed (W.setCell ⟨dB, i, none⟩ (.int .i64 d)) b t u := fun {b t u} hb ht =>
    (heap_setCell_other _ _ _ _ (by
      intro e
      simp only at e
      unfold Boxed at hb
      rw [e, show W.heap[dB]? = _ from hr] at hb
      injection hb with hb
      injection hb with _ hb _
      exact ht hb.symm)).trans hb
  refine ⟨key h.lst (by decide), key h.dep (by decide), ?_, ⟨v, key h1 (by decide), h2.1, ?_⟩, by simpa using h.len⟩
  · have := hr.set i (.int .i64 d)
    rw [intC, List.map_set]
    exact this
  · rcases h2.2 with hh | ⟨g', cap', cur, hv, hg1, hg2, r⟩
    · exact .inl hh
    · exact .inr ⟨g', cap', cur, hv, hg1, by rw [heap_setCell_other _ _ _ _ (by simp; omega)]; exact hg2, r⟩
/-- A store into the list's variable. -/
theorem VS.setTod {b5 b7 b10 g cap dB n : Nat} {ds : List Int} {td td' : List Nat} {W : World} {v' : Value} (h : VS b5 b7 b10 g cap dB n ds td W) (hne : b10 ≠ b7) (hv : W.ownsRow (dB + 1) 3 1 v' td'.length (natC td')) : VS b5 b7 b10 g cap dB n ds td' (W.setCell ⟨b10, 0, none⟩ v') := by
  obtain ⟨v, h1, h2⟩ := h.tod
  have key : ∀ {b t u}, Boxed W b t u → t ≠ 31 → Boxed (W.setCell ⟨b10, 0, none⟩ v') b t u := fun {b t u} hb ht =>
    (heap_setCell_other _ _ _ _ (by
      intro e
      simp only at e
      unfold Boxed at hb h1
      rw [e, h1] at hb
      injection hb with hb
      injection hb with _ hb _
      exact ht hb.symm)).trans hb
  refine ⟨key h.lst (by decide), Boxed.other h.dep (fun e => hne e.symm) _, ?_, ⟨v', h1.set v', hv.kept (grownBy_setCell' W b10 v') (.inr (h1.not_row (by decide) hv).symm)⟩, h.len⟩
  refine (heap_setCell_other _ _ _ _ ?_).trans h.row
  intro e
  simp only at e
  have hr := h.row
  unfold Arr at hr
  unfold Boxed at h1
  rw [e, h1] at hr
  injection hr with hr
  injection hr with _ hr _
  exact absurd hr (by decide)
theorem setCell_swap (W : World) {b c o p : Nat} {u v : Value} (h : b ≠ c) : (W.setCell ⟨b, o, none⟩ u).setCell ⟨c, p, none⟩ v = (W.setCell ⟨c, p, none⟩ v).setCell ⟨b, o, none⟩ u := by
  unfold World.setCell
  simp only [World.mk.injEq, and_true]
  apply Array.ext
  · simp
  · intro i h1 h2
    simp only [Array.getElem_modify]
    by_cases e1 : b = i
    · have e2 : ¬ c = i := fun e => h (e1.trans e.symm)
      simp [e1, e2]
    · by_cases e2 : c = i <;> simp [e1, e2]
theorem boxed_other' {W : World} {b c o : Nat} {t t' : TypeId} {v u : Value} {L : List Value} (h : Boxed W b t v) (hA : Arr W c t' L) (ht : t ≠ t') : Boxed (W.setCell ⟨c, o, none⟩ u) b t v :=
  (heap_setCell_other _ _ _ _ (by
    intro e
    simp only at e
    unfold Boxed at h
    unfold Arr at hA
    rw [e, hA] at h
    injection h with h
    injection h with _ h _
    exact ht h.symm)).trans h
/-- append of a number onto the list, and the two stores behind it. -/
theorem append_num {b5 b7 b10 g cap dB n : Nat} {ds : List Int} {td : List Nat} {W : World} (h : VS b5 b7 b10 g cap dB n ds td W) (hne : b10 ≠ b7) (hb10 : dB ≤ b10) {v : Value} (h1 : Boxed W b10 31 v) (h2 : W.ownsRow (dB + 1) 3 1 v td.length (natC td)) (i j : Nat) (d : Int) (hl : td.length ≤ 1000000) :
    ∃ v' wN, (Builtin.append_ #[31, 31] 31 #[v, .slice (some ⟨W.heap.size, 0, none⟩) 1 1]).run Tryd.prog (W.alloc (.cells #[.int .i64 (i : Int)] 3)) = .ok v' wN ∧
      (Boxed wN b7 31 (.slice (some ⟨dB, 0, none⟩) (n + 1) (n + 1)) ∧ Arr wN dB 3 (intC ds) ∧ Boxed wN b10 31 v) ∧ (∃ a c, v' = .slice (some a) (td.length + 1) c) ∧
      VS b5 b7 b10 g cap dB n (ds.set j d) (td ++ [i]) ((wN.setCell ⟨dB, j, none⟩ (.int .i64 d)).setCell ⟨b10, 0, none⟩ v') ∧
      KeepVS dB W ((wN.setCell ⟨dB, j, none⟩ (.int .i64 d)).setCell ⟨b10, 0, none⟩ v') := by
  have hdB := h.row.lt
  have hal : Below W.heap.size W (W.alloc (.cells #[.int .i64 (i : Int)] 3)) := (Below.refl _ _).alloc (Nat.le_refl _) _
  have hA : Arr (W.alloc (.cells #[.int .i64 (i : Int)] 3)) W.heap.size 3 [.int .i64 (i : Int)] := Arr.new rfl rfl
  have hal2 := h.below hal
  have h1' := boxed_below h1 hal
  have h2' := own_below h2 hal
  have hsz : dB + 1 ≤ (W.alloc (.cells #[.int .i64 (i : Int)] 3)).heap.size := by simp; omega
  obtain ⟨i0, hi, hz0, hz1, hz2⟩ := info_parts info_int
  obtain ⟨v', wN, hrun, r1, r2, r3, _⟩ := run_append_own_at (P := Tryd.prog) (W.alloc (.cells #[.int .i64 (i : Int)] 3)) (dB + 1) 31 31 3 i0 (.int .i64 0) 1 8 Tryd.underlying31 hi hz0 hz1 hz2 rfl (by decide) v td.length (natC td) h2' ⟨W.heap.size, 0, none⟩ 1 1 [.int .i64 (i : Int)] rfl (fun j u hu => by rw [Addr.add_mid, Nat.zero_add]; exact hA.cell hu) (by simp [Value.oneCell']) (by unfold maxLen; omega) (by omega) hsz
  generalize W.alloc (.cells #[.int .i64 (i : Int)] 3) = Wa at *
  have hown : wN.ownsRow (dB + 1) 3 1 v' (td ++ [i]).length (natC (td ++ [i])) := by
    rw [List.length_append, natC, List.map_append]
    exact r1
  have key : ∀ {b t u}, Boxed Wa b t u → t ≠ 3 → Boxed wN b t u := fun {b t u} hb ht => hb.kept r2 (hb.not_row ht h2')
  have hlow : ∀ k, k ≤ dB → wN.heap[k]? = Wa.heap[k]? := fun k hk => r2.block k (by omega) (fun e => by have := (h2'.lt k e.symm).1; omega)
  have hrow : Arr wN dB 3 (intC ds) := (hlow dB (Nat.le_refl _)).trans hal2.row
  obtain ⟨g', cap', rfl⟩ := ownsRow_succ r1
  have hN7 := key hal2.dep (by decide)
  have hN10 := key h1' (by decide)
  have hV : VS b5 b7 b10 g cap dB n ds (td ++ [i]) (wN.setCell ⟨b10, 0, none⟩ (.slice (some ⟨g', 0, none⟩) (td.length + 1) cap')) := by
    have keyB : ∀ {b t u}, Boxed wN b t u → t ≠ 31 → Boxed (wN.setCell ⟨b10, 0, none⟩ (.slice (some ⟨g', 0, none⟩) (td.length + 1) cap')) b t u := fun {b t u} hb ht =>
      (heap_setCell_other _ _ _ _ (by
        intro e
        simp only at e
        unfold Boxed at hb hN10
        rw [e, hN10] at hb
        injection hb with hb
        injection hb with _ hb _
        exact ht hb.symm)).trans hb
    refine ⟨keyB (key hal2.lst (by decide)) (by decide), Boxed.other hN7 (fun e => hne e.symm) _, ?_, ⟨_, hN10.set _, hown.kept (grownBy_setCell' wN b10 _) (.inr (hN10.not_row (by decide) hown).symm)⟩, h.len⟩
    refine (heap_setCell_other _ _ _ _ ?_).trans hrow
    intro e
    simp only at e
    unfold Arr at hrow
    unfold Boxed at hN10
    rw [e, hN10] at hrow
    injection hrow with hrow
    injection hrow with _ hrow _
    exact absurd hrow (by decide)
  have hswap : (wN.setCell ⟨dB, j, none⟩ (.int .i64 d)).setCell ⟨b10, 0, none⟩ (.slice (some ⟨g', 0, none⟩) (td.length + 1) cap') = (wN.setCell ⟨b10, 0, none⟩ (.slice (some ⟨g', 0, none⟩) (td.length + 1) cap')).setCell ⟨dB, j, none⟩ (.int .i64 d) := by
    have hne2 : b10 ≠ dB := fun e => by
      unfold Arr at hrow
      unfold Boxed at hN10
      rw [← e, hN10] at hrow
      injection hrow with hrow
      injection hrow with _ hrow _
      exact absurd hrow (by decide)
    exact setCell_swap wN hne2.symm
  refine ⟨_, wN, hrun, ⟨hN7, hrow, hN10⟩, ⟨_, _, rfl⟩, ?_, ?_⟩
  · rw [hswap]
    exact hV.setRow j d
  · have k1 : KeepVS dB W Wa := KeepVS.of_below hal (Nat.le_of_lt hdB)
    have k2 : KeepVS dB Wa wN := ⟨⟨r2.os, r2.tape, r2.output, r2.size, fun k hk => hlow k (Nat.le_of_lt hk)⟩, fun k cs T fr e t1 _ => (r2.block k (Array.getElem?_eq_some_iff.1 e).1 (fun eb => by
      rcases h2'.2 with ⟨rfl, _⟩ | ⟨gv, cv, cur, rfl, hg1, hg2, _⟩
      · cases eb
      · injection eb with eb
        have eb' : k = gv := eb
        rw [eb', hg2] at e
        injection e with e
        injection e with _ e _
        exact t1 e.symm)).trans e⟩
    refine (k1.trans k2).trans ((KeepVS.set (T := 3) _ hrow (.inl rfl) (Nat.le_refl _)).trans (KeepVS.set (T := 31) _ (boxed_other' hN10 hrow (by decide)) (.inr rfl) hb10))
/-- An append whose run is known, as one step of a region that draws. -/
theorem step_append_known {P : Program} {ops : Array Oper} {o : Oper} {a : Act} {w : World} {K : Act → World → Prop} {Q : Exit → Act → World → Prop} {E : Prop} (hgd : o.guard = none) (d s : Operand) (t t' : TypeId)
    (ho : o.op = .call { callee := .builtin .append, args := #[d, s], argTypes := #[t, t'] }) (v u : Value) (hd : a.eval d = v) (hs : a.eval s = u) {v' : Value} {w' : World}
    (hr : (Builtin.append_ #[t, t'] o.type #[v, u]).run P w = .ok v' w') (h : K (a.put o.dst v') w') : if Region.wanted o (yielded ops a.tmps) = true then Oper.wp P o a w K Q else E := by
  have hw : Region.wanted o (yielded ops a.tmps) = true := by simp [Region.wanted, hgd]
  rw [if_pos hw]
  unfold Oper.wp execOp
  simp only [ho, resolve, invoke, builtin, Sem.run_bind, Sem.run_pure, Result.andThen_ok, List.map_toArray, List.map_cons, List.map_nil, hd, hs, hr]
  exact h
theorem wpList_append_known {P : Program} {ops : Array Oper} {rest : List Oper} {o : Oper} {a : Act} {w : World} {Q : Exit → Act → World → Prop} (hgd : o.guard = none) (d s : Operand) (t t' : TypeId)
    (ho : o.op = .call { callee := .builtin .append, args := #[d, s], argTypes := #[t, t'] }) (v u : Value) (hd : a.eval d = v) (hs : a.eval s = u) {v' : Value} {w' : World}
    (hr : (Builtin.append_ #[t, t'] o.type #[v, u]).run P w = .ok v' w') (h : wpList P ops Q rest (a.put o.dst v') w') : wpList P ops Q (o :: rest) a w :=
  wpList_plain hgd fun _ hK => by
    unfold Oper.wp execOp
    simp only [ho, resolve, invoke, builtin, Sem.run_bind, Sem.run_pure, Result.andThen_ok, List.map_toArray, List.map_cons, List.map_nil, hd, hs, hr]
    exact hK _ _ h
theorem intC_at {ds : List Int} {i : Nat} (h : i < ds.length) : (intC ds)[i]? = some (.int .i64 ds[i]!) := by
  rw [intC, List.getElem?_map, List.getElem?_eq_getElem h, getElem!_pos ds i h]
  rfl
/-- What reach does. -/
def ReachPost (b5 b7 b10 g cap dB n : Nat) (ds : List Int) (td : List Nat) (i : Nat) (d : Int) (W : World) (e : Ending) (W' : World) : Prop :=
  (ds[i]! < 0 ∧ VS b5 b7 b10 g cap dB n (ds.set i d) (td ++ [i]) W' ∧ KeepVS dB W W' ∧ e = .returned (.bool (decide (i < n)))) ∨
  (0 ≤ ds[i]! ∧ VS b5 b7 b10 g cap dB n ds td W' ∧ KeepVS dB W W' ∧ e = .returned (.bool (ds[i]! == d && decide (i < n))))
set_option maxRecDepth 100000 in
set_option maxHeartbeats 4000000 in
theorem reach_any (b5 b7 b10 g cap dB n : Nat) (ds : List Int) (td : List Nat) (i : Nat) (d : Int) (W : World) (h : VS b5 b7 b10 g cap dB n ds td W) (hi : i ≤ n) (hl : td.length ≤ 100000) (hne : b10 ≠ b7) (hb10 : dB ≤ b10) :
    Calls Tryd.prog 45 #[.int .i64 (i : Int), .int .i64 d, .pointer (some ⟨b7, 0, none⟩), .pointer (some ⟨b10, 0, none⟩), .pointer (some ⟨b5, 0, none⟩)] W fun e W' => ReachPost b5 b7 b10 g cap dB n ds td i d W e W' := by
  have c7 := h.dep.cell
  have c5 := h.lst.cell
  have hil : i < ds.length := by rw [h.len]; omega
  have cD := h.row.cell (intC_at hil)
  have hin : (i : Int) < (n : Int) + 1 := by omega
  have hdB := h.row.lt
  obtain ⟨x, hx⟩ : ∃ x, x = ds[i]! := ⟨_, rfl⟩
  rw [← hx] at cD
  have hcmp : decide ((i : Int) < (n : Int)) = decide (i < n) := by simp
  by_cases hneg : x < 0
  · obtain ⟨v, h1, h2⟩ := h.tod
    have hd : decide (x < 0) = true := by simpa using hneg
    obtain ⟨v', wN, hrun, ⟨q7, qD, q10⟩, ⟨a, c, rfl⟩, hV, hK⟩ := append_num (h.below (Below.refl W.heap.size W).drew) hne hb10 h1 (own_below h2 (Below.refl W.heap.size W).drew) i i d (by omega)
    have hK2 := (KeepVS.of_below (dB := dB) (Below.refl W.heap.size W).drew (Nat.le_of_lt hdB)).trans hK
    have c10 := h1.cell
    have s7 := q7.cell
    have fD := qD.free i
    have sD := qD.cell (intC_at hil)
    rw [← hx] at sD
    have q10' := boxed_other' (o := i) (u := .int .i64 d) q10 qD (by decide)
    have t7 := (boxed_other' (o := i) (u := .int .i64 d) q7 qD (by decide)).cell
    have t10 := q10'.cell
    have f10 := q10'.frozen
    have e5 := hV.lst.cell
    have e7 := hV.dep.cell
    have hset : (ds.set i d)[i]! = d := by
      rw [getElem!_pos _ i (by simpa using hil)]
      simp
    have eD := hV.row.cell (intC_at (ds := ds.set i d) (i := i) (by simpa using hil))
    rw [hset] at eD
    have c7' : (W.alloc (.cells #[.int .i64 (i : Int)] 3)).cell? ⟨b7, 0, none⟩ = some (.slice (some ⟨dB, 0, none⟩) (n + 1) (n + 1)) := (boxed_below h.dep ((Below.refl W.heap.size W).alloc (Nat.le_refl _) _)).cell
    have c10' : (W.alloc (.cells #[.int .i64 (i : Int)] 3)).cell? ⟨b10, 0, none⟩ = some v := (boxed_below h1 ((Below.refl W.heap.size W).alloc (Nat.le_refl _) _)).cell
    obtain ⟨vo, vc, rfl⟩ := own_val h2
    have hpost : Hid (∀ (w' : World), w' = (wN.setCell ⟨dB, i, none⟩ (.int .i64 d)).setCell ⟨b10, 0, none⟩ (.slice (some a) (td.length + 1) c) → ReachPost b5 b7 b10 g cap dB n ds td i d W (.returned (.bool (decide (i < n)))) w') := fun w' hw => by
      subst hw
      exact .inl ⟨hx ▸ hneg, hV, hK2, rfl⟩
    replace hrun := Lib.hid hrun
    clear hV hK hK2 hset h h2 hx hil
    go_enter Tryd.func45, Tryd.ntmps45
    go_wp2_with fail
    refine wp_region_held_drew (S := fun w' => w'.cell? ⟨b7, 0, none⟩ = some (.slice (some ⟨dB, 0, none⟩) (n + 1) (n + 1))) (by kernel_rfl) (by exact c7) (fun hHeld => ?_)
    refine take_l (i := 0) (v := ?_) rfl (by kernel_rfl) (by kernel_rfl) (by kernel_rfl) (fun _ _ _ h => h) (Or.inl ⟨by kernel_rfl, ?_⟩) (by assumption) ?_
    rotate_left
    · intro w hSw; (try dsimp only at hSw); go_simp; (try with_reducible rfl)
    (try simp only [Act.put, List.setIfInBounds_toArray, List.set_cons_zero, List.set_cons_succ])
    refine take_l (i := 1) (v := ?_) rfl (by kernel_rfl) (by kernel_rfl) (by kernel_rfl) (fun _ _ _ h => h) (Or.inl ⟨by kernel_rfl, ?_⟩) (by assumption) ?_
    rotate_left
    · intro w hSw; (try dsimp only at hSw); go_simp; (try with_reducible rfl)
    (try simp only [Act.put, List.setIfInBounds_toArray, List.set_cons_zero, List.set_cons_succ])
    refine take_l (i := 2) (v := ?_) rfl (by kernel_rfl) (by kernel_rfl) (by kernel_rfl) (fun _ _ _ h => h) (Or.inl ⟨by kernel_rfl, ?_⟩) (by assumption) ?_
    rotate_left
    · intro w hSw; (try dsimp only at hSw); go_simp; (try with_reducible rfl)
    (try simp only [Act.put, List.setIfInBounds_toArray, List.set_cons_zero, List.set_cons_succ])
    refine take_l (i := 4) (v := ?_) rfl (by kernel_rfl) (by kernel_rfl) (by kernel_rfl) (fun _ _ _ h => h) (Or.inl ⟨by kernel_rfl, ?_⟩) (by assumption) ?_
    rotate_left
    · intro w hSw; (try dsimp only at hSw); go_simp; (try with_reducible rfl)
    (try simp only [Act.put, List.setIfInBounds_toArray, List.set_cons_zero, List.set_cons_succ])
    refine wpAnyH_ready (rs := [3, 5]) (by kernel_rfl) (by simp) ?_
    refine ready_l rfl (fun K hK => ?_) (ready_l rfl (fun K hK => ?_) AllReadyH.nil)
    · go_simp
      refine hK.out _ _ c7 (fun hHeld => ?_)
      clear hK K
      refine wpAnyH_ready (rs := [5]) (by kernel_rfl) (by simp) ?_
      refine ready_l rfl (fun K hK => ?_) AllReadyH.nil
      go_simp
      refine hK.out _ _ (by exact c7') (fun hHeld => ?_)
      clear hK K
      (try simp only [Act.put, List.setIfInBounds_toArray, List.set_cons_zero, List.set_cons_succ])
      refine wpAnyH_ready (rs := [6]) (by kernel_rfl) (by simp) ?_
      refine ready_l rfl (fun K hK => ?_) AllReadyH.nil
      refine step_append_known rfl _ _ _ _ rfl _ _ rfl rfl hrun.out ?_
      (try simp only [Act.put, List.setIfInBounds_toArray, List.set_cons_zero, List.set_cons_succ])
      refine hK.out _ _ (by exact s7) (fun hHeld => ?_)
      clear hK K
      (try simp only [Act.put, List.setIfInBounds_toArray, List.set_cons_zero, List.set_cons_succ])
      refine take_l (i := 7) (v := ?_) rfl (by kernel_rfl) (by kernel_rfl) (by kernel_rfl) (fun _ _ _ h => h) (Or.inl ⟨by kernel_rfl, ?_⟩) (by assumption) ?_
      rotate_left
      · intro w hSw; (try dsimp only at hSw); go_simp; (try with_reducible rfl)
      (try simp only [Act.put, List.setIfInBounds_toArray, List.set_cons_zero, List.set_cons_succ])
      refine wpAnyH_ready (rs := [8]) (by kernel_rfl) (by simp) ?_
      refine ready_l rfl (fun K hK => ?_) AllReadyH.nil
      go_simp
      refine hK.out _ _ (by exact t7) (fun hHeld => ?_)
      clear hK K
      (try simp only [Act.put, List.setIfInBounds_toArray, List.set_cons_zero, List.set_cons_succ])
      refine wpAnyH_ready (rs := [9]) (by kernel_rfl) (by simp) ?_
      refine ready_l rfl (fun K hK => ?_) AllReadyH.nil
      go_simp
      refine hK.out _ _ (by exact e7) (fun hHeld => ?_)
      clear hK K
      (try simp only [Act.put, List.setIfInBounds_toArray, List.set_cons_zero, List.set_cons_succ])
      refine wpAnyH_done (by kernel_rfl) ?_ _
      go_wp2_with fail
      go_ret
      exact hpost.out _ rfl
    · go_simp
      refine hK.out _ _ (by exact c7') (fun hHeld => ?_)
      clear hK K
      (try simp only [Act.put, List.setIfInBounds_toArray, List.set_cons_zero, List.set_cons_succ])
      refine wpAnyH_ready (rs := [3]) (by kernel_rfl) (by simp) ?_
      refine ready_l rfl (fun K hK => ?_) AllReadyH.nil
      go_simp
      refine hK.out _ _ (by exact c7') (fun hHeld => ?_)
      clear hK K
      (try simp only [Act.put, List.setIfInBounds_toArray, List.set_cons_zero, List.set_cons_succ])
      refine wpAnyH_ready (rs := [6]) (by kernel_rfl) (by simp) ?_
      refine ready_l rfl (fun K hK => ?_) AllReadyH.nil
      refine step_append_known rfl _ _ _ _ rfl _ _ rfl rfl hrun.out ?_
      (try simp only [Act.put, List.setIfInBounds_toArray, List.set_cons_zero, List.set_cons_succ])
      refine hK.out _ _ (by exact s7) (fun hHeld => ?_)
      clear hK K
      (try simp only [Act.put, List.setIfInBounds_toArray, List.set_cons_zero, List.set_cons_succ])
      refine take_l (i := 7) (v := ?_) rfl (by kernel_rfl) (by kernel_rfl) (by kernel_rfl) (fun _ _ _ h => h) (Or.inl ⟨by kernel_rfl, ?_⟩) (by assumption) ?_
      rotate_left
      · intro w hSw; (try dsimp only at hSw); go_simp; (try with_reducible rfl)
      (try simp only [Act.put, List.setIfInBounds_toArray, List.set_cons_zero, List.set_cons_succ])
      refine wpAnyH_ready (rs := [8]) (by kernel_rfl) (by simp) ?_
      refine ready_l rfl (fun K hK => ?_) AllReadyH.nil
      go_simp
      refine hK.out _ _ (by exact t7) (fun hHeld => ?_)
      clear hK K
      (try simp only [Act.put, List.setIfInBounds_toArray, List.set_cons_zero, List.set_cons_succ])
      refine wpAnyH_ready (rs := [9]) (by kernel_rfl) (by simp) ?_
      refine ready_l rfl (fun K hK => ?_) AllReadyH.nil
      go_simp
      refine hK.out _ _ (by exact e7) (fun hHeld => ?_)
      clear hK K
      (try simp only [Act.put, List.setIfInBounds_toArray, List.set_cons_zero, List.set_cons_succ])
      refine wpAnyH_done (by kernel_rfl) ?_ _
      go_wp2_with fail
      go_ret
      exact hpost.out _ rfl
  · have hd : decide (x < 0) = false := by simpa using hneg
    have hpost : Hid (ReachPost b5 b7 b10 g cap dB n ds td i d W (.returned (.bool (x == d && decide (i < n)))) W) := .inr ⟨by omega, h, KeepVS.refl _ _, by rw [hx]⟩
    clear hx h hil
    by_cases he : x = d
    · have he2 : (x == d) = true := by simpa using he
      subst he
      rw [he2, Bool.true_and] at hpost
      go_enter Tryd.func45, Tryd.ntmps45
      go_wp2_with fail
      go_ret
      exact hpost.out
    · have he2 : (x == d) = false := by simpa using he
      rw [he2, Bool.false_and] at hpost
      go_enter Tryd.func45, Tryd.ntmps45
      go_wp2_with fail
      go_ret
      exact hpost.out
end Go.Proofs.YtainohbfcehpoaaDoor
