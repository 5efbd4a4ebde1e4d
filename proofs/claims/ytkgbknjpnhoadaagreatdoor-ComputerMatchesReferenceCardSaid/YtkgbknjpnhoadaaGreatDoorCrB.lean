/-
  Helpers of Shows and Keys: appends of events onto rows of the call's own; a frame of many slots.
-/
import Derived.Test.YtkgbknjpnhoadaaGreatDoorCqY
import Derived.Test.YtkgbknjpnhoadaaGreatDoorCqR
namespace Go.Proofs.YtkgbknjpnhoadaaGreatDoor
open Go.RowKit Go.Shelf

/-- A slot of a great frame is set: eight at a step. -/
theorem set_c8 {α : Type} (a0 a1 a2 a3 a4 a5 a6 a7 : α) (l : List α) (n : Nat) (v : α) : (a0 :: a1 :: a2 :: a3 :: a4 :: a5 :: a6 :: a7 :: l).set (n + 8) v = a0 :: a1 :: a2 :: a3 :: a4 :: a5 :: a6 :: a7 :: l.set n v := rfl
theorem pick_b (c : Int) (n : Nat) (w : World) (hc : I64 c) (h1 : 1 ≤ n) (h2 : n ≤ 1000000000) :
    Calls Tryz.prog 16 #[.int .i64 c, .int .i64 n] w fun e w' => e = .returned (.int .i64 (pickv c n : Nat)) ∧ Below w.heap.size w w' :=
  (pick_any c n w hc h1 h2).mono fun _ _ ⟨a, b⟩ => ⟨a, b ▸ Below.refl _ _⟩
/-- An append whose run is known, as one step of a region that draws. -/
theorem step_append_known {P : Program} {ops : Array Oper} {o : Oper} {a : Act} {w : World} {K : Act → World → Prop} {Q : Exit → Act → World → Prop} {E : Prop} (hgd : o.guard = none) (d s : Operand) (t t' : TypeId)
    (ho : o.op = .call { callee := .builtin .append, args := #[d, s], argTypes := #[t, t'] }) (v u : Value) (hd : a.eval d = v) (hs : a.eval s = u) {v' : Value} {w' : World}
    (hr : (Builtin.append_ #[t, t'] o.type #[v, u]).run P w = .ok v' w') (h : K (a.put o.dst v') w') : if Region.wanted o (yielded ops a.tmps) = true then Oper.wp P o a w K Q else E := by
  have hw : Region.wanted o (yielded ops a.tmps) = true := by simp [Region.wanted, hgd]
  rw [if_pos hw]
  unfold Oper.wp execOp
  simp only [ho, resolve, invoke, builtin, Sem.run_bind, Sem.run_pure, Result.andThen_ok, List.map_toArray, List.map_cons, List.map_nil, hd, hs, hr]
  exact h
theorem wpList_append_known {P : Program} {ops : Array Oper} {rest : List Oper} {o : Oper} {a : Act} {w : World} {Q : Exit → Act → World → Prop} (hgd : o.guard = none) (d s : Operand) (t t' : TypeId)
    (ho : o.op = .call { callee := .builtin .append, args := #[d, s], argTypes := #[t, t'] }) (v u : Value) (hd : a.eval d = v) (hs : a.eval s = u) {v' : Value} {w' : World}
    (hr : (Builtin.append_ #[t, t'] o.type #[v, u]).run P w = .ok v' w') (h : wpList P ops Q rest (a.put o.dst v') w') : wpList P ops Q (o :: rest) a w :=
  wpList_plain hgd fun _ hK => by
    unfold Oper.wp execOp
    simp only [ho, resolve, invoke, builtin, Sem.run_bind, Sem.run_pure, Result.andThen_ok, List.map_toArray, List.map_cons, List.map_nil, hd, hs, hr]
    exact hK _ _ h
theorem run_append_none {P : Program} (w : World) (t ty e : TypeId) (i : TypeInfo) (ht : P.underlying t = some (.slice e)) (hi : P.info? e = some i) (g : Addr) (n cap c : Nat) (hn : n ≤ cap) :
    (Builtin.append_ #[t, t] ty #[.slice (some g) n cap, .slice none 0 c]).run P w = .ok (.slice (some g) n cap) w := by
  simp [Builtin.append_, run_underlying ht, sizeOf, typeInfo, hi, Builtin.lenOf, Builtin.firstCells, hn, storeCells]
/-- append of some events onto a row of the call's own. -/
theorem append_ev (w : World) (base : Nat) (v : Value) (l m : List Ev) (s : Value) (hown : w.ownsRow base 39 4 v l.length (evCells l)) (hv : v ≠ .slice none 0 0) (B : Nat) (hs : SliceAt w B s m.length (evCells m)) (hl : l.length + m.length ≤ 1000000) (hb : base ≤ w.heap.size) :
    ∃ v' w', (Builtin.append_ #[33, 33] 33 #[v, s]).run Tryz.prog w = .ok v' w' ∧ w'.ownsRow base 39 4 v' (l ++ m).length (evCells (l ++ m)) ∧ w.grownBy w' v.ownBlock ∧ v' ≠ .slice none 0 0 := by
  obtain ⟨i0, hi, hz0, hz1, hz2⟩ := info_parts Tryz.info_ev
  obtain ⟨a, c, rfl, h1, h2, hc⟩ := hs
  have hone : ∀ u ∈ evCells m, u.oneCell' = true := by
    intro u hu
    simp only [evCells, List.mem_flatMap] at hu
    obtain ⟨e, _, hu⟩ := hu
    simp only [List.mem_cons, List.not_mem_nil, or_false] at hu
    rcases hu with rfl | rfl | rfl | rfl <;> rfl
  have hel := evCells_len m
  cases a with
  | none =>
    have hm0 : m.length = 0 := by
      rcases Nat.eq_zero_or_pos m.length with h | h
      · exact h
      · obtain ⟨b, o, ha, _⟩ := hc h
        cases ha
    have hm : m = [] := List.length_eq_zero_iff.1 hm0
    subst hm
    rcases hown.2 with ⟨rfl, _⟩ | ⟨g, cap, cur, rfl, hbg, hg, hnc, hcm, r⟩
    · exact absurd rfl hv
    · refine ⟨_, w, run_append_none (P := Tryz.prog) w _ _ _ i0 Tryz.underlying33 hi ⟨g, 0, none⟩ l.length cap c hnc, ?_, World.grownBy.refl w _, hv⟩
      rw [List.append_nil]
      exact hown
  | some ad =>
    have hcells : ∀ j u, (evCells m)[j]? = some u → w.cell? (ad.add j) = some u := by
      intro j u hu
      have hl : 0 < m.length := by
        have := (List.getElem?_eq_some_iff.1 hu).1
        omega
      obtain ⟨b, o, ha, hlt, hx⟩ := hc hl
      cases ha
      simpa [Addr.add_mid] using hx j u hu
    obtain ⟨v', w', hrun, r1, r2, r3, _⟩ := run_append_own_at (P := Tryz.prog) w base 33 33 39 i0 (.agg #[.int .i64 0, .int .i64 0, .int .i64 0, .int .i64 0]) 4 32 Tryz.underlying33 hi hz0 hz1 hz2 rfl (by decide) v l.length (evCells l) hown ad m.length c (evCells m) (by omega) hcells hone (by unfold maxLen; omega) (by omega) hb
    exact ⟨v', w', hrun, by rw [List.length_append, evCells_app]; exact r1, r2, fun e => hv (r3.1 e).1⟩
theorem sliceAt_take {w : World} {B : Nat} {a : Option Addr} {c : Nat} {l : List Ev} (h : SliceAt w B (.slice a l.length c) l.length (evCells l)) (k : Nat) (hk : k ≤ l.length) : SliceAt w B (.slice a k c) (l.take k).length (evCells (l.take k)) := by
  obtain ⟨a', c', hv, h1, h2, hc⟩ := h
  injection hv with e1 e2 e3
  subst e1 e3
  have hlk : (l.take k).length = k := by simp; omega
  rw [hlk]
  refine ⟨a, c, rfl, by omega, h2, fun h => ?_⟩
  obtain ⟨b, o, ha, hb, hx⟩ := hc (by omega)
  refine ⟨b, o, ha, hb, fun j u hu => hx j u ?_⟩
  have e : evCells l = evCells (l.take k) ++ evCells (l.drop k) := by rw [← evCells_app, List.take_append_drop]
  rw [e, List.getElem?_append_left (List.getElem?_eq_some_iff.1 hu).1]
  exact hu
theorem info_ev4 : (Tryz.prog.info? 39).map (fun i => (i.zero, i.size, i.bytes)) = some (some (.agg #[.int .i64 0, .int .i64 0, .int .i64 0, .int .i64 0]), 4, 32) := by kernel_rfl

end Go.Proofs.YtkgbknjpnhoadaaGreatDoor
