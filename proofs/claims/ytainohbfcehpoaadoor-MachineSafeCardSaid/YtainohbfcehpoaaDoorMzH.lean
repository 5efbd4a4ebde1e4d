/-
  The contracts of strings.Builder's methods (cut out of CqH, for seats other than chapter 12's).
  The contract of machine.Print.
  The contracts of machine.read and of what it calls.
-/
import Derived.Test.YtainohbfcehpoaaDoorMzA
import Derived.RangeFuncBox
import Derived.Shelf.Abstract
import Derived.Lib.Builder
import Derived.Test.YtainohbfcehpoaaDoorMzC
import Derived.Lib.AppendStr
import Derived.Lib.UnsafeStr
import Derived.BigRegion
import Derived.Test.YtainohbfcehpoaaDoorMzG
namespace Go.Proofs.YtainohbfcehpoaaDoor
open Go.RowKit Go.Shelf

theorem Tryd.info_byte3 : (Tryd.prog.info? 5).map (fun i => (i.zero, i.size, i.bytes)) = some (some (.int .u8 0), 1, 1) := by kernel_rfl
theorem Tryd.sizeBuilder : (Tryd.prog.info? 73).map (·.size) = some 2 := by kernel_rfl
theorem Tryd.liesBuilder : liesAt Tryd.prog Tryd.prog.depth 73 (2 / Tryd.prog.cellsOf 73) 0 73 1 = true := by kernel_rfl
set_option maxHeartbeats 1000000 in
set_option maxRecDepth 100000 in
theorem copyCheck_used (b : Nat) (w : World) (h0 : w.cell? ⟨b, 0, none⟩ = some (.pointer (some ⟨b, 0, none⟩))) :
    Calls Tryd.prog 49 #[.pointer (some ⟨b, 0, none⟩)] w fun e w' => e = .returned (.tuple #[]) ∧ w' = w := by
  obtain ⟨j, hj, _⟩ := Option.map_eq_some_iff.1 Tryd.sizeBuilder
  go_enter Tryd.func49, Tryd.ntmps49
  go_wp2
  rw [Lib.run_neq_ptr_same w _ Tryd.underlying71 hj]
  go_wp2
  go_end0
  exact ⟨rfl, rfl⟩

set_option maxHeartbeats 1000000 in
set_option maxRecDepth 100000 in
theorem copyCheck_fresh (b : Nat) (w : World) (h0 : w.cell? ⟨b, 0, none⟩ = some (.pointer none)) (hsh : w.shape? b = some (73, 2)) (hfz : w.frozen? ⟨b, 0, none⟩ = false) :
    Calls Tryd.prog 49 #[.pointer (some ⟨b, 0, none⟩)] w fun e w' => e = .returned (.tuple #[]) ∧ w' = w.setCell ⟨b, 0, none⟩ (.pointer (some ⟨b, 0, none⟩)) := by
  obtain ⟨j, hj, hjs⟩ := Option.map_eq_some_iff.1 Tryd.sizeBuilder
  go_enter Tryd.func49, Tryd.ntmps49
  go_wp2
  rw [Lib.run_to_unsafe w ⟨b, 0, none⟩ Tryd.underlying71 Tryd.underlying105 hj (by rw [hjs]; decide) hsh (Nat.zero_lt_succ 1)]
  simp only [Result.andThen]
  rw [Oper.upon_value]
  go_wp2
  rw [run_callFunc_extern Tryd.func56 (by kernel_rfl) (by kernel_rfl) (by kernel_rfl) (e := Extern.AbiNoEscape.same) (by kernel_rfl)]
  rw [Lib.run_noEscape]
  simp only [Result.andThen]
  rw [Oper.upon_value]
  go_wp2
  rw [Lib.run_from_unsafe w ⟨b, 0, none⟩ Tryd.underlying105 Tryd.underlying71 hj hsh Tryd.liesBuilder]
  simp only [Result.andThen]
  rw [Oper.upon_value]
  go_wp2
  go_end0
  exact ⟨rfl, rfl⟩

/-- What the builder b's methods leave as it was: all but its own cells and rows of bytes without a mark. -/
def KeepW (b : Nat) (w w' : World) : Prop := w.heap.size ≤ w'.heap.size ∧ ∀ k o, k ≠ b → w.heap[k]? = some o → (∀ cs, o ≠ .cells cs 5 (0, 0)) → w'.heap[k]? = some o
theorem KeepW.of_below {b : Nat} {w w' : World} (h : Below w.heap.size w w') : KeepW b w w' := ⟨h.size, fun k _ _ hk _ => (h.block k (Array.getElem?_eq_some_iff.1 hk).1).trans hk⟩
theorem KeepW.trans {b : Nat} {w w' w'' : World} (h : KeepW b w w') (k : KeepW b w' w'') : KeepW b w w'' := ⟨Nat.le_trans h.1 k.1, fun j o hj ho hn => k.2 j o hj (h.2 j o hj ho hn) hn⟩
theorem KeepW.setCell {b : Nat} {w w' : World} (h : KeepW b w w') (o : Nat) (v : Value) : KeepW b w (w'.setCell ⟨b, o, none⟩ v) :=
  ⟨by simpa [World.setCell] using h.1, fun k x hk hx hn => (Below.heap_setCell w' ⟨b, o, none⟩ v k (by simpa using hk)).trans (h.2 k x hk hx hn)⟩
theorem KeepW.arr {b B : Nat} {w w' : World} {T : TypeId} {L : List Value} (h : KeepW b w w') (hA : Arr w B T L) (hB : B ≠ b) (hT : T ≠ 5) : Arr w' B T L :=
  h.2 B _ hB hA (fun cs e => by injection e with _ e; exact hT e)
theorem KeepW.others {b : Nat} {w w' : World} {T : TypeId} {cs : Array Value} {fr : Nat × Nat} (h : KeepW b w w') (hb : w.heap[b]? = some (.cells cs T fr)) : KeepsOthers w w' :=
  ⟨h.1, fun k o hk hc => h.2 k o (fun e => by subst e; rw [hb] at hk; injection hk with hk; subst hk; cases hc) hk (fun cs e => by subst e; cases hc)⟩
theorem copyCheck_any (B b : Nat) (bs : List Value) (w : World) (h : Lib.IsBuilder 73 5 B b bs w) :
    Calls Tryd.prog 49 #[.pointer (some ⟨b, 0, none⟩)] w fun e w' => e = .returned (.tuple #[]) ∧ (Lib.BuilderAt 73 5 B b (.pointer (some ⟨b, 0, none⟩)) bs w' ∧ Below B w w') ∧ KeepW b w w' := by
  rcases h with h | h
  · refine (copyCheck_fresh b w h.cell0 h.shape h.frozen0).mono ?_
    rintro e w' ⟨rfl, rfl⟩
    exact ⟨rfl, ⟨h.used _, (Below.refl B w).setCell (p := ⟨b, 0, none⟩) h.1 _⟩, (KeepW.of_below (Below.refl _ w)).setCell _ _⟩
  · refine (copyCheck_used b w h.cell0).mono ?_
    rintro e w' ⟨rfl, rfl⟩
    exact ⟨rfl, ⟨h, Below.refl B _⟩, KeepW.of_below (Below.refl _ _)⟩

set_option maxHeartbeats 2000000 in
set_option maxRecDepth 100000 in
theorem WriteString_any (B b : Nat) (bs : List Value) (s : ByteArray) (w : World) (h : Lib.IsBuilder 73 5 B b bs w) (hlen : bs.length + s.size ≤ 140737488355328) (hBw : B ≤ w.heap.size) :
    Calls Tryd.prog 36 #[.pointer (some ⟨b, 0, none⟩), .string s] w fun e w' => e = .returned (.tuple #[.int .i64 s.size, .nilIface]) ∧ (Lib.BuilderAt 73 5 B b (.pointer (some ⟨b, 0, none⟩)) (bs ++ Lib.strCells s) w' ∧ Below B w w') ∧ KeepW b w w' := by
  obtain ⟨i0, hi, hz0, hz1, hz2⟩ := info_parts Tryd.info_byte3
  go_enter Tryd.func36, Tryd.ntmps36
  go_wp2_with (go_at_call 49; refine (copyCheck_any B b bs _ h).mono ?_)
  rintro e w1 ⟨rfl, ⟨h1, hb1⟩, hk1⟩
  obtain ⟨hB, v, hbk, hown, hne⟩ := h1
  have c0 : w1.cell? ⟨b, 0, none⟩ = some (.pointer (some ⟨b, 0, none⟩)) := by rw [Lib.cell_of_heap hbk]; rfl
  have c1 : w1.cell? ⟨b, 1, none⟩ = some v := by rw [Lib.cell_of_heap hbk]; rfl
  go_wp2_with (at_builtin; refine Lib.wpList_append_own_string _ rfl _ _ 46 9 rfl B 5 i0 Tryd.underlying46 Tryd.underlying9 hi hz0 hz1 hz2 _ _ _ rfl hown s rfl ?c3 ?c4 ?c5 ?_)
  case c3 => unfold maxLen; omega
  case c4 => omega
  case c5 => have := hb1.size; omega
  intro v' w2 hown' hgrow _
  have hlt : b < w1.heap.size := by
    rcases Nat.lt_or_ge b w1.heap.size with h' | h'
    · exact h'
    · simp [Array.getElem?_eq_none h'] at hbk
  have hb2 : w2.heap[b]? = some (.cells #[.pointer (some ⟨b, 0, none⟩), v] 73 (0, 0)) := by
    rw [hgrow.block b hlt (fun e => hne e.symm)]
    exact hbk
  have d0 : w2.cell? ⟨b, 0, none⟩ = some (.pointer (some ⟨b, 0, none⟩)) := by rw [Lib.cell_of_heap hb2]; rfl
  have d1 : w2.cell? ⟨b, 1, none⟩ = some v := by rw [Lib.cell_of_heap hb2]; rfl
  have f1 : w2.frozen? ⟨b, 1, none⟩ = false := Lib.frozen_of_heap hb2 1
  obtain ⟨ao, n', cap, rfl⟩ : ∃ ao n' cap, v' = .slice ao n' cap := by
    rcases hown'.2 with ⟨hv, _⟩ | ⟨g, cap, cur, hv, _⟩
    · exact ⟨_, _, _, hv⟩
    · exact ⟨_, _, _, hv⟩
  have hk2 : KeepW b w w2 := hk1.trans ⟨hgrow.size, fun k o hk ho hn => by
    refine (hgrow.block k (Array.getElem?_eq_some_iff.1 ho).1 (fun e => ?_)).trans ho
    rcases hown.2 with ⟨hv, _⟩ | ⟨g, cap, cur, hv, _, hg, _⟩
    · rw [hv] at e; cases e
    · rw [hv] at e
      simp only [Value.ownBlock, Option.some.injEq] at e
      subst e
      rw [hg] at ho
      injection ho with ho
      exact hn _ ho.symm⟩
  replace hk2 := Lib.hid hk2
  go_wp2
  go_ret2
  refine ⟨rfl, ⟨?_, ?_⟩, hk2.out.setCell _ _⟩
  · exact Lib.BuilderAt.put (T := 73) (e := 5) hB hb2 (bs' := bs ++ Lib.strCells s) (by simpa [Lib.strCells_length] using hown') (by decide)
  · exact (hb1.grown hgrow (by have := hb1.size; omega) (fun k hk => (hown.lt k hk).1)).setCell (p := ⟨b, 1, none⟩) hB _

theorem keepW_freeze {b B g : Nat} {w : World} {cur : Array Value} (hg : w.heap[g]? = some (.cells cur 5 (0, 0))) (n : Nat) (hB : B ≤ g) : KeepW b w (w.freeze ⟨g, 0, none⟩ n) ∧ Below B w (w.freeze ⟨g, 0, none⟩ n) := by
  refine ⟨?_, Lib.below_freeze (Below.refl B w) (p := ⟨g, 0, none⟩) hB n⟩
  unfold World.freeze
  split
  · exact KeepW.of_below (Below.refl _ w)
  · refine ⟨by simp, fun k o _ ho hn => ?_⟩
    by_cases e : g = k
    · subst e
      rw [hg] at ho
      injection ho with ho
      exact absurd ho.symm (hn cur)
    · simp only [Array.getElem?_modify]
      rw [if_neg (by simpa using e)]
      exact ho
theorem KeepW.drew {b : Nat} {w w' : World} (h : KeepW b w.drew w') : KeepW b w w' := h

set_option maxHeartbeats 2000000 in
set_option maxRecDepth 100000 in
theorem String_nil (b : Nat) (p : Value) (w : World) (hbk : w.heap[b]? = some (.cells #[p, .slice none 0 0] 73 (0, 0))) :
    Calls Tryd.prog 38 #[.pointer (some ⟨b, 0, none⟩)] w fun e w' => e = .returned (.string (str [])) ∧ w' = w.drew := by
  have hUS : ∀ W : World, (Builtin.unsafeString_ #[100, 3] 9 #[.pointer none, .int .i64 0]).run Tryd.prog W = .ok (.string .empty) W := fun W => Lib.run_unsafeString_none W _ _ _ none
  have c1 : w.drew.cell? ⟨b, 1, none⟩ = some (.slice none 0 0) := by
    have : w.drew.heap[b]? = some (.cells #[p, .slice none 0 0] 73 (0, 0)) := hbk
    rw [Lib.cell_of_heap this]; rfl
  have hSD : (Builtin.unsafeSliceData_ #[46] 100 #[.slice none 0 0]).run Tryd.prog w.drew = .ok (.pointer none) w.drew := rfl
  go_enter Tryd.func38, Tryd.ntmps38
  go_wp2
  go_region
  all_goals (go_wp2; go_ret; exact ⟨rfl, rfl⟩)

set_option maxHeartbeats 2000000 in
set_option maxRecDepth 100000 in
theorem String_some (B b : Nat) (l : List UInt8) (w : World) (h : Lib.IsBuilder 73 5 B b (Lib.byteCells l) w) (h0 : l ≠ []) :
    Calls Tryd.prog 38 #[.pointer (some ⟨b, 0, none⟩)] w fun e w' => e = .returned (.string (str l)) ∧ KeepW b w w' ∧ Below B w w' := by
  obtain ⟨p, hB, v, hbk, hown, hne⟩ : ∃ p, Lib.BuilderAt 73 5 B b p (Lib.byteCells l) w := by
    rcases h with h | h
    · exact ⟨_, h⟩
    · exact ⟨_, h⟩
  have hl0 : l.length ≠ 0 := by simpa using h0
  rw [Lib.byteCells_length] at hown
  obtain ⟨g, cap, cur, rfl, hbg, hg, hnc, hcm, hcs, htake⟩ : ∃ g cap cur, v = .slice (some ⟨g, 0, none⟩) l.length cap ∧ B ≤ g ∧ w.heap[g]? = some (.cells cur 5 (0, 0)) ∧ l.length ≤ cap ∧ cap ≤ maxLen ∧ cur.size = cap * 1 ∧ cur.toList.take (l.length * 1) = Lib.byteCells l := by
    rcases hown.2 with ⟨_, hz⟩ | ⟨g, cap, cur, hv, r⟩
    · exact absurd hz hl0
    · exact ⟨g, cap, cur, hv, r⟩
  have c1 : w.drew.cell? ⟨b, 1, none⟩ = some (.slice (some ⟨g, 0, none⟩) l.length cap) := by
    have : w.drew.heap[b]? = some (.cells #[p, .slice (some ⟨g, 0, none⟩) l.length cap] 73 (0, 0)) := hbk
    rw [Lib.cell_of_heap this]; rfl
  have hSD : (Builtin.unsafeSliceData_ #[46] 100 #[.slice (some ⟨g, 0, none⟩) l.length cap]).run Tryd.prog w.drew = .ok (.pointer (some ⟨g, 0, none⟩)) w.drew :=
    Lib.run_unsafeSliceData_row _ _ _ _ _ _ (by omega)
  have hUS : (Builtin.unsafeString_ #[100, 3] 9 #[.pointer (some ⟨g, 0, none⟩), .int .i64 l.length]).run Tryd.prog w.drew = .ok (.string (str l)) (w.drew.freeze ⟨g, 0, none⟩ l.length) := by
    refine Lib.run_unsafeString_row w.drew 100 3 9 5 Tryd.underlying100 (by kernel_rfl) g cur.size (by have hg' : w.drew.heap[g]? = some (.cells cur 5 (0, 0)) := hg; simp [World.shape?, hg']) l h0 (by omega) (by unfold maxLen at hcm; omega) ?_
    intro j x hx
    have := hown.cells (g := g) rfl j (.int .u8 x.toNat) (by simp [Lib.byteCells, hx])
    exact this
  have hfz := keepW_freeze (b := b) (w := w.drew) hg l.length hbg
  replace hfz := Lib.hid hfz
  clear hown htake
  go_enter Tryd.func38, Tryd.ntmps38
  go_wp2
  go_region
  all_goals (go_wp2; go_ret; exact ⟨rfl, hfz.out.1.drew, (Below.drew (Below.refl B w)).trans hfz.out.2⟩)
theorem isBuilder_kept {T e : TypeId} {B b : Nat} {bs : List Value} {W W' : World} {row : Option Nat} (h : Lib.IsBuilder T e B b bs W) (hg : W.grownBy W' row) (hr : ∀ r, row = some r → ∃ o : Obj, W.heap[r]? = some o ∧ o.isCells = false) : Lib.IsBuilder T e B b bs W' := by
  have key : ∀ p, Lib.BuilderAt T e B b p bs W → Lib.BuilderAt T e B b p bs W' := by
    rintro p ⟨hB, v, hb, hown, hne⟩
    refine ⟨hB, v, (hg.block b (Array.getElem?_eq_some_iff.1 hb).1 (fun e' => ?_)).trans hb, hown.kept hg ?_, hne⟩
    · obtain ⟨o, ho, hc⟩ := hr b e'.symm
      rw [hb] at ho; injection ho with ho; subst ho; cases hc
    · rcases hown.2 with ⟨rfl, _⟩ | ⟨g, cap, cur, rfl, _, hgg, _⟩
      · exact .inl rfl
      · refine .inr (fun e' => ?_)
        obtain ⟨o, ho, hc⟩ := hr g e'.symm
        rw [hgg] at ho; injection ho with ho; subst ho; cases hc
  exact h.imp (key _) (key _)
theorem isBuilder_below {T e : TypeId} {B b : Nat} {bs : List Value} {W W' : World} (h : Lib.IsBuilder T e B b bs W) (hb : Below W.heap.size W W') : Lib.IsBuilder T e B b bs W' :=
  isBuilder_kept (row := none) h ⟨hb.os, hb.tape, hb.output, hb.size, fun k hk _ => hb.block k hk⟩ (fun r e => by cases e)
theorem isBuilder_heap {T e : TypeId} {B b : Nat} {bs : List Value} {W : World} (h : Lib.IsBuilder T e B b bs W) : ∃ cs, W.heap[b]? = some (.cells cs T (0, 0)) := by
  rcases h with ⟨_, v, hb, _⟩ | ⟨_, v, hb, _⟩ <;> exact ⟨_, hb⟩

end Go.Proofs.YtainohbfcehpoaaDoor
namespace Go.Proofs.YtainohbfcehpoaaDoor
open Go.RowKit Go.Shelf

def prefT (L : List Ins) (k : Nat) : List UInt8 := (L.take k).flatMap fun x => lineT x.op (outN L x) ++ [10]
theorem prefT_succ {L : List Ins} {k : Nat} (h : k < L.length) : prefT L (k + 1) = prefT L k ++ (lineT L[k]!.op (outN L L[k]!) ++ [10]) := by
  unfold prefT
  rw [List.take_succ_eq_append_getElem h, List.flatMap_append, getElem!_pos L k h]
  simp
theorem prefT_all (L : List Ins) : prefT L L.length = textT L := by unfold prefT textT; rw [List.take_length]
theorem opName_len {o : Nat} (h : o < 12) : (opName o).length ≤ 5 := by
  have h12 : o = 0 ∨ o = 1 ∨ o = 2 ∨ o = 3 ∨ o = 4 ∨ o = 5 ∨ o = 6 ∨ o = 7 ∨ o = 8 ∨ o = 9 ∨ o = 10 ∨ o = 11 := by omega
  rcases h12 with rfl | rfl | rfl | rfl | rfl | rfl | rfl | rfl | rfl | rfl | rfl | rfl <;> decide
theorem prefT_len {L : List Ins} (hF : Form L) (hN : ∀ x ∈ L, Neat x) (hl : L.length ≤ 1024) : ∀ k, k ≤ L.length → (prefT L k).length ≤ 20 * k
  | 0, _ => by simp [prefT]
  | k + 1, h => by
    have ih := prefT_len hF hN hl k (by omega)
    have hk : k < L.length := by omega
    have hx := hN L[k]! (by rw [getElem!_pos L k hk]; exact List.getElem_mem hk)
    have ho : outN L L[k]! ≤ 65536 := by
      unfold outN
      split
      · rename_i hd
        have := (toOf_lt hF hk hd).1
        omega
      · have := hx.opd; omega
    have h1 := opName_len hx.lt
    have h2 := decDigits_le (u := outN L L[k]!) (by omega)
    rw [prefT_succ hk, List.length_append, List.length_append, List.length_singleton]
    have h3 : (lineT L[k]!.op (outN L L[k]!)).length ≤ 16 := by
      generalize L[k]! = y at *
      unfold lineT
      rw [List.length_append]
      split
      · rw [List.length_cons]; omega
      · rw [List.length_nil]; omega
    omega
theorem strCells_list (l : List UInt8) : Lib.strCells (str l) = Lib.byteCells l := by simp [Lib.byteCells, Lib.strCells, str]
theorem byteCells_app (a b : List UInt8) : Lib.byteCells (a ++ b) = Lib.byteCells a ++ Lib.byteCells b := by simp [Lib.byteCells]
abbrev IsB (b : Nat) (l : List UInt8) (w : World) : Prop := Lib.IsBuilder 73 5 b b (Lib.byteCells l) w
theorem isB_set {b c o : Nat} {l : List UInt8} {W : World} {T : TypeId} {L : List Value} {u : Value} (h : IsB b l W) (hA : Arr W c T L) (h1 : T ≠ 73) (h2 : T ≠ 5) : IsB b l (W.setCell ⟨c, o, none⟩ u) := by
  have oth : ∀ {k : Nat} {cs : Array Value} {T' : TypeId} {fr : Nat × Nat}, W.heap[k]? = some (.cells cs T' fr) → T ≠ T' → (W.setCell ⟨c, o, none⟩ u).heap[k]? = W.heap[k]? := fun {k cs T' fr} hk hT => heap_setCell_other _ _ _ _ (by
    intro e
    simp only at e
    unfold Arr at hA
    rw [e, hA] at hk
    injection hk with hk
    injection hk with _ hk _
    exact hT hk)
  have key : ∀ p, Lib.BuilderAt 73 5 b b p (Lib.byteCells l) W → Lib.BuilderAt 73 5 b b p (Lib.byteCells l) (W.setCell ⟨c, o, none⟩ u) := by
    rintro p ⟨hB, v, hb, hown, hne⟩
    refine ⟨hB, v, (oth hb h1).trans hb, ⟨hown.1, ?_⟩, hne⟩
    rcases hown.2 with hh | ⟨g, cap, cur, hv, q1, q2, r⟩
    · exact .inl hh
    · exact .inr ⟨g, cap, cur, hv, q1, (oth q2 h2).trans q2, r⟩
  exact h.imp (key _) (key _)
theorem write_any (b : Nat) (pre s : List UInt8) (w : World) (h : IsB b pre w) (hl : pre.length + s.length ≤ 1000000) :
    Calls Tryd.prog 36 #[.pointer (some ⟨b, 0, none⟩), .string (str s)] w fun e w' => e = .returned (.tuple #[.int .i64 (s.length : Nat), .nilIface]) ∧ IsB b (pre ++ s) w' ∧ Below b w w' ∧ KeepW b w w' := by
  obtain ⟨cs, hb⟩ := isBuilder_heap h
  have hlt := (Array.getElem?_eq_some_iff.1 hb).1
  refine (WriteString_any b b (Lib.byteCells pre) (str s) w h (by rw [Lib.byteCells_length, str_size]; omega) (Nat.le_of_lt hlt)).mono ?_
  rintro e w' ⟨rfl, ⟨h1, h2⟩, h3⟩
  rw [strCells_list, ← byteCells_app] at h1
  exact ⟨by rw [str_size], .inr h1, h2, h3⟩
set_option maxRecDepth 100000 in
set_option maxHeartbeats 4000000 in
theorem Print_any (code : List UInt8) (w : World) (hc : code.length ≤ 1000000) (hE : Env w) :
    Calls Tryd.prog 19 #[.string (str code)] w fun e w' => e = .returned (.tuple #[.string (str (print8 code).1), .int .i64 (print8 code).2]) ∧ Below w.heap.size w w' := by
  have hP := Lib.hid (program_any code w hc hE.ops)
  go_enter Tryd.func19, Tryd.ntmps19
  go_wp2_with fail
  refine hP.out.mono ?_
  rintro e w1 ⟨hyes, hno, hb1⟩
  cases hf : formed code with
  | none =>
    obtain rfl := hno hf
    have hpr : Hid (print8 code = ([], 80)) := by show _ = _; unfold print8; rw [hf]
    clear hyes hno hf hP
    go_wp2_with fail
    go_ret2
    exact ⟨by rw [hpr.out]; rfl, hb1⟩
  | some L =>
    obtain ⟨g, cap, rfl, hwg, hg1, hLc, hcm, hrow⟩ := hyes L hf
    obtain ⟨hne, hlen, hdec, hLaid, hForm⟩ := formed_parts hf
    have hNeat := (formed_neat hf).1
    have hL1 : L.length ≤ 1024 := by
      have h1 := (evSeq_dec _ code (Nat.le_refl _) 0).1 L hdec
      have h2 := evSeq_len _ code (Nat.le_refl _) 0
      rw [h1, List.length_map] at h2
      omega
    have hL0 : 0 < L.length := by
      have h1 := (evSeq_dec _ code (Nat.le_refl _) 0).1 L hdec
      have h2 := evSeq_pos code hne
      rw [h1, List.length_map] at h2
      exact h2
    have hpr : Hid (print8 code = (prefT L L.length, 0)) := by show _ = _; unfold print8; rw [hf, prefT_all]
    have hE1 := hE.below hb1
    clear hyes hno hf hP
    go_wp2_with fail
    obtain ⟨W2, hW2⟩ : ∃ W2, W2 = w1.alloc (Obj.cells #[.pointer none, .slice none 0 0] 73) := ⟨_, rfl⟩
    have hbk : W2.heap[w1.heap.size]? = some (.cells #[.pointer none, .slice none 0 0] 73 (0, 0)) := by rw [hW2]; exact World.alloc_heap_new w1 _
    have hB2 : Below w1.heap.size w1 W2 := by rw [hW2]; exact (Below.refl _ _).alloc (Nat.le_refl _) _
    have hIB : Lib.IsBuilder 73 5 w1.heap.size w1.heap.size (Lib.byteCells (prefT L 0)) W2 := .inl ⟨Nat.le_refl _, _, hbk, World.ownsRow_nil _ _ _ _, by simp [Value.ownBlock]⟩
    rw [← hW2]
    clear hW2
    go_loopw [19] (fun i wr => ∃ k : Nat, k ≤ L.length ∧ i = .int .i64 (k : Int) ∧ Hid (Lib.IsBuilder 73 5 w1.heap.size w1.heap.size (Lib.byteCells (prefT L k)) wr ∧ Below w1.heap.size w1 wr)) (fun i _ => L.length - (intOf i).toNat)
    case atStart => exact ⟨0, Nat.zero_le _, rfl, (show Hid _ from ⟨hIB, hB2⟩)⟩
    case round =>
      obtain ⟨k, hk, rfl, hall⟩ := hrel
      obtain ⟨hI, hB⟩ := hall.out
      clear hall hIB hB2 hbk
      have hpl := prefT_len hForm hNeat hL1 k hk
      by_cases hlt : k < L.length
      · have hd : decide ((k : Int) < (L.length : Int)) = true := by simpa using hlt
        have hrow1 := hrow.keep (hB.block g hg1)
        obtain ⟨n0, n1, n2, n3⟩ := hrow1 k hlt
        simp only [Nat.zero_add] at n0 n1 n2 n3
        have hx := hNeat L[k]! (by rw [getElem!_pos L k hlt]; exact List.getElem_mem hlt)
        have hto : leadOp L[k]!.op = true → toOf L L[k]! < L.length := fun h => (toOf_lt hForm hlt h).1
        have hsucc := prefT_succ hlt
        obtain ⟨z, hz⟩ : ∃ z, z = L[k]! := ⟨_, rfl⟩
        rw [← hz] at n0 n1 n2 n3 hx hto hsucc
        obtain ⟨tz, htz⟩ : ∃ tz, tz = toOf L z := ⟨_, rfl⟩
        rw [← htz] at n3 hto
        replace hz := Lib.hid hz
        have hll : longOp z.op = false → leadOp z.op = false := fun h => by
          cases hq : leadOp z.op with
          | false => rfl
          | true => rw [longOp_lead hq] at h; cases h
        have hb5 := opName_len hx.lt
        have hOr := (hE1.below hB).ops
        obtain ⟨Wa, hWa⟩ : ∃ Wa, Wa = wr.alloc (.cells #[.int .i64 (z.off : Int), .int .i64 (z.op : Int), .int .i64 (z.opd : Int), .int .i64 (tz : Int)] 66) := ⟨_, rfl⟩
        have hba : Below wr.heap.size wr Wa := by rw [hWa]; exact (Below.refl _ _).alloc (Nat.le_refl _) _
        have hAx : Arr Wa wr.heap.size 66 [.int .i64 (z.off : Int), .int .i64 (z.op : Int), .int .i64 (z.opd : Int), .int .i64 (tz : Int)] := by rw [hWa]; exact Arr.new rfl rfl
        have hBa := hB.trans (hba.mono hB.size)
        have hIa : IsB w1.heap.size (prefT L k) Wa := isBuilder_below hI hba
        have hkd := kind_any z.off z.op z.opd tz Wa hx.lt (hE1.below hBa).ops (hE1.below hBa).ops.lt
        unfold insAgg opVals at hkd
        obtain ⟨nn, hnn⟩ : ∃ nn, nn = outN L z := ⟨_, rfl⟩
        have hnb : nn ≤ 65535 := by
          rw [hnn]
          unfold outN
          split
          · rename_i h
            have := hto h
            rw [htz] at this
            omega
          · have := hx.opd; omega
        rw [← hnn] at hsucc
        replace hnn := Lib.hid hnn
        replace htz := Lib.hid htz
        obtain ⟨bcs, hbc⟩ := isBuilder_heap hI
        have hblt := (Array.getElem?_eq_some_iff.1 hbc).1
        have hdl := decDigits_le (u := nn) (by omega)
        cases hlg : longOp z.op with
        | false =>
          have hld := hll hlg
          rw [hlg, hld] at hkd
          have hline : lineT z.op nn = opName z.op := by unfold lineT; rw [hlg]; simp
          rw [hline] at hsucc
          replace hkd := Lib.hid hkd
          replace hsucc := Lib.hid hsucc
          replace hlg := Lib.hid hlg
          replace hld := Lib.hid hld
          clear hline
          go_wp2_with fail
          rw [← hWa]
          refine hkd.out.mono ?_
          rintro e W3 ⟨rfl, hb3⟩
          have hI3 := isBuilder_below hIa hb3
          have hA3 := hAx.below hb3
          have hB3 := hBa.trans (hb3.mono hBa.size)
          obtain ⟨Wk, hWk⟩ : ∃ Wk, Wk = W3.alloc (.cells #[.string (str (opName z.op)), .int .i64 (takesOp z.op : Nat), .int .i64 (putsOp z.op : Nat), .bool false, .bool false] 75) := ⟨_, rfl⟩
          have hbk : Below W3.heap.size W3 Wk := by rw [hWk]; exact (Below.refl _ _).alloc (Nat.le_refl _) _
          have hAk : Arr Wk W3.heap.size 75 [.string (str (opName z.op)), .int .i64 (takesOp z.op : Nat), .int .i64 (putsOp z.op : Nat), .bool false, .bool false] := by rw [hWk]; exact Arr.new rfl rfl
          have hIk := isBuilder_below hI3 hbk
          have hAxk := hA3.below hbk
          have hBk := hB3.trans (hbk.mono hB3.size)
          have hs3 := hba.size
          have hs3b := Nat.lt_of_lt_of_le hAx.lt hb3.size
          have hw1 := Lib.hid (write_any w1.heap.size (prefT L k) (opName z.op) Wk hIk (by omega))
          clear hkd hI3 hA3 hIa hI
          go_wp2_with fail
          rw [← hWk]
          refine hw1.out.mono ?_
          rintro e W4 ⟨rfl, hI4, hb4, hk4⟩
          have hA4 := hk4.arr hAxk (by omega) (by decide)
          have hAk4 := hk4.arr hAk (by omega) (by decide)
          have hB4 := hBk.trans hb4
          have r3 := hAk4.cell (j := 3) rfl
          have r4 := hAk4.cell (j := 4) rfl
          clear hw1 hWk hWa
          have hw2 := write_any w1.heap.size (prefT L k ++ opName z.op) [10] W4 hI4 (by rw [List.length_append, List.length_singleton]; omega)
          rw [show str [10] = ⟨#[10]⟩ from rfl] at hw2
          replace hw2 := Lib.hid hw2
          go_wp2_with fail
          refine hw2.out.mono ?_
          rintro e W5 ⟨rfl, hI5, hb5', hk5⟩
          have hB5 := hB4.trans hb5'
          rw [List.append_assoc, ← hsucc.out] at hI5
          replace hI5 := Lib.hid hI5
          go_wp2_with fail
          exact ⟨⟨k + 1, by omega, by go_num, (show Hid _ from ⟨hI5.out, hB5⟩)⟩, by simp [intOf]; omega⟩
        | true =>
          have hline : lineT z.op nn = opName z.op ++ 32 :: Lib.decDigits nn := by unfold lineT; rw [hlg]; rfl
          rw [hline] at hsucc
          have hadd := add_str [32] (Lib.decDigits nn) (by simp only [List.length_cons, List.length_nil]; omega)
          rw [show str [32] = ⟨#[32]⟩ from rfl] at hadd
          rw [show [32] ++ Lib.decDigits nn = 32 :: Lib.decDigits nn from rfl] at hadd
          rw [hlg] at hkd
          replace hlg := Lib.hid hlg
          clear hline
          cases hld : leadOp z.op with
          | false =>
            have hno : nn = z.opd := by rw [hnn.out]; unfold outN; rw [hld]; rfl
            rw [hld] at hkd
            replace hkd := Lib.hid hkd
            replace hsucc := Lib.hid hsucc
            replace hld := Lib.hid hld
            rw [← hno] at n2 hAx hkd hWa
            clear hno
            go_wp2_with fail
            rw [← hWa]
            refine hkd.out.mono ?_
            rintro e W3 ⟨rfl, hb3⟩
            have hI3 := isBuilder_below hIa hb3
            have hA3 := hAx.below hb3
            have hB3 := hBa.trans (hb3.mono hBa.size)
            obtain ⟨Wk, hWk⟩ : ∃ Wk, Wk = W3.alloc (.cells #[.string (str (opName z.op)), .int .i64 (takesOp z.op : Nat), .int .i64 (putsOp z.op : Nat), .bool true, .bool false] 75) := ⟨_, rfl⟩
            have hbk : Below W3.heap.size W3 Wk := by rw [hWk]; exact (Below.refl _ _).alloc (Nat.le_refl _) _
            have hAk : Arr Wk W3.heap.size 75 [.string (str (opName z.op)), .int .i64 (takesOp z.op : Nat), .int .i64 (putsOp z.op : Nat), .bool true, .bool false] := by rw [hWk]; exact Arr.new rfl rfl
            have hIk := isBuilder_below hI3 hbk
            have hAxk := hA3.below hbk
            have hBk := hB3.trans (hbk.mono hB3.size)
            have hs3 := hba.size
            have hs3b := Nat.lt_of_lt_of_le hAx.lt hb3.size
            have hw1 := Lib.hid (write_any w1.heap.size (prefT L k) (opName z.op) Wk hIk (by omega))
            clear hkd hI3 hA3 hIa hI
            go_wp2_with fail
            rw [← hWk]
            refine hw1.out.mono ?_
            rintro e W4 ⟨rfl, hI4, hb4, hk4⟩
            have hA4 := hk4.arr hAxk (by omega) (by decide)
            have hAk4 := hk4.arr hAk (by omega) (by decide)
            have hB4 := hBk.trans hb4
            have r3 := hAk4.cell (j := 3) rfl
            have r4 := hAk4.cell (j := 4) rfl
            clear hw1 hWk hWa
            have q2 := hA4.cell (j := 2) rfl
            have hit := itoa_any (nn : Int) W4 ⟨by omega, by omega⟩ (hE1.below hB4)
            rw [itoa_nat] at hit
            replace hit := Lib.hid hit
            go_wp2_with fail
            refine hit.out.mono ?_
            rintro e W5 ⟨rfl, hb5⟩
            have hI5 := isBuilder_below hI4 hb5
            have hB5 := hB4.trans (hb5.mono hB4.size)
            have hw2 := Lib.hid (write_any w1.heap.size (prefT L k ++ opName z.op) (32 :: Lib.decDigits nn) W5 hI5 (by rw [List.length_append, List.length_cons]; omega))
            clear hit
            go_wp2_with fail
            refine hw2.out.mono ?_
            rintro e W6 ⟨rfl, hI6, hb6, _⟩
            have hB6 := hB5.trans hb6
            have hw3 := write_any w1.heap.size (prefT L k ++ opName z.op ++ 32 :: Lib.decDigits nn) [10] W6 hI6 (by rw [List.length_append, List.length_append, List.length_cons, List.length_singleton]; omega)
            rw [show str [10] = ⟨#[10]⟩ from rfl] at hw3
            replace hw3 := Lib.hid hw3
            clear hw2
            go_wp2_with fail
            refine hw3.out.mono ?_
            rintro e W7 ⟨rfl, hI7, hb7, _⟩
            have hB7 := hB6.trans hb7
            rw [List.append_assoc, List.append_assoc, ← List.append_assoc (opName z.op), ← hsucc.out] at hI7
            replace hI7 := Lib.hid hI7
            go_wp2_with fail
            exact ⟨⟨k + 1, by omega, by go_num, (show Hid _ from ⟨hI7.out, hB7⟩)⟩, by simp [intOf]; omega⟩
          | true =>
            have hno : nn = tz := by rw [hnn.out, htz.out]; unfold outN; rw [hld]; rfl
            rw [hld] at hkd
            replace hkd := Lib.hid hkd
            replace hsucc := Lib.hid hsucc
            replace hld := Lib.hid hld
            rw [← hno] at n3 hAx hkd hWa
            clear hno
            go_wp2_with fail
            rw [← hWa]
            refine hkd.out.mono ?_
            rintro e W3 ⟨rfl, hb3⟩
            have hI3 := isBuilder_below hIa hb3
            have hA3 := hAx.below hb3
            have hB3 := hBa.trans (hb3.mono hBa.size)
            obtain ⟨Wk, hWk⟩ : ∃ Wk, Wk = W3.alloc (.cells #[.string (str (opName z.op)), .int .i64 (takesOp z.op : Nat), .int .i64 (putsOp z.op : Nat), .bool true, .bool true] 75) := ⟨_, rfl⟩
            have hbk : Below W3.heap.size W3 Wk := by rw [hWk]; exact (Below.refl _ _).alloc (Nat.le_refl _) _
            have hAk : Arr Wk W3.heap.size 75 [.string (str (opName z.op)), .int .i64 (takesOp z.op : Nat), .int .i64 (putsOp z.op : Nat), .bool true, .bool true] := by rw [hWk]; exact Arr.new rfl rfl
            have hIk := isBuilder_below hI3 hbk
            have hAxk := hA3.below hbk
            have hBk := hB3.trans (hbk.mono hB3.size)
            have hs3 := hba.size
            have hs3b := Nat.lt_of_lt_of_le hAx.lt hb3.size
            have hw1 := Lib.hid (write_any w1.heap.size (prefT L k) (opName z.op) Wk hIk (by omega))
            clear hkd hI3 hA3 hIa hI
            go_wp2_with fail
            rw [← hWk]
            refine hw1.out.mono ?_
            rintro e W4 ⟨rfl, hI4, hb4, hk4⟩
            have hA4 := hk4.arr hAxk (by omega) (by decide)
            have hAk4 := hk4.arr hAk (by omega) (by decide)
            have hB4 := hBk.trans hb4
            have r3 := hAk4.cell (j := 3) rfl
            have r4 := hAk4.cell (j := 4) rfl
            clear hw1 hWk hWa
            have q3 := hA4.cell (j := 3) rfl
            have f2 := hA4.free 2
            have q2' := hA4.cell (j := 2) rfl
            have hA5 := hA4.set 2 (.int .i64 (nn : Int))
            have hI4' : IsB w1.heap.size (prefT L k ++ opName z.op) (W4.setCell ⟨wr.heap.size, 2, none⟩ (.int .i64 (nn : Int))) := isB_set hI4 hA4 (by decide) (by decide)
            have hAk5 := (hAk4.other (b := wr.heap.size) (o := 2) (.int .i64 (nn : Int)) (by omega))
            have r3' := hAk5.cell (j := 3) rfl
            have q2 := hA5.cell (j := 2) rfl
            have hB4' := hB4.setCell (p := ⟨wr.heap.size, 2, none⟩) (show w1.heap.size ≤ wr.heap.size from hB.size) (.int .i64 (nn : Int))
            have hit := itoa_any (nn : Int) (W4.setCell ⟨wr.heap.size, 2, none⟩ (.int .i64 (nn : Int))) ⟨by omega, by omega⟩ (hE1.below hB4')
            rw [itoa_nat] at hit
            replace hit := Lib.hid hit
            go_wp2_with fail
            refine hit.out.mono ?_
            rintro e W5 ⟨rfl, hb5⟩
            have hI5 := isBuilder_below hI4' hb5
            have hB5 := hB4'.trans (hb5.mono hB4'.size)
            have hw2 := Lib.hid (write_any w1.heap.size (prefT L k ++ opName z.op) (32 :: Lib.decDigits nn) W5 hI5 (by rw [List.length_append, List.length_cons]; omega))
            clear hit
            go_wp2_with fail
            refine hw2.out.mono ?_
            rintro e W6 ⟨rfl, hI6, hb6, _⟩
            have hB6 := hB5.trans hb6
            have hw3 := write_any w1.heap.size (prefT L k ++ opName z.op ++ 32 :: Lib.decDigits nn) [10] W6 hI6 (by rw [List.length_append, List.length_append, List.length_cons, List.length_singleton]; omega)
            rw [show str [10] = ⟨#[10]⟩ from rfl] at hw3
            replace hw3 := Lib.hid hw3
            clear hw2
            go_wp2_with fail
            refine hw3.out.mono ?_
            rintro e W7 ⟨rfl, hI7, hb7, _⟩
            have hB7 := hB6.trans hb7
            rw [List.append_assoc, List.append_assoc, ← List.append_assoc (opName z.op), ← hsucc.out] at hI7
            replace hI7 := Lib.hid hI7
            go_wp2_with fail
            exact ⟨⟨k + 1, by omega, by go_num, (show Hid _ from ⟨hI7.out, hB7⟩)⟩, by simp [intOf]; omega⟩
      · have hd : decide ((k : Int) < (L.length : Int)) = false := by simpa using hlt
        obtain rfl : k = L.length := by omega
        have hne2 : prefT L L.length ≠ [] := by
          obtain ⟨j, hj⟩ : ∃ j, L.length = j + 1 := ⟨L.length - 1, by omega⟩
          rw [hj, prefT_succ (by omega)]
          simp
        have hS := String_some w1.heap.size w1.heap.size (prefT L L.length) wr hI hne2
        generalize prefT L L.length = ls at *
        replace hS := Lib.hid hS
        clear hI
        go_wp2_with fail
        refine hS.out.mono ?_
        rintro e W3 ⟨rfl, hk3, hb3⟩
        go_wp2_with fail
        go_ret2
        exact ⟨by rw [hpr.out]; rfl, hb1.trans ((hB.trans hb3).mono hb1.size)⟩
end Go.Proofs.YtainohbfcehpoaaDoor
namespace Go.Proofs.YtainohbfcehpoaaDoor
open Go.RowKit Go.Shelf

theorem str_beq (a b : List UInt8) : ((str a).toList == (str b).toList) = (a == b) := by rw [ByteArray.toList_eq, ByteArray.toList_eq, str_list, str_list]
theorem str_beq2 (a b : List UInt8) : (str a).toList = (str b).toList ↔ a = b := by rw [ByteArray.toList_eq, ByteArray.toList_eq, str_list, str_list]
set_option maxHeartbeats 1000000 in
theorem match_any (o : Nat) (nm : List UInt8) (lg : Bool) (b4 b6 : Nat) (w : World) (h4 : Boxed w b4 9 (.string (str nm))) (h6 : Boxed w b6 4 (.bool lg)) :
    Calls Tryd.prog 53 #[.agg (opVals o).toArray, .pointer (some ⟨b4, 0, none⟩), .pointer (some ⟨b6, 0, none⟩)] w fun e w' => e = .returned (.bool (opName o == nm && longOp o == lg)) ∧ Below w.heap.size w w' := by
  have hb : Below w.heap.size w (w.alloc (.cells (opVals o).toArray 75)) := (Below.refl _ _).alloc (Nat.le_refl _) _
  have c4 := (boxed_below h4 hb).cell
  have c6 := (boxed_below h6 hb).cell
  unfold opVals at *
  generalize opName o = on at *
  generalize longOp o = lo at *
  have hbq := str_beq on nm
  have hb2 := str_beq2 on nm
  cases he : (on == nm) with
  | true =>
    rw [he] at hbq
    have h2 := hb2.2 (by simpa using he)
    replace he := Lib.hid he
    clear hb2
    go_enter Tryd.func53, Tryd.ntmps53
    go_wp2_with fail
    go_ret
    exact ⟨by rw [Bool.true_and]; rfl, hb⟩
  | false =>
    rw [he] at hbq
    have h2 : ¬ (str on).toList = (str nm).toList := fun h => by
      have := hb2.1 h
      subst this
      simp at he
    replace he := Lib.hid he
    clear hb2
    go_enter Tryd.func53, Tryd.ntmps53
    go_wp2_with fail
    go_ret
    exact ⟨by rw [Bool.false_and]; rfl, hb⟩
theorem opOf_first {nm : List UInt8} {lg : Bool} {o : Nat} (ho : o < 12) (h : (opName o == nm && longOp o == lg) = true) (hn : ∀ k, k < o → (opName k == nm && longOp k == lg) = false) : opOf nm lg = some o := by
  unfold opOf
  rw [List.find?_eq_some_iff_append]
  refine ⟨h, List.range o, (List.range (12 - o - 1)).map (fun k => o + 1 + k), ?_, fun k hk => ?_⟩
  · have e : 12 = o + (1 + (12 - o - 1)) := by omega
    conv => lhs; rw [e]
    rw [List.range_add, List.range_add]
    simp [Nat.add_assoc]
  · have := hn k (by simpa using hk)
    rw [this]
    rfl
theorem opOf_none {nm : List UInt8} {lg : Bool} (hn : ∀ k, k < 12 → (opName k == nm && longOp k == lg) = false) : opOf nm lg = none := by
  unfold opOf
  rw [List.find?_eq_none]
  intro k hk
  have := hn k (by simpa using hk)
  rw [this]
  decide
def opZ (nm : List UInt8) (lg : Bool) : Int := match opOf nm lg with | some o => (o : Int) | none => -1
set_option maxRecDepth 100000 in
set_option maxHeartbeats 2000000 in
theorem index_any (nm : List UInt8) (lg : Bool) (b4 b6 : Nat) (w : World) (hO : OpsIs w) (h4 : Boxed w b4 9 (.string (str nm))) (h6 : Boxed w b6 4 (.bool lg)) :
    Calls Tryd.prog 52 #[.slice (some ⟨3, 0, none⟩) 12 12, .func (.func 53) #[] #[.pointer (some ⟨b4, 0, none⟩), .pointer (some ⟨b6, 0, none⟩)]] w fun e w' => e = .returned (.int .i64 (opZ nm lg)) ∧ Below w.heap.size w w' := by
  have hB : Below w.heap.size w w := Below.refl _ _
  go_enter Tryd.func52, Tryd.ntmps52
  go_wp2_with fail
  go_loopw [8] (fun i wr => ∃ x : Nat, x ≤ 12 ∧ i = .int .i64 (x : Int) ∧ Hid ((∀ k, k < x → (opName k == nm && longOp k == lg) = false) ∧ Below w.heap.size w wr)) (fun i _ => 12 - (intOf i).toNat)
  case atStart => exact ⟨0, Nat.zero_le _, rfl, (show Hid _ from ⟨fun k hk => absurd hk (Nat.not_lt_zero _), hB⟩)⟩
  case round =>
    obtain ⟨x, hx, rfl, hall⟩ := hrel
    obtain ⟨hno, hBr⟩ := hall.out
    replace hno := Lib.hid hno
    clear hall
    by_cases hlt : x < 12
    · have hd : decide ((x : Int) < 12) = true := by simp; omega
      have hOr := hO.below hBr hO.lt
      have c0 := hOr x hlt 0 (by omega)
      have c1 := hOr x hlt 1 (by omega)
      have c2 := hOr x hlt 2 (by omega)
      have c3 := hOr x hlt 3 (by omega)
      have c4 := hOr x hlt 4 (by omega)
      simp only [opVals, List.getElem?_cons_zero, List.getElem?_cons_succ, Nat.add_zero] at c0 c1 c2 c3 c4
      have hm := match_any x nm lg b4 b6 wr ((hBr.block b4 h4.lt).trans h4) ((hBr.block b6 h6.lt).trans h6)
      unfold opVals at hm
      have i1 : (x : Int) < 12 := by omega
      have hf := fun h => opOf_first (nm := nm) (lg := lg) hlt h hno.out
      cases hq : (opName x == nm && longOp x == lg) with
      | true =>
        rw [hq] at hm
        have hz : Hid (opZ nm lg = (x : Int)) := by show _ = _; unfold opZ; rw [hf hq]
        replace hm := Lib.hid hm
        replace hq := Lib.hid hq
        clear hf hOr
        go_wp2_with fail
        refine hm.out.mono ?_
        rintro e w2 ⟨rfl, hb2⟩
        have hB2 := hBr.trans (hb2.mono hBr.size)
        go_wp2_with fail
        go_ret
        exact ⟨by rw [hz.out]; rfl, hB2⟩
      | false =>
        rw [hq] at hm
        replace hm := Lib.hid hm
        have hno2 : Hid (∀ k, k < x + 1 → (opName k == nm && longOp k == lg) = false) := fun k hk => by
          by_cases e : k = x
          · subst e; exact hq
          · exact hno.out k (by omega)
        replace hq := Lib.hid hq
        clear hf hOr
        go_wp2_with fail
        refine hm.out.mono ?_
        rintro e w2 ⟨rfl, hb2⟩
        have hB2 := hBr.trans (hb2.mono hBr.size)
        go_wp2_with fail
        exact ⟨⟨x + 1, by omega, by go_num, (show Hid _ from ⟨hno2.out, hB2⟩)⟩, by simp [intOf]; omega⟩
    · have hd : decide ((x : Int) < 12) = false := by simp; omega
      obtain rfl : x = 12 := by omega
      have hz : Hid (opZ nm lg = -1) := by show _ = _; unfold opZ; rw [opOf_none hno.out]
      go_wp2_with fail
      go_ret
      exact ⟨by rw [hz.out]; rfl, hBr⟩
def readV : Option (Nat × Nat) → Value
  | some (o, n) => .tuple #[insAgg 0 o n 0, .bool true]
  | none => .tuple #[insAgg 0 0 0 0, .bool false]
theorem cut_false {s : List UInt8} {k : UInt8} (h : (Lib.cut s [k]).2.2 = false) : (Lib.cut s [k]).2.1 = [] := by
  rcases cut_one k s with ⟨p, _, hc⟩ | ⟨p, r, _, hc, _⟩
  · rw [hc]
  · rw [hc] at h; cases h
theorem cut_len (s : List UInt8) (k : UInt8) : (Lib.cut s [k]).1.length ≤ s.length ∧ (Lib.cut s [k]).2.1.length ≤ s.length := by
  rcases cut_one k s with ⟨p, hp, hc⟩ | ⟨p, r, _, hc, hs⟩
  · rw [hc]
    have := cutAll_le k s p (by rw [hp]; simp)
    exact ⟨this, Nat.zero_le _⟩
  · rw [hc, hs]
    simp
    omega
set_option maxRecDepth 100000 in
set_option maxHeartbeats 4000000 in
theorem read_any (s : List UInt8) (w : World) (hs : s.length ≤ 1000000) (hE : Env w) :
    Calls Tryd.prog 43 #[.string (str s)] w fun e w' => e = .returned (readV (readT s)) ∧ Below w.heap.size w w' := by
  have hcut := fun w hE => cut_any 32 s w (by omega) hE
  rw [show str [32] = ⟨#[32]⟩ from rfl] at hcut
  have hcf := cut_false (s := s) (k := 32)
  have hcl := (cut_len s 32).2
  have hread : readT s = match opOf (Lib.cut s [32]).1 (Lib.cut s [32]).2.2 with
    | none => none
    | some o => if longOp o then (numC (Lib.cut s [32]).2.1).map fun n => (o, n) else some (o, 0) := rfl
  generalize (Lib.cut s [32]).1 = nm at *
  generalize (Lib.cut s [32]).2.1 = num at *
  generalize (Lib.cut s [32]).2.2 = lg at *
  obtain ⟨W0, hW0⟩ : ∃ W0, W0 = w.alloc (.cells #[.int .i64 0, .int .i64 0, .int .i64 0, .int .i64 0] 66) := ⟨_, rfl⟩
  have hb0 : Below w.heap.size w W0 := by rw [hW0]; exact (Below.refl _ _).alloc (Nat.le_refl _) _
  have hA0 : Arr W0 w.heap.size 66 [.int .i64 0, .int .i64 0, .int .i64 0, .int .i64 0] := by rw [hW0]; exact Arr.new rfl rfl
  have hE0 := hE.below hb0
  replace hcut := Lib.hid (hcut W0 hE0)
  replace hread := Lib.hid hread
  go_enter Tryd.func43, Tryd.ntmps43
  go_wp2_with fail
  rw [← hW0]
  clear hW0
  refine hcut.out.mono ?_
  rintro e w1 ⟨rfl, q, rfl⟩
  have hb1 : Below W0.heap.size W0 (W0.drewN q) := below_drewQ (Below.refl _ _) q
  have hA1 := hA0.below hb1
  have hE1 := hE0.below hb1
  have hB1 := hb0.trans (hb1.mono hb0.size)
  have hlt1 := hA1.lt
  generalize W0.drewN q = W1 at *
  obtain ⟨W2, hW2⟩ : ∃ W2, W2 = (W1.alloc (.cells #[.string (str nm)] 9)).alloc (.cells #[.bool lg] 4) := ⟨_, rfl⟩
  have hb2 : Below W1.heap.size W1 W2 := by rw [hW2]; exact ((Below.refl _ _).alloc (Nat.le_refl _) _).alloc (by simp) _
  have h4 : Boxed W2 W1.heap.size 9 (.string (str nm)) := by rw [hW2]; exact (Boxed.new W1 _ _).alloc _
  have h6 : Boxed W2 (W1.heap.size + 1) 4 (.bool lg) := by
    rw [hW2]
    have := Boxed.new (W1.alloc (.cells #[.string (str nm)] 9)) 4 (.bool lg)
    simpa using this
  have hE2 := hE1.below hb2
  have hA2 := hA1.below hb2
  have hB2 := hB1.trans (hb2.mono hB1.size)
  have hix := Lib.hid (index_any nm lg W1.heap.size (W1.heap.size + 1) W2 hE2.ops h4 h6)
  have hmf : ∀ (fn : Fn) (first cap : Array Value) (w : World), (Instr.makeFunc fn first cap).run Tryd.prog w = .ok (.func fn first cap) w := fun _ _ _ _ => rfl
  clear hcut hA0 hA1
  go_wp2_with fail
  rw [← hW2]
  clear hW2
  refine hix.out.mono ?_
  rintro e W3 ⟨rfl, hb3⟩
  have hA3 := hA2.below hb3
  have hE3 := hE2.below hb3
  have hB3 := hB2.trans (hb3.mono hB2.size)
  have c6 := (boxed_below h6 hb3).cell
  clear hix hA2 h4
  cases ho : opOf nm lg with
  | none =>
    have hrd : Hid (readT s = none) := by show _ = _; rw [hread.out, ho]
    have hz : opZ nm lg = -1 := by unfold opZ; rw [ho]
    rw [hz]
    replace ho := Lib.hid ho
    clear hz
    have hA5 := (((hA3.set 0 (.int .i64 0)).set 1 (.int .i64 0)).set 2 (.int .i64 0)).set 3 (.int .i64 0)
    have r0 := hA5.cell (j := 0) rfl
    have r1 := hA5.cell (j := 1) rfl
    have r2 := hA5.cell (j := 2) rfl
    have r3 := hA5.cell (j := 3) rfl
    have s0 := hA3.cell (j := 0) rfl
    have s1 := (hA3.set 0 (.int .i64 0)).cell (j := 1) rfl
    have s2 := ((hA3.set 0 (.int .i64 0)).set 1 (.int .i64 0)).cell (j := 2) rfl
    have s3 := (((hA3.set 0 (.int .i64 0)).set 1 (.int .i64 0)).set 2 (.int .i64 0)).cell (j := 3) rfl
    have t0 := hA3.free 0
    have t1 := hA3.free 1
    have t2 := hA3.free 2
    have t3 := hA3.free 3
    have hfin : Hid (∀ W, W = (((W3.setCell ⟨w.heap.size, 0, none⟩ (.int .i64 0)).setCell ⟨w.heap.size, 1, none⟩ (.int .i64 0)).setCell ⟨w.heap.size, 2, none⟩ (.int .i64 0)).setCell ⟨w.heap.size, 3, none⟩ (.int .i64 0) → Below w.heap.size w W) := fun W e => by
      subst e
      exact (((hB3.setCell (p := ⟨w.heap.size, 0, none⟩) (Nat.le_refl _) _).setCell (p := ⟨w.heap.size, 1, none⟩) (Nat.le_refl _) _).setCell (p := ⟨w.heap.size, 2, none⟩) (Nat.le_refl _) _).setCell (p := ⟨w.heap.size, 3, none⟩) (Nat.le_refl _) _
    clear hA5 hA3 hread
    go_wp2_with fail
    exact bodyPost_ret (v := .tuple #[.agg #[.int .i64 0, .int .i64 0, .int .i64 0, .int .i64 0], .bool false]) (by simp [results, Tryd.f43, go_sem, r0, r1, r2, r3]) rfl ⟨by rw [hrd.out]; rfl, hfin.out _ rfl⟩
  | some o =>
    have hz : opZ nm lg = (o : Int) := by unfold opZ; rw [ho]
    obtain ⟨ho12, hon, hol⟩ := opOf_some ho
    rw [hz]
    clear hz
    have hd0 : decide ((o : Int) < 0) = false := by simp
    have hn0 : ¬ (o : Int) < 0 := by omega
    have hat := Lib.hid (atoi_any num W3 (by omega) hE3)
    go_wp2_with fail
    refine hat.out.mono ?_
    rintro e W4 ⟨hpost, hb4⟩
    have hA4 := hA3.below hb4
    have hE4 := hE3.below hb4
    have hB4 := hB3.trans (hb4.mono hB3.size)
    have c6' := (boxed_below (boxed_below h6 hb3) hb4).cell
    clear hat c6 hA3
    cases hlg : lg with
    | false =>
      subst hlg
      have hnum := hcf rfl
      subst hnum
      have hv0 : ∃ x, e = .returned (.tuple #[.int .i64 0, x]) := by
        rcases hpost with ⟨v, h1, _⟩ | ⟨_, v, a, _, h2, h3⟩
        · cases h1
        · rw [h2 rfl] at h3
          exact ⟨_, h3⟩
      obtain ⟨x, rfl⟩ := hv0
      have hrd : Hid (readT s = some (o, 0)) := by
        show _ = _
        rw [hread.out, ho]
        dsimp only
        rw [hol, if_neg (by decide)]
      replace ho := Lib.hid ho
      clear hpost
      have hA5 := (((hA4.set 0 (.int .i64 0)).set 1 (.int .i64 (o : Int))).set 2 (.int .i64 0)).set 3 (.int .i64 0)
      have r0 := hA5.cell (j := 0) rfl
      have r1 := hA5.cell (j := 1) rfl
      have r2 := hA5.cell (j := 2) rfl
      have r3 := hA5.cell (j := 3) rfl
      have s0 := hA4.cell (j := 0) rfl
      have s1 := (hA4.set 0 (.int .i64 0)).cell (j := 1) rfl
      have s2 := ((hA4.set 0 (.int .i64 0)).set 1 (.int .i64 (o : Int))).cell (j := 2) rfl
      have s3 := (((hA4.set 0 (.int .i64 0)).set 1 (.int .i64 (o : Int))).set 2 (.int .i64 0)).cell (j := 3) rfl
      have t0 := hA4.free 0
      have t1 := hA4.free 1
      have t2 := hA4.free 2
      have t3 := hA4.free 3
      have hfin : Hid (∀ W, W = (((W4.setCell ⟨w.heap.size, 0, none⟩ (.int .i64 0)).setCell ⟨w.heap.size, 1, none⟩ (.int .i64 (o : Int))).setCell ⟨w.heap.size, 2, none⟩ (.int .i64 0)).setCell ⟨w.heap.size, 3, none⟩ (.int .i64 0) → Below w.heap.size w W) := fun W e => by
        subst e
        exact (((hB4.setCell (p := ⟨w.heap.size, 0, none⟩) (Nat.le_refl _) _).setCell (p := ⟨w.heap.size, 1, none⟩) (Nat.le_refl _) _).setCell (p := ⟨w.heap.size, 2, none⟩) (Nat.le_refl _) _).setCell (p := ⟨w.heap.size, 3, none⟩) (Nat.le_refl _) _
      clear hA5 hA4 hread
      go_wp2_with fail
      exact bodyPost_ret (v := .tuple #[.agg #[.int .i64 0, .int .i64 (o : Int), .int .i64 0, .int .i64 0], .bool true]) (by simp [results, Tryd.f43, go_sem, r0, r1, r2, r3]) rfl ⟨by rw [hrd.out]; rfl, hfin.out _ rfl⟩
    | true =>
      subst hlg
      have hrd0 : readT s = (numC num).map fun n => (o, n) := by
        rw [hread.out, ho]
        dsimp only
        rw [hol, if_pos rfl]
      replace ho := Lib.hid ho
      rcases hpost with ⟨v, h1, hI, rfl⟩ | ⟨h1, v, a, hI, _, rfl⟩
      · by_cases hneg : v < 0
        · have hdn : decide (v < 0) = true := by simpa using hneg
          have hrd : Hid (readT s = none) := by
            show _ = _
            rw [hrd0]
            unfold numC
            rw [h1]
            dsimp only
            rw [if_neg (by omega)]
            rfl
          clear hrd0 h1
          have hA5 := (((hA4.set 0 (.int .i64 0)).set 1 (.int .i64 0)).set 2 (.int .i64 0)).set 3 (.int .i64 0)
          have r0 := hA5.cell (j := 0) rfl
          have r1 := hA5.cell (j := 1) rfl
          have r2 := hA5.cell (j := 2) rfl
          have r3 := hA5.cell (j := 3) rfl
          have s0 := hA4.cell (j := 0) rfl
          have s1 := (hA4.set 0 (.int .i64 0)).cell (j := 1) rfl
          have s2 := ((hA4.set 0 (.int .i64 0)).set 1 (.int .i64 0)).cell (j := 2) rfl
          have s3 := (((hA4.set 0 (.int .i64 0)).set 1 (.int .i64 0)).set 2 (.int .i64 0)).cell (j := 3) rfl
          have t0 := hA4.free 0
          have t1 := hA4.free 1
          have t2 := hA4.free 2
          have t3 := hA4.free 3
          have hfin : Hid (∀ W, W = (((W4.setCell ⟨w.heap.size, 0, none⟩ (.int .i64 0)).setCell ⟨w.heap.size, 1, none⟩ (.int .i64 0)).setCell ⟨w.heap.size, 2, none⟩ (.int .i64 0)).setCell ⟨w.heap.size, 3, none⟩ (.int .i64 0) → Below w.heap.size w W) := fun W e => by
            subst e
            exact (((hB4.setCell (p := ⟨w.heap.size, 0, none⟩) (Nat.le_refl _) _).setCell (p := ⟨w.heap.size, 1, none⟩) (Nat.le_refl _) _).setCell (p := ⟨w.heap.size, 2, none⟩) (Nat.le_refl _) _).setCell (p := ⟨w.heap.size, 3, none⟩) (Nat.le_refl _) _
          clear hA5 hA4 hread
          go_wp2_with fail
          exact bodyPost_ret (v := .tuple #[.agg #[.int .i64 0, .int .i64 0, .int .i64 0, .int .i64 0], .bool false]) (by simp [results, Tryd.f43, go_sem, r0, r1, r2, r3]) rfl ⟨by rw [hrd.out]; rfl, hfin.out _ rfl⟩
        · have hdn : decide (v < 0) = false := by simpa using hneg
          by_cases hbig : 65535 < v
          · have hdb : decide (v > 65535) = true := by simpa using hbig
            have hrd : Hid (readT s = none) := by
              show _ = _
              rw [hrd0]
              unfold numC
              rw [h1]
              dsimp only
              rw [if_neg (by omega)]
              rfl
            clear hrd0 h1
            have hA5 := (((hA4.set 0 (.int .i64 0)).set 1 (.int .i64 0)).set 2 (.int .i64 0)).set 3 (.int .i64 0)
            have r0 := hA5.cell (j := 0) rfl
            have r1 := hA5.cell (j := 1) rfl
            have r2 := hA5.cell (j := 2) rfl
            have r3 := hA5.cell (j := 3) rfl
            have s0 := hA4.cell (j := 0) rfl
            have s1 := (hA4.set 0 (.int .i64 0)).cell (j := 1) rfl
            have s2 := ((hA4.set 0 (.int .i64 0)).set 1 (.int .i64 0)).cell (j := 2) rfl
            have s3 := (((hA4.set 0 (.int .i64 0)).set 1 (.int .i64 0)).set 2 (.int .i64 0)).cell (j := 3) rfl
            have t0 := hA4.free 0
            have t1 := hA4.free 1
            have t2 := hA4.free 2
            have t3 := hA4.free 3
            have hfin : Hid (∀ W, W = (((W4.setCell ⟨w.heap.size, 0, none⟩ (.int .i64 0)).setCell ⟨w.heap.size, 1, none⟩ (.int .i64 0)).setCell ⟨w.heap.size, 2, none⟩ (.int .i64 0)).setCell ⟨w.heap.size, 3, none⟩ (.int .i64 0) → Below w.heap.size w W) := fun W e => by
              subst e
              exact (((hB4.setCell (p := ⟨w.heap.size, 0, none⟩) (Nat.le_refl _) _).setCell (p := ⟨w.heap.size, 1, none⟩) (Nat.le_refl _) _).setCell (p := ⟨w.heap.size, 2, none⟩) (Nat.le_refl _) _).setCell (p := ⟨w.heap.size, 3, none⟩) (Nat.le_refl _) _
            clear hA5 hA4 hread
            go_wp2_with fail
            exact bodyPost_ret (v := .tuple #[.agg #[.int .i64 0, .int .i64 0, .int .i64 0, .int .i64 0], .bool false]) (by simp [results, Tryd.f43, go_sem, r0, r1, r2, r3]) rfl ⟨by rw [hrd.out]; rfl, hfin.out _ rfl⟩
          · have hdb : decide (v > 65535) = false := by simpa using hbig
            have hit := Lib.hid (itoa_any v W4 hI hE4)
            by_cases heq : Lib.itoa v = num
            · have hrd : Hid (readT s = some (o, v.toNat)) := by
                show _ = _
                rw [hrd0]
                unfold numC
                rw [h1]
                dsimp only
                rw [if_pos ⟨by omega, by omega, heq⟩]
                rfl
              have hvn : v = ((v.toNat : Nat) : Int) := by omega
              obtain ⟨vn, hvn2⟩ : ∃ vn, vn = v.toNat := ⟨_, rfl⟩
              rw [← hvn2] at hvn hrd
              clear hvn2
              subst hvn
              have hqs : ((str (Lib.itoa (vn : Int))).toList == (str num).toList) = true := by rw [heq]; exact beq_self_eq_true _
              have hqs2 : (str (Lib.itoa (vn : Int))).toList = (str num).toList := by rw [heq]
              replace heq := Lib.hid heq
              clear hrd0 h1
              go_wp2_with fail
              refine hit.out.mono ?_
              rintro e W5 ⟨rfl, hb5⟩
              have hA5 := hA4.below hb5
              have hB5 := hB4.trans (hb5.mono hB4.size)
              clear hit hA4
              have hA6 := (((hA5.set 0 (.int .i64 0)).set 1 (.int .i64 (o : Int))).set 2 (.int .i64 (vn : Int))).set 3 (.int .i64 0)
              have r0 := hA6.cell (j := 0) rfl
              have r1 := hA6.cell (j := 1) rfl
              have r2 := hA6.cell (j := 2) rfl
              have r3 := hA6.cell (j := 3) rfl
              have s0 := hA5.cell (j := 0) rfl
              have s1 := (hA5.set 0 (.int .i64 0)).cell (j := 1) rfl
              have s2 := ((hA5.set 0 (.int .i64 0)).set 1 (.int .i64 (o : Int))).cell (j := 2) rfl
              have s3 := (((hA5.set 0 (.int .i64 0)).set 1 (.int .i64 (o : Int))).set 2 (.int .i64 (vn : Int))).cell (j := 3) rfl
              have t0 := hA5.free 0
              have t1 := hA5.free 1
              have t2 := hA5.free 2
              have t3 := hA5.free 3
              have hfin : Hid (∀ W, W = (((W5.setCell ⟨w.heap.size, 0, none⟩ (.int .i64 0)).setCell ⟨w.heap.size, 1, none⟩ (.int .i64 (o : Int))).setCell ⟨w.heap.size, 2, none⟩ (.int .i64 (vn : Int))).setCell ⟨w.heap.size, 3, none⟩ (.int .i64 0) → Below w.heap.size w W) := fun W e => by
                subst e
                exact (((hB5.setCell (p := ⟨w.heap.size, 0, none⟩) (Nat.le_refl _) _).setCell (p := ⟨w.heap.size, 1, none⟩) (Nat.le_refl _) _).setCell (p := ⟨w.heap.size, 2, none⟩) (Nat.le_refl _) _).setCell (p := ⟨w.heap.size, 3, none⟩) (Nat.le_refl _) _
              clear hA6 hA5 hread
              go_wp2_with fail
              exact bodyPost_ret (v := .tuple #[.agg #[.int .i64 0, .int .i64 (o : Int), .int .i64 (vn : Int), .int .i64 0], .bool true]) (by simp [results, Tryd.f43, go_sem, r0, r1, r2, r3]) rfl ⟨by rw [hrd.out]; rfl, hfin.out _ rfl⟩
            · have hrd : Hid (readT s = none) := by
                show _ = _
                rw [hrd0]
                unfold numC
                rw [h1]
                dsimp only
                rw [if_neg (fun h => heq h.2.2)]
                rfl
              have hqs : ((str (Lib.itoa v)).toList == (str num).toList) = false := by rw [str_beq]; simpa using heq
              have hqs2 : ¬ (str (Lib.itoa v)).toList = (str num).toList := fun h => heq ((str_beq2 _ _).1 h)
              replace heq := Lib.hid heq
              clear hrd0 h1
              go_wp2_with fail
              refine hit.out.mono ?_
              rintro e W5 ⟨rfl, hb5⟩
              have hA5 := hA4.below hb5
              have hB5 := hB4.trans (hb5.mono hB4.size)
              clear hit hA4
              have hA6 := (((hA5.set 0 (.int .i64 0)).set 1 (.int .i64 0)).set 2 (.int .i64 0)).set 3 (.int .i64 0)
              have r0 := hA6.cell (j := 0) rfl
              have r1 := hA6.cell (j := 1) rfl
              have r2 := hA6.cell (j := 2) rfl
              have r3 := hA6.cell (j := 3) rfl
              have s0 := hA5.cell (j := 0) rfl
              have s1 := (hA5.set 0 (.int .i64 0)).cell (j := 1) rfl
              have s2 := ((hA5.set 0 (.int .i64 0)).set 1 (.int .i64 0)).cell (j := 2) rfl
              have s3 := (((hA5.set 0 (.int .i64 0)).set 1 (.int .i64 0)).set 2 (.int .i64 0)).cell (j := 3) rfl
              have t0 := hA5.free 0
              have t1 := hA5.free 1
              have t2 := hA5.free 2
              have t3 := hA5.free 3
              have hfin : Hid (∀ W, W = (((W5.setCell ⟨w.heap.size, 0, none⟩ (.int .i64 0)).setCell ⟨w.heap.size, 1, none⟩ (.int .i64 0)).setCell ⟨w.heap.size, 2, none⟩ (.int .i64 0)).setCell ⟨w.heap.size, 3, none⟩ (.int .i64 0) → Below w.heap.size w W) := fun W e => by
                subst e
                exact (((hB5.setCell (p := ⟨w.heap.size, 0, none⟩) (Nat.le_refl _) _).setCell (p := ⟨w.heap.size, 1, none⟩) (Nat.le_refl _) _).setCell (p := ⟨w.heap.size, 2, none⟩) (Nat.le_refl _) _).setCell (p := ⟨w.heap.size, 3, none⟩) (Nat.le_refl _) _
              clear hA6 hA5 hread
              go_wp2_with fail
              exact bodyPost_ret (v := .tuple #[.agg #[.int .i64 0, .int .i64 0, .int .i64 0, .int .i64 0], .bool false]) (by simp [results, Tryd.f43, go_sem, r0, r1, r2, r3]) rfl ⟨by rw [hrd.out]; rfl, hfin.out _ rfl⟩
      · have hrd : Hid (readT s = none) := by
          show _ = _
          rw [hrd0]
          unfold numC
          rw [h1]
          rfl
        clear hrd0 h1
        have hA5 := (((hA4.set 0 (.int .i64 0)).set 1 (.int .i64 0)).set 2 (.int .i64 0)).set 3 (.int .i64 0)
        have r0 := hA5.cell (j := 0) rfl
        have r1 := hA5.cell (j := 1) rfl
        have r2 := hA5.cell (j := 2) rfl
        have r3 := hA5.cell (j := 3) rfl
        have s0 := hA4.cell (j := 0) rfl
        have s1 := (hA4.set 0 (.int .i64 0)).cell (j := 1) rfl
        have s2 := ((hA4.set 0 (.int .i64 0)).set 1 (.int .i64 0)).cell (j := 2) rfl
        have s3 := (((hA4.set 0 (.int .i64 0)).set 1 (.int .i64 0)).set 2 (.int .i64 0)).cell (j := 3) rfl
        have t0 := hA4.free 0
        have t1 := hA4.free 1
        have t2 := hA4.free 2
        have t3 := hA4.free 3
        have hfin : Hid (∀ W, W = (((W4.setCell ⟨w.heap.size, 0, none⟩ (.int .i64 0)).setCell ⟨w.heap.size, 1, none⟩ (.int .i64 0)).setCell ⟨w.heap.size, 2, none⟩ (.int .i64 0)).setCell ⟨w.heap.size, 3, none⟩ (.int .i64 0) → Below w.heap.size w W) := fun W e => by
          subst e
          exact (((hB4.setCell (p := ⟨w.heap.size, 0, none⟩) (Nat.le_refl _) _).setCell (p := ⟨w.heap.size, 1, none⟩) (Nat.le_refl _) _).setCell (p := ⟨w.heap.size, 2, none⟩) (Nat.le_refl _) _).setCell (p := ⟨w.heap.size, 3, none⟩) (Nat.le_refl _) _
        clear hA5 hA4 hread
        go_wp2_with fail
        exact bodyPost_ret (v := .tuple #[.agg #[.int .i64 0, .int .i64 0, .int .i64 0, .int .i64 0], .bool false]) (by simp [results, Tryd.f43, go_sem, r0, r1, r2, r3]) rfl ⟨by rw [hrd.out]; rfl, hfin.out _ rfl⟩
end Go.Proofs.YtainohbfcehpoaaDoor
