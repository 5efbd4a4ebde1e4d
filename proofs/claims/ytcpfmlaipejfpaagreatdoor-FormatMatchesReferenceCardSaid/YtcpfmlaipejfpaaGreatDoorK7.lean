/-
  The contracts of strings.Builder's methods (cut out of CqH, for seats other than chapter 12's).
  Formats of chapter 4: Print.
  Formats of chapter 4: a word that is a number.
-/
import Derived.Test.YtcpfmlaipejfpaaGreatDoorK1
import Derived.RangeFuncBox
import Derived.Shelf.Abstract
import Derived.Lib.Builder
import Derived.Test.YtcpfmlaipejfpaaGreatDoorK2
import Derived.Lib.AppendStr
import Derived.Lib.UnsafeStr
import Derived.BigRegion
import Derived.Test.YtcpfmlaipejfpaaGreatDoorK6
import Derived.Test.YtcpfmlaipejfpaaGreatDoorK5
import Derived.Test.YtcpfmlaipejfpaaGreatDoorK4
namespace Go.Proofs.YtcpfmlaipejfpaaGreatDoor
open Go.RowKit Go.Shelf

theorem Tryz.info_byte3 : (Tryz.prog.info? 5).map (fun i => (i.zero, i.size, i.bytes)) = some (some (.int .u8 0), 1, 1) := by kernel_rfl
theorem Tryz.sizeBuilder : (Tryz.prog.info? 76).map (·.size) = some 2 := by kernel_rfl
theorem Tryz.liesBuilder : liesAt Tryz.prog Tryz.prog.depth 76 (2 / Tryz.prog.cellsOf 76) 0 76 1 = true := by kernel_rfl
set_option maxHeartbeats 1000000 in
set_option maxRecDepth 100000 in
theorem copyCheck_used (b : Nat) (w : World) (h0 : w.cell? ⟨b, 0, none⟩ = some (.pointer (some ⟨b, 0, none⟩))) :
    Calls Tryz.prog 77 #[.pointer (some ⟨b, 0, none⟩)] w fun e w' => e = .returned (.tuple #[]) ∧ w' = w := by
  obtain ⟨j, hj, _⟩ := Option.map_eq_some_iff.1 Tryz.sizeBuilder
  go_enter Tryz.func77, Tryz.ntmps77
  go_wp2
  rw [Lib.run_neq_ptr_same w _ Tryz.underlying74 hj]
  go_wp2
  go_end0
  exact ⟨rfl, rfl⟩

set_option maxHeartbeats 1000000 in
set_option maxRecDepth 100000 in
theorem copyCheck_fresh (b : Nat) (w : World) (h0 : w.cell? ⟨b, 0, none⟩ = some (.pointer none)) (hsh : w.shape? b = some (76, 2)) (hfz : w.frozen? ⟨b, 0, none⟩ = false) :
    Calls Tryz.prog 77 #[.pointer (some ⟨b, 0, none⟩)] w fun e w' => e = .returned (.tuple #[]) ∧ w' = w.setCell ⟨b, 0, none⟩ (.pointer (some ⟨b, 0, none⟩)) := by
  obtain ⟨j, hj, hjs⟩ := Option.map_eq_some_iff.1 Tryz.sizeBuilder
  go_enter Tryz.func77, Tryz.ntmps77
  go_wp2
  rw [Lib.run_to_unsafe w ⟨b, 0, none⟩ Tryz.underlying74 Tryz.underlying114 hj (by rw [hjs]; decide) hsh (Nat.zero_lt_succ 1)]
  simp only [Result.andThen]
  rw [Oper.upon_value]
  go_wp2
  rw [run_callFunc_extern Tryz.func89 (by kernel_rfl) (by kernel_rfl) (by kernel_rfl) (e := Extern.AbiNoEscape.same) (by kernel_rfl)]
  rw [Lib.run_noEscape]
  simp only [Result.andThen]
  rw [Oper.upon_value]
  go_wp2
  rw [Lib.run_from_unsafe w ⟨b, 0, none⟩ Tryz.underlying114 Tryz.underlying74 hj hsh Tryz.liesBuilder]
  simp only [Result.andThen]
  rw [Oper.upon_value]
  go_wp2
  go_end0
  exact ⟨rfl, rfl⟩

/-- What the builder b's methods leave as it was: all but its own cells and rows of bytes without a mark. -/
def KeepW (b : Nat) (w w' : World) : Prop := w.heap.size ≤ w'.heap.size ∧ ∀ k o, k ≠ b → w.heap[k]? = some o → (∀ cs, o ≠ .cells cs 5 (0, 0)) → w'.heap[k]? = some o
theorem KeepW.of_below {b : Nat} {w w' : World} (h : Below w.heap.size w w') : KeepW b w w' := ⟨h.size, fun k _ _ hk _ => (h.block k (Array.getElem?_eq_some_iff.1 hk).1).trans hk⟩
theorem KeepW.trans {b : Nat} {w w' w'' : World} (h : KeepW b w w') (k : KeepW b w' w'') : KeepW b w w'' := ⟨Nat.le_trans h.1 k.1, fun j o hj ho hn => k.2 j o hj (h.2 j o hj ho hn) hn⟩
theorem KeepW.setCell {b : Nat} {w w' : World} (h : KeepW b w w') (o : Nat) (v : Value) : KeepW b w (w'.setCell ⟨b, o, none⟩ v) :=
  ⟨by simpa [World.setCell] using h.1, fun k x hk hx hn => (Below.heap_setCell w' ⟨b, o, none⟩ v k (by simpa using hk)).trans (h.2 k x hk hx hn)⟩
theorem KeepW.arr {b B : Nat} {w w' : World} {T : TypeId} {L : List Value} (h : KeepW b w w') (hA : Arr w B T L) (hB : B ≠ b) (hT : T ≠ 5) : Arr w' B T L :=
  h.2 B _ hB hA (fun cs e => by injection e with _ e; exact hT e)
theorem KeepW.others {b : Nat} {w w' : World} {T : TypeId} {cs : Array Value} {fr : Nat × Nat} (h : KeepW b w w') (hb : w.heap[b]? = some (.cells cs T fr)) : KeepsOthers w w' :=
  ⟨h.1, fun k o hk hc => h.2 k o (fun e => by subst e; rw [hb] at hk; injection hk with hk; subst hk; cases hc) hk (fun cs e => by subst e; cases hc)⟩
theorem copyCheck_any (B b : Nat) (bs : List Value) (w : World) (h : Lib.IsBuilder 76 5 B b bs w) :
    Calls Tryz.prog 77 #[.pointer (some ⟨b, 0, none⟩)] w fun e w' => e = .returned (.tuple #[]) ∧ (Lib.BuilderAt 76 5 B b (.pointer (some ⟨b, 0, none⟩)) bs w' ∧ Below B w w') ∧ KeepW b w w' := by
  rcases h with h | h
  · refine (copyCheck_fresh b w h.cell0 h.shape h.frozen0).mono ?_
    rintro e w' ⟨rfl, rfl⟩
    exact ⟨rfl, ⟨h.used _, (Below.refl B w).setCell (p := ⟨b, 0, none⟩) h.1 _⟩, (KeepW.of_below (Below.refl _ w)).setCell _ _⟩
  · refine (copyCheck_used b w h.cell0).mono ?_
    rintro e w' ⟨rfl, rfl⟩
    exact ⟨rfl, ⟨h, Below.refl B _⟩, KeepW.of_below (Below.refl _ _)⟩

set_option maxHeartbeats 2000000 in
set_option maxRecDepth 100000 in
theorem WriteString_any (B b : Nat) (bs : List Value) (s : ByteArray) (w : World) (h : Lib.IsBuilder 76 5 B b bs w) (hlen : bs.length + s.size ≤ 140737488355328) (hBw : B ≤ w.heap.size) :
    Calls Tryz.prog 41 #[.pointer (some ⟨b, 0, none⟩), .string s] w fun e w' => e = .returned (.tuple #[.int .i64 s.size, .nilIface]) ∧ (Lib.BuilderAt 76 5 B b (.pointer (some ⟨b, 0, none⟩)) (bs ++ Lib.strCells s) w' ∧ Below B w w') ∧ KeepW b w w' := by
  obtain ⟨i0, hi, hz0, hz1, hz2⟩ := info_parts Tryz.info_byte3
  go_enter Tryz.func41, Tryz.ntmps41
  go_wp2_with (go_at_call 77; refine (copyCheck_any B b bs _ h).mono ?_)
  rintro e w1 ⟨rfl, ⟨h1, hb1⟩, hk1⟩
  obtain ⟨hB, v, hbk, hown, hne⟩ := h1
  have c0 : w1.cell? ⟨b, 0, none⟩ = some (.pointer (some ⟨b, 0, none⟩)) := by rw [Lib.cell_of_heap hbk]; rfl
  have c1 : w1.cell? ⟨b, 1, none⟩ = some v := by rw [Lib.cell_of_heap hbk]; rfl
  go_wp2_with (at_builtin; refine Lib.wpList_append_own_string _ rfl _ _ 44 9 rfl B 5 i0 Tryz.underlying44 Tryz.underlying9 hi hz0 hz1 hz2 _ _ _ rfl hown s rfl ?c3 ?c4 ?c5 ?_)
  case c3 => unfold maxLen; omega
  case c4 => omega
  case c5 => have := hb1.size; omega
  intro v' w2 hown' hgrow _
  have hlt : b < w1.heap.size := by
    rcases Nat.lt_or_ge b w1.heap.size with h' | h'
    · exact h'
    · simp [Array.getElem?_eq_none h'] at hbk
  have hb2 : w2.heap[b]? = some (.cells #[.pointer (some ⟨b, 0, none⟩), v] 76 (0, 0)) := by
    rw [hgrow.block b hlt (fun e => hne e.symm)]
    exact hbk
  have d0 : w2.cell? ⟨b, 0, none⟩ = some (.pointer (some ⟨b, 0, none⟩)) := by rw [Lib.cell_of_heap hb2]; rfl
  have d1 : w2.cell? ⟨b, 1, none⟩ = some v := by rw [Lib.cell_of_heap hb2]; rfl
  have f1 : w2.frozen? ⟨b, 1, none⟩ = false := Lib.frozen_of_heap hb2 1
  obtain ⟨ao, n', cap, rfl⟩ : ∃ ao n' cap, v' = .slice ao n' cap := by
    rcases hown'.2 with ⟨hv, _⟩ | ⟨g, cap, cur, hv, _⟩
    · exact ⟨_, _, _, hv⟩
    · exact ⟨_, _, _, hv⟩
  have hk2 : KeepW b w w2 := hk1.trans ⟨hgrow.size, fun k o hk ho hn => by
    refine (hgrow.block k (Array.getElem?_eq_some_iff.1 ho).1 (fun e => ?_)).trans ho
    rcases hown.2 with ⟨hv, _⟩ | ⟨g, cap, cur, hv, _, hg, _⟩
    · rw [hv] at e; cases e
    · rw [hv] at e
      simp only [Value.ownBlock, Option.some.injEq] at e
      subst e
      rw [hg] at ho
      injection ho with ho
      exact hn _ ho.symm⟩
  replace hk2 := Lib.hid hk2
  go_wp2
  go_ret2
  refine ⟨rfl, ⟨?_, ?_⟩, hk2.out.setCell _ _⟩
  · exact Lib.BuilderAt.put (T := 76) (e := 5) hB hb2 (bs' := bs ++ Lib.strCells s) (by simpa [Lib.strCells_length] using hown') (by decide)
  · exact (hb1.grown hgrow (by have := hb1.size; omega) (fun k hk => (hown.lt k hk).1)).setCell (p := ⟨b, 1, none⟩) hB _

theorem keepW_freeze {b B g : Nat} {w : World} {cur : Array Value} (hg : w.heap[g]? = some (.cells cur 5 (0, 0))) (n : Nat) (hB : B ≤ g) : KeepW b w (w.freeze ⟨g, 0, none⟩ n) ∧ Below B w (w.freeze ⟨g, 0, none⟩ n) := by
  refine ⟨?_, Lib.below_freeze (Below.refl B w) (p := ⟨g, 0, none⟩) hB n⟩
  unfold World.freeze
  split
  · exact KeepW.of_below (Below.refl _ w)
  · refine ⟨by simp, fun k o _ ho hn => ?_⟩
    by_cases e : g = k
    · subst e
      rw [hg] at ho
      injection ho with ho
      exact absurd ho.symm (hn cur)
    · simp only [Array.getElem?_modify]
      rw [if_neg (by simpa using e)]
      exact ho
theorem KeepW.drew {b : Nat} {w w' : World} (h : KeepW b w.drew w') : KeepW b w w' := h

set_option maxHeartbeats 2000000 in
set_option maxRecDepth 100000 in
theorem String_nil (b : Nat) (p : Value) (w : World) (hbk : w.heap[b]? = some (.cells #[p, .slice none 0 0] 76 (0, 0))) :
    Calls Tryz.prog 43 #[.pointer (some ⟨b, 0, none⟩)] w fun e w' => e = .returned (.string (str [])) ∧ w' = w.drew := by
  have hUS : ∀ W : World, (Builtin.unsafeString_ #[106, 3] 9 #[.pointer none, .int .i64 0]).run Tryz.prog W = .ok (.string .empty) W := fun W => Lib.run_unsafeString_none W _ _ _ none
  have c1 : w.drew.cell? ⟨b, 1, none⟩ = some (.slice none 0 0) := by
    have : w.drew.heap[b]? = some (.cells #[p, .slice none 0 0] 76 (0, 0)) := hbk
    rw [Lib.cell_of_heap this]; rfl
  have hSD : (Builtin.unsafeSliceData_ #[44] 106 #[.slice none 0 0]).run Tryz.prog w.drew = .ok (.pointer none) w.drew := rfl
  go_enter Tryz.func43, Tryz.ntmps43
  go_wp2
  go_region
  all_goals (go_wp2; go_ret; exact ⟨rfl, rfl⟩)

set_option maxHeartbeats 2000000 in
set_option maxRecDepth 100000 in
theorem String_some (B b : Nat) (l : List UInt8) (w : World) (h : Lib.IsBuilder 76 5 B b (Lib.byteCells l) w) (h0 : l ≠ []) :
    Calls Tryz.prog 43 #[.pointer (some ⟨b, 0, none⟩)] w fun e w' => e = .returned (.string (str l)) ∧ KeepW b w w' ∧ Below B w w' := by
  obtain ⟨p, hB, v, hbk, hown, hne⟩ : ∃ p, Lib.BuilderAt 76 5 B b p (Lib.byteCells l) w := by
    rcases h with h | h
    · exact ⟨_, h⟩
    · exact ⟨_, h⟩
  have hl0 : l.length ≠ 0 := by simpa using h0
  rw [Lib.byteCells_length] at hown
  obtain ⟨g, cap, cur, rfl, hbg, hg, hnc, hcm, hcs, htake⟩ : ∃ g cap cur, v = .slice (some ⟨g, 0, none⟩) l.length cap ∧ B ≤ g ∧ w.heap[g]? = some (.cells cur 5 (0, 0)) ∧ l.length ≤ cap ∧ cap ≤ maxLen ∧ cur.size = cap * 1 ∧ cur.toList.take (l.length * 1) = Lib.byteCells l := by
    rcases hown.2 with ⟨_, hz⟩ | ⟨g, cap, cur, hv, r⟩
    · exact absurd hz hl0
    · exact ⟨g, cap, cur, hv, r⟩
  have c1 : w.drew.cell? ⟨b, 1, none⟩ = some (.slice (some ⟨g, 0, none⟩) l.length cap) := by
    have : w.drew.heap[b]? = some (.cells #[p, .slice (some ⟨g, 0, none⟩) l.length cap] 76 (0, 0)) := hbk
    rw [Lib.cell_of_heap this]; rfl
  have hSD : (Builtin.unsafeSliceData_ #[44] 106 #[.slice (some ⟨g, 0, none⟩) l.length cap]).run Tryz.prog w.drew = .ok (.pointer (some ⟨g, 0, none⟩)) w.drew :=
    Lib.run_unsafeSliceData_row _ _ _ _ _ _ (by omega)
  have hUS : (Builtin.unsafeString_ #[106, 3] 9 #[.pointer (some ⟨g, 0, none⟩), .int .i64 l.length]).run Tryz.prog w.drew = .ok (.string (str l)) (w.drew.freeze ⟨g, 0, none⟩ l.length) := by
    refine Lib.run_unsafeString_row w.drew 106 3 9 5 Tryz.underlying106 (by kernel_rfl) g cur.size (by have hg' : w.drew.heap[g]? = some (.cells cur 5 (0, 0)) := hg; simp [World.shape?, hg']) l h0 (by omega) (by unfold maxLen at hcm; omega) ?_
    intro j x hx
    have := hown.cells (g := g) rfl j (.int .u8 x.toNat) (by simp [Lib.byteCells, hx])
    exact this
  have hfz := keepW_freeze (b := b) (w := w.drew) hg l.length hbg
  replace hfz := Lib.hid hfz
  clear hown htake
  go_enter Tryz.func43, Tryz.ntmps43
  go_wp2
  go_region
  all_goals (go_wp2; go_ret; exact ⟨rfl, hfz.out.1.drew, (Below.drew (Below.refl B w)).trans hfz.out.2⟩)
theorem isBuilder_kept {T e : TypeId} {B b : Nat} {bs : List Value} {W W' : World} {row : Option Nat} (h : Lib.IsBuilder T e B b bs W) (hg : W.grownBy W' row) (hr : ∀ r, row = some r → ∃ o : Obj, W.heap[r]? = some o ∧ o.isCells = false) : Lib.IsBuilder T e B b bs W' := by
  have key : ∀ p, Lib.BuilderAt T e B b p bs W → Lib.BuilderAt T e B b p bs W' := by
    rintro p ⟨hB, v, hb, hown, hne⟩
    refine ⟨hB, v, (hg.block b (Array.getElem?_eq_some_iff.1 hb).1 (fun e' => ?_)).trans hb, hown.kept hg ?_, hne⟩
    · obtain ⟨o, ho, hc⟩ := hr b e'.symm
      rw [hb] at ho; injection ho with ho; subst ho; cases hc
    · rcases hown.2 with ⟨rfl, _⟩ | ⟨g, cap, cur, rfl, _, hgg, _⟩
      · exact .inl rfl
      · refine .inr (fun e' => ?_)
        obtain ⟨o, ho, hc⟩ := hr g e'.symm
        rw [hgg] at ho; injection ho with ho; subst ho; cases hc
  exact h.imp (key _) (key _)
theorem isBuilder_below {T e : TypeId} {B b : Nat} {bs : List Value} {W W' : World} (h : Lib.IsBuilder T e B b bs W) (hb : Below W.heap.size W W') : Lib.IsBuilder T e B b bs W' :=
  isBuilder_kept (row := none) h ⟨hb.os, hb.tape, hb.output, hb.size, fun k hk _ => hb.block k hk⟩ (fun r e => by cases e)
theorem isBuilder_heap {T e : TypeId} {B b : Nat} {bs : List Value} {W : World} (h : Lib.IsBuilder T e B b bs W) : ∃ cs, W.heap[b]? = some (.cells cs T (0, 0)) := by
  rcases h with ⟨_, v, hb, _⟩ | ⟨_, v, hb, _⟩ <;> exact ⟨_, hb⟩

end Go.Proofs.YtcpfmlaipejfpaaGreatDoor
namespace Go.Proofs.YtcpfmlaipejfpaaGreatDoor
open Go.RowKit Go.Shelf

attribute [local go_sem] Oper.semAt_some

theorem strCells_list (l : List UInt8) : Lib.strCells (str l) = Lib.byteCells l := by simp [Lib.byteCells, Lib.strCells, str]
theorem byteCells_app (a b : List UInt8) : Lib.byteCells (a ++ b) = Lib.byteCells a ++ Lib.byteCells b := by simp [Lib.byteCells]
abbrev IsB (b : Nat) (l : List UInt8) (w : World) : Prop := Lib.IsBuilder 76 5 b b (Lib.byteCells l) w
theorem write_any (b : Nat) (pre s : List UInt8) (w : World) (h : IsB b pre w) (hl : pre.length + s.length ≤ 1000000) :
    Calls Tryz.prog 41 #[.pointer (some ⟨b, 0, none⟩), .string (str s)] w fun e w' => e = .returned (.tuple #[.int .i64 (s.length : Nat), .nilIface]) ∧ IsB b (pre ++ s) w' ∧ Below b w w' ∧ KeepW b w w' := by
  obtain ⟨cs, hb⟩ := isBuilder_heap h
  have hlt := (Array.getElem?_eq_some_iff.1 hb).1
  refine (WriteString_any b b (Lib.byteCells pre) (str s) w h (by rw [Lib.byteCells_length, str_size]; omega) (Nat.le_of_lt hlt)).mono ?_
  rintro e w' ⟨rfl, ⟨h1, h2⟩, h3⟩
  rw [strCells_list, ← byteCells_app] at h1
  exact ⟨by rw [str_size], .inr h1, h2, h3⟩
/-- What lies while Print's loops run. -/
structure PrAt (w : World) (bB kB b1 b2 : Nat) (text : List UInt8) (wr : World) : Prop where
  below : Below w.heap.size w wr
  isb : IsB bB text wr
  kin : Arr wr kB 82 (kindsL b1 b2)
  a1 : Arr wr b1 9 [.string (str numberW)]
  a2 : Arr wr b2 9 [.string (str checkW)]
  low : w.heap.size ≤ bB
  ne : kB ≠ bB ∧ b1 ≠ bB ∧ b2 ≠ bB
theorem PrAt.later {w wr wr' : World} {bB kB b1 b2 : Nat} {text : List UInt8} (h : PrAt w bB kB b1 b2 text wr) (hb : Below wr.heap.size wr wr') : PrAt w bB kB b1 b2 text wr' :=
  ⟨h.below.trans (hb.mono h.below.size), isBuilder_below h.isb hb, h.kin.below hb, h.a1.below hb, h.a2.below hb, h.low, h.ne⟩
theorem PrAt.write {w wr wr' : World} {bB kB b1 b2 : Nat} {text s : List UInt8} (h : PrAt w bB kB b1 b2 text wr) (h1 : IsB bB (text ++ s) wr') (h2 : Below bB wr wr') (h3 : KeepW bB wr wr') : PrAt w bB kB b1 b2 (text ++ s) wr' :=
  ⟨h.below.trans (h2.mono h.low), h1, h3.arr h.kin h.ne.1 (by decide), h3.arr h.a1 h.ne.2.1 (by decide), h3.arr h.a2 h.ne.2.2 (by decide), h.low, h.ne⟩
set_option maxRecDepth 100000 in
set_option maxHeartbeats 8000000 in
theorem Print_any (v : Value) (l : List Fmt) (w : World) (hv : FmtsAt w w.heap.size v l) (hl : FmtIn l) (hE : Env w) :
    Calls Tryz.prog 23 #[v] w fun e w' => e = .returned (.tuple #[.string (str (print4 l).1), .int .i64 (print4 l).2]) ∧ Below w.heap.size w w' := by
  have hva := Lib.hid (valid_any v l w hv hl)
  obtain ⟨fvs, hfl, ⟨a, cap, rfl, hcp, hcm, hat⟩, hfs⟩ := hv
  replace hat := Lib.hid hat
  replace hfs := Lib.hid hfs
  have hki := fun W => Lib.hid (kinds_any W)
  go_enter Tryz.func23, Tryz.ntmps23
  go_wp2_with fail
  refine hva.out.mono ?_
  rintro e w1 ⟨rfl, hb1⟩
  cases hvl : validT l with
  | false =>
    have hfin : Hid (print4 l = ([], 40)) := by show _ = _; unfold print4; rw [hvl]; rfl
    replace hvl := Lib.hid hvl
    go_wp2_with fail
    go_ret2
    exact ⟨by rw [hfin.out]; rfl, hb1⟩
  | true =>
    have hfit := valid_fit hvl
    have hfin : Hid (print4 l = (textF l, 0)) := by show _ = _; unfold print4; rw [hvl]; rfl
    have hlines : Hid (∀ g ∈ l, g.flds.length ≤ 16 ∧ ∀ f ∈ g.flds, (lineF f).length ≤ 60) := fun g hg => ⟨hfit.flen g hg, fun f hf => line_len ((hl.ok g hg f hf).n) ((hl.ok g hg f hf).m) (hfit.fld g hg f hf).2⟩
    replace hvl := Lib.hid hvl
    have hl60 := hfit.len
    go_wp2_with fail
    obtain ⟨W1, hW1⟩ : ∃ W1, W1 = w1.alloc (Obj.cells #[.pointer none, .slice none 0 0] 76) := ⟨_, rfl⟩
    have hbk : W1.heap[w1.heap.size]? = some (.cells #[.pointer none, .slice none 0 0] 76 (0, 0)) := by rw [hW1]; exact World.alloc_heap_new w1 _
    have hB1 : Below w1.heap.size w1 W1 := by rw [hW1]; exact (Below.refl _ _).alloc (Nat.le_refl _) _
    have hz1 : w1.heap.size < W1.heap.size := by rw [hW1]; simp
    have hIB : IsB w1.heap.size [] W1 := .inl ⟨Nat.le_refl _, _, hbk, World.ownsRow_nil _ _ _ _, by simp [Value.ownBlock]⟩
    have hA0 : Arr W1 w1.heap.size 76 [.pointer none, .slice none 0 0] := hbk
    rw [← hW1]
    clear hW1 hbk
    refine (hki _).out.mono ?_
    rintro e w2 ⟨b1, b2, rfl, hA1, hA2, hb2⟩
    have hIB2 := isBuilder_below hIB hb2
    obtain ⟨bcs, hbc⟩ := isBuilder_heap hIB2
    have hne1 : b1 ≠ w1.heap.size := fun e => by
      rw [← e] at hbc
      exact absurd (hbc.symm.trans hA1) (fun h => by injection h with h; injection h with _ h _; revert h; decide)
    have hne2 : b2 ≠ w1.heap.size := fun e => by
      rw [← e] at hbc
      exact absurd (hbc.symm.trans hA2) (fun h => by injection h with h; injection h with _ h _; revert h; decide)
    obtain ⟨W, hW⟩ : ∃ W, W = w2.alloc (.cells #[.nilFunc, .nilFunc, .nilFunc, .nilFunc, .nilFunc, .nilFunc, .nilFunc, .nilFunc, .nilFunc, .nilFunc, .nilFunc, .nilFunc, .nilFunc, .nilFunc, .nilFunc, .nilFunc, .nilFunc, .nilFunc, .nilFunc, .nilFunc, .nilFunc] 82) := ⟨_, rfl⟩
    have hA : Arr W w2.heap.size 82 [.nilFunc, .nilFunc, .nilFunc, .nilFunc, .nilFunc, .nilFunc, .nilFunc, .nilFunc, .nilFunc, .nilFunc, .nilFunc, .nilFunc, .nilFunc, .nilFunc, .nilFunc, .nilFunc, .nilFunc, .nilFunc, .nilFunc, .nilFunc, .nilFunc] := by rw [hW]; exact Arr.new rfl rfl
    have hz2 := hb2.size
    have hbW : Below w2.heap.size w2 W := by rw [hW]; exact (Below.refl _ _).alloc (Nat.le_refl _) _
    have hbW3 : Below w2.heap.size w2 (W.setCells w2.heap.size 0 (kindsL b1 b2)) := Below.setCells _ _ _ _ hbW (Nat.le_refl _)
    have hP : Hid (PrAt w w1.heap.size w2.heap.size b1 b2 [] (W.setCells w2.heap.size 0 (kindsL b1 b2))) := (show PrAt _ _ _ _ _ _ _ from ⟨(hb1.trans (hB1.mono hb1.size)).trans ((hb2.trans (hbW3.mono hz2)).mono (Nat.le_trans hb1.size (Nat.le_of_lt hz1))), isBuilder_below hIB2 hbW3, hA.setAll rfl, hA1.below hbW3, hA2.below hbW3, hb1.size, ⟨by omega, hne1, hne2⟩⟩)
    have hA0' : Hid (Arr (W.setCells w2.heap.size 0 (kindsL b1 b2)) w1.heap.size 76 [.pointer none, .slice none 0 0]) := (hA0.below hb2).below hbW3
    obtain ⟨W2, hW2⟩ : ∃ W2, W2 = W.setCells w2.heap.size 0 (kindsL b1 b2) := ⟨_, rfl⟩
    rw [← hW2] at hP hA0'
    generalize hkB : w2.heap.size = kB at *
    generalize hbB : w1.heap.size = bB at *
    replace hA := Lib.hid hA
    replace hW2 := Lib.hid hW2
    clear hki hA0 hIB hIB2 hbc hA1 hA2 hbW hbW3 hb2 hB1 hz1 hz2
    go_wp2_with (rw [← hW]; refine arr_store rfl 82 _ _ rfl kB rfl (vs := kindsL b1 b2) rfl hA.out (n := 21) (by kernel_rfl) rfl rfl rfl ?_; rw [← hW2.out])
    clear hW hW2 hA hkB hbB
    go_loopw [16] (fun iv wr => ∃ i : Nat, i ≤ l.length ∧ iv = .int .i64 (i : Int) ∧ Hid (PrAt w bB kB b1 b2 (textF (l.take i)) wr) ∧ Hid (i = 0 → Arr wr bB 76 [.pointer none, .slice none 0 0])) (fun iv _ => l.length - (intOf iv).toNat)
    case atStart => exact ⟨0, Nat.zero_le _, rfl, hP, (show Hid _ from fun _ => hA0'.out)⟩
    case round =>
      obtain ⟨i, hi, rfl, hI, hN⟩ := hrel
      clear hP hA0'
      have hlow := hI.out.low
      have hBr := hI.out.below
      by_cases hlt : i < l.length
      · have hd : decide ((i : Int) < (l.length : Int)) = true := by simpa using hlt
        obtain ⟨fb, fo, rfl, hfb, hcell⟩ := hat.out (by omega)
        obtain ⟨p1, p2⟩ := fmtC_at l fvs hfl i hlt
        have x0 : wr.cell? ⟨fb, fo + i * 2, none⟩ = some (.int .i64 l[i]!.id) := (hBr.cell (p := ⟨fb, fo + i * 2, none⟩) hfb).trans (hcell _ _ p1)
        have x1 : wr.cell? ⟨fb, fo + i * 2 + 1, none⟩ = some fvs[i]! := (hBr.cell (p := ⟨fb, fo + (i * 2 + 1), none⟩) hfb).trans (hcell _ _ p2)
        have hmem : l[i]! ∈ l := by rw [getElem!_pos l i hlt]; exact List.getElem_mem hlt
        obtain ⟨hfl16, hll⟩ := hlines.out _ hmem
        have hid := hfit.ids _ hmem
        have hfld := hfit.fld _ hmem
        have hfok := hl.ok _ hmem
        have hFA := hfs.out i hlt
        have hsn := Lib.hid (textF_snoc l i hlt)
        have hpl : (textF (l.take i)).length ≤ 61000 := by
          have := textF_len (l.take i) (fun g hg => hfit.ids g (List.take_subset _ _ hg)) (fun g hg => hlines.out g (List.take_subset _ _ hg))
          rw [List.length_take] at this
          omega
        generalize l[i]! = g at *
        generalize textF (l.take i) = pre at *
        obtain ⟨fa, fcap, hfv, _, _, hfc⟩ := hFA
        rw [hfv] at x1
        obtain ⟨id, flds⟩ := g
        dsimp only at x0 x1 hfl16 hll hid hfld hfok hfc
        obtain ⟨Wf, hWf⟩ : ∃ Wf, Wf = wr.alloc (.cells #[.int .i64 id, .slice fa flds.length fcap] 34) := ⟨_, rfl⟩
        have hbf : Below wr.heap.size wr Wf := by rw [hWf]; exact (Below.refl _ _).alloc (Nat.le_refl _) _
        have hAf : Arr Wf wr.heap.size 34 [.int .i64 id, .slice fa flds.length fcap] := by rw [hWf]; exact Arr.new rfl rfl
        have hIf := hI.out.later hbf
        have c0 := hAf.cell (j := 0) rfl
        have hit := Lib.hid (itoa_any id Wf ⟨by omega, by omega⟩ (hE.below hIf.below))
        have hadd := add_str (formatT ++ [32]) (Lib.itoa id) (by have := itoa_len id ⟨by omega, by omega⟩; simp only [formatT, List.length_append, List.length_cons, List.length_nil]; omega)
        rw [show str (formatT ++ [32]) = ⟨#[102, 111, 114, 109, 97, 116, 32]⟩ from rfl] at hadd
        have hadd2 := add_str (formatT ++ [32] ++ Lib.itoa id) [10] (by have := itoa_len id ⟨by omega, by omega⟩; simp only [formatT, List.length_append, List.length_cons, List.length_nil]; omega)
        rw [show str [10] = ⟨#[10]⟩ from rfl] at hadd2
        have hhl := head_len hid
        have hft : Hid (fmtT ⟨id, flds⟩ = formatT ++ [32] ++ Lib.itoa id ++ [10] ++ fieldsT flds) := rfl
        rw [show namedL formatT id = formatT ++ [32] ++ Lib.itoa id from rfl] at hhl
        generalize formatT ++ [32] ++ Lib.itoa id = h1 at *
        generalize h1 ++ [10] = hd1 at *
        replace hid := Lib.hid hid
        replace hfv := Lib.hid hfv
        obtain ⟨bcs, hbcs⟩ := isBuilder_heap hI.out.isb
        have hblt := (Array.getElem?_eq_some_iff.1 hbcs).1
        clear hI hcell hbcs
        go_wp2_with fail
        rw [← hWf]
        refine hit.out.mono ?_
        rintro e W3 ⟨rfl, hb3⟩
        have hI3 := hIf.later hb3
        have hA3 := hAf.below hb3
        have hw := Lib.hid (write_any bB pre hd1 W3 hI3.isb (by omega))
        clear hit hIf hWf c0
        go_wp2_with fail
        refine hw.out.mono ?_
        rintro e W4 ⟨rfl, hI4b, hb4, hk4⟩
        have hI4 := hI3.write hI4b hb4 hk4
        have hA4 := hk4.arr hA3 (by omega) (by decide)
        have y1 := hA4.cell (j := 1) rfl
        have hwn : IntKind.i64.wrap (flds.length : Int) = (flds.length : Int) := IntWalk.i64_in _ (by omega)
        have hP4 : Hid (PrAt w bB kB b1 b2 (pre ++ hd1 ++ fieldsT (flds.take 0)) W4) := (show PrAt _ _ _ _ _ _ _ by rw [List.take_zero]; simpa [fieldsT] using hI4)
        clear hA4 hA3 hI3 hI4b hb4 hk4 hw hI4
        go_wp2_with fail
        go_loopw [29] (fun kv wi => ∃ k : Nat, k ≤ flds.length ∧ kv = .int .i64 (k : Int) ∧ Hid (PrAt w bB kB b1 b2 (pre ++ hd1 ++ fieldsT (flds.take k)) wi)) (fun kv _ => flds.length - (intOf kv).toNat)
        case atStart => exact ⟨0, Nat.zero_le _, rfl, hP4⟩
        case round =>
          obtain ⟨k, hk, rfl, hI⟩ := hrel
          clear hP4 y1
          have hBi := hI.out.below
          by_cases hlk : k < flds.length
          · have hdk : decide ((k : Int) < (flds.length : Int)) = true := by simpa using hlk
            obtain ⟨gb, go, rfl, hgb, hgc⟩ := hfc (by omega)
            have hcr := fun j u hu => (hBi.cell (p := ⟨gb, go + j, none⟩) hgb).trans (hgc j u hu)
            obtain ⟨z0, z1, z2, z3⟩ := fldCells hcr hlk
            have hfm : flds[k]! ∈ flds := by rw [getElem!_pos flds k hlk]; exact List.getElem_mem hlk
            obtain ⟨hkd, htx⟩ := hfld _ hfm
            have hok := hfok _ hfm
            have hlen := hll _ hfm
            have hsk := Lib.hid (fieldsT_snoc flds k hlk)
            have hfl := fieldsT_len (flds.take k) (fun f hf => hll f (List.take_subset _ _ hf))
            rw [List.length_take] at hfl
            generalize flds[k]! = f at *
            obtain ⟨fid, caps, hfk, hen, hca⟩ := line_fn f b1 b2 hkd hok.n hok.m (by omega)
            obtain ⟨hk0, hk6⟩ := withinZ_iff.1 hkd
            have hadd3 := add_str (lineF f) [10] (by simp only [List.length_cons, List.length_nil]; omega)
            rw [show str [10] = ⟨#[10]⟩ from rfl] at hadd3
            obtain ⟨kd, n, fr, t⟩ := f
            dsimp only at z0 z1 z2 z3 hk0 hk6 hfk
            obtain ⟨κ, rfl⟩ : ∃ κ : Nat, kd = (κ : Int) := ⟨kd.toNat, by omega⟩
            rw [Int.toNat_natCast] at hfk
            unfold fldV fldC at hca
            dsimp only at hca
            generalize lineF ⟨(κ : Int), n, fr, t⟩ = ln at *
            have hlen2 : (ln ++ [10]).length ≤ 61 := by simp only [List.length_append, List.length_cons, List.length_nil]; omega
            generalize ln ++ [10] = ln1 at *
            have hsk2 : Hid (pre ++ hd1 ++ fieldsT (flds.take (k + 1)) = pre ++ hd1 ++ fieldsT (flds.take k) ++ ln1) := by show _ = _; rw [hsk.out]; simp
            obtain ⟨tx, htxx⟩ : ∃ tx, tx = pre ++ hd1 ++ fieldsT (flds.take k) := ⟨_, rfl⟩
            have htl : tx.length ≤ 70000 := by rw [htxx]; simp only [List.length_append]; omega
            rw [← htxx] at hI hsk2
            have k0 : (0 : Int) ≤ (k : Int) := by omega
            have k1 : (k : Int) < (flds.length : Int) := by omega
            have kk0 : (0 : Int) ≤ (κ : Int) := by omega
            have kk1 : (κ : Int) < 7 := by omega
            obtain ⟨Wg, hWg⟩ : ∃ Wg, Wg = wr.alloc (.cells #[.int .i64 (κ : Int), .int .i64 n, .int .i64 fr, .string (str t)] 55) := ⟨_, rfl⟩
            have hAg : Arr Wg wr.heap.size 55 [.int .i64 (κ : Int), .int .i64 n, .int .i64 fr, .string (str t)] := by rw [hWg]; exact Arr.new rfl rfl
            have hbg : Below wr.heap.size wr Wg := by rw [hWg]; exact (Below.refl _ _).alloc (Nat.le_refl _) _
            have hIg := hI.out.later hbg
            have hId : PrAt w bB kB b1 b2 tx Wg.drew := hIg.later (Below.refl _ _).drew
            have hfc3 : Wg.cell? ⟨kB, κ * 3 + 2, none⟩ = some (.func (.func fid) #[] caps) := hIg.kin.cell hfk
            have zg := hAg.lt
            have zk := hIg.kin.lt
            have s0 := hAg.cell (j := 0) rfl
            have s1 := hAg.cell (j := 1) rfl
            have s2 := hAg.cell (j := 2) rfl
            have s3 := hAg.cell (j := 3) rfl
            have hcl := Lib.hid (hca Wg.drew (hE.below hId.below) hId.a1 hId.a2)
            have hgne : wr.heap.size ≠ bB := by
              obtain ⟨cs, h⟩ := isBuilder_heap hI.out.isb
              have := (Array.getElem?_eq_some_iff.1 h).1
              omega
            replace htxx := Lib.hid htxx
            clear hcr hI hca hsk hkd
            go_wp2_with fail
            rw [← hWg]
            clear hWg
            refine wp_region_held_drew (S := fun w' => w'.cell? ⟨wr.heap.size, 0, none⟩ = some (.int .i64 (κ : Int)) ∧ w'.cell? ⟨wr.heap.size, 1, none⟩ = some (.int .i64 n) ∧ w'.cell? ⟨wr.heap.size, 2, none⟩ = some (.int .i64 fr) ∧ w'.cell? ⟨wr.heap.size, 3, none⟩ = some (.string (str t)) ∧ w'.cell? ⟨kB, κ * 3 + 2, none⟩ = some (.func (.func fid) #[] caps)) (by kernel_rfl) (by exact ⟨s0, s1, s2, s3, hfc3⟩) (fun hHeld => ?_)
            refine take_l (i := 0) (v := ?_) rfl (by kernel_rfl) (by kernel_rfl) (by kernel_rfl) (fun _ _ _ h => h) (Or.inl ⟨by kernel_rfl, ?_⟩) (by assumption) ?_
            rotate_left
            · intro w hSw; (try dsimp only at hSw); go_simp; (try with_reducible rfl)
            (try simp only [Act.put, List.setIfInBounds_toArray, List.set_cons_zero, List.set_cons_succ])
            refine take_l (i := 1) (v := ?_) rfl (by kernel_rfl) (by kernel_rfl) (by kernel_rfl) (fun _ _ _ h => h) (Or.inl ⟨by kernel_rfl, ?_⟩) (by assumption) ?_
            rotate_left
            · intro w hSw; (try dsimp only at hSw); go_simp; (try with_reducible rfl)
            (try simp only [Act.put, List.setIfInBounds_toArray, List.set_cons_zero, List.set_cons_succ])
            refine take_l (i := 2) (v := ?_) rfl (by kernel_rfl) (by kernel_rfl) (by kernel_rfl) (fun _ _ _ h => h) (Or.inl ⟨by kernel_rfl, ?_⟩) (by assumption) ?_
            rotate_left
            · intro w hSw; (try dsimp only at hSw); go_simp; (try with_reducible rfl)
            (try simp only [Act.put, List.setIfInBounds_toArray, List.set_cons_zero, List.set_cons_succ])
            refine take_l (i := 3) (v := ?_) rfl (by kernel_rfl) (by kernel_rfl) (by kernel_rfl) (fun _ _ _ h => h) (Or.inl ⟨by kernel_rfl, ?_⟩) (by assumption) ?_
            rotate_left
            · intro w hSw; (try dsimp only at hSw); go_simp; (try with_reducible rfl)
            (try simp only [Act.put, List.setIfInBounds_toArray, List.set_cons_zero, List.set_cons_succ])
            refine take_l (i := 4) (v := ?_) rfl (by kernel_rfl) (by kernel_rfl) (by kernel_rfl) (fun _ _ _ h => h) (Or.inl ⟨by kernel_rfl, ?_⟩) (by assumption) ?_
            rotate_left
            · intro w hSw; (try dsimp only at hSw); go_simp; (try with_reducible rfl)
            (try simp only [Act.put, List.setIfInBounds_toArray, List.set_cons_zero, List.set_cons_succ])
            refine take_l (i := 5) (v := ?_) rfl (by kernel_rfl) (by kernel_rfl) (by kernel_rfl) (fun _ _ _ h => h) (Or.inl ⟨by kernel_rfl, ?_⟩) (by assumption) ?_
            rotate_left
            · intro w hSw; (try dsimp only at hSw); go_simp; (try with_reducible rfl)
            (try simp only [Act.put, List.setIfInBounds_toArray, List.set_cons_zero, List.set_cons_succ])
            refine wpAnyH_ready (rs := [6]) (by kernel_rfl) (by simp) ?_
            refine ready_l rfl (fun K hK => ?_) AllReadyH.nil
            go_simp
            ((with_reducible refine ((hcl.out)).mono ?_); rintro e vA ⟨rfl, hbvA⟩; have hBvA : Below Wg.heap.size Wg vA := Below.trans (by repeat first | with_reducible exact Below.refl _ _ | with_reducible assumption | with_reducible refine below_drewN ?_ _ | with_reducible refine Below.drew ?_ | with_reducible refine Below.setCell ?_ (by first | exact Nat.le_refl _ | (simp; done) | (simp; omega) | omega) _ | with_reducible refine Below.alloc ?_ (by first | exact Nat.le_refl _ | (simp; done) | (simp; omega) | omega) _ | exact Below.refl _ _ | assumption) (hbvA.mono (by first | exact Nat.le_refl _ | assumption | (simp; done) | (simp; omega) | omega)); have hzvA := hbvA.size; have hIA := hId.later hbvA; have hAA := hAg.below ((Below.refl _ _).drew.trans hbvA); have q0 := hAA.cell (j := 0) rfl; have q1 := hAA.cell (j := 1) rfl; have q2 := hAA.cell (j := 2) rfl; have q3 := hAA.cell (j := 3) rfl; have q4 := hIA.kin.cell hfk)
            refine hK.out _ _ (by exact ⟨q0, q1, q2, q3, q4⟩) (fun hHeld => ?_)
            clear hK K
            (try simp only [Act.put, List.setIfInBounds_toArray, List.set_cons_zero, List.set_cons_succ])
            refine take_l (i := 7) (v := ?_) rfl (by kernel_rfl) (by kernel_rfl) (by kernel_rfl) (fun _ _ _ h => h) (Or.inl ⟨by kernel_rfl, ?_⟩) (by assumption) ?_
            rotate_left
            · intro w hSw; (try dsimp only at hSw); go_simp; (try with_reducible rfl)
            (try simp only [Act.put, List.setIfInBounds_toArray, List.set_cons_zero, List.set_cons_succ])
            refine wpAnyH_ready (rs := [8]) (by kernel_rfl) (by simp) ?_
            refine ready_l rfl (fun K hK => ?_) AllReadyH.nil
            go_simp
            with_reducible refine (write_any bB tx ln1 vA hIA.isb (by omega)).mono ?_
            rintro e vB ⟨rfl, hIBb, hbB2, hkB2⟩
            have hIBn := hIA.write hIBb hbB2 hkB2
            have hAB := hkB2.arr hAA hgne (by decide)
            (try simp only [Act.put, List.setIfInBounds_toArray, List.set_cons_zero, List.set_cons_succ])
            refine hK.out _ _ (by exact ⟨hAB.cell (j := 0) rfl, hAB.cell (j := 1) rfl, hAB.cell (j := 2) rfl, hAB.cell (j := 3) rfl, hIBn.kin.cell hfk⟩) (fun hHeld => ?_)
            clear hK K
            (try simp only [Act.put, List.setIfInBounds_toArray, List.set_cons_zero, List.set_cons_succ])
            refine wpAnyH_done (by kernel_rfl) ?_ _
            go_wp2_with fail
            exact ⟨⟨k + 1, by omega, by go_num, (show Hid _ by rw [hsk2.out]; exact hIBn)⟩, by simp [intOf]; omega⟩
          · have hdk : decide ((k : Int) < (flds.length : Int)) = false := by simpa using hlk
            have hI2 : Hid (PrAt w bB kB b1 b2 (textF (l.take (i + 1))) wr) := by
              have h := hI.out
              rw [List.take_of_length_le (by omega)] at h
              show PrAt _ _ _ _ _ _ _
              rw [hsn.out, hft.out, ← List.append_assoc]
              exact h
            clear hI
            go_wp2_with fail
            exact ⟨⟨i + 1, by omega, by go_num, hI2, (show Hid _ from fun h => absurd h (by omega))⟩, by simp [intOf]; omega⟩
      · have hd : decide ((i : Int) < (l.length : Int)) = false := by simpa using hlt
        have hI2 := hI.out
        rw [List.take_of_length_le (by omega)] at hI2
        by_cases h0 : l.length = 0
        · have hS := Lib.hid (String_nil bB (.pointer none) wr (hN.out (by omega)))
          obtain rfl : l = [] := List.eq_nil_of_length_eq_zero h0
          have hB := hI2.below
          go_wp2_with fail
          refine hS.out.mono ?_
          rintro e w9 ⟨rfl, rfl⟩
          go_wp2_with fail
          exact bodyPost_ret (v := .tuple #[.string (str (print4 []).1), .int .i64 0]) (by simp [results, Tryz.f23, go_sem, hfin.out, textF, str]) rfl ⟨by rw [hfin.out], hB.drew⟩
        · have hne : textF l ≠ [] := by
            cases l with
            | nil => exact absurd rfl h0
            | cons g r => simp [textF, fmtT, namedL, formatT]
          have hS := Lib.hid (String_some bB bB (textF l) wr hI2.isb hne)
          have hB := hI2.below
          go_wp2_with fail
          refine hS.out.mono ?_
          rintro e w9 ⟨rfl, hk9, hb9⟩
          go_wp2_with fail
          exact bodyPost_ret (v := .tuple #[.string (str (textF l)), .int .i64 0]) (by simp [results, Tryz.f23, go_sem]) rfl ⟨by rw [hfin.out], hB.trans (hb9.mono hlow)⟩
end Go.Proofs.YtcpfmlaipejfpaaGreatDoor
namespace Go.Proofs.YtcpfmlaipejfpaaGreatDoor
open Go.RowKit Go.Shelf

attribute [local go_sem] Oper.semAt_some

/-- How a function ends that gives a number, or panics with the package's error. -/
def NumPost (r : Option Int) (e : Ending) : Prop := (∃ n, r = some n ∧ e = .returned (.int .i64 n)) ∨ (r = none ∧ e = errE)
set_option maxHeartbeats 4000000 in
theorem number_any (s : List UInt8) (w : World) (hs : s.length ≤ 1000000000) (hE : Env w) :
    Calls Tryz.prog 92 #[.string (str s)] w fun e w' => NumPost (numF s) e ∧ Below w.heap.size w w' ∧ (∀ n, numF s = some n → I64 n) := by
  have ha := Lib.hid (atoi_any s w hs hE)
  have hT := fun W => Lib.hid (must_true W)
  have hF := fun W => Lib.hid (must_false W)
  go_enter Tryz.func92, Tryz.ntmps92
  go_wp2_with fail
  refine ha.out.mono ?_
  rintro e w1 ⟨hp, hb1⟩
  clear ha
  rcases hp with ⟨v, hv, hvi, rfl⟩ | ⟨hv, v, a, hvi, _, rfl⟩
  · by_cases h0 : 0 ≤ v
    · have hd : decide (v ≥ 0) = true := by simpa using h0
      have hd2 : decide (0 ≤ v) = true := by simpa using h0
      have hit := Lib.hid (itoa_any v w1 hvi (hE.below hb1))
      have hq := str_eqq (Lib.itoa v) s
      by_cases heq : Lib.itoa v = s
      · have hr : Hid (numF s = some v) := by show _ = _; unfold numF; rw [hv]; dsimp only; rw [if_pos ⟨h0, heq⟩]
        have hq2 : (Lib.itoa v == s) = true := by simpa using heq
        replace heq := Lib.hid heq
        replace hv := Lib.hid hv
        generalize Lib.itoa v = i at *
        go_wp2_with fail
        refine hit.out.mono ?_
        rintro e w2 ⟨rfl, hb2⟩
        go_wp2_with fail
        refine (hT _).out.mono ?_
        rintro e w3 ⟨rfl, rfl⟩
        go_wp2_with fail
        go_ret
        exact ⟨.inl ⟨v, hr.out, rfl⟩, hb1.trans (hb2.mono hb1.size), fun n hn => by rw [hr.out] at hn; injection hn with hn; rw [← hn]; exact hvi⟩
      · have hr : Hid (numF s = none) := by show _ = _; unfold numF; rw [hv]; dsimp only; rw [if_neg (fun h => heq h.2)]
        have hq2 : (Lib.itoa v == s) = false := by simpa using heq
        replace heq := Lib.hid heq
        replace hv := Lib.hid hv
        generalize Lib.itoa v = i at *
        go_wp2_with fail
        refine hit.out.mono ?_
        rintro e w2 ⟨rfl, hb2⟩
        go_wp2_with fail
        refine (hF _).out.mono ?_
        rintro e w3 ⟨rfl, rfl⟩
        dsimp only [errE, errV]
        exact ⟨rfl, .inr ⟨hr.out, rfl⟩, hb1.trans (hb2.mono hb1.size), fun n hn => by rw [hr.out] at hn; cases hn⟩
    · have hd : decide (v ≥ 0) = false := by simpa using h0
      have hd2 : decide (0 ≤ v) = false := by simpa using h0
      have hr : Hid (numF s = none) := by show _ = _; unfold numF; rw [hv]; dsimp only; rw [if_neg (fun h => h0 h.1)]
      replace hv := Lib.hid hv
      go_wp2_with fail
      refine (hF _).out.mono ?_
      rintro e w3 ⟨rfl, rfl⟩
      dsimp only [errE, errV]
      exact ⟨rfl, .inr ⟨hr.out, rfl⟩, hb1, fun n hn => by rw [hr.out] at hn; cases hn⟩
  · have hr : Hid (numF s = none) := by show _ = _; unfold numF; rw [hv]
    replace hv := Lib.hid hv
    go_wp2_with fail
    refine (hF _).out.mono ?_
    rintro e w3 ⟨rfl, rfl⟩
    dsimp only [errE, errV]
    exact ⟨rfl, .inr ⟨hr.out, rfl⟩, hb1, fun n hn => by rw [hr.out] at hn; cases hn⟩
end Go.Proofs.YtcpfmlaipejfpaaGreatDoor
