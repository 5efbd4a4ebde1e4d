/-
  The methods of a machine that runs: pop, push, next.
-/
import Derived.Test.YtainohbfcehpoaaDoorMbA
namespace Go.Proofs.YtainohbfcehpoaaDoor
open Go.RowKit Go.Shelf

def u8C (l : List UInt8) : List Value := l.map fun b => Value.int .u8 (b.toNat : Int)
/-- A machine lies in block mB: its stack (top first), what is left of its input, its output. -/
structure MAt (mB : Nat) (st : List Int) (inp out : List UInt8) (W : World) : Prop where
  blk : ∃ sv ov, Arr W mB 63 [sv, .string (str inp), ov] ∧ W.ownsRow (mB + 1) 3 1 sv st.length (intC st.reverse) ∧ W.ownsRow (mB + 1) 5 1 ov out.length (u8C out)
theorem MAt.below {mB : Nat} {st : List Int} {inp out : List UInt8} {W W' : World} (h : MAt mB st inp out W) (hb : Below W.heap.size W W') : MAt mB st inp out W' := by
  obtain ⟨sv, ov, h1, h2, h3⟩ := h.blk
  exact ⟨sv, ov, h1.below hb, own_below h2 hb, own_below h3 hb⟩
theorem MAt.lt {mB : Nat} {st : List Int} {inp out : List UInt8} {W : World} (h : MAt mB st inp out W) : mB < W.heap.size := by
  obtain ⟨_, _, h1, _⟩ := h.blk
  exact h1.lt
theorem own_set {W : World} {B b o : Nat} {e : TypeId} {v u : Value} {n s : Nat} {xs : List Value} (h : W.ownsRow B e s v n xs) (hb : b < B) : (W.setCell ⟨b, o, none⟩ u).ownsRow B e s v n xs := by
  obtain ⟨hl, h⟩ := h
  refine ⟨hl, ?_⟩
  rcases h with h | ⟨g, cap, cur, hv, h1, h2, r⟩
  · exact .inl h
  · exact .inr ⟨g, cap, cur, hv, h1, (heap_setCell_other _ _ _ _ (by simp; omega)).trans h2, r⟩
/-- The stack, the input, the output are turned. -/
theorem MAt.set0 {mB : Nat} {st st' : List Int} {inp out : List UInt8} {W : World} (h : MAt mB st inp out W) {v : Value} (hv : W.ownsRow (mB + 1) 3 1 v st'.length (intC st'.reverse)) : MAt mB st' inp out (W.setCell ⟨mB, 0, none⟩ v) := by
  obtain ⟨sv, ov, h1, h2, h3⟩ := h.blk
  exact ⟨v, ov, h1.set 0 v, own_set hv (by omega), own_set h3 (by omega)⟩
theorem MAt.set1 {mB : Nat} {st : List Int} {inp inp' out : List UInt8} {W : World} (h : MAt mB st inp out W) : MAt mB st inp' out (W.setCell ⟨mB, 1, none⟩ (.string (str inp'))) := by
  obtain ⟨sv, ov, h1, h2, h3⟩ := h.blk
  exact ⟨sv, ov, h1.set 1 (.string (str inp')), own_set h2 (by omega), own_set h3 (by omega)⟩
theorem MAt.set2 {mB : Nat} {st : List Int} {inp out out' : List UInt8} {W : World} (h : MAt mB st inp out W) {v : Value} (hv : W.ownsRow (mB + 1) 5 1 v out'.length (u8C out')) : MAt mB st inp out' (W.setCell ⟨mB, 2, none⟩ v) := by
  obtain ⟨sv, ov, h1, h2, h3⟩ := h.blk
  exact ⟨sv, v, h1.set 2 v, own_set h2 (by omega), own_set hv (by omega)⟩
theorem own_popI {W : World} {B : Nat} {e : TypeId} {g c : Nat} {st : List Int} {a : Int} (h : W.ownsRow B e 1 (.slice (some ⟨g, 0, none⟩) (st.length + 1) c) (st.length + 1) (intC (a :: st).reverse)) : W.ownsRow B e 1 (.slice (some ⟨g, 0, none⟩) st.length c) st.length (intC st.reverse) := by
  obtain ⟨_, h⟩ := h
  refine ⟨by simp [intC], ?_⟩
  rcases h with ⟨h, _⟩ | ⟨g', cap, cur, hv, h1, h2, h3, h4, h5, h6⟩
  · cases h
  · injection hv with e1 e2 e3
    injection e1 with e1
    injection e1 with e1
    subst e1 e3
    refine .inr ⟨g, c, cur, rfl, h1, h2, by omega, h4, h5, ?_⟩
    have := congrArg (List.take (st.length * 1)) h6
    rw [List.take_take] at this
    rw [Nat.min_eq_left (by omega)] at this
    rw [this]
    simp [intC]
set_option maxRecDepth 100000 in
set_option maxHeartbeats 4000000 in
theorem pop_any (mB : Nat) (a : Int) (st : List Int) (inp out : List UInt8) (W : World) (h : MAt mB (a :: st) inp out W) (hl : st.length ≤ 100000) :
    Calls Tryd.prog 30 #[.pointer (some ⟨mB, 0, none⟩)] W fun e W' => e = .returned (.int .i64 a) ∧ MAt mB st inp out W' ∧ BelowBut W.heap.size mB W W' ∧ W'.cell? ⟨mB, 2, none⟩ = W.cell? ⟨mB, 2, none⟩ := by
  obtain ⟨sv, ov, hA, h2, h3⟩ := h.blk
  rw [List.length_cons] at h2
  obtain ⟨g, c, rfl, hg, hc, hcm, hgl, hcells⟩ := own_cells h2
  have c0 := hA.cell (j := 0) rfl
  have f0 := hA.free 0
  have cT := (hcells st.length (.int .i64 a) (by simp [intC])).1
  have hM : Hid (∀ W' : World, Below W.heap.size W W' → MAt mB st inp out (W'.setCell ⟨mB, 0, none⟩ (.slice (some ⟨g, 0, none⟩) st.length c))) := fun W' hb => (h.below hb).set0 (own_popI (own_below h2 hb))
  have hw1 : IntKind.i64.wrap (st.length : Int) = (st.length : Int) := IntWalk.i64_in _ (by omega)
  have i1 : (0 : Int) ≤ (st.length : Int) := by omega
  have hle : st.length ≤ c := by omega
  have hlt := hA.lt
  clear hA h2 h3 hcells h
  go_enter Tryd.func30, Tryd.ntmps30
  go_wp2_with fail
  go_quiet (fail)
  go_wp2_with fail
  refine name_wp ?_
  intro w2 hw2
  have hb2 : Below W.heap.size W w2 := by rw [hw2]; exact below_drewN (Below.refl _ _) _
  have c0' : w2.cell? ⟨mB, 0, none⟩ = some (.slice (some ⟨g, 0, none⟩) (st.length + 1) c) := by rw [hw2]; exact c0
  have f0' : w2.frozen? ⟨mB, 0, none⟩ = false := by rw [hw2]; exact f0
  clear hw2 c0 f0
  go_still_tail 12, (by kernel_rfl)
  go_wp2_with fail
  go_ret
  refine ⟨rfl, hM.out w2.drew hb2.drew, ((BelowBut.of hb2).setCell 0 _).drew, ?_⟩
  exact (World.cell?_setCell_other w2 _ _ _ (by intro e; injection e with _ e; omega)).trans (World.cell?_of_block (a := ⟨mB, 2, none⟩) (hb2.block mB hlt))
theorem push_run (mB : Nat) (st vs : List Int) (inp out : List UInt8) (W : World) (b : Nat) (h : MAt mB st inp out W) (hb : Arr W b 3 (intC vs)) (hl : st.length ≤ 100000) (hv : vs.length ≤ 10) :
    ∃ sv ov v' w', Arr W mB 63 [sv, .string (str inp), ov] ∧ (Builtin.append_ #[31, 31] 31 #[sv, .slice (some ⟨b, 0, none⟩) vs.length vs.length]).run Tryd.prog W = .ok v' w' ∧
      (∃ a c, v' = .slice a (st.length + vs.length) c) ∧ Arr w' mB 63 [sv, .string (str inp), ov] ∧ MAt mB (vs.reverse ++ st) inp out (w'.setCell ⟨mB, 0, none⟩ v') ∧ Below mB W (w'.setCell ⟨mB, 0, none⟩ v') := by
  obtain ⟨sv, ov, hA, h2, h3⟩ := h.blk
  have hlt := hA.lt
  obtain ⟨i0, hi, hz0, hz1, hz2⟩ := info_parts info_int
  obtain ⟨v', w', hrun, r1, r2, r3, _⟩ := run_append_own_at (P := Tryd.prog) W (mB + 1) 31 31 3 i0 (.int .i64 0) 1 8 Tryd.underlying31 hi hz0 hz1 hz2 rfl (by decide) sv st.length (intC st.reverse) h2 ⟨b, 0, none⟩ vs.length vs.length (intC vs) (by simp [intC]) (fun j u hu => by rw [Addr.add_mid, Nat.zero_add]; exact hb.cell hu) (fun u hu => by
      obtain ⟨z, _, rfl⟩ := List.mem_map.1 hu
      rfl) (by unfold maxLen; omega) (by omega) (by omega)
  have hA' : Arr w' mB 63 [sv, .string (str inp), ov] := (r2.block mB hlt (fun e => by have := (h2.lt mB e.symm).1; omega)).trans hA
  have h3' : w'.ownsRow (mB + 1) 5 1 ov out.length (u8C out) := by
    refine h3.kept r2 ?_
    rcases h3.2 with ⟨rfl, _⟩ | ⟨g3, c3, cur3, rfl, _, hg3, _⟩
    · exact .inl rfl
    · refine .inr fun e => ?_
      rcases h2.2 with ⟨rfl, _⟩ | ⟨g2, c2, cur2, rfl, _, hg2, _⟩
      · cases e
      · injection e with e
        have e' : g3 = g2 := e
        rw [e', hg2] at hg3
        injection hg3 with hg3
        injection hg3 with _ hg3 _
        exact absurd hg3 (by decide)
  have hN : MAt mB st inp out w' ∨ True := .inr trivial
  refine ⟨sv, ov, v', w', hA, hrun, own_val r1, hA', ⟨v', ov, hA'.set 0 v', ?_, own_set h3' (by omega)⟩, ?_⟩
  · have e : intC (vs.reverse ++ st).reverse = intC st.reverse ++ intC vs := by simp [intC]
    have e2 : (vs.reverse ++ st).length = st.length + vs.length := by simp; omega
    rw [e, e2]
    exact own_set r1 (by omega)
  · refine Below.setCell (B := mB) (p := ⟨mB, 0, none⟩) ⟨r2.os, r2.tape, r2.output, r2.size, fun k hk => r2.block k (by omega) (fun e => by have := (h2.lt k e.symm).1; omega)⟩ (Nat.le_refl _) _
set_option maxRecDepth 100000 in
set_option maxHeartbeats 4000000 in
theorem push_any (mB : Nat) (st vs : List Int) (inp out : List UInt8) (W : World) (b n : Nat) (hn : n = vs.length) (h : MAt mB st inp out W) (hb : Arr W b 3 (intC vs)) (hl : st.length ≤ 100000) (hv : vs.length ≤ 10) :
    Calls Tryd.prog 31 #[.pointer (some ⟨mB, 0, none⟩), .slice (some ⟨b, 0, none⟩) n n] W fun e W' => e = .returned (.tuple #[]) ∧ MAt mB (vs.reverse ++ st) inp out W' ∧ Below mB W W' := by
  subst hn
  obtain ⟨sv, ov, v', w', hA, hrun, ⟨a, c, rfl⟩, hA', hM, hB⟩ := push_run mB st vs inp out W b h hb hl hv
  have c0 := hA.cell (j := 0) rfl
  have d0 := hA'.cell (j := 0) rfl
  have f0 := hA'.free 0
  have hfin := Lib.hid (And.intro hM hB)
  replace hrun := Lib.hid hrun
  clear hA hA' h hb hM hB
  go_enter Tryd.func31, Tryd.ntmps31
  go_wp2_with (at_builtin; go_loud (refine wpList_append_known rfl _ _ _ _ rfl _ _ rfl rfl hrun.out ?_))
  go_end0
  exact ⟨rfl, hfin.out⟩
theorem extract_mid (s : List UInt8) (f k : Nat) : (str s).extract f k = str ((s.drop f).take (k - f)) := by
  apply ByteArray.ext
  apply Array.ext'
  show ((str s).extract f k).data.toList = (s.drop f).take (k - f)
  rw [ByteArray.data_extract]
  simp [str, List.extract_eq_take_drop]
def headZ : List UInt8 → Int | [] => -1 | c :: _ => (c.toNat : Int)
theorem str_tail (c : UInt8) (r : List UInt8) : (str (c :: r)).extract 1 (str (c :: r)).size = str r := by
  have h := extract_mid (c :: r) 1 (str (c :: r)).size
  rw [h, str_size]
  congr 1
  simp
set_option maxRecDepth 100000 in
set_option maxHeartbeats 4000000 in
theorem next_any (mB : Nat) (st : List Int) (inp out : List UInt8) (W : World) (h : MAt mB st inp out W) (hi : inp.length ≤ 1000000) :
    Calls Tryd.prog 32 #[.pointer (some ⟨mB, 0, none⟩)] W fun e W' => e = .returned (.int .i64 (headZ inp)) ∧ MAt mB st inp.tail out W' ∧ BelowBut W.heap.size mB W W' := by
  obtain ⟨sv, ov, hA, h2, h3⟩ := h.blk
  have c1 := hA.cell (j := 1) rfl
  have f1 := hA.free 1
  cases inp with
  | nil =>
    have he : (str []).toList.isEmpty = true := by rw [ByteArray.toList_eq]; rfl
    have hfin : Hid (MAt mB st [] out W) := h
    clear h h2 h3 hA
    go_enter Tryd.func32, Tryd.ntmps32
    go_wp2_with fail
    go_ret
    exact ⟨rfl, hfin.out, BelowBut.refl _ _ _⟩
  | cons x r =>
    have he : (str (x :: r)).toList.isEmpty = false := by rw [ByteArray.toList_eq, str_list]; rfl
    have hsz : (str (x :: r)).size = r.length + 1 := by rw [str_size]; rfl
    have hex := str_tail x r
    rw [hsz] at hex
    have hg : ∀ (hh : 0 < (str (x :: r)).size), (str (x :: r))[0]'hh = x := fun _ => rfl
    have hfin : Hid (MAt mB st r out (W.setCell ⟨mB, 1, none⟩ (.string (str r)))) := h.set1
    have hx := x.toNat_lt
    clear h h2 h3 hA
    go_enter Tryd.func32, Tryd.ntmps32
    go_wp2_with fail
    go_ret
    exact ⟨rfl, hfin.out, (BelowBut.refl _ _ _).setCell 1 _⟩
end Go.Proofs.YtainohbfcehpoaaDoor
