/-
  The contracts of slices.AppendSeq and slices.Collect over the computer's events.
-/
import Derived.Test.YtkgbknjpnhoadaaGreatDoorCq8
import Derived.Maps.AppendAt
namespace Go.Proofs.YtkgbknjpnhoadaaGreatDoor
open Go.RowKit Go.Shelf

attribute [local go_sem] Oper.semAt_some

theorem Tryz.info_ev : (Tryz.prog.info? 39).map (fun i => (i.zero, i.size, i.bytes)) = some (some (.agg #[.int .i64 0, .int .i64 0, .int .i64 0, .int .i64 0]), 4, 32) := by kernel_rfl
theorem BelowBut.grown {C B : Nat} {a W W' : World} {row : Option Nat} (h : BelowBut C B a W) (hg : W.grownBy W' row) (hC : C ≤ W.heap.size) (hr : ∀ r, row = some r → C ≤ r ∨ r = B) : BelowBut C B a W' :=
  ⟨hg.os.trans h.os, hg.tape.trans h.tape, hg.output.trans h.output, Nat.le_trans h.size hg.size, fun k hk hne => (hg.block k (by omega) (fun e => by rcases hr k e.symm with h | h <;> omega)).trans (h.block k hk hne)⟩
theorem ownFrom_but {β : Type} {n₀ C B : Nat} {w₀ : World} (hn : n₀ ≤ w₀.heap.size) (hC : n₀ ≤ C) : OwnFrom C (fun (_ : β) W => BelowBut n₀ B w₀ W) :=
  fun _ _ _ _ hs hg hr => hs.grown hg (Nat.le_trans hn hs.size) (fun k e => .inl (Nat.le_trans hC (hr k e).1))
theorem own_but {w w' : World} {B C n s : Nat} {e : TypeId} {v : Value} {xs : List Value} (h : w.ownsRow C e s v n xs) (hb : BelowBut w.heap.size B w w') (hC : B < C) : w'.ownsRow C e s v n xs := by
  obtain ⟨hl, h⟩ := h
  refine ⟨hl, ?_⟩
  rcases h with h | ⟨g, cap, cur, hv, hB, hg, r⟩
  · exact .inl h
  · exact .inr ⟨g, cap, cur, hv, hB, (hb.block g (Array.getElem?_eq_some_iff.1 hg).1 (by omega)).trans hg, r⟩
/-- What is collected so far. -/
def ColI (w : World) (B : Nat) (pre : List Ev) (W : World) : Prop :=
  (∃ v, Boxed W w.heap.size 33 v ∧ W.ownsRow w.heap.size 39 4 v pre.length (evCells pre) ∧ True) ∧ BelowBut w.heap.size B w W
def ColAx (w : World) (B : Nat) (seq : Value) (pre : List Ev) (x : Ev) (a : Act) (W : World) : Prop :=
  ColI w B pre W ∧ ∃ b, Arr W b 39 (evCells [x]) ∧ a = { tmps := #[.slice none 0 0, seq, .pointer (some ⟨w.heap.size, 0, none⟩), undef, .slice none 0 0, .pointer (some ⟨b, 0, none⟩), seq, evAgg x, undef, undef, undef, undef, undef], defers := [] }
theorem colI_own (w : World) (B C : Nat) (hC : w.heap.size ≤ C) : OwnFrom C (ColI w B) :=
  OwnFrom.and (Own.from (holdsRow_own w.heap.size w.heap.size 33 39 4 (fun pre : List Ev => pre.length) evCells (fun _ _ => True)) _) (ownFrom_but (Nat.le_refl _) hC)
theorem colI_but (w : World) (B : Nat) (hB : B < w.heap.size) : AbidesBut B (ColI w B) := by
  rintro pre W W' ⟨⟨v, hv, hr, _⟩, hb⟩ hbb
  exact ⟨⟨v, (hbb.block _ hv.lt (by omega)).trans hv, own_but hr hbb hB, trivial⟩, hb.trans hbb hb.size⟩
theorem keepsT_grown {W W' : World} {v : Value} {n k s : Nat} {xs : List Value} (h : W.ownsRow n 39 s v k xs) (hg : W.grownBy W' v.ownBlock) : KeepsT W W' := fun j cs T fr hj h1 _ _ => by
  refine hg.block j (Array.getElem?_eq_some_iff.1 hj).1 (fun e => ?_)
  rcases h.2 with ⟨rfl, _⟩ | ⟨g, cap, cur, rfl, _, hgb, _⟩
  · cases e
  · have : j = g := by simpa [Value.ownBlock] using e
    subst this
    rw [hgb] at hj
    injection hj with hj
    injection hj with _ hT
    exact h1 hT.symm
theorem keepsT_box {W : World} {b : Nat} {v u : Value} (h : Boxed W b 33 v) : KeepsT W (W.setCell ⟨b, 0, none⟩ u) := fun j cs T fr hj _ h2 _ => by
  refine Below.heap_setCell W ⟨b, 0, none⟩ u j (fun e => ?_)
  have : j = b := by simpa using e
  subst this
  rw [show W.heap[j]? = _ from h] at hj
  injection hj with hj
  injection hj with _ hT
  exact h2 hT.symm

set_option maxRecDepth 100000 in
set_option maxHeartbeats 4000000 in
theorem AppendSeqE_in (B b1 b2 most : Nat) (x0 : Cpu) (w : World) (hmost : most ≤ 20000) (ht0 : x0.time = 0) (hC : CpuAt w B x0)
    (hb1 : Arr w b1 72 [.pointer (some ⟨B, 0, none⟩)]) (hb2 : Arr w b2 3 [.int .i64 (most : Int)]) :
    CallsIn Fence.wide 3 Tryz.prog 63 #[.slice none 0 0, .func (.func 64) #[] #[.pointer (some ⟨b1, 0, none⟩), .pointer (some ⟨b2, 0, none⟩)]] w fun e W' =>
      ∃ v, e = .returned v ∧ W'.ownsRow w.heap.size 39 4 v (runs most x0).length (evCells (runs most x0)) ∧ BelowBut w.heap.size B w W' := by
  obtain ⟨i0, hi, hz0, hz1, hz2⟩ := info_parts Tryz.info_ev
  have hBn := hC.lt
  have hln := runs_len most x0
  have hS := run1_stops 2 B b1 b2 most x0 w hmost (by omega) hC hb1 hb2
  rw [ht0, Nat.sub_zero] at hS
  refine callsIn_of_wp_marks Tryz.func63 rfl trivial ?_ rfl
  simp only [Tryz.ntmps63, List.size_toArray, List.length_cons, List.length_nil, Nat.reduceAdd, Nat.reduceSub, Array.replicate_succ, Array.replicate_zero, List.push_toArray, List.append_toArray, List.nil_append, List.cons_append]
  gi_wp2
  have bO := Boxed.new w 33 (.slice none 0 0)
  refine wpIn_rangeFunc_but rfl (by omega) (gf := 64) (lb := #[.pointer (some ⟨b1, 0, none⟩), .pointer (some ⟨b2, 0, none⟩)]) rfl trivial (enters_of Tryz.func64 (by kernel_rfl) rfl)
    hS (by simp; omega) (fun h k => ⟨h.1.trans k.1, h.2.trans k.2⟩) ?kb ((Below.refl _ _).alloc (Nat.le_refl _) _) (fun _ => rfl)
    (ColI w B) (fun _ _ _ => False) (colI_own w B _ (by simp)) (fun _ _ _ _ _ hs _ _ => hs) (colI_but w B hBn) (fun _ _ _ _ hs _ => hs)
    ⟨⟨_, bO, World.ownsRow_nil _ _ _ _, trivial⟩, BelowBut.of ((Below.refl _ _).alloc (Nat.le_refl _) _)⟩
    (ColAx w B (.func (.func 64) #[] #[.pointer (some ⟨b1, 0, none⟩), .pointer (some ⟨b2, 0, none⟩)])) ?ax ?assign ?body ?done ?stop
  case kb =>
    intro W l o o' hl ho hc hw
    refine ⟨belowK_b (w := w) (Nat.le_refl _) W l o o' (by simp at hl; omega) ho hc hw, fun k cs T fr hk _ _ _ => World.putObj_heap_other (fun e => ?_)⟩
    subst e
    rw [ho] at hk
    injection hk with hk
    subst hk
    cases hc
  case ax =>
    rintro pre x a' W l o o' ⟨hI, b, hA, rfl⟩ hl ho hc
    refine ⟨OwnFrom.putObj (colI_own w B w.heap.size (Nat.le_refl _)) o' hI (by simp at hl; omega) ho hc, b, ?_, rfl⟩
    refine (World.putObj_heap_other (fun e => ?_)).trans hA
    subst e
    rw [hA] at ho
    injection ho with ho
    subst ho
    cases hc
  case assign =>
    intro l pre x W K hI hK
    dsimp only [evAgg] at hK ⊢
    gi_wp2
    exact hK _ _ (KeepsOthers.alloc _ _) ⟨(Below.refl _ _).alloc hI.2.size _, KeepsT.of_below ((Below.refl _ _).alloc (Nat.le_refl _) _)⟩ ⟨(colI_own w B w.heap.size (Nat.le_refl _)).alloc _ hI, W.heap.size, Arr.new rfl rfl, rfl⟩
  case body =>
    rintro l pre x a' W ⟨⟨⟨v, hv, hrow, _⟩, hB⟩, b, hA, rfl⟩ hlt
    have hc := hv.cell
    have e0 := hA.cell (j := 0) (v := .int .i64 x.t) rfl
    have e1 := hA.cell (j := 1) (v := .int .i64 x.k) rfl
    have e2 := hA.cell (j := 2) (v := .int .i64 x.a) rfl
    have e3 := hA.cell (j := 3) (v := .int .i64 x.b) rfl
    dsimp only [evAgg]
    have hn0 : ∀ j u, (evCells [x])[j]? = some u → (W.alloc (.cells #[.int .i64 x.t, .int .i64 x.k, .int .i64 x.a, .int .i64 x.b] 39)).cell? ((⟨W.heap.size, 0, none⟩ : Addr).add j) = some u := fun j u hu => cells_new W (evCells [x]) 39 j u hu
    have hn1 : ∀ u ∈ evCells [x], u.oneCell' = true := by simp [evCells, Value.oneCell']
    have hn2 : pre.length + 1 ≤ maxLen := by unfold maxLen; omega
    have hn3 : (pre.length + 1) * 32 ≤ 140737488355328 := by omega
    have hn4 : w.heap.size ≤ W.heap.size + 1 := by have := hB.size; omega
    gi_wp2_with (gi_at_builtin; go_loud (refine wpListIn_append_own _ rfl _ _ 33 rfl w.heap.size 39 i0 (.agg #[.int .i64 0, .int .i64 0, .int .i64 0, .int .i64 0]) 4 32 Tryz.underlying33 hi hz0 hz1 hz2 rfl (by decide) v pre.length (evCells pre) rfl (hrow.alloc _) ⟨W.heap.size, 0, none⟩ 1 1 (evCells [x]) rfl rfl hn0 hn1 hn2 hn3 (by simpa using hn4) ?_; intro v' w1 hown' hgrow hnil; obtain ⟨g', cap', rfl⟩ := ownsRow_succ hown'; obtain ⟨hv1, hv2, hr2, hk2, hb2⟩ := hv.appended (by decide) hrow hB.size (Nat.le_refl _) hown' hgrow; have hkt : KeepsT W (w1.setCell ⟨w.heap.size, 0, none⟩ (.slice (some ⟨g', 0, none⟩) (pre.length + 1) cap')) := ((KeepsT.of_below ((Below.refl _ W).alloc (Nat.le_refl _) _)).trans (keepsT_grown (hrow.alloc _) hgrow)).trans (keepsT_box hv1); have hc1 := hv1.cell; have hf1 := hv1.frozen))
    exact ⟨hk2, ⟨hb2, hkt⟩, ⟨_, hv2, by simpa [evCells] using hr2, trivial⟩, hB.trans (BelowBut.of hb2) (Nat.le_refl _)⟩
  case done =>
    rintro D ys W hD hys ⟨⟨v, hv, hrow, _⟩, hB⟩ hK
    subst hys
    have hc := hv.cell
    gi_wp2
    refine ⟨by simp, .inl ⟨_, _, rfl, run_takeDeferred hK, ?_⟩⟩
    exact ⟨_, results_tmp rfl _ _ _, v, rfl, ownsRow_putObj hrow _ hK rfl, hB.trans (BelowBut.of (belowK_b (w := w) (Nat.le_refl _) W D _ _ (by simp at hD; omega) hK rfl rfl)) (Nat.le_refl _)⟩
  case stop =>
    rintro D c pre W _ _ h _
    exact h.elim
end Go.Proofs.YtkgbknjpnhoadaaGreatDoor
