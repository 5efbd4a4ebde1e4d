/-
  The contract of wire.PutInt.
  The contract of wire.PutInt, its loop.
  The contracts of wire.Int and wire.String, at what PutInt and PutString wrote.
  The contracts of wire.PutInt, wire.PutString and wire.String.
-/
import Derived.Test.YtocpnlifmeffkaaGreatDoorUB
import Derived.Test.YtocpnlifmeffkaaGreatDoorUC
import Derived.WalkSmall
import Derived.Test.YtocpnlifmeffkaaGreatDoorUG
namespace Go.Proofs.YtocpnlifmeffkaaGreatDoor
open Go.RowKit Go.Shelf

attribute [local go_sem] Oper.semAt_some

set_option maxHeartbeats 400000 in
theorem groups_any (z : Nat) (w : World) :
    Calls Tryz.prog 75 #[.int .u64 z] w fun e w' => e = .returned (.func (.func 151) #[] #[.pointer (some ⟨w.heap.size, 0, none⟩)]) ∧
      Arr w' w.heap.size 154 [.int .u64 z] ∧ Below w.heap.size w w' := by
  have hmf : ∀ (fn : Fn) (first cap : Array Value) (w : World), (Instr.makeFunc fn first cap).run Tryz.prog w = .ok (.func fn first cap) w := fun _ _ _ _ => rfl
  go_enter Tryz.func75, Tryz.ntmps75
  go_wp2
  go_ret
  exact ⟨rfl, Arr.new rfl rfl, (Below.refl _ _).alloc (Nat.le_refl _) _⟩

/-- The number in a box. -/
def natAt (b : Nat) (w : World) : Nat := match w.cell? ⟨b, 0, none⟩ with | some (.int _ t) => t.toNat | _ => 0
theorem natAt_eq {w : World} {b y : Nat} {T : TypeId} (h : Arr w b T [.int .u64 (y : Int)]) : natAt b w = y := by
  unfold natAt
  rw [h.cell (j := 0) rfl]
  simp
def encG (x : Fin 128 × Bool) : Array Value := #[.int .u8 (x.1.1 : Int), .bool x.2]
set_option maxRecDepth 100000 in
set_option maxHeartbeats 4000000 in
theorem groups1_stops (m b f z : Nat) (w : World) (hf0 : 0 < f) (hf : f ≤ 9) (hz : z < 128 ^ f) (hb : Arr w b 154 [.int .u64 z]) :
    SeqStopsB Fence.wide m Tryz.prog 151 #[.pointer (some ⟨b, 0, none⟩)] encG (fun W W' => W'.heap[b]? = W.heap[b]?) (fun xs => xs = grpF f z) (fun _ => True) f b w := by
  intro l J Jx W hW hJa hJxa hY h0
  have hbn := hb.lt
  have hbW := hb.below hW
  have hlen0 := grpF_len f z
  refine callsIn_of_wp Tryz.func151 rfl trivial ?_ rfl
  simp only [Tryz.ntmps151, List.size_toArray, List.length_cons, List.length_nil, Nat.reduceAdd, Nat.reduceSub, Array.replicate_succ, Array.replicate_zero, List.push_toArray, List.append_toArray, List.nil_append, List.cons_append]
  gi_wp2_with (fail)
  gi_loopw [3] (fun _ wr => ∃ (pre : List (Fin 128 × Bool)) (g y : Nat), Arr wr b 154 [.int .u64 (y : Int)] ∧ g + 1 ≤ 9 ∧ y < 128 ^ (g + 1) ∧ pre ++ grpF (g + 1) y = grpF f z ∧ J pre wr) (fun _ wr => natAt b wr)
  case atStart =>
    obtain ⟨g, rfl⟩ := Nat.exists_eq_add_one_of_ne_zero (by omega : f ≠ 0)
    exact ⟨[], g, z, hbW, hf, hz, rfl, h0⟩
  case round =>
    obtain ⟨pre, g, y, hA, hg, hy, hpre, hJ⟩ := hrel
    have hy63 : y < 2 ^ 63 := Nat.lt_of_lt_of_le hy (Nat.le_trans (Nat.pow_le_pow_right (by omega) hg) (by decide))
    have c0 := hA.cell (j := 0) rfl
    have f0 := hA.free 0
    have ha := and127q y hy63
    have hmlt : y % 128 < 128 := Nat.mod_lt _ (by omega)
    have hw8 : IntKind.u8.wrap ((y % 128 : Nat) : Int) = ((y % 128 : Nat) : Int) := by
      simp only [IntKind.wrap, IntKind.signed, IntKind.bits]
      simp
      omega
    have hnat := Lib.hid (natAt_eq hA)
    rw [grpF] at hpre
    have hlen : pre.length < f := by
      have := congrArg List.length hpre
      rw [List.length_append, List.length_cons] at this
      omega
    obtain ⟨fn, tmps, assign, body, hyl, hR⟩ := hY pre (⟨y % 128, Nat.mod_lt _ (by omega)⟩, decide (y < 128)) wr hJ hlen
    dsimp only [encG] at hyl
    obtain ⟨x, hx⟩ : ∃ x, x = y % 128 := ⟨_, rfl⟩
    obtain ⟨xf, hxf⟩ : ∃ xf : Fin 128, xf = ⟨y % 128, hmlt⟩ := ⟨_, rfl⟩
    rw [← hxf] at hpre hR
    rw [← hx] at ha hw8 hyl hmlt
    replace hxf := Lib.hid hxf
    replace hx := Lib.hid hx
    by_cases hlt : y < 128
    · have hd : decide ((y : Int) < 128) = true := by simp; omega
      rw [decide_eq_true hlt] at hyl hpre hR
      rw [if_pos hlt] at hpre
      replace hpre := Lib.hid hpre
      replace hlt := Lib.hid hlt
      gi_wp2_with (fail)
      refine ⟨fun h => by simp [Fence.wide] at h, hR.mono ?_⟩
      clear hR hyl
      rintro e W3 (⟨rfl, hJ3, hk3⟩ | ⟨rfl, hJx3⟩)
      · gi_wp2_with (fail)
        refine bodyPost_ret (results_none rfl _ _ _) rfl ?_
        exact ⟨⟨_, rfl⟩, .inl ⟨_, hpre.out, hJ3⟩⟩
      · gi_wp2_with (fail)
        refine bodyPost_ret (results_none rfl _ _ _) rfl ?_
        exact ⟨⟨_, rfl⟩, .inr ⟨_, trivial, hJx3⟩⟩
    · have hd : decide ((y : Int) < 128) = false := by simp; omega
      rw [decide_eq_false hlt] at hyl hpre hR
      rw [if_neg hlt] at hpre
      have hg1 : 0 < g := by
        rcases Nat.eq_zero_or_pos g with rfl | h
        · simp at hy; omega
        · exact h
      obtain ⟨g, rfl⟩ := Nat.exists_eq_add_one_of_ne_zero (by omega : g ≠ 0)
      have hy2 : y / 128 < 128 ^ (g + 1) := by
        rw [Nat.div_lt_iff_lt_mul (by omega)]
        rwa [Nat.pow_succ] at hy
      have hdm : y / 128 < y := by omega
      replace hpre := Lib.hid hpre
      replace hlt := Lib.hid hlt
      gi_wp2_with (fail)
      refine ⟨fun h => by simp [Fence.wide] at h, hR.mono ?_⟩
      clear hR hyl
      rintro e W3 (⟨rfl, hJ3, hk3⟩ | ⟨rfl, hJx3⟩)
      · have hA3 : Arr W3 b 154 [.int .u64 (y : Int)] := hk3.trans hA
        have c3 := hA3.cell (j := 0) rfl
        have f3 := hA3.free 0
        have hA4 : Arr (W3.setCell ⟨b, 0, none⟩ (.int .u64 ((y / 128 : Nat) : Int))) b 154 [.int .u64 ((y / 128 : Nat) : Int)] := hA3.set 0 _
        have hJ4 := hJa _ _ _ hJ3 ((BelowBut.refl W3.heap.size b W3).setCell 0 (.int .u64 ((y / 128 : Nat) : Int)))
        have hq : (y : Int) / 128 = ((y / 128 : Nat) : Int) := by omega
        have hn4 := natAt_eq hA4
        generalize y / 128 = y2 at *
        replace hA4 := Lib.hid hA4
        gi_wp2_with (fail)
        exact ⟨⟨pre ++ [(xf, false)], g, y2, hA4.out, by omega, hy2, by rw [List.append_assoc]; exact hpre.out, hJ4⟩, by rw [hnat.out, hn4]; exact hdm⟩
      · gi_wp2_with (fail)
        refine bodyPost_ret (results_none rfl _ _ _) rfl ?_
        exact ⟨⟨_, rfl⟩, .inr ⟨_, trivial, hJx3⟩⟩
end Go.Proofs.YtocpnlifmeffkaaGreatDoor
namespace Go.Proofs.YtocpnlifmeffkaaGreatDoor
open Go.RowKit Go.Shelf

attribute [local go_sem] Oper.semAt_some

/-- What is written so far. -/
def PutI (w : World) (pre : List (Fin 128 × Bool)) (W : World) : Prop :=
  ((∃ v, Boxed W w.heap.size 57 v ∧ W.ownsRow (w.heap.size + 2) 5 1 v pre.length (Lib.byteCells (pre.map grpB)) ∧ True) ∧ Below w.heap.size w W) ∧ w.heap.size + 2 ≤ W.heap.size
theorem putI_own (w : World) (C : Nat) (hC : w.heap.size ≤ C) : OwnFrom C (PutI w) :=
  OwnFrom.and (OwnFrom.and (Own.from (holdsRow_own (w.heap.size + 2) w.heap.size 57 5 1 (fun pre : List (Fin 128 × Bool) => pre.length) (fun pre => Lib.byteCells (pre.map grpB)) (fun _ _ => True)) _) (ownFrom_below (Nat.le_refl _) hC))
    (fun _ _ _ _ hs hg _ => Nat.le_trans hs hg.size)
theorem putI_but (w : World) : AbidesBut (w.heap.size + 1) (PutI w) := by
  rintro pre W W' ⟨⟨⟨v, hv, hr, _⟩, hb⟩, hs⟩ hbb
  exact ⟨⟨⟨v, (hbb.block _ hv.lt (by omega)).trans hv, own_but hr hbb (by omega), trivial⟩, hb.trans (hbb.below (by omega) hb.size)⟩, Nat.le_trans hs hbb.size⟩
def PutAx (w : World) (n : Int) (z : Nat) (pre : List (Fin 128 × Bool)) (x : Fin 128 × Bool) (a : Act) (W : World) : Prop :=
  PutI w pre W ∧ a = { tmps := #[.int .i64 n, undef, .string { data := #[] }, .int .i64 0, .pointer (some ⟨w.heap.size, 0, none⟩), .int .u8 (x.1.1 : Int), .bool x.2, .int .i64 n, .bool false, .bool false, .int .i64 n, .bool false, .bool false, .int .i64 n, .int .u64 (IntKind.u64.wrap n), .int .u64 (IntKind.u64.wrap (IntKind.u64.wrap n * 2)), .int .i64 n, .int .i64 (n / 9223372036854775808), .int .u64 (IntKind.u64.wrap (n / 9223372036854775808)), .int .u64 (z : Int), .func (.func 151) #[] #[.pointer (some ⟨w.heap.size + 1, 0, none⟩)], .int .u8 (x.1.1 : Int), .bool x.2, undef, undef, undef, undef, undef, undef, undef, undef, undef, undef], defers := [] }
theorem ownsRow_base {w : World} {m n s k : Nat} {e : TypeId} {v : Value} {xs : List Value} (h : w.ownsRow m e s v k xs) (hn : n ≤ m) : w.ownsRow n e s v k xs := by
  obtain ⟨hl, h⟩ := h
  refine ⟨hl, ?_⟩
  rcases h with h | ⟨g, cap, cur, hv, hB, r⟩
  · exact .inl h
  · exact .inr ⟨g, cap, cur, hv, Nat.le_trans hn hB, r⟩
theorem wf_zig {n : Int} (h1 : -(2 ^ 62 - 1) ≤ n) (h2 : n ≤ 2 ^ 62 - 1) : zig n < 128 ^ 9 := by
  rw [show (128 : Nat) ^ 9 = 2 ^ 63 from by decide]
  exact zig_lt h1 h2
set_option maxRecDepth 100000 in
set_option maxHeartbeats 4000000 in
theorem PutInt_in (n : Int) (w : World) (h1 : -(2 ^ 62 - 1) ≤ n) (h2 : n ≤ 2 ^ 62 - 1) :
    CallsIn Fence.wide 3 Tryz.prog 33 #[.int .i64 n] w fun e W' => e = .returned (.tuple #[.string (str (putZ n)), .int .i64 0]) ∧ Below w.heap.size w W' := by
  obtain ⟨i0, hi, hz0, hz1, hz2⟩ := info_parts info_byte4
  have hz := wf_zig h1 h2
  have hzb := zig_bits n h1 h2
  obtain ⟨z, hzz⟩ : ∃ z, z = zig n := ⟨_, rfl⟩
  rw [← hzz] at hz hzb
  have hln := grpF_len 9 z
  have g1 : decide (n < -4611686018427387903) = false := by simp; omega
  have g2 : decide (n > 4611686018427387903) = false := by simp; omega
  have g2' : decide (4611686018427387903 < n) = false := by simp; omega
  have hgr := Lib.hid fun W => groups_any z W
  have hL : Lib.byteCells ((grpF 9 z).map grpB) = Lib.byteCells (putZ n) := by rw [grp_leb, hzz]; rfl
  have hL2 : (grpF 9 z).length = (putZ n).length := by rw [← List.length_map (f := grpB), grp_leb, hzz]; rfl
  replace hL := Lib.hid hL
  replace hL2 := Lib.hid hL2
  replace hzz := Lib.hid hzz
  refine callsIn_of_wp_marks Tryz.func33 rfl trivial ?_ rfl
  simp only [Tryz.ntmps33, List.size_toArray, List.length_cons, List.length_nil, Nat.reduceAdd, Nat.reduceSub, Array.replicate_succ, Array.replicate_zero, List.push_toArray, List.append_toArray, List.nil_append, List.cons_append]
  gi_wp2_with (fail)
  refine ⟨trivial, (callsIn_wide.2 (hgr.out _)).mono ?_⟩
  rintro e w1 ⟨rfl, hA, hb1⟩
  simp only [World.size_alloc] at hA hb1 ⊢
  have bO := (Boxed.new w 57 (.slice none 0 0))
  have bO1 : Boxed w1 w.heap.size 57 (.slice none 0 0) := (hb1.block _ (by omega)).trans bO
  have hbw : Below w.heap.size w w1 := ((Below.refl _ w).alloc (Nat.le_refl _) (.cells #[.slice none 0 0] 57)).trans (hb1.mono (by simp))
  have hS := groups1_stops 2 (w.heap.size + 1) 9 z w1 (by omega) (Nat.le_refl _) hz hA
  have hBlt := hA.lt
  gi_wp2_with (fail)
  refine wpIn_rangeFunc_but rfl (by omega) (gf := 151) (lb := #[.pointer (some ⟨w.heap.size + 1, 0, none⟩)]) rfl trivial (enters_of Tryz.func151 (by kernel_rfl) rfl)
    hS hBlt (fun h k => k.trans h) ?kb (Below.refl _ _) (fun _ => rfl)
    (PutI w) (fun _ _ _ => False) (putI_own w _ hbw.size) (fun _ _ _ _ _ hs _ _ => hs) (putI_but w) (fun _ _ _ _ hs _ => hs)
    ⟨⟨⟨_, bO1, World.ownsRow_nil _ _ _ _, trivial⟩, hbw⟩, hBlt⟩
    (PutAx w n z) ?ax ?assign ?body ?done ?stop
  case kb => exact fun W l o o' hl ho hc hw => World.putObj_heap_other (by omega)
  case ax =>
    rintro pre x a' W l o o' ⟨hI, rfl⟩ hl ho hc
    exact ⟨OwnFrom.putObj (putI_own w w.heap.size (Nat.le_refl _)) o' hI (by have := hbw.size; omega) ho hc, rfl⟩
  case assign =>
    intro l pre x W K hI hK
    dsimp only [encG] at hK ⊢
    gi_wp2
    exact hK _ _ (KeepsOthers.refl _) rfl ⟨hI, rfl⟩
  case body =>
    rintro l pre x a' W ⟨⟨⟨⟨v, hv, hrow, _⟩, hB⟩, hWs⟩, rfl⟩ hlt
    have hc := hv.cell
    have hxl := x.1.2
    have ho := or128 x.1.1 hxl
    obtain ⟨y, hy⟩ : ∃ y, y = (if x.2 then x.1.1 else x.1.1 + 128) := ⟨_, rfl⟩
    have hgb : grpB x = UInt8.ofNat y := by rw [hy]; rfl
    have hy256 : y < 256 := by rw [hy]; split <;> omega
    have hcells : Lib.byteCells ((pre ++ [x]).map grpB) = Lib.byteCells (pre.map grpB) ++ [.int .u8 (y : Int)] := by
      rw [List.map_append, List.map_singleton, hgb]
      unfold Lib.byteCells
      rw [List.map_append, List.map_singleton, UInt8.toNat_ofNat', Nat.mod_eq_of_lt hy256]
    have hn0 : ∀ j u, [Value.int .u8 (y : Int)][j]? = some u → (W.alloc (.cells #[.int .u8 (y : Int)] 5)).cell? ((⟨W.heap.size, 0, none⟩ : Addr).add j) = some u := fun j u hu => cells_new W [.int .u8 (y : Int)] 5 j u hu
    have hn1 : ∀ u ∈ [Value.int .u8 (y : Int)], u.oneCell' = true := by simp [Value.oneCell']
    have hn2 : pre.length + 1 ≤ maxLen := by unfold maxLen; omega
    have hn3 : (pre.length + 1) * 1 ≤ 140737488355328 := by omega
    replace hcells := Lib.hid hcells
    clear hgb
    have hsz : w.heap.size + 2 ≤ W.heap.size := hWs
    have hkb : ∀ (tmp : Obj) (w4 : World) (u : Value), (W.alloc tmp).grownBy w4 v.ownBlock → (w4.setCell ⟨w.heap.size, 0, none⟩ u).heap[w.heap.size + 1]? = W.heap[w.heap.size + 1]? := fun tmp w4 u hg => by
      refine (Below.heap_setCell w4 ⟨w.heap.size, 0, none⟩ u _ (by simp)).trans ((hg.block _ (by simp; omega) fun e => ?_).trans (Below.heap_alloc W tmp _ (by omega)))
      rcases hrow.2 with ⟨rfl, _⟩ | ⟨g, cap, cur, rfl, hb, _, _⟩
      · simp [Value.ownBlock] at e
      · have : w.heap.size + 1 = g := by simpa [Value.ownBlock] using e
        omega
    cases hx2 : x.2 with
    | true =>
      rw [hx2, if_pos rfl] at hy
      subst hy
      dsimp only
      gi_wp2_with (gi_at_builtin; go_loud (refine wpListIn_append_own _ rfl _ _ 57 rfl (w.heap.size + 2) 5 i0 (.int .u8 0) 1 1 Tryz.underlying57 hi hz0 hz1 hz2 rfl (by decide) v pre.length (Lib.byteCells (pre.map grpB)) rfl (hrow.alloc _) ⟨W.heap.size, 0, none⟩ 1 1 [.int .u8 (x.1.1 : Int)] rfl rfl hn0 hn1 hn2 hn3 (by simp; omega) ?_; intro v' w4 hown' hgrow hnil; obtain ⟨g', cap', rfl⟩ := ownsRow_succ hown'; obtain ⟨hv1, hv2, _, hk2, hb2⟩ := hv.appended (by decide) (ownsRow_base hrow (by omega)) hB.size (Nat.le_refl _) (ownsRow_base hown' (by omega)) hgrow; have hr2 := hown'.kept (grownBy_setCell' w4 w.heap.size (.slice (some ⟨g', 0, none⟩) (pre.length + 1) cap')) (.inr (hv1.not_row (by decide) hown').symm); have hc1 := hv1.cell; have hf1 := hv1.frozen))
      exact ⟨hk2, hkb _ _ _ hgrow, ⟨⟨_, hv2, by rw [hcells.out]; simpa using hr2, trivial⟩, hB.trans hb2⟩, by have := hb2.size; have := hgrow.size; simp at *; omega⟩
    | false =>
      rw [hx2, if_neg (by simp)] at hy
      rw [← hy] at ho
      replace hy := Lib.hid hy
      dsimp only
      gi_wp2_with (gi_at_builtin; go_loud (refine wpListIn_append_own _ rfl _ _ 57 rfl (w.heap.size + 2) 5 i0 (.int .u8 0) 1 1 Tryz.underlying57 hi hz0 hz1 hz2 rfl (by decide) v pre.length (Lib.byteCells (pre.map grpB)) rfl (hrow.alloc _) ⟨W.heap.size, 0, none⟩ 1 1 [.int .u8 (y : Int)] rfl rfl hn0 hn1 hn2 hn3 (by simp; omega) ?_; intro v' w4 hown' hgrow hnil; obtain ⟨g', cap', rfl⟩ := ownsRow_succ hown'; obtain ⟨hv1, hv2, _, hk2, hb2⟩ := hv.appended (by decide) (ownsRow_base hrow (by omega)) hB.size (Nat.le_refl _) (ownsRow_base hown' (by omega)) hgrow; have hr2 := hown'.kept (grownBy_setCell' w4 w.heap.size (.slice (some ⟨g', 0, none⟩) (pre.length + 1) cap')) (.inr (hv1.not_row (by decide) hown').symm); have hc1 := hv1.cell; have hf1 := hv1.frozen))
      exact ⟨hk2, hkb _ _ _ hgrow, ⟨⟨_, hv2, by rw [hcells.out]; simpa using hr2, trivial⟩, hB.trans hb2⟩, by have := hb2.size; have := hgrow.size; simp at *; omega⟩
  case done =>
    rintro D ys W hD hys ⟨⟨⟨v, hv, hrow, _⟩, hB⟩, _⟩ hK
    subst hys
    have hc := hv.cell
    have hrow2 : W.ownsRow (w.heap.size + 2) 5 1 v (putZ n).length (Lib.byteCells (putZ n)) := by rw [← hL.out, ← hL2.out]; exact hrow
    have hcv := conv_own hrow2
    gi_wp2_with fail
    refine ⟨by simp, .inl ⟨_, _, rfl, run_takeDeferred hK, ?_⟩⟩
    exact ⟨_, results_tmp2 rfl _ _ _, rfl, hB.trans (belowK_b (w := w) (Nat.le_refl _) W D _ _ (by have := hbw.size; omega) hK rfl rfl)⟩
  case stop =>
    rintro D c pre W _ _ h _
    exact h.elim
end Go.Proofs.YtocpnlifmeffkaaGreatDoor
namespace Go.Proofs.YtocpnlifmeffkaaGreatDoor
open Go.RowKit Go.Shelf

attribute [local go_sem] Oper.semAt_some

theorem index_str {s : ByteArray} {i : Nat} {c : UInt8} (h : s.data.toList[i]? = some c) (w : World) (j : Int) (hj : j = (i : Int)) : (Instr.index 9 (.string s) (.int .i64 j)).run Tryz.prog w = .ok (.int .u8 (c.toNat : Int)) w := by
  subst hj
  obtain ⟨h1, h2⟩ := List.getElem?_eq_some_iff.1 h
  have h1' : i < s.size := by simpa using h1
  rw [run_index_string (P := Tryz.prog) w 9 s .i64 (i : Int) Tryz.underlying9, dif_pos ⟨by omega, by omega⟩]
  have : s[(i : Int).toNat]'(by simpa using h1') = c := by
    rw [← h2]
    rfl
  rw [this]
theorem putZ_byte {n : Int} (hz : zig n < 2 ^ 63) {i : Nat} (hi : i < (putZ n).length) : ((putZ n)[i]!).toNat = if i + 1 = (putZ n).length then zig n / 128 ^ i else zig n / 128 ^ i % 128 + 128 := by
  unfold putZ at *
  have hz9 : zig n < 128 ^ 9 := by rw [show (128 : Nat) ^ 9 = 2 ^ 63 from by decide]; exact hz
  rw [lebF_at 9 _ hz9 i hi]
  by_cases h : i + 1 = (lebF 9 (zig n)).length
  · rw [if_pos h, if_pos h]
    have := lebF_last 9 _ hz9 (by omega)
    rw [← h, Nat.add_sub_cancel] at this
    rw [UInt8.toNat_ofNat']
    exact Nat.mod_eq_of_lt (Nat.lt_trans this (by decide))
  · rw [if_neg h, if_neg h]
    have : zig n / 128 ^ i % 128 < 128 := Nat.mod_lt _ (by omega)
    rw [UInt8.toNat_ofNat']
    omega

set_option maxRecDepth 100000 in
set_option maxHeartbeats 4000000 in
theorem Int_any (s : ByteArray) (pre post : List UInt8) (n : Int) (w : World) (h1 : -(2 ^ 62 - 1) ≤ n) (h2 : n ≤ 2 ^ 62 - 1) (hs : s.data.toList = pre ++ (putZ n ++ post)) (hsz : s.size ≤ 1000000) :
    Calls Tryz.prog 76 #[.string s, .int .i64 (pre.length : Nat)] w fun e w' => e = .returned (.tuple #[.int .i64 n, .int .i64 ((pre.length + (putZ n).length : Nat) : Int), .int .i64 0]) ∧ w' = w := by
  have hz := zig_lt h1 h2
  have hz9 : zig n < 128 ^ 9 := by rw [show (128 : Nat) ^ 9 = 2 ^ 63 from by decide]; exact hz
  have hbits := unzig_bits n h1 h2
  have hL9 := putZ_len n
  have hL0 := putZ_pos n
  have hsl : s.size = pre.length + (putZ n).length + post.length := by
    have := congrArg List.length hs
    simp only [List.length_append] at this
    rw [← ByteArray.size_data, ← Array.length_toList, this]
    omega
  have hbyte : Hid (∀ i, i < (putZ n).length → ∀ w, (Instr.index 9 (.string s) (.int .i64 ((pre.length : Int) + (i : Int)))).run Tryz.prog w = .ok (.int .u8 (((if i + 1 = (putZ n).length then zig n / 128 ^ i else zig n / 128 ^ i % 128 + 128 : Nat)) : Int)) w) := Lib.hid fun i hi w => by
    have hg : s.data.toList[pre.length + i]? = some (putZ n)[i]! := by
      rw [hs, List.getElem?_append_right (by omega), Nat.add_sub_cancel_left, List.getElem?_append_left hi, List.getElem?_eq_getElem hi, getElem!_pos _ i hi]
    rw [index_str hg w _ (by omega), putZ_byte hz hi]
  have hor := Lib.hid fun i => or_group (zig n) i hz
  have hlast := Lib.hid (lebF_last 9 _ hz9 (by omega))
  have hmore := Lib.hid (fun i (h : i + 1 < (putZ n).length) => lebF_more 9 (zig n) i hz9 h)
  have hlast2 : Hid (zig n < 128 ^ (putZ n).length) := Lib.hid (by
    have h := hlast.out
    rw [Nat.div_lt_iff_lt_mul (Nat.pow_pos (by omega)), ← Nat.pow_succ'] at h
    have e : ((lebF 9 (zig n)).length - 1).succ = (putZ n).length := by
      have h0 : 0 < (lebF 9 (zig n)).length := lebF_pos 8 _
      unfold putZ
      omega
    rwa [e] at h)
  obtain ⟨L, hL⟩ : ∃ L, L = (putZ n).length := ⟨_, rfl⟩
  obtain ⟨p, hp⟩ : ∃ p, p = pre.length := ⟨_, rfl⟩
  rw [← hL] at hbyte hmore hlast2 hL9 hL0 hsl ⊢
  rw [← hp] at hbyte hsl ⊢
  generalize hzz : zig n = z at *
  replace hL := Lib.hid hL
  replace hp := Lib.hid hp
  replace hzz := Lib.hid hzz
  replace hbits := Lib.hid hbits
  clear hs hlast
  go_enter Tryz.func76, Tryz.ntmps76
  have g3 : (p : Int) ≤ (s.size : Int) := by omega
  have g1 : decide ((p : Int) < 0) = false := by simp
  have g2 : decide ((p : Int) > (s.size : Int)) = false := by simp; omega
  have g2' : decide ((s.size : Int) < (p : Int)) = false := by simp; omega
  replace hsl := Lib.hid hsl
  go_wp2_with fail
  go_loop [7, 19] (fun vz vi => ∃ i a : Nat, i < L ∧ vz = .int .u64 (a : Int) ∧ vi = .int .i64 (i : Int) ∧ Hid (a = z % 128 ^ i)) (fun _ vi => L - (intOf vi).toNat)
  case atStart => exact ⟨0, 0, hL0, rfl, rfl, Lib.hid (by simp [Nat.mod_one])⟩
  case round =>
    obtain ⟨i, a, hi, rfl, rfl, haz⟩ := hrel
    have hd : decide ((i : Int) < 9) = true := by simp; omega
    have hsl := hsl.out
    have hge : decide ((p : Int) + (i : Int) ≥ (s.size : Int)) = false := by simp; omega
    have hge' : decide ((s.size : Int) ≤ (p : Int) + (i : Int)) = false := by simp; omega
    clear hsl
    have hix := hbyte.out i hi
    have ho := hor.out i
    rw [← haz.out] at ho
    have hm127 : z / 128 ^ i % 128 < 128 := Nat.mod_lt _ (by omega)
    have hsh : z / 128 ^ i % 128 * 128 ^ i ≤ z := by
      rw [Nat.mul_comm]
      exact Nat.le_trans (Nat.mul_le_mul_left _ (Nat.mod_le _ _)) (Nat.mul_div_le _ _)
    have hp2 : (128 : Nat) ^ i = 2 ^ (7 * i) := by rw [show (128 : Nat) = 2 ^ 7 from rfl, ← Nat.pow_mul]
    obtain ⟨q, hq⟩ : ∃ q, q = z / 128 ^ i % 128 * 128 ^ i := ⟨_, rfl⟩
    rw [← hq] at ho hsh
    have hwq : IntKind.u64.wrap (((z / 128 ^ i % 128 : Nat) : Int) * 2 ^ (7 * i)) = (q : Int) := by
      have e : ((z / 128 ^ i % 128 : Nat) : Int) * 2 ^ (7 * i) = (q : Int) := by rw [hq, hp2]; push_cast; rfl
      rw [e, u64_of (by omega) (by omega)]
    clear hq hp2
    have hi9 : (i : Int) ≤ 8 := by omega
    by_cases hlst : i + 1 = L
    · rw [if_pos hlst] at hix
      have hy : z / 128 ^ i < 128 := by
        have h := hlast2.out
        rw [← hlst, Nat.pow_succ] at h
        rw [Nat.div_lt_iff_lt_mul (Nat.pow_pos (by omega))]
        rwa [Nat.mul_comm]
      have ha := and127b (z / 128 ^ i) (by omega)
      have hz1 : z % 128 ^ (i + 1) = z := by rw [hlst]; exact Nat.mod_eq_of_lt hlast2.out
      rw [hz1] at ho
      rw [Nat.mod_eq_of_lt hy] at ha hwq
      have hb0 : ((((z / 128 ^ i : Nat) : Int) == 0) = false ∨ i = 0) := by
        rcases Nat.eq_zero_or_pos i with h | h
        · exact .inr h
        · refine .inl ?_
          obtain ⟨k, rfl⟩ := Nat.exists_eq_add_one_of_ne_zero (by omega : i ≠ 0)
          have h2 := hmore.out k (by omega)
          have h3 : z / 128 ^ (k + 1) = z / 128 ^ k / 128 := by rw [Nat.pow_succ, Nat.div_div_eq_div_mul]
          rw [beq_eq_false_iff_ne]
          omega
      clear hm127
      generalize z / 128 ^ i = y at *
      have hy2 : decide ((y : Int) ≥ 128) = false := by simp; omega
      have hy3 : decide ((128 : Int) ≤ (y : Int)) = false := by simp; omega
      have hand1 := and_one_u64 (z : Int) (by omega) (by omega)
      have hz8 : (z : Int) ≤ 9223372036854775807 := by omega
      have hbo := hbits.out
      clear haz hbyte hor hlast2 hmore hz1 hsh hz hz9
      have hnb : decide (n < -4611686018427387903) = false := by simp; omega
      have hpL : (p : Int) + (i : Int) + 1 = (p : Int) + (L : Int) := by omega
      rcases hb0 with hb0 | hb0
      · replace hlst := Lib.hid hlst
        go_wp2_with fail
        go_ret3
        exact ⟨rfl, rfl⟩
      · have hi0 : decide ((i : Int) > 0) = false := by simp; omega
        have hi1 : decide (0 < (i : Int)) = false := by simp; omega
        have hi2 : decide (0 < i) = false := by simp; omega
        replace hlst := Lib.hid hlst
        replace hb0 := Lib.hid hb0
        cases hyz : ((y : Int) == 0) with
        | true =>
          go_wp2_with fail
          go_ret3
          exact ⟨rfl, rfl⟩
        | false =>
          go_wp2_with fail
          go_ret3
          exact ⟨rfl, rfl⟩
    · rw [if_neg hlst] at hix
      have ha := and127b (z / 128 ^ i % 128 + 128) (by omega)
      have hmm : (z / 128 ^ i % 128 + 128) % 128 = z / 128 ^ i % 128 := by omega
      rw [hmm] at ha
      generalize z / 128 ^ i % 128 = y at *
      obtain ⟨c, hc⟩ : ∃ c, c = y + 128 := ⟨_, rfl⟩
      rw [← hc] at ha hix
      have hy2 : decide ((c : Int) ≥ 128) = true := by simp; omega
      have hy3 : decide ((128 : Int) ≤ (c : Int)) = true := by simp; omega
      have hc256 : (c : Int) ≤ 255 := by omega
      obtain ⟨r, hr⟩ : ∃ r, r = z % 128 ^ (i + 1) := ⟨_, rfl⟩
      rw [← hr] at ho
      replace hr := Lib.hid hr
      clear hc hmm haz
      go_wp2_with fail
      exact ⟨⟨i + 1, r, by omega, rfl, by first | rfl | (congr 1; omega), hr⟩, by simp [intOf]; omega⟩
end Go.Proofs.YtocpnlifmeffkaaGreatDoor
namespace Go.Proofs.YtocpnlifmeffkaaGreatDoor
open Go.RowKit Go.Shelf

attribute [local go_sem] Oper.semAt_some

theorem extract_mid (s : ByteArray) (a n : Nat) : s.extract a (a + n) = str ((s.data.toList.drop a).take n) := by
  apply ByteArray.ext
  apply Array.ext'
  simp [str, List.take_drop]
theorem PutInt_any (n : Int) (w : World) (h1 : -(2 ^ 62 - 1) ≤ n) (h2 : n ≤ 2 ^ 62 - 1) :
    Calls Tryz.prog 33 #[.int .i64 n] w fun e W' => e = .returned (.tuple #[.string (str (putZ n)), .int .i64 0]) ∧ Below w.heap.size w W' :=
  callsIn_wide.1 (PutInt_in n w h1 h2)
def putSb (s : List UInt8) : List UInt8 := putZ s.length ++ s
theorem putSb_len (s : List UInt8) : (putSb s).length = (putZ s.length).length + s.length := by simp [putSb]
set_option maxRecDepth 100000 in
set_option maxHeartbeats 1000000 in
theorem PutString_any (s : List UInt8) (w : World) (hs : s.length ≤ 65536) :
    Calls Tryz.prog 120 #[.string (str s)] w fun e W' => e = .returned (.tuple #[.string (str (putSb s)), .int .i64 0]) ∧ Below w.heap.size w W' := by
  have hP := Lib.hid fun W => PutInt_any (s.length : Int) W (by omega) (by omega)
  have hsz := str_size s
  have hgt : decide ((s.length : Int) > 65536) = false := by simp; omega
  have hgt2 : decide ((65536 : Int) < (s.length : Int)) = false := by simp; omega
  have happ : str (putZ s.length) ++ str s = str (putSb s) := by
    apply ByteArray.ext
    simp [str, putSb]
  have hu9 : (putZ s.length).length ≤ 9 := putZ_len _
  have hus := str_size (putZ s.length)
  generalize putSb s = t at *
  generalize putZ s.length = u at *
  go_enter Tryz.func120, Tryz.ntmps120
  go_wp2_with (go_at_call 33; refine (hP.out _).mono ?_; rintro e w1 ⟨rfl, hb1⟩)
  go_ret2
  exact ⟨rfl, hb1⟩
set_option maxRecDepth 100000 in
set_option maxHeartbeats 1000000 in
theorem String_any (s : ByteArray) (pre t post : List UInt8) (w : World) (ht : t.length ≤ 65536) (hs : s.data.toList = pre ++ (putSb t ++ post)) (hsz : s.size ≤ 1000000) :
    Calls Tryz.prog 165 #[.string s, .int .i64 (pre.length : Nat)] w fun e w' => e = .returned (.tuple #[.string (str t), .int .i64 ((pre.length + (putSb t).length : Nat) : Int), .int .i64 0]) ∧ w' = w := by
  have hI := Int_any s pre (t ++ post) t.length w (by omega) (by omega) (by rw [hs, putSb, List.append_assoc]) hsz
  have hL := putSb_len t
  have hsl : s.size = pre.length + (putZ t.length).length + t.length + post.length := by
    have := congrArg List.length hs
    simp only [List.length_append, hL] at this
    rw [← ByteArray.size_data, ← Array.length_toList, this]
    omega
  have hex : s.extract (pre.length + (putZ t.length).length) (pre.length + (putZ t.length).length + t.length) = str t := by
    rw [extract_mid, hs]
    congr 1
    have e : pre ++ (putSb t ++ post) = (pre ++ putZ t.length) ++ (t ++ post) := by simp [putSb]
    rw [e, List.drop_left' (by simp), List.take_left' rfl]
  have hL9 : (putZ t.length).length ≤ 9 := putZ_len _
  have hfin : ((pre.length + (putZ t.length).length : Nat) : Int) + (t.length : Int) = ((pre.length + (putSb t).length : Nat) : Int) := by rw [hL]; omega
  generalize (putSb t).length = r at *
  obtain ⟨m, hm⟩ : ∃ m, m = pre.length + (putZ t.length).length := ⟨_, rfl⟩
  rw [← hm] at hI hex hfin
  obtain ⟨k, hk⟩ : ∃ k, k = pre.length + r := ⟨_, rfl⟩
  rw [← hk] at hfin ⊢
  obtain ⟨p, hp⟩ : ∃ p, p = pre.length := ⟨_, rfl⟩
  rw [← hp] at hI ⊢
  have h1 : decide ((t.length : Int) < 0) = false := by simp
  have h2 : decide ((t.length : Int) > 65536) = false := by simp; omega
  have h2' : decide ((65536 : Int) < (t.length : Int)) = false := by simp; omega
  have h3 : decide ((t.length : Int) > (s.size : Int) - (m : Int)) = false := by simp; omega
  have h3' : decide ((s.size : Int) - (m : Int) < (t.length : Int)) = false := by simp; omega
  have h4 : (m : Int) ≤ (s.size : Int) := by omega
  have h5 : (m : Int) + (t.length : Int) ≤ (s.size : Int) := by omega
  have h6 : ((m : Int) + (t.length : Int)).toNat = m + t.length := by omega
  have hmk : m + t.length = k := by omega
  rw [hmk] at hex h6
  replace hmk := Lib.hid hmk
  replace hk := Lib.hid hk
  replace hm := Lib.hid hm
  replace hp := Lib.hid hp
  replace hsl := Lib.hid hsl
  replace hI := Lib.hid hI
  clear hs hL
  go_enter Tryz.func165, Tryz.ntmps165
  go_wp2_with (go_at_call 76; refine hI.out.mono ?_; rintro e w1 ⟨rfl, rfl⟩)
  go_ret3
  exact ⟨by rw [← hex]; rfl, rfl⟩
end Go.Proofs.YtocpnlifmeffkaaGreatDoor
