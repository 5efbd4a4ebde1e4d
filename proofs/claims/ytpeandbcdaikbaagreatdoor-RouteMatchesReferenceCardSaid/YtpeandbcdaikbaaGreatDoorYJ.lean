/-
 Routes of chapter 11: slices.Clone, Contains of numbers; plan.arrived.
 Routes of chapter 11: plan.on, where it is none (printed by tools/genrd7.py).
 Routes of chapter 11: plan.on, where the edge does not fit (printed by tools/genrd8.py).
 Routes of chapter 11: append(slices.Clone(l), x) in a region that draws: what is done so far.
-/
import Derived.Test.YtpeandbcdaikbaaGreatDoorYI
open List (setIfInBounds_toArray set_cons_zero set_cons_succ)
namespace Go.Proofs.YtpeandbcdaikbaaGreatDoor
open Go.RowKit Go.Shelf Go.Maps

attribute [local go_sem] Oper.semAt_some

theorem ints_one (l : List Int) : ∀ u ∈ ints l, u.oneCell' = true := by
 intro u hu
 obtain ⟨s, _, rfl⟩ := List.mem_map.1 hu
 rfl
set_option maxRecDepth 100000 in
set_option maxHeartbeats 2000000 in
/-- The copy of a row of numbers is a row of the call's own. -/
theorem cloneI_any (v : Value) (l : List Int) (w : World) (hv : NumsAt w w.heap.size v l) (hl : l.length ≤ 1000) :
  Calls Tryz.prog 72 #[v] w fun e w' => ∃ v', e = .returned v' ∧ w'.ownsRow w.heap.size 3 1 v' l.length (ints l) ∧ Below w.heap.size w w' := by
 obtain ⟨i0, hi, hz0, hz1, hz2⟩ := info_parts Tryz.info_int
 have hv' := Lib.hid (hv.later ((Below.refl _ w).alloc (Nat.le_refl _) (.cells #[] 3)))
 have hlen : Hid ((ints l).length = l.length * 1) := Lib.hid (by rw [ints_len]; omega)
 have hone := Lib.hid (ints_one l)
 obtain ⟨a, cap, rfl, _, _, hc⟩ := hv
 have q22 : ∀ (w : World) (a : Option Addr) (n c n' c' : Nat), (binOp .eql 23 (.slice a n c) (.slice none n' c')).run Tryz.prog w = .ok (.bool a.isNone) w := fun w a n c n' c' => Lib.run_eql_slice_nil w _ _ a n c n' c' Tryz.underlying23
 cases a with
 | none =>
  have h0 : l = [] := by
   cases l with
   | nil => rfl
   | cons x r => obtain ⟨_, _, h, _⟩ := hc (by simp); cases h
  subst h0
  exact (AnyE.slices_Clone_nil Tryz.laysE41i 0 cap w).mono fun e w' h => by
   obtain ⟨rfl, rfl⟩ := h
   exact ⟨_, rfl, World.ownsRow_nil _ _ _ _, Below.refl _ _⟩
 | some p =>
  clear hc
  go_enter Tryz.func72, Tryz.ntmps72
  go_wp2_with (at_builtin; refine wpList_append_src rfl _ _ 23 rfl w.heap.size 3 i0 (.int .i64 0) 1 8 Tryz.underlying23 hi hz0 hz1 hz2 rfl (by decide) _ _ _ rfl (World.ownsRow_made w #[] 0 (Nat.le_refl _) (Nat.zero_le _) (by simp)) _ l.length _ (ints l) rfl hv'.out hlen.out hone.out ?qc4 ?qc5 ?qc6 ?_)
  case qc4 => unfold maxLen; omega
  case qc5 => omega
  case qc6 => simp
  intro v' w1 hown hgrow
  go_wp2
  go_ret
  refine ⟨v', rfl, by simpa using hown, ?_⟩
  exact ((Below.refl _ w).alloc (Nat.le_refl _) _).grown hgrow (by simp) (by intro k hk; simp [Value.ownBlock] at hk; omega)
set_option maxHeartbeats 1000000 in
/-- Contains reads only (and draws nothing). -/
theorem containsI_any (v : Value) (l : List Int) (x : Int) (w : World) (hv : NumsAt w w.heap.size v l) (h0 : l ≠ []) (W : World) (hb : Below w.heap.size w W) :
  Calls Tryz.prog 71 #[v, .int .i64 x] W fun e w' => e = .returned (.bool (decide (x ∈ l))) ∧ w' = W := by
 obtain ⟨a, cap, rfl, h1, h2, hc⟩ := hv
 obtain ⟨b, o, rfl, hbl, hx⟩ := hc (List.length_pos_iff.2 h0)
 have hh := Any.slices_Contains_int Tryz.lays107 b o l.length cap l x W (Nat.le_refl _) (by unfold maxLen at h2; omega) (fun j hj => by
  rw [List.getD_eq_getElem?_getD, List.getElem?_eq_getElem hj]
  exact (hb.cell (p := ⟨b, o + j, none⟩) hbl).trans (hx j _ (by rw [List.getElem?_map, List.getElem?_eq_getElem hj]; rfl)))
 rw [List.take_length] at hh
 have e : l.contains x = decide (x ∈ l) := by rw [Bool.eq_iff_iff, decide_eq_true_eq, List.contains_iff_mem]
 rw [← e]
 exact hh
theorem arr_result2 {P : Program} {fn : Func} {p u : Tmp} {ty : TypeId} (h : fn.results = #[.cell p ty, .tmp u]) (tmps : Array Value) {w : World} {B : Nat} {T : TypeId} {L : List Value} (hA : Arr w B T L) {d : TypeDesc} {n : Nat}
  (hp : tmps.getD p undef = .pointer (some ⟨B, 0, none⟩)) (hu : P.underlying ty = some d) (hd : d.isRow = true) (hi : (P.info? ty).map (·.size) = some n) (hn : L.length = n) :
  (results fn tmps).run P w = .ok (.tuple #[.agg L.toArray, tmps.getD u undef]) w := by
 rw [results_cell_tmp h tmps P w, hp]
 have hr := run_loadVar_row (P := P) w B T ty L.toArray (0, 0) d hA hu (by cases d <;> simp_all [TypeDesc.isRow]) (by simpa [hn] using hi)
 simp only [asAddr, Result.andThen, Sem.run_pure, hr]
def planP (ev lv : Value) (day : Int) : Value := .agg #[ev, lv, .int .i64 day]
def rouV (ev cv : Value) (r : Rou) : Value := .agg #[ev, .int .i64 r.cost, .int .i64 r.life, cv]
set_option maxRecDepth 100000 in
set_option maxHeartbeats 4000000 in
theorem arrived_any (life : List Int) (day : Int) (pev : Value) (plv : Value) (fv ev cv : Value) (x : Way) (w : World) (hp : ∃ a n c, pev = .slice a n c) (hl : NumsAt w w.heap.size plv life) (h : WayT w fv ev cv x) :
  Calls Tryz.prog 43 #[.agg #[pev, plv, .int .i64 day], .agg #[fv, ev, .int .i64 x.rou.cost, .int .i64 x.rou.life, cv]] w fun e w' => (match arrivedP life day x with
   | none => e = .returned (.tuple #[.agg #[.slice none 0 0, .int .i64 0, .int .i64 0, .slice none 0 0], .bool false])
   | some r => e = .returned (.tuple #[.agg #[ev, .int .i64 r.cost, .int .i64 r.life, cv], .bool true])) ∧ Below w.heap.size w w' := by
 obtain ⟨pa, pn, pc, rfl⟩ := hp
 obtain ⟨W, hW⟩ : ∃ W, W = ((w.alloc (.cells #[.slice pa pn pc, plv, .int .i64 day] 80)).alloc (.cells #[fv, ev, .int .i64 x.rou.cost, .int .i64 x.rou.life, cv] 82)).alloc (.cells #[.slice none 0 0, .int .i64 0, .int .i64 0, .slice none 0 0] 33) := ⟨_, rfl⟩
 have hA : Arr W w.heap.size 80 [.slice pa pn pc, plv, .int .i64 day] := by rw [hW]; exact ((Arr.new rfl rfl).alloc _).alloc _
 have hB : Arr W (w.heap.size + 1) 82 [fv, ev, .int .i64 x.rou.cost, .int .i64 x.rou.life, cv] := by rw [hW]; exact (Arr.new rfl (by simp)).alloc _
 have hC : Arr W (w.heap.size + 1 + 1) 33 [.slice none 0 0, .int .i64 0, .int .i64 0, .slice none 0 0] := by rw [hW]; exact Arr.new rfl (by simp)
 have hbW : Below w.heap.size w W := by rw [hW]; exact (((Below.refl _ _).alloc (Nat.le_refl _) _).alloc (by simp) _).alloc (by simp; omega) _
 have hla := Lib.hid (last_any fv ev cv x W (h.below hbW))
 have hcell := Lib.hid fun i (hi : i < life.length) => NumsAt.cells hl hi
 have hR : Hid (arrivedP life day x = if x.last < 0 ∨ (life.length : Int) ≤ x.last ∨ life[x.last.toNat]! < day then none else some { x.rou with life := life[x.last.toNat]! }) := Lib.hid rfl
 generalize arrivedP life day x = R at *
 generalize x.last = f at *
 obtain ⟨fa, fc, rfl, _⟩ := h.formats.len
 obtain ⟨ea, ec, rfl, _⟩ := h.edges.len
 obtain ⟨_, _, ⟨ca, cc, rfl, _, _, _⟩, _⟩ := h.claims
 obtain ⟨la, lc, rfl, _, _, _⟩ := hl
 obtain ⟨fm, ⟨es, cost, lf, cl⟩⟩ := x
 dsimp only at *
 clear h
 go_enter Tryz.func43, Tryz.ntmps43
 go_wp2_with fail
 rw [← hW]
 refine hla.out.mono ?_
 rintro e w1 ⟨rfl, hb1⟩
 have hbw1 := Lib.hid (hbW.trans (hb1.mono hbW.size))
 have hA1 := hA.below hb1
 have hB1 := hB.below hb1
 have hC1 := hC.below hb1
 have a0 := hA1.cell (j := 0) rfl
 have a1 := hA1.cell (j := 1) rfl
 have a2 := hA1.cell (j := 2) rfl
 have b0 := hB1.cell (j := 0) rfl
 have b1 := hB1.cell (j := 1) rfl
 have b2 := hB1.cell (j := 2) rfl
 have b3 := hB1.cell (j := 3) rfl
 have b4 := hB1.cell (j := 4) rfl
 have bf := hB1.free 3
 have hCh := Lib.hid hC1
 have hBh := Lib.hid hB1
 clear hA hB hC hA1 hB1 hC1 hb1 hbW hW hla
 by_cases h1 : f < 0
 ·
  have hd : decide (f < 0) = true := by simpa using h1
  obtain rfl : R = none := hR.out.trans (if_pos (.inl h1))
  clear hR
  go_wp2_with fail
  go_quiet (fail)
  have hbq := below_drewN (Below.refl w1.heap.size w1) nq
  have hC2 := Lib.hid (hCh.out.below hbq)
  have hbz := Lib.hid (hbw1.out.trans (hbq.mono hbw1.out.size))
  clear hbq
  go_wp2_with (refine arr_store rfl 33 _ _ rfl (w.heap.size + 1 + 1) rfl (vs := [.slice none 0 0, .int .i64 0, .int .i64 0, .slice none 0 0]) rfl hC2.out (n := 4) (by kernel_rfl) rfl rfl rfl ?_)
  refine bodyPost_ret (arr_result2 (p := 4) (ty := 33) (u := 5) (n := 4) (by kernel_rfl) _ (hC2.out.setAll (vs := [.slice none 0 0, .int .i64 0, .int .i64 0, .slice none 0 0]) rfl) rfl Tryz.underlying33 rfl (by kernel_rfl) rfl) rfl ?_
  exact ⟨rfl, Below.setCells _ _ _ _ hbz.out (by omega)⟩
 ·
  have hd : decide (f < 0) = false := by simpa using h1
  by_cases h2 : (life.length : Int) ≤ f
  ·
   have hd2 : decide (f ≥ (life.length : Int)) = true := by simpa using h2
   obtain rfl : R = none := hR.out.trans (if_pos (.inr (.inl h2)))
   clear hR
   go_wp2_with fail
   go_quiet (fail)
   have hbq := below_drewN (Below.refl w1.heap.size w1) nq
   have hC2 := Lib.hid (hCh.out.below hbq)
   have hbz := Lib.hid (hbw1.out.trans (hbq.mono hbw1.out.size))
   clear hbq
   go_wp2_with (refine arr_store rfl 33 _ _ rfl (w.heap.size + 1 + 1) rfl (vs := [.slice none 0 0, .int .i64 0, .int .i64 0, .slice none 0 0]) rfl hC2.out (n := 4) (by kernel_rfl) rfl rfl rfl ?_)
   refine bodyPost_ret (arr_result2 (p := 4) (ty := 33) (u := 5) (n := 4) (by kernel_rfl) _ (hC2.out.setAll (vs := [.slice none 0 0, .int .i64 0, .int .i64 0, .slice none 0 0]) rfl) rfl Tryz.underlying33 rfl (by kernel_rfl) rfl) rfl ?_
   exact ⟨rfl, Below.setCells _ _ _ _ hbz.out (by omega)⟩
  ·
   have hd2 : decide (f ≥ (life.length : Int)) = false := by simpa using h2
   obtain ⟨b, o, cap, hv, hb, x0⟩ := hcell.out f.toNat (by omega)
   injection hv with hv _ hv3
   subst hv hv3
   have y0 := (hbw1.out.cell (p := ⟨b, o + f.toNat, none⟩) hb).trans x0
   obtain ⟨k, rfl⟩ : ∃ k : Nat, f = (k : Int) := ⟨f.toNat, by omega⟩
   simp only [Int.toNat_natCast] at y0 hR
   have k0 : (0 : Int) ≤ (k : Int) := by omega
   have k1 : (k : Int) < (life.length : Int) := by omega
   have hd4 : decide (life.length ≤ k) = false := decide_eq_false (by omega)
   clear x0 hcell
   generalize life[k]! = lf2 at *
   by_cases h3 : lf2 < day
   ·
    have hd3 : decide (lf2 < day) = true := by simpa using h3
    obtain rfl : R = none := hR.out.trans (if_pos (.inr (.inr h3)))
    clear hR
    go_wp2_with fail
    go_quiet (fail)
    have hbq := below_drewN (Below.refl w1.heap.size w1) nq
    have hC2 := Lib.hid (hCh.out.below hbq)
    have hbz := Lib.hid (hbw1.out.trans (hbq.mono hbw1.out.size))
    clear hbq
    go_wp2_with (refine arr_store rfl 33 _ _ rfl (w.heap.size + 1 + 1) rfl (vs := [.slice none 0 0, .int .i64 0, .int .i64 0, .slice none 0 0]) rfl hC2.out (n := 4) (by kernel_rfl) rfl rfl rfl ?_)
    refine bodyPost_ret (arr_result2 (p := 4) (ty := 33) (u := 5) (n := 4) (by kernel_rfl) _ (hC2.out.setAll (vs := [.slice none 0 0, .int .i64 0, .int .i64 0, .slice none 0 0]) rfl) rfl Tryz.underlying33 rfl (by kernel_rfl) rfl) rfl ?_
    exact ⟨rfl, Below.setCells _ _ _ _ hbz.out (by omega)⟩
   ·
    have hd3 : decide (lf2 < day) = false := by simpa using h3
    obtain rfl : R = some ⟨es, cost, lf2, cl⟩ := hR.out.trans (if_neg (by omega))
    clear hR
    dsimp only
    go_wp2_with fail
    go_quiet (fail)
    have hbq := below_drewN (Below.refl w1.heap.size w1) nq
    have hC2 := hCh.out.below hbq
    have hB2 := hBh.out.below hbq
    have hbz := Lib.hid (hbw1.out.trans (hbq.mono hbw1.out.size))
    have hB3 := hB2.set 3 (.int .i64 lf2)
    have hC3 := Lib.hid (hC2.other (b := w.heap.size + 1) (o := 3) (.int .i64 lf2) (by omega))
    have d1 := hB3.cell (j := 1) rfl
    have d2 := hB3.cell (j := 2) rfl
    have d3 := hB3.cell (j := 3) rfl
    have d4 := hB3.cell (j := 4) rfl
    have hbz3 := Lib.hid (hbz.out.setCell (p := ⟨w.heap.size + 1, 3, none⟩) (by show w.heap.size ≤ w.heap.size + 1; omega) (.int .i64 lf2))
    have hdf := hB2.free 3
    clear hbq hB2 hC2 hB3
    go_wp2_with (refine arr_store rfl 33 _ _ rfl (w.heap.size + 1 + 1) rfl (vs := [.slice ea es.length ec, .int .i64 cost, .int .i64 lf2, .slice ca cl.length cc]) rfl hC3.out (n := 4) (by kernel_rfl) rfl rfl rfl ?_)
    refine bodyPost_ret (arr_result2 (p := 4) (ty := 33) (u := 5) (n := 4) (by kernel_rfl) _ (hC3.out.setAll (vs := [.slice ea es.length ec, .int .i64 cost, .int .i64 lf2, .slice ca cl.length cc]) rfl) rfl Tryz.underlying33 rfl (by kernel_rfl) rfl) rfl ?_
    exact ⟨rfl, Below.setCells _ _ _ _ hbz3.out (by omega)⟩
end Go.Proofs.YtpeandbcdaikbaaGreatDoor
namespace Go.Proofs.YtpeandbcdaikbaaGreatDoor
open Go.RowKit Go.Shelf Go.Maps

attribute [local go_sem] Oper.semAt_some

def zeroWayV : Value := .agg #[.slice none 0 0, .slice none 0 0, .int .i64 0, .int .i64 0, .slice none 0 0]
/-- The end of plan.on, in a frame of 123 slots. -/
theorem on_end (w W : World) (tmps : Array Value) (B : Nat) (L : List Value) (b : Bool) (hA : Arr W B 82 L) (hn : L.length = 5) (hp : tmps.getD 6 undef = .pointer (some ⟨B, 0, none⟩)) (h7 : tmps.getD 7 undef = .bool b) (hb : Below w.heap.size w W) :
  bodyPost Tryz.prog Tryz.f42 (fun e w' => e = .returned (.tuple #[.agg L.toArray, .bool b]) ∧ Below w.heap.size w w') .ret { tmps := tmps, defers := [] } W := by
 refine bodyPost_ret (arr_result2 (p := 6) (ty := 82) (u := 7) (n := 5) (by kernel_rfl) tmps hA hp Tryz.underlying82 rfl (by kernel_rfl) hn) rfl ?_
 rw [h7]
 exact ⟨rfl, hb⟩
set_option maxRecDepth 100000 in
set_option maxHeartbeats 800000 in
theorem on_none1 (l : List Edg) (day : Int) (pev plv : Value) (fv ev cv : Value) (x : Way) (edge : Int) (w : World) (hE : EdgesAt w w.heap.size pev l) (hp : ∃ a n c, plv = .slice a n c) (h : WayT w fv ev cv x) (hno : edge < 0 ∨ (l.length : Int) ≤ edge ∨ x.rou.edges.length = 6) :
  Calls Tryz.prog 42 #[.agg #[pev, plv, .int .i64 day], .agg #[fv, ev, .int .i64 x.rou.cost, .int .i64 x.rou.life, cv], .int .i64 edge] w fun e w' => e = .returned (.tuple #[zeroWayV, .bool false]) ∧ Below w.heap.size w w' := by
 obtain ⟨pa, pn, pc, rfl⟩ := hp
 obtain ⟨W, hW⟩ : ∃ W, W = ((w.alloc (.cells #[pev, .slice pa pn pc, .int .i64 day] 80)).alloc (.cells #[fv, ev, .int .i64 x.rou.cost, .int .i64 x.rou.life, cv] 82)).alloc (.cells #[.slice none 0 0, .slice none 0 0, .int .i64 0, .int .i64 0, .slice none 0 0] 82) := ⟨_, rfl⟩
 have hA : Arr W w.heap.size 80 [pev, .slice pa pn pc, .int .i64 day] := by rw [hW]; exact ((Arr.new rfl rfl).alloc _).alloc _
 have hB : Arr W (w.heap.size + 1) 82 [fv, ev, .int .i64 x.rou.cost, .int .i64 x.rou.life, cv] := by rw [hW]; exact (Arr.new rfl (by simp)).alloc _
 have hC : Arr W (w.heap.size + 1 + 1) 82 [.slice none 0 0, .slice none 0 0, .int .i64 0, .int .i64 0, .slice none 0 0] := by rw [hW]; exact Arr.new rfl (by simp)
 have hbW : Below w.heap.size w W := by rw [hW]; exact (((Below.refl _ _).alloc (Nat.le_refl _) _).alloc (by simp) _).alloc (by simp; omega) _
 obtain ⟨fa, fc, rfl, _⟩ := h.formats.len
 obtain ⟨ea, ec, rfl, _⟩ := h.edges.len
 obtain ⟨_, _, ⟨ca, cc, rfl, _, _, _⟩, _⟩ := h.claims
 obtain ⟨_, _, ⟨la, lc, rfl, _, _, _⟩, _⟩ := id hE
 obtain ⟨fm, ⟨es, cost, lf, cl⟩⟩ := x
 dsimp only at *
 have a0 := hA.cell (j := 0) rfl
 have a1 := hA.cell (j := 1) rfl
 have a2 := hA.cell (j := 2) rfl
 have b0 := hB.cell (j := 0) rfl
 have b1 := hB.cell (j := 1) rfl
 have b2 := hB.cell (j := 2) rfl
 have b3 := hB.cell (j := 3) rfl
 have b4 := hB.cell (j := 4) rfl
 have hCh := Lib.hid hC
 have hbh := Lib.hid hbW
 clear hA hB hC hbW h hE
 by_cases h1 : edge < 0
 ·
  have hd : decide (edge < 0) = true := by simpa using h1
  go_enter Tryz.func42, Tryz.ntmps42
  go_wp2_with (first | (rw [← hW]) | refine arr_store rfl 82 _ _ rfl (w.heap.size + 1 + 1) rfl (vs := [.slice none 0 0, .slice none 0 0, .int .i64 0, .int .i64 0, .slice none 0 0]) rfl hCh.out (n := 5) (by kernel_rfl) rfl rfl rfl ?_)
  refine on_end (L := [.slice none 0 0, .slice none 0 0, .int .i64 0, .int .i64 0, .slice none 0 0]) w _ _ (w.heap.size + 1 + 1) false ?a1 rfl ?a2 ?a3 ?a4
  case a4 => exact Below.setCells _ _ _ _ hbh.out (by omega)
  case a1 => exact hCh.out.setAll (vs := [.slice none 0 0, .slice none 0 0, .int .i64 0, .int .i64 0, .slice none 0 0]) rfl
  case a2 => kernel_rfl
  case a3 => kernel_rfl
 ·
  have hd : decide (edge < 0) = false := by simpa using h1
  by_cases h2 : (l.length : Int) ≤ edge
  ·
   have hd2 : decide (edge ≥ (l.length : Int)) = true := by simpa using h2
   go_enter Tryz.func42, Tryz.ntmps42
   go_wp2_with (first | (rw [← hW]) | refine arr_store rfl 82 _ _ rfl (w.heap.size + 1 + 1) rfl (vs := [.slice none 0 0, .slice none 0 0, .int .i64 0, .int .i64 0, .slice none 0 0]) rfl hCh.out (n := 5) (by kernel_rfl) rfl rfl rfl ?_)
   refine on_end (L := [.slice none 0 0, .slice none 0 0, .int .i64 0, .int .i64 0, .slice none 0 0]) w _ _ (w.heap.size + 1 + 1) false ?a1 rfl ?a2 ?a3 ?a4
   case a4 => exact Below.setCells _ _ _ _ hbh.out (by omega)
   case a1 => exact hCh.out.setAll (vs := [.slice none 0 0, .slice none 0 0, .int .i64 0, .int .i64 0, .slice none 0 0]) rfl
   case a2 => kernel_rfl
   case a3 => kernel_rfl
  ·
   have hd2 : decide (edge ≥ (l.length : Int)) = false := by simpa using h2
   obtain ⟨k, rfl⟩ : ∃ k : Nat, edge = (k : Int) := ⟨edge.toNat, by omega⟩
   have hd4 : decide (l.length ≤ k) = false := decide_eq_false (by omega)
   have h6 : es.length = 6 := by omega
   simp only [h6] at b1 hW ⊢
   clear h6
   go_enter Tryz.func42, Tryz.ntmps42
   go_wp2_with (first | (rw [← hW]) | refine arr_store rfl 82 _ _ rfl (w.heap.size + 1 + 1) rfl (vs := [.slice none 0 0, .slice none 0 0, .int .i64 0, .int .i64 0, .slice none 0 0]) rfl hCh.out (n := 5) (by kernel_rfl) rfl rfl rfl ?_)
   refine on_end (L := [.slice none 0 0, .slice none 0 0, .int .i64 0, .int .i64 0, .slice none 0 0]) w _ _ (w.heap.size + 1 + 1) false ?a1 rfl ?a2 ?a3 ?a4
   case a4 => exact Below.setCells _ _ _ _ hbh.out (by omega)
   case a1 => exact hCh.out.setAll (vs := [.slice none 0 0, .slice none 0 0, .int .i64 0, .int .i64 0, .slice none 0 0]) rfl
   case a2 => kernel_rfl
   case a3 => kernel_rfl
end Go.Proofs.YtpeandbcdaikbaaGreatDoor
namespace Go.Proofs.YtpeandbcdaikbaaGreatDoor
open Go.RowKit Go.Shelf Go.Maps

attribute [local go_sem] Oper.semAt_some

set_option maxRecDepth 100000 in
set_option maxHeartbeats 2600000 in
theorem on_none2 (l : List Edg) (day : Int) (pev plv : Value) (fv ev cv : Value) (x : Way) (edge : Int) (w : World) (hE : EdgesAt w w.heap.size pev l) (hp : ∃ a n c, plv = .slice a n c) (h : WayT w fv ev cv x) (k : Nat) (hk : k < l.length) (he : edge = (k : Int)) (hne : x.rou.edges.length ≠ 6) (hno : l[k]!.does.frm ≠ x.last ∨ l[k]!.until_ < day ∨ l[k]!.does.to ∈ x.formats) :
  Calls Tryz.prog 42 #[.agg #[pev, plv, .int .i64 day], .agg #[fv, ev, .int .i64 x.rou.cost, .int .i64 x.rou.life, cv], .int .i64 edge] w fun e w' => e = .returned (.tuple #[zeroWayV, .bool false]) ∧ Below w.heap.size w w' := by
 subst he
 have hfn : x.formats ≠ [] := h.ne
 have hla := fun W1 (hb1 : Below w.heap.size w W1) => last_any fv ev cv x W1 (h.below hb1)
 have hco := fun W1 (hb1 : Below w.heap.size w W1) => containsI_any fv x.formats l[k]!.does.to w h.formats.at hfn W1 hb1
 obtain ⟨pa, pn, pc, rfl⟩ := hp
 obtain ⟨W, hW⟩ : ∃ W, W = ((w.alloc (.cells #[pev, .slice pa pn pc, .int .i64 day] 80)).alloc (.cells #[fv, ev, .int .i64 x.rou.cost, .int .i64 x.rou.life, cv] 82)).alloc (.cells #[.slice none 0 0, .slice none 0 0, .int .i64 0, .int .i64 0, .slice none 0 0] 82) := ⟨_, rfl⟩
 have hA : Arr W w.heap.size 80 [pev, .slice pa pn pc, .int .i64 day] := by rw [hW]; exact ((Arr.new rfl rfl).alloc _).alloc _
 have hB : Arr W (w.heap.size + 1) 82 [fv, ev, .int .i64 x.rou.cost, .int .i64 x.rou.life, cv] := by rw [hW]; exact (Arr.new rfl (by simp)).alloc _
 have hC : Arr W (w.heap.size + 1 + 1) 82 [.slice none 0 0, .slice none 0 0, .int .i64 0, .int .i64 0, .slice none 0 0] := by rw [hW]; exact Arr.new rfl (by simp)
 have hbW : Below w.heap.size w W := by rw [hW]; exact (((Below.refl _ _).alloc (Nat.le_refl _) _).alloc (by simp) _).alloc (by simp; omega) _
 obtain ⟨fa, fc, rfl, _⟩ := h.formats.len
 obtain ⟨ea, ec, rfl, _⟩ := h.edges.len
 obtain ⟨_, _, ⟨ca, cc, rfl, _, _, _⟩, _⟩ := h.claims
 obtain ⟨_, _, ⟨la, lc, rfl, _, _, _⟩, _⟩ := id hE
 obtain ⟨fm, ⟨es, cost, lf, cl⟩⟩ := x
 dsimp only at *
 have a0 := hA.cell (j := 0) rfl
 have a1 := hA.cell (j := 1) rfl
 have a2 := hA.cell (j := 2) rfl
 have b0 := hB.cell (j := 0) rfl
 have b1 := hB.cell (j := 1) rfl
 have b2 := hB.cell (j := 2) rfl
 have b3 := hB.cell (j := 3) rfl
 have b4 := hB.cell (j := 4) rfl
 obtain ⟨b, o, cap, kv, hv, hb, x0, x1, x2, x3, x4, x5, x6, hK⟩ := EdgesAt.cells hE hk
 injection hv with hv _ hv3
 subst hv hv3
 have y0 := (hbW.cell (p := ⟨b, o + k * 7, none⟩) hb).trans x0
 have y1 := (hbW.cell (p := ⟨b, o + k * 7 + 1, none⟩) hb).trans x1
 have y2 := (hbW.cell (p := ⟨b, o + k * 7 + 2, none⟩) hb).trans x2
 have y3 := (hbW.cell (p := ⟨b, o + k * 7 + 3, none⟩) hb).trans x3
 have y4 := (hbW.cell (p := ⟨b, o + k * 7 + 4, none⟩) hb).trans x4
 have y5 := (hbW.cell (p := ⟨b, o + k * 7 + 5, none⟩) hb).trans x5
 have y6 := (hbW.cell (p := ⟨b, o + k * 7 + 6, none⟩) hb).trans x6
 clear hE
 have hb2 : b < w.heap.size + 1 := by omega
 have hb3 : b < w.heap.size + 1 + 1 := by omega
 obtain ⟨_, _, ⟨ka, kc, rfl, _, _, _⟩, _⟩ := id hK
 generalize hEd : l[k]! = E at *
 obtain ⟨ecost, euntil, ⟨eid, efrm, eto, eback, ekeep⟩⟩ := E
 dsimp only at *
 have k0 : (0 : Int) ≤ (k : Int) := by omega
 have k1 : (k : Int) < (l.length : Int) := by omega
 have hd1 : decide ((k : Int) < 0) = false := decide_eq_false (by omega)
 have hd2 : decide ((k : Int) ≥ (l.length : Int)) = false := decide_eq_false (by omega)
 have hd4 : decide (l.length ≤ k) = false := decide_eq_false (by omega)
 have hd5 : decide ((es.length : Int) = 6) = false := decide_eq_false (fun h => hne (by exact_mod_cast h))
 have hd6 : ((es.length : Int) == 6) = false := by simpa using hd5
 obtain ⟨W4, hW4⟩ : ∃ W4, W4 = W.alloc (.cells #[.int .i64 ecost, .int .i64 euntil, .int .i64 eid, .int .i64 efrm, .int .i64 eto, .bool eback, .slice ka ekeep.length kc] 30) := ⟨_, rfl⟩
 have hbW4 : Below W.heap.size W W4 := by rw [hW4]; exact (Below.refl _ _).alloc (Nat.le_refl _) _
 have hsW : W.heap.size = w.heap.size + 1 + 1 + 1 := by rw [hW]; simp
 have hD : Arr W4 (w.heap.size + 1 + 1 + 1) 30 [.int .i64 ecost, .int .i64 euntil, .int .i64 eid, .int .i64 efrm, .int .i64 eto, .bool eback, .slice ka ekeep.length kc] := by rw [hW4]; exact Arr.new rfl (by rw [hsW])
 generalize Way.last _ = lst at *
 have hbw4 := hbW.trans (hbW4.mono hbW.size)
 have hbd := Lib.hid hbw4.drew
 have hA4 := Lib.hid (hA.below hbW4)
 have hB4 := Lib.hid (hB.below hbW4)
 have hC4 := Lib.hid (hC.below hbW4)
 have da2 : W4.drew.cell? ⟨w.heap.size, 2, none⟩ = some (.int .i64 day) := hA4.out.cell rfl
 have db0 : W4.drew.cell? ⟨w.heap.size + 1, 0, none⟩ = some (.slice fa fm.length fc) := hB4.out.cell rfl
 have db1 : W4.drew.cell? ⟨w.heap.size + 1, 1, none⟩ = some (.slice ea es.length ec) := hB4.out.cell rfl
 have db2 : W4.drew.cell? ⟨w.heap.size + 1, 2, none⟩ = some (.int .i64 cost) := hB4.out.cell rfl
 have db3 : W4.drew.cell? ⟨w.heap.size + 1, 3, none⟩ = some (.int .i64 lf) := hB4.out.cell rfl
 have db4 : W4.drew.cell? ⟨w.heap.size + 1, 4, none⟩ = some (.slice ca cl.length cc) := hB4.out.cell rfl
 have dd1 : W4.drew.cell? ⟨w.heap.size + 1 + 1 + 1, 1, none⟩ = some (.int .i64 euntil) := hD.cell rfl
 have dd3 : W4.drew.cell? ⟨w.heap.size + 1 + 1 + 1, 3, none⟩ = some (.int .i64 efrm) := hD.cell rfl
 have dd4 : W4.drew.cell? ⟨w.heap.size + 1 + 1 + 1, 4, none⟩ = some (.int .i64 eto) := hD.cell rfl
 replace hla := Lib.hid hla
 replace hco := Lib.hid hco
 replace hD := Lib.hid hD
 replace hK := Lib.hid hK
 replace hEd := Lib.hid hEd
 clear hA hB hC hbW4 hbw4 h
 go_enter Tryz.func42, Tryz.ntmps42
 go_wp2_with fail
 rw [← hW, ← hW4]
 clear hW hW4 a0 a1 a2 b0 b1 b2 b3 b4 y0 y1 y2 y3 y4 y5 y6 x0 x1 x2 x3 x4 x5 x6 hsW hd1 hd2 hd4 hd5 hd6 hb2 hb3
 refine wp_region_held_drew (S := fun w' => w'.cell? ⟨w.heap.size, 2, none⟩ = some (.int .i64 day) ∧ w'.cell? ⟨w.heap.size + 1, 0, none⟩ = some (.slice fa fm.length fc) ∧ w'.cell? ⟨w.heap.size + 1, 1, none⟩ = some (.slice ea es.length ec) ∧ w'.cell? ⟨w.heap.size + 1, 2, none⟩ = some (.int .i64 cost) ∧ w'.cell? ⟨w.heap.size + 1, 3, none⟩ = some (.int .i64 lf) ∧ w'.cell? ⟨w.heap.size + 1, 4, none⟩ = some (.slice ca cl.length cc) ∧ w'.cell? ⟨w.heap.size + 1 + 1 + 1, 1, none⟩ = some (.int .i64 euntil) ∧ w'.cell? ⟨w.heap.size + 1 + 1 + 1, 3, none⟩ = some (.int .i64 efrm) ∧ w'.cell? ⟨w.heap.size + 1 + 1 + 1, 4, none⟩ = some (.int .i64 eto)) (by kernel_rfl) (by exact ⟨da2, db0, db1, db2, db3, db4, dd1, dd3, dd4⟩) (fun hHeld => ?_)
 refine tk 0 ?_ rfl ?_ ?_
 rotate_left
 ·
  intro w hSw; (try dsimp only at hSw); go_simp; (try with_reducible rfl)
 (try simp only [Act.put, setIfInBounds_toArray, set_cons_zero, set_cons_succ])
 refine tk 1 ?_ rfl ?_ ?_
 rotate_left
 ·
  intro w hSw; (try dsimp only at hSw); go_simp; (try with_reducible rfl)
 (try simp only [Act.put, setIfInBounds_toArray, set_cons_zero, set_cons_succ])
 refine tk 2 ?_ rfl ?_ ?_
 rotate_left
 ·
  intro w hSw; (try dsimp only at hSw); go_simp; (try with_reducible rfl)
 (try simp only [Act.put, setIfInBounds_toArray, set_cons_zero, set_cons_succ])
 refine tk 3 ?_ rfl ?_ ?_
 rotate_left
 ·
  intro w hSw; (try dsimp only at hSw); go_simp; (try with_reducible rfl)
 (try simp only [Act.put, setIfInBounds_toArray, set_cons_zero, set_cons_succ])
 refine wpAnyH_ready (rs := [4]) (by kernel_rfl) (by simp) ?_
 refine ready_l rfl (fun K hK => ?_) AllReadyH.nil
 go_simp
 go_at_call 70
 refine (hla.out W4.drew hbd.out).mono ?_
 rintro e w5 ⟨rfl, hb5⟩
 have hA5 : Arr w5 w.heap.size 80 _ := hA4.out.drew.below hb5
 have hB5 : Arr w5 (w.heap.size + 1) 82 _ := hB4.out.drew.below hb5
 have hC5 : Arr w5 (w.heap.size + 1 + 1) 82 _ := hC4.out.drew.below hb5
 have hD5 : Arr w5 (w.heap.size + 1 + 1 + 1) 30 _ := hD.out.drew.below hb5
 have hbw5 := hbd.out.trans (hb5.mono hbd.out.size)
 refine hK.out _ _ (by exact ⟨hA5.cell rfl, hB5.cell rfl, hB5.cell rfl, hB5.cell rfl, hB5.cell rfl, hB5.cell rfl, hD5.cell rfl, hD5.cell rfl, hD5.cell rfl⟩) (fun hHeld2 => ?_)
 clear hK K hHeld da2 db0 db1 db2 db3 db4 dd1 dd3 dd4 hb5
 (try simp only [Act.put, setIfInBounds_toArray, set_cons_zero, set_cons_succ])
 replace hA5 := Lib.hid hA5
 replace hB5 := Lib.hid hB5
 replace hC5 := Lib.hid hC5
 replace hD5 := Lib.hid hD5
 replace hbw5 := Lib.hid hbw5
 by_cases h1 : efrm = lst
 rotate_left
 ·
  have hn1 : (efrm != lst) = true := by simpa using h1
  have hn2 : decide (efrm = lst) = false := by simpa using h1
  refine tk 5 ?_ rfl ?_ ?_
  rotate_left
  ·
   intro w hSw; (try dsimp only at hSw); go_simp; (try with_reducible rfl)
  (try simp only [Act.put, setIfInBounds_toArray, set_cons_zero, set_cons_succ])
  refine tk 6 ?_ rfl ?_ ?_
  rotate_left
  ·
   intro w hSw; (try dsimp only at hSw); go_simp; (try with_reducible rfl)
  (try simp only [Act.put, setIfInBounds_toArray, set_cons_zero, set_cons_succ])
  refine take_l (i := 7) (v := undef) rfl (by kernel_rfl) (by kernel_rfl) (by kernel_rfl) (fun _ _ _ h => h) (Or.inr ⟨by kernel_rfl, rfl⟩) (by assumption) ?_
  (try simp only [Act.put, setIfInBounds_toArray, set_cons_zero, set_cons_succ])
  refine take_l (i := 8) (v := undef) rfl (by kernel_rfl) (by kernel_rfl) (by kernel_rfl) (fun _ _ _ h => h) (Or.inr ⟨by kernel_rfl, rfl⟩) (by assumption) ?_
  (try simp only [Act.put, setIfInBounds_toArray, set_cons_zero, set_cons_succ])
  refine take_l (i := 9) (v := undef) rfl (by kernel_rfl) (by kernel_rfl) (by kernel_rfl) (fun _ _ _ h => h) (Or.inr ⟨by kernel_rfl, rfl⟩) (by assumption) ?_
  (try simp only [Act.put, setIfInBounds_toArray, set_cons_zero, set_cons_succ])
  refine take_l (i := 10) (v := undef) rfl (by kernel_rfl) (by kernel_rfl) (by kernel_rfl) (fun _ _ _ h => h) (Or.inr ⟨by kernel_rfl, rfl⟩) (by assumption) ?_
  (try simp only [Act.put, setIfInBounds_toArray, set_cons_zero, set_cons_succ])
  refine take_l (i := 11) (v := undef) rfl (by kernel_rfl) (by kernel_rfl) (by kernel_rfl) (fun _ _ _ h => h) (Or.inr ⟨by kernel_rfl, rfl⟩) (by assumption) ?_
  (try simp only [Act.put, setIfInBounds_toArray, set_cons_zero, set_cons_succ])
  refine tk 12 ?_ rfl ?_ ?_
  rotate_left
  ·
   intro w hSw; (try dsimp only at hSw); go_simp; (try with_reducible rfl)
  (try simp only [Act.put, setIfInBounds_toArray, set_cons_zero, set_cons_succ])
  refine tk 13 ?_ rfl ?_ ?_
  rotate_left
  ·
   intro w hSw; (try dsimp only at hSw); go_simp; (try with_reducible rfl)
  (try simp only [Act.put, setIfInBounds_toArray, set_cons_zero, set_cons_succ])
  refine take_l (i := 14) (v := undef) rfl (by kernel_rfl) (by kernel_rfl) (by kernel_rfl) (fun _ _ _ h => h) (Or.inr ⟨by kernel_rfl, rfl⟩) (by assumption) ?_
  (try simp only [Act.put, setIfInBounds_toArray, set_cons_zero, set_cons_succ])
  refine take_l (i := 15) (v := undef) rfl (by kernel_rfl) (by kernel_rfl) (by kernel_rfl) (fun _ _ _ h => h) (Or.inr ⟨by kernel_rfl, rfl⟩) (by assumption) ?_
  (try simp only [Act.put, setIfInBounds_toArray, set_cons_zero, set_cons_succ])
  refine take_l (i := 16) (v := undef) rfl (by kernel_rfl) (by kernel_rfl) (by kernel_rfl) (fun _ _ _ h => h) (Or.inr ⟨by kernel_rfl, rfl⟩) (by assumption) ?_
  (try simp only [Act.put, setIfInBounds_toArray, set_cons_zero, set_cons_succ])
  refine take_l (i := 17) (v := undef) rfl (by kernel_rfl) (by kernel_rfl) (by kernel_rfl) (fun _ _ _ h => h) (Or.inr ⟨by kernel_rfl, rfl⟩) (by assumption) ?_
  (try simp only [Act.put, setIfInBounds_toArray, set_cons_zero, set_cons_succ])
  refine take_l (i := 18) (v := undef) rfl (by kernel_rfl) (by kernel_rfl) (by kernel_rfl) (fun _ _ _ h => h) (Or.inr ⟨by kernel_rfl, rfl⟩) (by assumption) ?_
  (try simp only [Act.put, setIfInBounds_toArray, set_cons_zero, set_cons_succ])
  refine take_l (i := 19) (v := undef) rfl (by kernel_rfl) (by kernel_rfl) (by kernel_rfl) (fun _ _ _ h => h) (Or.inr ⟨by kernel_rfl, rfl⟩) (by assumption) ?_
  (try simp only [Act.put, setIfInBounds_toArray, set_cons_zero, set_cons_succ])
  refine tk 20 ?_ rfl ?_ ?_
  rotate_left
  ·
   intro w hSw; (try dsimp only at hSw); go_simp; (try with_reducible rfl)
  (try simp only [Act.put, setIfInBounds_toArray, set_cons_zero, set_cons_succ])
  refine wpAnyH_done (by kernel_rfl) ?_ _
  go_wp2_with (refine arr_store rfl 82 _ _ rfl (w.heap.size + 1 + 1) rfl (vs := [.slice none 0 0, .slice none 0 0, .int .i64 0, .int .i64 0, .slice none 0 0]) rfl hC5.out (n := 5) (by kernel_rfl) rfl rfl rfl ?_)
  refine on_end (L := [.slice none 0 0, .slice none 0 0, .int .i64 0, .int .i64 0, .slice none 0 0]) w _ _ (w.heap.size + 1 + 1) false ?a1 rfl ?a2 ?a3 ?a4
  case a4 => exact Below.setCells _ _ _ _ hbw5.out (by omega)
  case a1 => exact hC5.out.setAll (vs := [.slice none 0 0, .slice none 0 0, .int .i64 0, .int .i64 0, .slice none 0 0]) rfl
  case a2 => kernel_rfl
  case a3 => kernel_rfl
 ·
  have hn1 : (efrm != lst) = false := by simpa using h1
  have hn2 : decide (efrm = lst) = true := by simpa using h1
  by_cases h2 : euntil < day
  ·
   have hn3 : decide (euntil < day) = true := by simpa using h2
   refine tk 5 ?_ rfl ?_ ?_
   rotate_left
   ·
    intro w hSw; (try dsimp only at hSw); go_simp; (try with_reducible rfl)
   (try simp only [Act.put, setIfInBounds_toArray, set_cons_zero, set_cons_succ])
   refine tk 6 ?_ rfl ?_ ?_
   rotate_left
   ·
    intro w hSw; (try dsimp only at hSw); go_simp; (try with_reducible rfl)
   (try simp only [Act.put, setIfInBounds_toArray, set_cons_zero, set_cons_succ])
   refine tk 7 ?_ rfl ?_ ?_
   rotate_left
   ·
    intro w hSw; (try dsimp only at hSw); go_simp; (try with_reducible rfl)
   (try simp only [Act.put, setIfInBounds_toArray, set_cons_zero, set_cons_succ])
   refine tk 8 ?_ rfl ?_ ?_
   rotate_left
   ·
    intro w hSw; (try dsimp only at hSw); go_simp; (try with_reducible rfl)
   (try simp only [Act.put, setIfInBounds_toArray, set_cons_zero, set_cons_succ])
   refine tk 9 ?_ rfl ?_ ?_
   rotate_left
   ·
    intro w hSw; (try dsimp only at hSw); go_simp; (try with_reducible rfl)
   (try simp only [Act.put, setIfInBounds_toArray, set_cons_zero, set_cons_succ])
   refine tk 10 ?_ rfl ?_ ?_
   rotate_left
   ·
    intro w hSw; (try dsimp only at hSw); go_simp; (try with_reducible rfl)
   (try simp only [Act.put, setIfInBounds_toArray, set_cons_zero, set_cons_succ])
   refine tk 11 ?_ rfl ?_ ?_
   rotate_left
   ·
    intro w hSw; (try dsimp only at hSw); go_simp; (try with_reducible rfl)
   (try simp only [Act.put, setIfInBounds_toArray, set_cons_zero, set_cons_succ])
   refine tk 12 ?_ rfl ?_ ?_
   rotate_left
   ·
    intro w hSw; (try dsimp only at hSw); go_simp; (try with_reducible rfl)
   (try simp only [Act.put, setIfInBounds_toArray, set_cons_zero, set_cons_succ])
   refine tk 13 ?_ rfl ?_ ?_
   rotate_left
   ·
    intro w hSw; (try dsimp only at hSw); go_simp; (try with_reducible rfl)
   (try simp only [Act.put, setIfInBounds_toArray, set_cons_zero, set_cons_succ])
   refine take_l (i := 14) (v := undef) rfl (by kernel_rfl) (by kernel_rfl) (by kernel_rfl) (fun _ _ _ h => h) (Or.inr ⟨by kernel_rfl, rfl⟩) (by assumption) ?_
   (try simp only [Act.put, setIfInBounds_toArray, set_cons_zero, set_cons_succ])
   refine take_l (i := 15) (v := undef) rfl (by kernel_rfl) (by kernel_rfl) (by kernel_rfl) (fun _ _ _ h => h) (Or.inr ⟨by kernel_rfl, rfl⟩) (by assumption) ?_
   (try simp only [Act.put, setIfInBounds_toArray, set_cons_zero, set_cons_succ])
   refine take_l (i := 16) (v := undef) rfl (by kernel_rfl) (by kernel_rfl) (by kernel_rfl) (fun _ _ _ h => h) (Or.inr ⟨by kernel_rfl, rfl⟩) (by assumption) ?_
   (try simp only [Act.put, setIfInBounds_toArray, set_cons_zero, set_cons_succ])
   refine take_l (i := 17) (v := undef) rfl (by kernel_rfl) (by kernel_rfl) (by kernel_rfl) (fun _ _ _ h => h) (Or.inr ⟨by kernel_rfl, rfl⟩) (by assumption) ?_
   (try simp only [Act.put, setIfInBounds_toArray, set_cons_zero, set_cons_succ])
   refine take_l (i := 18) (v := undef) rfl (by kernel_rfl) (by kernel_rfl) (by kernel_rfl) (fun _ _ _ h => h) (Or.inr ⟨by kernel_rfl, rfl⟩) (by assumption) ?_
   (try simp only [Act.put, setIfInBounds_toArray, set_cons_zero, set_cons_succ])
   refine take_l (i := 19) (v := undef) rfl (by kernel_rfl) (by kernel_rfl) (by kernel_rfl) (fun _ _ _ h => h) (Or.inr ⟨by kernel_rfl, rfl⟩) (by assumption) ?_
   (try simp only [Act.put, setIfInBounds_toArray, set_cons_zero, set_cons_succ])
   refine tk 20 ?_ rfl ?_ ?_
   rotate_left
   ·
    intro w hSw; (try dsimp only at hSw); go_simp; (try with_reducible rfl)
   (try simp only [Act.put, setIfInBounds_toArray, set_cons_zero, set_cons_succ])
   refine wpAnyH_done (by kernel_rfl) ?_ _
   go_wp2_with (refine arr_store rfl 82 _ _ rfl (w.heap.size + 1 + 1) rfl (vs := [.slice none 0 0, .slice none 0 0, .int .i64 0, .int .i64 0, .slice none 0 0]) rfl hC5.out (n := 5) (by kernel_rfl) rfl rfl rfl ?_)
   refine on_end (L := [.slice none 0 0, .slice none 0 0, .int .i64 0, .int .i64 0, .slice none 0 0]) w _ _ (w.heap.size + 1 + 1) false ?a1 rfl ?a2 ?a3 ?a4
   case a4 => exact Below.setCells _ _ _ _ hbw5.out (by omega)
   case a1 => exact hC5.out.setAll (vs := [.slice none 0 0, .slice none 0 0, .int .i64 0, .int .i64 0, .slice none 0 0]) rfl
   case a2 => kernel_rfl
   case a3 => kernel_rfl
  ·
   have hn3 : decide (euntil < day) = false := by simpa using h2
   have h3 : decide (eto ∈ fm) = true := decide_eq_true (hno.resolve_left (fun h => h h1) |>.resolve_left h2)
   rw [h3] at hco
   clear hno h1 h2
   refine tk 5 ?_ rfl ?_ ?_
   rotate_left
   ·
    intro w hSw; (try dsimp only at hSw); go_simp; (try with_reducible rfl)
   (try simp only [Act.put, setIfInBounds_toArray, set_cons_zero, set_cons_succ])
   refine tk 6 ?_ rfl ?_ ?_
   rotate_left
   ·
    intro w hSw; (try dsimp only at hSw); go_simp; (try with_reducible rfl)
   (try simp only [Act.put, setIfInBounds_toArray, set_cons_zero, set_cons_succ])
   refine tk 7 ?_ rfl ?_ ?_
   rotate_left
   ·
    intro w hSw; (try dsimp only at hSw); go_simp; (try with_reducible rfl)
   (try simp only [Act.put, setIfInBounds_toArray, set_cons_zero, set_cons_succ])
   refine tk 8 ?_ rfl ?_ ?_
   rotate_left
   ·
    intro w hSw; (try dsimp only at hSw); go_simp; (try with_reducible rfl)
   (try simp only [Act.put, setIfInBounds_toArray, set_cons_zero, set_cons_succ])
   refine tk 9 ?_ rfl ?_ ?_
   rotate_left
   ·
    intro w hSw; (try dsimp only at hSw); go_simp; (try with_reducible rfl)
   (try simp only [Act.put, setIfInBounds_toArray, set_cons_zero, set_cons_succ])
   refine tk 10 ?_ rfl ?_ ?_
   rotate_left
   ·
    intro w hSw; (try dsimp only at hSw); go_simp; (try with_reducible rfl)
   (try simp only [Act.put, setIfInBounds_toArray, set_cons_zero, set_cons_succ])
   refine tk 11 ?_ rfl ?_ ?_
   rotate_left
   ·
    intro w hSw; (try dsimp only at hSw); go_simp; (try with_reducible rfl)
   (try simp only [Act.put, setIfInBounds_toArray, set_cons_zero, set_cons_succ])
   refine tk 12 ?_ rfl ?_ ?_
   rotate_left
   ·
    intro w hSw; (try dsimp only at hSw); go_simp; (try with_reducible rfl)
   (try simp only [Act.put, setIfInBounds_toArray, set_cons_zero, set_cons_succ])
   refine tk 13 ?_ rfl ?_ ?_
   rotate_left
   ·
    intro w hSw; (try dsimp only at hSw); go_simp; (try with_reducible rfl)
   (try simp only [Act.put, setIfInBounds_toArray, set_cons_zero, set_cons_succ])
   refine tk 14 ?_ rfl ?_ ?_
   rotate_left
   ·
    intro w hSw; (try dsimp only at hSw); go_simp; (try with_reducible rfl)
   (try simp only [Act.put, setIfInBounds_toArray, set_cons_zero, set_cons_succ])
   refine tk 15 ?_ rfl ?_ ?_
   rotate_left
   ·
    intro w hSw; (try dsimp only at hSw); go_simp; (try with_reducible rfl)
   (try simp only [Act.put, setIfInBounds_toArray, set_cons_zero, set_cons_succ])
   refine tk 16 ?_ rfl ?_ ?_
   rotate_left
   ·
    intro w hSw; (try dsimp only at hSw); go_simp; (try with_reducible rfl)
   (try simp only [Act.put, setIfInBounds_toArray, set_cons_zero, set_cons_succ])
   refine tk 17 ?_ rfl ?_ ?_
   rotate_left
   ·
    intro w hSw; (try dsimp only at hSw); go_simp; (try with_reducible rfl)
   (try simp only [Act.put, setIfInBounds_toArray, set_cons_zero, set_cons_succ])
   refine tk 18 ?_ rfl ?_ ?_
   rotate_left
   ·
    intro w hSw; (try dsimp only at hSw); go_simp; (try with_reducible rfl)
   (try simp only [Act.put, setIfInBounds_toArray, set_cons_zero, set_cons_succ])
   refine wpAnyH_ready (rs := [19]) (by kernel_rfl) (by simp) ?_
   refine ready_l rfl (fun K hK => ?_) AllReadyH.nil
   go_simp
   go_at_call 71
   refine (hco.out w5 hbw5.out).mono ?_
   rintro e w6 ⟨rfl, rfl⟩
   refine hK.out _ _ (by exact ⟨hA5.out.cell rfl, hB5.out.cell rfl, hB5.out.cell rfl, hB5.out.cell rfl, hB5.out.cell rfl, hB5.out.cell rfl, hD5.out.cell rfl, hD5.out.cell rfl, hD5.out.cell rfl⟩) (fun hHeld => ?_)
   clear hK K hHeld2
   (try simp only [Act.put, setIfInBounds_toArray, set_cons_zero, set_cons_succ])
   refine tk 20 ?_ rfl ?_ ?_
   rotate_left
   ·
    intro w hSw; (try dsimp only at hSw); go_simp; (try with_reducible rfl)
   (try simp only [Act.put, setIfInBounds_toArray, set_cons_zero, set_cons_succ])
   refine wpAnyH_done (by kernel_rfl) ?_ _
   go_wp2_with (refine arr_store rfl 82 _ _ rfl (w.heap.size + 1 + 1) rfl (vs := [.slice none 0 0, .slice none 0 0, .int .i64 0, .int .i64 0, .slice none 0 0]) rfl hC5.out (n := 5) (by kernel_rfl) rfl rfl rfl ?_)
   refine on_end (L := [.slice none 0 0, .slice none 0 0, .int .i64 0, .int .i64 0, .slice none 0 0]) w _ _ (w.heap.size + 1 + 1) false ?a1 rfl ?a2 ?a3 ?a4
   case a4 => exact Below.setCells _ _ _ _ hbw5.out (by omega)
   case a1 => exact hC5.out.setAll (vs := [.slice none 0 0, .slice none 0 0, .int .i64 0, .int .i64 0, .slice none 0 0]) rfl
   case a2 => kernel_rfl
   case a3 => kernel_rfl
end Go.Proofs.YtpeandbcdaikbaaGreatDoor
namespace Go.Proofs.YtpeandbcdaikbaaGreatDoor
open Go.RowKit Go.Shelf Go.Maps

/-- What a region has done that copies a row of numbers (o1), lays a number (o2), appends it to the copy (o3), makes a way (oN). -/
structure Ap (w0 w : World) (l : List Int) (x : Int) (o1 : Option Value) (o2 : Option Nat) (o3 : Option Value) (oN : Option Nat) : Prop where
 below : Below w0.heap.size w0 w
 own : ∀ v, o1 = some v → w.ownsRow w0.heap.size 3 1 v l.length (ints l)
 one : ∀ s, o2 = some s → Arr w s 3 [.int .i64 x] ∧ ∀ v, o1 = some v → v.ownBlock ≠ some s
 app : ∀ v, o3 = some v → w.ownsRow w0.heap.size 3 1 v (l.length + 1) (ints (l ++ [x]))
 arr : ∀ n, oN = some n → w0.heap.size ≤ n ∧ Arr w n 82 [.slice none 0 0, .slice none 0 0, .int .i64 0, .int .i64 0, .slice none 0 0]
theorem Ap.start (w : World) (l : List Int) (x : Int) : Ap w w l x none none none none :=
 ⟨Below.refl _ _, fun _ h => (by cases h), fun _ h => (by cases h), fun _ h => (by cases h), fun _ h => (by cases h)⟩
theorem Ap.later {w0 w w' : World} {l : List Int} {x : Int} {o1 : Option Value} {o2 : Option Nat} {o3 : Option Value} {oN : Option Nat} (h : Ap w0 w l x o1 o2 o3 oN) (hb : Below w.heap.size w w') : Ap w0 w' l x o1 o2 o3 oN :=
 ⟨h.below.trans (hb.mono h.below.size), fun v hv => own_stay (h.own v hv) fun g hg => hb.block g (own_block (h.own v hv) hg).1, fun s hs => ⟨(h.one s hs).1.below hb, (h.one s hs).2⟩,
  fun v hv => own_stay (h.app v hv) fun g hg => hb.block g (own_block (h.app v hv) hg).1, fun n hn => ⟨(h.arr n hn).1, (h.arr n hn).2.below hb⟩⟩
theorem Ap.call {w0 w w' : World} {l : List Int} {x : Int} {o2 : Option Nat} {oN : Option Nat} (h : Ap w0 w l x none o2 none oN) (hb : Below w.heap.size w w') {v : Value} (hv : w'.ownsRow w.heap.size 3 1 v l.length (ints l)) : Ap w0 w' l x (some v) o2 none oN := by
 have h' := h.later hb
 refine ⟨h'.below, fun u hu => ?_, fun s hs => ⟨(h'.one s hs).1, fun u hu e => ?_⟩, fun _ h => (by cases h), h'.arr⟩
 ·
  injection hu with hu
  subst hu
  exact own_base hv h.below.size
 ·
  injection hu with hu
  subst hu
  have h1 := (own_block hv e).2.1
  have h2 := (h.one s hs).1.lt
  omega
theorem Ap.build {w0 w : World} {l : List Int} {x : Int} {o1 : Option Value} {oN : Option Nat} (h : Ap w0 w l x o1 none none oN) : Ap w0 (w.alloc (.cells #[.int .i64 x] 3)) l x o1 (some w.heap.size) none oN := by
 have h' := h.later ((Below.refl _ w).alloc (Nat.le_refl _) (.cells #[.int .i64 x] 3))
 refine ⟨h'.below, h'.own, fun s hs => ?_, fun _ h => (by cases h), h'.arr⟩
 injection hs with hs
 subst hs
 refine ⟨Arr.new rfl rfl, fun v hv e => ?_⟩
 have h1 := (own_block (h.own v hv) e).1
 omega
theorem Ap.way {w0 w : World} {l : List Int} {x : Int} {o1 : Option Value} {o2 : Option Nat} {o3 : Option Value} (h : Ap w0 w l x o1 o2 o3 none) : Ap w0 (w.alloc (.cells #[.slice none 0 0, .slice none 0 0, .int .i64 0, .int .i64 0, .slice none 0 0] 82)) l x o1 o2 o3 (some w.heap.size) := by
 have h' := h.later ((Below.refl _ w).alloc (Nat.le_refl _) (.cells #[.slice none 0 0, .slice none 0 0, .int .i64 0, .int .i64 0, .slice none 0 0] 82))
 refine ⟨h'.below, h'.own, h'.one, h'.app, fun n hn => ?_⟩
 injection hn with hn
 subst hn
 exact ⟨h.below.size, Arr.new rfl rfl⟩
theorem Ap.append {w0 w : World} {l : List Int} {x : Int} {v : Value} {s : Nat} {oN : Option Nat} (h : Ap w0 w l x (some v) (some s) none oN) (hl : l.length ≤ 1000) :
  ∃ v' w', (Builtin.append_ #[23, 23] 23 #[v, .slice (some ⟨s, 0, none⟩) 1 1]).run Tryz.prog w = .ok v' w' ∧ Ap w0 w' l x none none (some v') oN := by
 obtain ⟨i0, hi, hz0, hz1, hz2⟩ := info_parts Tryz.info_int
 have hown := h.own v rfl
 obtain ⟨hone, _⟩ := h.one s rfl
 have hnews : ∀ j u, [Value.int .i64 x][j]? = some u → w.cell? ((⟨s, 0, none⟩ : Addr).add j) = some u := fun j u hu => by
  have := hone.cell (j := j) (v := u) hu
  by_cases e : j = 0
  ·
   subst e; exact this
  ·
   simpa [Addr.add, e] using this
 obtain ⟨v', w', hr, r1, r2, r3⟩ := run_append_own (P := Tryz.prog) w w0.heap.size 23 23 3 i0 (.int .i64 0) 1 8 Tryz.underlying23 hi hz0 hz1 hz2 rfl (by decide) v l.length (ints l) hown ⟨s, 0, none⟩ 1 1 [.int .i64 x] rfl hnews (by simp [Value.oneCell']) (by unfold maxLen; omega) (by omega) h.below.size
 refine ⟨v', w', hr, ?_⟩
 have hk : KeepTy [3] w w' := KeepTy.grown hown r2 (by decide)
 refine ⟨h.below.grown r2 h.below.size (fun g hg => (own_block hown hg).2.1), fun _ h => (by cases h), fun _ h => (by cases h), fun u hu => ?_, fun n hn => ⟨(h.arr n hn).1, hk n _ _ _ (by decide) (h.arr n hn).2⟩⟩
 injection hu with hu
 subst hu
 rw [ints_snoc]
 exact r1
theorem Ap.nums {w0 w : World} {l : List Int} {x : Int} {v : Value} {oN : Option Nat} (h : Ap w0 w l x none none (some v) oN) : NumsT w v (l ++ [x]) := by
 have := RowT.of_own (h.app v rfl)
 unfold NumsT
 rw [List.length_append, List.length_singleton]
 exact this
theorem there_off {w : World} {B : Nat} {T : TypeId} {L : List Value} (hA : Arr w B T L) (o n : Nat) (h : o + n ≤ L.length) : w.there B o n := fun j hj => by
 have := hA.there (o + j) (by omega)
 simpa [Nat.zero_add] using this
/-- A store into a row's cells, as one step of a region that draws. -/
theorem step_store_arr {P : Program} {ops : Array Oper} {op : Oper} {a : Act} {w : World} {K : Act → World → Prop} {Q : Exit → Act → World → Prop} {E : Prop} (hgd : op.guard = none) (ty : TypeId) (x y : Operand) (ho : op.op = .store ty x y)
  (B o : Nat) (hx : a.eval x = .pointer (some ⟨B, o, none⟩)) {T : TypeId} {L vs : List Value} (hy : a.eval y = .agg vs.toArray) (hA : Arr w B T L) {n : Nat}
  (hi : (P.info? ty).map (·.size) = some n) (hn : o + n ≤ L.length) (hv : vs.length = n) (h1 : vs.all (·.oneCell') = true)
  (h : K (a.put op.dst undef) (w.setCells B o vs)) : if Region.wanted op (yielded ops a.tmps) = true then Oper.wp P op a w K Q else E := by
 have hw : Region.wanted op (yielded ops a.tmps) = true := by simp [Region.wanted, hgd]
 rw [if_pos hw]
 refine wp_store_mid ty x y ho B o vs.toArray hx hy ?_ ?_ ?_ (by simpa using h)
 ·
  have := there_off hA o n hn
  simpa [hv] using this
 ·
  simpa [hv] using hi
 ·
  simpa using h1
theorem Ap.shape {w0 w : World} {l : List Int} {x : Int} {v : Value} {oN : Option Nat} (h : Ap w0 w l x none none (some v) oN) : ∃ a c, v = .slice a (l.length + 1) c := by
 obtain ⟨a, c, hv, _⟩ := h.nums.len
 rw [List.length_append, List.length_singleton] at hv
 exact ⟨a, c, hv⟩
theorem ap_one {w0 w : World} {l : List Int} {x : Int} {v : Value} {oN : Option Nat} (h : Ap w0 w l x none none (some v) oN) : [v, .slice none 0 0, .int .i64 0, .int .i64 0, .slice none 0 0].all (·.oneCell') = true := by
 obtain ⟨a, c, rfl, _⟩ := h.nums.len
 rfl
theorem Ap.done {w0 w : World} {l : List Int} {x : Int} {v : Value} {n : Nat} (h : Ap w0 w l x none none (some v) (some n)) :
  w0.heap.size ≤ n ∧ Arr (w.setCells n 0 [v, .slice none 0 0, .int .i64 0, .int .i64 0, .slice none 0 0]) n 82 [v, .slice none 0 0, .int .i64 0, .int .i64 0, .slice none 0 0] ∧ NumsT (w.setCells n 0 [v, .slice none 0 0, .int .i64 0, .int .i64 0, .slice none 0 0]) v (l ++ [x]) ∧ Below w0.heap.size w0 (w.setCells n 0 [v, .slice none 0 0, .int .i64 0, .int .i64 0, .slice none 0 0]) := by
 obtain ⟨h1, h2⟩ := h.arr n rfl
 exact ⟨h1, h2.setAll rfl, h.nums.keepTy (X := [82]) (by decide) (KeepTy.setArrs h2 (by decide) _ _), Below.setCells _ _ _ _ h.below h1⟩
theorem on_end2 (Post : Ending → World → Prop) (W : World) (tmps : Array Value) (B : Nat) (L : List Value) (b : Bool) (hA : Arr W B 82 L) (hn : L.length = 5) (hp : tmps.getD 6 undef = .pointer (some ⟨B, 0, none⟩)) (h7 : tmps.getD 7 undef = .bool b) (h : Post (.returned (.tuple #[.agg L.toArray, .bool b])) W) :
  bodyPost Tryz.prog Tryz.f42 Post .ret { tmps := tmps, defers := [] } W := by
 refine bodyPost_ret (arr_result2 (p := 6) (ty := 82) (u := 7) (n := 5) (by kernel_rfl) tmps hA hp Tryz.underlying82 rfl (by kernel_rfl) hn) rfl ?_
 rw [h7]
 exact h
/-- A row of the call's own is not changed by a cell of a block of another type. -/
theorem ClOwn.setOther {B : Nat} {w : World} {v : Value} {l : Clms} {vs : List Value} (h : ClOwn B w v l vs) {N : Nat} {L : List Value} (hA : Arr w N 82 L) (o : Nat) (u : Value) : ClOwn B (w.setCell ⟨N, o, none⟩ u) v l vs := by
 have hks : KeepTy [82] w (w.setCell ⟨N, o, none⟩ u) := KeepTy.setArr hA (by decide)
 refine ⟨h.len, own_stay h.own fun g hg => ?_, fun j hj => (h.steps j hj).keepTy (by decide) hks⟩
 obtain ⟨_, _, cur, hc⟩ := own_block h.own hg
 exact (hks g _ _ _ (by decide) hc).trans hc.symm
end Go.Proofs.YtpeandbcdaikbaaGreatDoor
