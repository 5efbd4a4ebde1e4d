/-
  Formats of chapter 4: a table that is being made, in memory.
  Formats of chapter 4: the end of a format.
  Formats of chapter 4: appends to a table's rows; a format begins.
  Formats of chapter 4: a field has come to the last format.
  Formats of chapter 4: a field is added.
  Formats of chapter 4: a panic with an error is caught.
  Formats of chapter 4: a table is built.
  Formats of chapter 4: Valid and Least.
-/
import Derived.Test.YtcpfmlaipejfpaaGreatDoorK2
import Derived.OneCell
import Derived.Defers
import Derived.Recover
namespace Go.Proofs.YtcpfmlaipejfpaaGreatDoor
open Go.RowKit Go.Maps Go.Shelf

def fmtC : List Fmt → List Value → List Value
  | f :: r, v :: vs => .int .i64 f.id :: v :: fmtC r vs
  | _, _ => []
theorem fmtC_len : ∀ (l : List Fmt) (vs : List Value), vs.length = l.length → (fmtC l vs).length = l.length * 2
  | [], [], _ => rfl
  | _ :: r, _ :: vs, h => by simp [fmtC, fmtC_len r vs (by simpa using h)]; omega
theorem fmtC_at : ∀ (l : List Fmt) (vs : List Value), vs.length = l.length → ∀ i, i < l.length → (fmtC l vs)[i * 2]? = some (.int .i64 l[i]!.id) ∧ (fmtC l vs)[i * 2 + 1]? = some vs[i]!
  | [], _, _, i, h => absurd h (Nat.not_lt_zero _)
  | f :: r, v :: vs, h, 0, _ => ⟨rfl, rfl⟩
  | f :: r, v :: vs, h, i + 1, hi => by
    have ih := fmtC_at r vs (by simpa using h) i (by simpa using hi)
    rw [show (i + 1) * 2 = i * 2 + 2 by omega, show i * 2 + 2 + 1 = i * 2 + 1 + 2 by omega]
    simpa [fmtC] using ih
theorem fmtC_snoc : ∀ (l : List Fmt) (vs : List Value) (f : Fmt) (v : Value), vs.length = l.length → fmtC (l ++ [f]) (vs ++ [v]) = fmtC l vs ++ [.int .i64 f.id, v]
  | [], [], _, _, _ => rfl
  | _ :: r, _ :: vs, f, v, h => by simp [fmtC, fmtC_snoc r vs f v (by simpa using h)]
/-- What a table holds that came by its own door. -/
structure FmtOk (f : Fmt) : Prop where
  id : I64 f.id
  all : AllOk f.flds
  prev : PrevOk f.flds
  len : f.flds.length ≤ 16
/-- A table that is being made, in the block tB: its list's row and its map lie from B on; the fields of the last format lie from H on, all else below H. -/
structure TabS (B tB : Nat) (t : Tab) (n H mB : Nat) (lv : Value) (fvs : List Value) (w : World) : Prop where
  blk : Arr w tB 69 [lv, .map (some mB)]
  bt : B ≤ tB
  bm : B ≤ mB
  map : MapIs w mB n t.m
  fl : fvs.length = t.list.length
  row : w.ownsRow B 34 2 lv t.list.length (fmtC t.list fvs)
  hH : H ≤ w.heap.size
  tH : tB < H
  mH : mB < H
  lH : ∀ g, lv.ownBlock = some g → g < H
  old : ∀ i, i + 1 < t.list.length → w.ownsRow B 55 4 fvs[i]! t.list[i]!.flds.length (fldL t.list[i]!.flds) ∧ ∀ g, fvs[i]!.ownBlock = some g → g < H
  new : ∀ i, i + 1 = t.list.length → w.ownsRow H 55 4 fvs[i]! t.list[i]!.flds.length (fldL t.list[i]!.flds)
  ok : ∀ f ∈ t.list, FmtOk f
  len : t.list.length ≤ 60
  num : n ≤ 1000
/-- What is nobody's stays, and stays nobody's. -/
def KeepFar (tB mB : Nat) (lv : Value) (fvs : List Value) (lv' : Value) (fvs' : List Value) (w w' : World) : Prop :=
  ∀ b, b < w.heap.size → b ≠ tB → b ≠ mB → lv.ownBlock ≠ some b → (∀ v ∈ fvs, v.ownBlock ≠ some b) → w'.heap[b]? = w.heap[b]? ∧ lv'.ownBlock ≠ some b ∧ ∀ v ∈ fvs', v.ownBlock ≠ some b
/-- What is nobody's stays as it lies. -/
def FarStay (tB mB : Nat) (lv : Value) (fvs : List Value) (w w' : World) : Prop :=
  ∀ b, b < w.heap.size → b ≠ tB → b ≠ mB → lv.ownBlock ≠ some b → (∀ v ∈ fvs, v.ownBlock ≠ some b) → w'.heap[b]? = w.heap[b]?
theorem FarStay.of_below {tB mB : Nat} {lv : Value} {fvs : List Value} {w w' : World} (h : Below w.heap.size w w') : FarStay tB mB lv fvs w w' := fun b hb _ _ _ _ => h.block b hb
theorem KeepFar.stay {tB mB : Nat} {lv lv' : Value} {fvs fvs' : List Value} {w w' : World} (h : KeepFar tB mB lv fvs lv' fvs' w w') : FarStay tB mB lv fvs w w' := fun b hb h1 h2 h3 h4 => (h b hb h1 h2 h3 h4).1
theorem FarStay.pre {tB mB : Nat} {lv : Value} {fvs : List Value} {w w1 w' : World} (hb : Below w.heap.size w w1) (h : FarStay tB mB lv fvs w1 w') : FarStay tB mB lv fvs w w' := fun b hlt h1 h2 h3 h4 => (h b (Nat.lt_of_lt_of_le hlt hb.size) h1 h2 h3 h4).trans (hb.block b hlt)
theorem MapIs.ne_cells {w : World} {b n : Nat} {m : Int → Option Int} (h : MapIs w b n m) {g o : Nat} {v : Value} (hc : w.cell? ⟨g, o, none⟩ = some v) : g ≠ b := by
  obtain ⟨D, ⟨es, clock, h1, _⟩, _⟩ := h
  rintro rfl
  simp [World.cell?, h1] at hc
theorem sliceAt_map {w w' : World} {B b n k : Nat} {m : Int → Option Int} {v : Value} {xs : List Value} (h : SliceAt w B v k xs) (hx : 0 < k → 0 < xs.length) (hM : MapIs w b n m) (hg : w.grownBy w' (some b)) : SliceAt w' B v k xs := by
  obtain ⟨a, cap, hv, h1, h2, hc⟩ := h
  refine ⟨a, cap, hv, h1, h2, fun hn => ?_⟩
  obtain ⟨b', o, ha, hlt, hx'⟩ := hc hn
  have hx0 := hx hn
  have h0 := hx' 0 xs[0] (by rw [List.getElem?_eq_getElem hx0])
  have hne := hM.ne_cells h0
  have hlt' : b' < w.heap.size := World.block_lt_of_cell? w _ h0
  exact ⟨b', o, ha, hlt, fun j u hu => (World.cell?_of_block (a := ⟨b', o + j, none⟩) (hg.block b' hlt' (by simpa using hne))).trans (hx' j u hu)⟩
theorem ownsRow_map {w w' : World} {B b n s k : Nat} {e : TypeId} {m : Int → Option Int} {v : Value} {xs : List Value} (h : w.ownsRow B e s v k xs) (hM : MapIs w b n m) (hg : w.grownBy w' (some b)) : w'.ownsRow B e s v k xs := by
  refine h.kept hg ?_
  obtain ⟨D, ⟨es, clock, h1, _⟩, _⟩ := hM
  rcases h.2 with ⟨rfl, _⟩ | ⟨g, c, cur, rfl, _, hg', _⟩
  · exact .inl rfl
  · refine .inr fun e1 => ?_
    injection e1 with e1
    have e2 : g = b := e1
    rw [e2, h1] at hg'
    cases hg'
/-- Behind a call that turns nothing that lies. -/
theorem TabS.below {B tB n H mB : Nat} {t : Tab} {lv : Value} {fvs : List Value} {w w' : World} (h : TabS B tB t n H mB lv fvs w) (hb : Below w.heap.size w w') : TabS B tB t n H mB lv fvs w' :=
  ⟨h.blk.below hb, h.bt, h.bm, h.map.below hb, h.fl, own_below h.row hb, Nat.le_trans h.hH hb.size, h.tH, h.mH, h.lH, fun i hi => ⟨own_below (h.old i hi).1 hb, (h.old i hi).2⟩, fun i hi => own_below (h.new i hi) hb, h.ok, h.len, h.num⟩
theorem TabS.tabM {B tB n H mB : Nat} {t : Tab} {lv : Value} {fvs : List Value} {w : World} (h : TabS B tB t n H mB lv fvs w) : TabM w tB t.m :=
  ⟨⟨mB, n, h.blk.cell (j := 1) rfl, h.map⟩, h.blk.lt⟩
/-- The map has one entry more. -/
theorem TabS.put {B tB n H mB : Nat} {t : Tab} {lv : Value} {fvs : List Value} {w w' : World} {k v : Int} (h : TabS B tB t n H mB lv fvs w) (hM : MapIs w' mB (n + 1) (putM t.m k v)) (hg : w.grownBy w' (some mB)) (hn : n + 1 ≤ 1000) : TabS B tB { t with m := putM t.m k v } (n + 1) H mB lv fvs w' := by
  have hne : tB ≠ mB := h.map.ne_cells (h.blk.cell (j := 0) rfl)
  refine ⟨(hg.block tB h.blk.lt (by simpa using hne)).trans h.blk, h.bt, h.bm, hM, h.fl, ownsRow_map h.row h.map hg, Nat.le_trans h.hH hg.size, h.tH, h.mH, h.lH, fun i hi => ⟨ownsRow_map (h.old i hi).1 h.map hg, (h.old i hi).2⟩, fun i hi => ownsRow_map (h.new i hi) h.map hg, h.ok, h.len, hn⟩
theorem own_lower {w : World} {B B' n s : Nat} {e : TypeId} {v : Value} {xs : List Value} (h : w.ownsRow B e s v n xs) (hB : B' ≤ B) : w.ownsRow B' e s v n xs := by
  obtain ⟨hl, h⟩ := h
  refine ⟨hl, ?_⟩
  rcases h with h | ⟨g, cap, cur, hv, h1, h2⟩
  · exact .inl h
  · exact .inr ⟨g, cap, cur, hv, by omega, h2⟩
theorem own_block {w : World} {B n s g : Nat} {e : TypeId} {v : Value} {xs : List Value} (h : w.ownsRow B e s v n xs) (hg : v.ownBlock = some g) : g < w.heap.size ∧ B ≤ g ∧ ∃ cur, w.heap[g]? = some (.cells cur e (0, 0)) := by
  obtain ⟨_, h⟩ := h
  rcases h with ⟨rfl, _⟩ | ⟨g', cap, cur, rfl, h1, h2, _⟩
  · cases hg
  · injection hg with hg
    have e1 : g' = g := hg
    subst e1
    exact ⟨(Array.getElem?_eq_some_iff.1 h2).1, h1, cur, h2⟩
/-- A row of another type is not turned by what turns one row. -/
theorem own_apart {w w' : World} {B B' n n' s s' : Nat} {e e' : TypeId} {v v' : Value} {xs xs' : List Value} (h : w.ownsRow B e s v n xs) (hr : w.ownsRow B' e' s' v' n' xs') (he : e ≠ e') (hg : w.grownBy w' v'.ownBlock) : w'.ownsRow B e s v n xs := by
  refine h.kept hg ?_
  rcases h.2 with ⟨rfl, _⟩ | ⟨g, c, cur, rfl, _, hg1, _⟩
  · exact .inl rfl
  · refine .inr fun e1 => ?_
    obtain ⟨_, _, cur', h2⟩ := own_block hr e1.symm
    rw [show w.heap[g]? = _ from hg1] at h2
    injection h2 with h2
    injection h2 with _ h2
    exact he h2
theorem own_set_apart {w : World} {B n s b o : Nat} {e T : TypeId} {v u : Value} {xs L : List Value} (h : w.ownsRow B e s v n xs) (hA : Arr w b T L) (he : e ≠ T) : (w.setCell ⟨b, o, none⟩ u).ownsRow B e s v n xs := by
  refine ownsRow_setCell_other h (fun e1 => ?_) u
  obtain ⟨_, _, cur, h2⟩ := own_block h e1
  rw [show w.heap[b]? = _ from hA] at h2
  injection h2 with h2
  injection h2 with _ h2
  exact he h2.symm
end Go.Proofs.YtcpfmlaipejfpaaGreatDoor
namespace Go.Proofs.YtcpfmlaipejfpaaGreatDoor
open Go.RowKit Go.Maps Go.Shelf

attribute [local go_sem] Oper.semAt_some

theorem own_cells3 {w : World} {B n k : Nat} {e : TypeId} {v : Value} {xs : List Value} (h : w.ownsRow B e k v n xs) (hn : 0 < n) :
    ∃ g cap, v = .slice (some ⟨g, 0, none⟩) n cap ∧ B ≤ g ∧ n ≤ cap ∧ cap ≤ maxLen ∧ g < w.heap.size ∧ (∀ j u, xs[j]? = some u → w.cell? ⟨g, j, none⟩ = some u) ∧ ∀ j, w.frozen? ⟨g, j, none⟩ = false := by
  obtain ⟨hl, h⟩ := h
  rcases h with ⟨_, h⟩ | ⟨g, cap, cur, hv, hB, hg, h1, h2, h3, h4⟩
  · omega
  · refine ⟨g, cap, hv, hB, h1, h2, (Array.getElem?_eq_some_iff.1 hg).1, fun j u hu => ?_, fun j => frozen_of_row w g j cur e hg⟩
    rw [cell_of_row w g j cur e (0, 0) hg]
    have hj : j < n * k := by
      have := (List.getElem?_eq_some_iff.1 hu).1
      omega
    rw [← h4, List.getElem?_take, if_pos hj] at hu
    simpa using hu
theorem last_of {l : List Fmt} {k : Nat} (h : l.length = k + 1) : l.getLast? = some l[k]! := by
  rw [List.getLast?_eq_getElem?, h, Nat.add_sub_cancel, List.getElem?_eq_getElem (by omega), getElem!_pos l k (by omega)]
/-- The last format's cells. -/
theorem TabS.last {B tB n H mB : Nat} {t : Tab} {lv : Value} {fvs : List Value} {w : World} (h : TabS B tB t n H mB lv fvs w) {k : Nat} (hk : t.list.length = k + 1) :
    ∃ g cap, lv = .slice (some ⟨g, 0, none⟩) (k + 1) cap ∧ B ≤ g ∧ k + 1 ≤ cap ∧ cap ≤ maxLen ∧ g < H ∧ w.cell? ⟨g, k * 2, none⟩ = some (.int .i64 t.list[k]!.id) ∧ w.cell? ⟨g, k * 2 + 1, none⟩ = some fvs[k]! ∧ (∀ j, w.frozen? ⟨g, j, none⟩ = false) ∧ FldsAt w w.heap.size fvs[k]! t.list[k]!.flds ∧ FmtOk t.list[k]! := by
  have hr := h.row
  rw [hk] at hr
  obtain ⟨g, cap, rfl, hB, hc, hcm, hg, hcell, hfr⟩ := own_cells3 hr (by omega)
  obtain ⟨a1, a2⟩ := fmtC_at t.list fvs h.fl k (by omega)
  exact ⟨g, cap, rfl, hB, hc, hcm, h.lH g rfl, hcell _ _ a1, hcell _ _ a2, hfr, sliceAt_of_own (h.new k (by omega)), h.ok _ (by rw [getElem!_pos t.list k (by omega)]; exact List.getElem_mem (by omega))⟩
theorem TabS.drw {B tB n H mB : Nat} {t : Tab} {lv : Value} {fvs : List Value} {w : World} (h : TabS B tB t n H mB lv fvs w) : TabS B tB t n H mB lv fvs w.drew :=
  ⟨h.blk, h.bt, h.bm, h.map.of_block rfl, h.fl, h.row, h.hH, h.tH, h.mH, h.lH, h.old, h.new, h.ok, h.len, h.num⟩
theorem TabS.drwN {B tB n H mB : Nat} {t : Tab} {lv : Value} {fvs : List Value} {w : World} (h : TabS B tB t n H mB lv fvs w) (q : Nat) : TabS B tB t n H mB lv fvs (w.drewN q) :=
  ⟨h.blk, h.bt, h.bm, h.map.of_block rfl, h.fl, h.row, h.hH, h.tH, h.mH, h.lH, h.old, h.new, h.ok, h.len, h.num⟩
theorem lenF_i64 (m : Int → Option Int) (l : List Fld) : I64 (lenF m l) := by
  have key : ∀ (l : List Fld) (z : Int), I64 z → I64 (l.foldl (fun n f => w64i (n + leastF m f)) z) := by
    intro l
    induction l with
    | nil => exact fun _ h => h
    | cons x r ih => exact fun z _ => ih _ ⟨by show _ ≤ IntKind.i64.wrap _; rw [IntKind.wrap_i64]; omega, by show IntKind.i64.wrap _ ≤ _; rw [IntKind.wrap_i64]; omega⟩
  exact key l 0 ⟨by omega, by omega⟩
set_option maxRecDepth 100000 in
set_option maxHeartbeats 8000000 in
theorem end_any {B tB n H mB : Nat} {t : Tab} {lv : Value} {fvs : List Value} {w : World} (h : TabS B tB t n H mB lv fvs w) (hn : n + 1 ≤ 1000) :
    Calls Tryz.prog 55 #[.pointer (some ⟨tB, 0, none⟩)] w fun e w' => Below B w w' ∧ ((∃ t' n', t.fin = some t' ∧ e = .returned (.tuple #[]) ∧ n' ≤ n + 1 ∧ TabS B tB t' n' H mB lv fvs w' ∧ KeepFar tB mB lv fvs lv fvs w w') ∨ (t.fin = none ∧ e = errE ∧ FarStay tB mB lv fvs w w')) := by
  have c0 := h.blk.cell (j := 0) rfl
  have c1 := h.blk.cell (j := 1) rfl
  have hBs : B ≤ w.heap.size := Nat.le_trans h.bt (Nat.le_of_lt h.blk.lt)
  cases hL : t.list.length with
  | zero =>
    obtain ⟨a, cap, rfl⟩ := own_val h.row
    rw [hL] at c0
    have hfin : Hid (t.fin = some t) := by
      show _ = _
      rw [Tab.fin, List.eq_nil_of_length_eq_zero hL]; rfl
    have hT := Lib.hid h
    clear h
    go_enter Tryz.func55, Tryz.ntmps55
    go_wp2_with fail
    go_end0
    exact ⟨Below.refl _ _, .inl ⟨t, n, hfin.out, rfl, Nat.le_succ _, hT.out, fun b _ _ _ h4 h5 => ⟨rfl, h4, h5⟩⟩⟩
  | succ k =>
    obtain ⟨g, cap, rfl, hgB, hgc, hgm, hgH, x0, x1, hfr, hF, hok⟩ := h.last hL
    have hF0 := hF
    obtain ⟨fa, fcap, hfv, hfc, hfm, _⟩ := hF
    have hlast := last_of hL
    have hk60 := h.len
    have hT := h
    rw [hfv] at x1
    have hwk : IntKind.i64.wrap ((k : Int) + 1 - 1) = (k : Int) := by rw [show (k : Int) + 1 - 1 = (k : Int) by omega]; exact IntWalk.i64_in _ (by omega)
    have hwk2 : IntKind.i64.wrap (k : Int) = (k : Int) := IntWalk.i64_in _ (by omega)
    have k0 : (0 : Int) ≤ (k : Int) := by omega
    have k1 : (k : Int) < (k : Int) + 1 := by omega
    have hln := length_any tB g 0 cap k t.m fvs[k]! t.list[k]!.flds w.drew c0 (by omega) (by rw [hfv]; simpa using x1) (Nat.lt_of_lt_of_le hgH h.hH) h.tabM.drw hF0 (by have := hok.len; omega) hok.all
    have hmt := must_true
    have hmf := must_false
    cases hE : t.list[k]!.flds with
    | nil =>
      rw [hE] at x1
      have hfin : Hid (t.fin = none) := by
        show _ = _
        rw [Tab.fin, hlast]
        dsimp only
        rw [hE]
        rfl
      replace hlast := Lib.hid hlast
      replace hE := Lib.hid hE
      replace hL := Lib.hid hL
      replace hfv := Lib.hid hfv
      replace hT := Lib.hid hT
      replace hln := Lib.hid hln
      clear h hF0 hok hmt
      go_enter Tryz.func55, Tryz.ntmps55
      go_wp2_with fail
      refine (hmf _).mono ?_
      rintro e w1 ⟨rfl, rfl⟩
      dsimp only [errE, errV]
      go_wp2_with fail
      exact ⟨rfl, Below.refl _ _, .inr ⟨hfin.out, rfl, FarStay.of_below (Below.refl _ _)⟩⟩
    | cons y r =>
      have hfin : Hid (t.fin = some { t with m := putM t.m t.list[k]!.id (lenF t.m t.list[k]!.flds) }) := by
        show _ = _
        rw [Tab.fin, hlast]
        dsimp only
        rw [hE]
        rfl
      have hpos : decide (0 < t.list[k]!.flds.length) = true := by rw [hE]; simp
      generalize hlen : t.list[k]!.flds.length = fl at *
      replace hlen := Lib.hid hlen
      have hidI := hok.id
      have hvI := lenF_i64 t.m t.list[k]!.flds
      generalize t.list[k]!.id = id at *
      generalize lenF t.m t.list[k]!.flds = ln at *
      replace hlast := Lib.hid hlast
      replace hE := Lib.hid hE
      replace hL := Lib.hid hL
      replace hfv := Lib.hid hfv
      replace hT := Lib.hid hT
      replace hln := Lib.hid hln
      clear h hF0 hok hmf
      go_enter Tryz.func55, Tryz.ntmps55
      go_wp2_with fail
      refine (hmt _).mono ?_
      rintro e w1 ⟨rfl, hw1⟩
      subst w1
      go_wp2_with fail
      have z0 := hT.out.blk.lt
      have z1 := Nat.lt_of_lt_of_le hgH hT.out.hH
      refine wp_region_held_drew (S := fun w' => w'.cell? ⟨tB, 0, none⟩ = some (.slice (some ⟨g, 0, none⟩) (k + 1) cap) ∧ w'.cell? ⟨tB, 1, none⟩ = some (.map (some mB)) ∧ w'.cell? ⟨g, k * 2, none⟩ = some (.int .i64 id)) (by kernel_rfl) (by exact ⟨c0, c1, x0⟩) (fun hHeld => ?_)
      refine take_l (i := 0) (v := ?_) rfl (by kernel_rfl) (by kernel_rfl) (by kernel_rfl) (fun _ _ _ h => h) (Or.inl ⟨by kernel_rfl, ?_⟩) (by assumption) ?_
      rotate_left
      · intro w hSw; (try dsimp only at hSw); go_simp; (try with_reducible rfl)
      (try simp only [Act.put, List.setIfInBounds_toArray, List.set_cons_zero, List.set_cons_succ])
      refine take_l (i := 1) (v := ?_) rfl (by kernel_rfl) (by kernel_rfl) (by kernel_rfl) (fun _ _ _ h => h) (Or.inl ⟨by kernel_rfl, ?_⟩) (by assumption) ?_
      rotate_left
      · intro w hSw; (try dsimp only at hSw); go_simp; (try with_reducible rfl)
      (try simp only [Act.put, List.setIfInBounds_toArray, List.set_cons_zero, List.set_cons_succ])
      refine take_l (i := 2) (v := ?_) rfl (by kernel_rfl) (by kernel_rfl) (by kernel_rfl) (fun _ _ _ h => h) (Or.inl ⟨by kernel_rfl, ?_⟩) (by assumption) ?_
      rotate_left
      · intro w hSw; (try dsimp only at hSw); go_simp; (try with_reducible rfl)
      (try simp only [Act.put, List.setIfInBounds_toArray, List.set_cons_zero, List.set_cons_succ])
      refine take_l (i := 3) (v := ?_) rfl (by kernel_rfl) (by kernel_rfl) (by kernel_rfl) (fun _ _ _ h => h) (Or.inl ⟨by kernel_rfl, ?_⟩) (by assumption) ?_
      rotate_left
      · intro w hSw; (try dsimp only at hSw); go_simp; (try with_reducible rfl)
      (try simp only [Act.put, List.setIfInBounds_toArray, List.set_cons_zero, List.set_cons_succ])
      refine take_l (i := 4) (v := ?_) rfl (by kernel_rfl) (by kernel_rfl) (by kernel_rfl) (fun _ _ _ h => h) (Or.inl ⟨by kernel_rfl, ?_⟩) (by assumption) ?_
      rotate_left
      · intro w hSw; (try dsimp only at hSw); go_simp; (try with_reducible rfl)
      (try simp only [Act.put, List.setIfInBounds_toArray, List.set_cons_zero, List.set_cons_succ])
      refine take_l (i := 5) (v := ?_) rfl (by kernel_rfl) (by kernel_rfl) (by kernel_rfl) (fun _ _ _ h => h) (Or.inl ⟨by kernel_rfl, ?_⟩) (by assumption) ?_
      rotate_left
      · intro w hSw; (try dsimp only at hSw); go_simp; (try with_reducible rfl)
      (try simp only [Act.put, List.setIfInBounds_toArray, List.set_cons_zero, List.set_cons_succ])
      refine take_l (i := 6) (v := ?_) rfl (by kernel_rfl) (by kernel_rfl) (by kernel_rfl) (fun _ _ _ h => h) (Or.inl ⟨by kernel_rfl, ?_⟩) (by assumption) ?_
      rotate_left
      · intro w hSw; (try dsimp only at hSw); go_simp; (try with_reducible rfl)
      (try simp only [Act.put, List.setIfInBounds_toArray, List.set_cons_zero, List.set_cons_succ])
      refine take_l (i := 7) (v := ?_) rfl (by kernel_rfl) (by kernel_rfl) (by kernel_rfl) (fun _ _ _ h => h) (Or.inl ⟨by kernel_rfl, ?_⟩) (by assumption) ?_
      rotate_left
      · intro w hSw; (try dsimp only at hSw); go_simp; (try with_reducible rfl)
      (try simp only [Act.put, List.setIfInBounds_toArray, List.set_cons_zero, List.set_cons_succ])
      refine take_l (i := 8) (v := ?_) rfl (by kernel_rfl) (by kernel_rfl) (by kernel_rfl) (fun _ _ _ h => h) (Or.inl ⟨by kernel_rfl, ?_⟩) (by assumption) ?_
      rotate_left
      · intro w hSw; (try dsimp only at hSw); go_simp; (try with_reducible rfl)
      (try simp only [Act.put, List.setIfInBounds_toArray, List.set_cons_zero, List.set_cons_succ])
      refine take_l (i := 9) (v := ?_) rfl (by kernel_rfl) (by kernel_rfl) (by kernel_rfl) (fun _ _ _ h => h) (Or.inl ⟨by kernel_rfl, ?_⟩) (by assumption) ?_
      rotate_left
      · intro w hSw; (try dsimp only at hSw); go_simp; (try with_reducible rfl)
      (try simp only [Act.put, List.setIfInBounds_toArray, List.set_cons_zero, List.set_cons_succ])
      refine take_l (i := 10) (v := ?_) rfl (by kernel_rfl) (by kernel_rfl) (by kernel_rfl) (fun _ _ _ h => h) (Or.inl ⟨by kernel_rfl, ?_⟩) (by assumption) ?_
      rotate_left
      · intro w hSw; (try dsimp only at hSw); go_simp; (try with_reducible rfl)
      (try simp only [Act.put, List.setIfInBounds_toArray, List.set_cons_zero, List.set_cons_succ])
      refine take_l (i := 11) (v := ?_) rfl (by kernel_rfl) (by kernel_rfl) (by kernel_rfl) (fun _ _ _ h => h) (Or.inl ⟨by kernel_rfl, ?_⟩) (by assumption) ?_
      rotate_left
      · intro w hSw; (try dsimp only at hSw); go_simp; (try with_reducible rfl)
      (try simp only [Act.put, List.setIfInBounds_toArray, List.set_cons_zero, List.set_cons_succ])
      refine take_l (i := 12) (v := ?_) rfl (by kernel_rfl) (by kernel_rfl) (by kernel_rfl) (fun _ _ _ h => h) (Or.inl ⟨by kernel_rfl, ?_⟩) (by assumption) ?_
      rotate_left
      · intro w hSw; (try dsimp only at hSw); go_simp; (try with_reducible rfl)
      (try simp only [Act.put, List.setIfInBounds_toArray, List.set_cons_zero, List.set_cons_succ])
      refine wpAnyH_ready (rs := [13]) (by kernel_rfl) (by simp) ?_
      refine ready_l rfl (fun K hK => ?_) AllReadyH.nil
      go_simp
      (go_at_call 84; (with_reducible refine (hln.out).mono ?_); rintro e vA ⟨rfl, hbvA⟩; have hBvA : Below w.heap.size w vA := Below.trans (by repeat first | with_reducible exact Below.refl _ _ | with_reducible assumption | with_reducible refine below_drewN ?_ _ | with_reducible refine Below.drew ?_ | with_reducible refine Below.setCell ?_ (by first | exact Nat.le_refl _ | (simp; done) | (simp; omega) | omega) _ | with_reducible refine Below.alloc ?_ (by first | exact Nat.le_refl _ | (simp; done) | (simp; omega) | omega) _ | exact Below.refl _ _ | assumption) (hbvA.mono (by first | exact Nat.le_refl _ | assumption | (simp; done) | (simp; omega) | omega)); have hzvA := hbvA.size; have hTA := hT.out.drw.below hbvA; obtain ⟨w6, hrun6, hM6, hg6⟩ := hTA.map.put (by unfold maxLen; have := hTA.num; omega) hidI hvI)
      refine hK.out _ _ (by exact ⟨(hbvA.cell (p := ⟨_, 0, none⟩) z0).trans c0, (hbvA.cell (p := ⟨_, 1, none⟩) z0).trans c1, (hbvA.cell (p := ⟨_, k * 2, none⟩) z1).trans x0⟩) (fun hHeld => ?_)
      clear hK K
      (try simp only [Act.put, List.setIfInBounds_toArray, List.set_cons_zero, List.set_cons_succ])
      refine wpAnyH_ready (rs := [14]) (by kernel_rfl) (by simp) ?_
      refine ready_l rfl (fun K hK => ?_) AllReadyH.nil
      go_simp
      refine hK.out _ _ (by exact ⟨(hg6.cell_far _ hTA.blk.lt (by simpa using hTA.map.ne_cells (hTA.blk.cell (j := 0) rfl))).trans (hTA.blk.cell (j := 0) rfl), (hg6.cell_far _ hTA.blk.lt (by simpa using hTA.map.ne_cells (hTA.blk.cell (j := 0) rfl))).trans (hTA.blk.cell (j := 1) rfl), (hg6.cell_far _ (Nat.lt_of_lt_of_le z1 hbvA.size) (by simpa using hTA.map.ne_cells ((hbvA.cell (p := ⟨_, k * 2, none⟩) z1).trans x0))).trans ((hbvA.cell (p := ⟨_, k * 2, none⟩) z1).trans x0)⟩) (fun hHeld => ?_)
      clear hK K
      (try simp only [Act.put, List.setIfInBounds_toArray, List.set_cons_zero, List.set_cons_succ])
      refine wpAnyH_done (by kernel_rfl) ?_ _
      go_wp2_with fail
      go_end0
      exact ⟨((Below.refl B w).drew.trans (hbvA.mono hBs)).grown hg6 (Nat.le_trans hBs hbvA.size) (fun j hj => by injection hj with hj; rw [← hj]; exact hT.out.bm), .inl ⟨_, n + 1, hfin.out, rfl, Nat.le_refl _, hTA.put hM6 hg6 hn, fun b h1 _ h3 h4 h5 => ⟨(hg6.block b (Nat.lt_of_lt_of_le h1 hbvA.size) (by simpa using h3)).trans (hbvA.block b h1), h4, h5⟩⟩⟩
end Go.Proofs.YtcpfmlaipejfpaaGreatDoor
namespace Go.Proofs.YtcpfmlaipejfpaaGreatDoor
open Go.RowKit Go.Maps Go.Shelf

attribute [local go_sem] Oper.semAt_some

theorem info_fmt : (Tryz.prog.info? 34).map (fun i => (i.zero, i.size, i.bytes)) = some (some (.agg #[.int .i64 0, .slice none 0 0]), 2, 32) := by kernel_rfl
theorem info_fld : (Tryz.prog.info? 55).map (fun i => (i.zero, i.size, i.bytes)) = some (some (.agg #[.int .i64 0, .int .i64 0, .int .i64 0, .string ByteArray.empty]), 4, 40) := by kernel_rfl
theorem append_fmt (w : World) (B : Nat) (v : Value) (n : Nat) (xs : List Value) (hown : w.ownsRow B 34 2 v n xs) (b : Nat) (ys : List Value) (hA : Arr w b 34 ys) (hy : ys.length = 2) (h1 : ∀ u ∈ ys, u.oneCell' = true) (hl : n ≤ 1000000) (hb : B ≤ w.heap.size) :
    ∃ v' w', (Builtin.append_ #[22, 22] 22 #[v, .slice (some ⟨b, 0, none⟩) 1 1]).run Tryz.prog w = .ok v' w' ∧ w'.ownsRow B 34 2 v' (n + 1) (xs ++ ys) ∧ w.grownBy w' v.ownBlock ∧ (v'.ownBlock = v.ownBlock ∨ v'.ownBlock = some w.heap.size) := by
  obtain ⟨i0, hi, hz0, hz1, hz2⟩ := info_parts info_fmt
  obtain ⟨v', w', hrun, r1, r2, _, r3⟩ := run_append_own_at (P := Tryz.prog) w B 22 22 34 i0 (.agg #[.int .i64 0, .slice none 0 0]) 2 32 Tryz.underlying22 hi hz0 hz1 hz2 rfl (by decide) v n xs hown ⟨b, 0, none⟩ 1 1 ys (by omega) (fun j u hu => by rw [Addr.add_mid, Nat.zero_add]; exact hA.cell hu) h1 (by unfold maxLen; omega) (by omega) hb
  exact ⟨v', w', hrun, r1, r2, r3⟩
theorem append_fld (w : World) (B : Nat) (v : Value) (l : List Fld) (f : Fld) (hown : w.ownsRow B 55 4 v l.length (fldL l)) (b : Nat) (hA : Arr w b 55 (fldC f)) (hl : l.length ≤ 1000000) (hb : B ≤ w.heap.size) :
    ∃ v' w', (Builtin.append_ #[32, 32] 32 #[v, .slice (some ⟨b, 0, none⟩) 1 1]).run Tryz.prog w = .ok v' w' ∧ w'.ownsRow B 55 4 v' (l ++ [f]).length (fldL (l ++ [f])) ∧ w.grownBy w' v.ownBlock ∧ (v'.ownBlock = v.ownBlock ∨ v'.ownBlock = some w.heap.size) := by
  obtain ⟨i0, hi, hz0, hz1, hz2⟩ := info_parts info_fld
  obtain ⟨v', w', hrun, r1, r2, _, r3⟩ := run_append_own_at (P := Tryz.prog) w B 32 32 55 i0 (.agg #[.int .i64 0, .int .i64 0, .int .i64 0, .string ByteArray.empty]) 4 40 Tryz.underlying32 hi hz0 hz1 hz2 rfl (by decide) v l.length (fldL l) hown ⟨b, 0, none⟩ 1 1 (fldC f) rfl (fun j u hu => by rw [Addr.add_mid, Nat.zero_add]; exact hA.cell hu) (fun u hu => by
      simp only [fldC, List.mem_cons, List.not_mem_nil, or_false] at hu
      rcases hu with rfl | rfl | rfl | rfl <;> rfl) (by unfold maxLen; omega) (by omega) hb
  exact ⟨v', w', hrun, by rw [List.length_append, fldL_snoc]; exact r1, r2, r3⟩
theorem wpList_append_known {P : Program} {ops : Array Oper} {rest : List Oper} {o : Oper} {a : Act} {w : World} {Q : Exit → Act → World → Prop} (hgd : o.guard = none) (d s : Operand) (t t' : TypeId)
    (ho : o.op = .call { callee := .builtin .append, args := #[d, s], argTypes := #[t, t'] }) (v u : Value) (hd : a.eval d = v) (hs : a.eval s = u) {v' : Value} {w' : World}
    (hr : (Builtin.append_ #[t, t'] o.type #[v, u]).run P w = .ok v' w') (h : wpList P ops Q rest (a.put o.dst v') w') : wpList P ops Q (o :: rest) a w :=
  wpList_plain hgd fun _ hK => by
    unfold Oper.wp execOp
    simp only [ho, resolve, invoke, builtin, Sem.run_bind, Sem.run_pure, Result.andThen_ok, List.map_toArray, List.map_cons, List.map_nil, hd, hs, hr]
    exact hK _ _ h
theorem getD_snoc {α : Type} [Inhabited α] (l : List α) (x : α) {i : Nat} (h : i < l.length) : (l ++ [x])[i]! = l[i]! := by
  rw [getElem!_pos (l ++ [x]) i (by simp; omega), getElem!_pos l i h, List.getElem_append_left h]
theorem getD_snoc_last {α : Type} [Inhabited α] (l : List α) (x : α) : (l ++ [x])[l.length]! = x := by
  rw [getElem!_pos (l ++ [x]) l.length (by simp)]
  simp
/-- A format has begun: behind the append to the list, and the store. -/
theorem TabS.begun {B tB n H mB : Nat} {t : Tab} {lv lv' : Value} {fvs : List Value} {w w' : World} {id : Int} (h : TabS B tB t n H mB lv fvs w) (h60 : t.list.length < 60) (hid : I64 id)
    (hr : w'.ownsRow B 34 2 lv' (t.list.length + 1) (fmtC t.list fvs ++ [.int .i64 id, .slice none 0 0])) (hg : w.grownBy w' lv.ownBlock) :
    TabS B tB { t with list := t.list ++ [⟨id, []⟩] } n w'.heap.size mB lv' (fvs ++ [.slice none 0 0]) (w'.setCell ⟨tB, 0, none⟩ lv') := by
  have hne1 : some tB ≠ lv.ownBlock := fun e => by
    obtain ⟨_, _, cur, h2⟩ := own_block h.row e.symm
    rw [show w.heap[tB]? = _ from h.blk] at h2
    injection h2 with h2
    injection h2 with _ h2
    exact absurd h2 (by decide)
  have hne2 : some mB ≠ lv.ownBlock := fun e => by
    obtain ⟨_, _, cur, h2⟩ := own_block h.row e.symm
    obtain ⟨D, ⟨es, clock, h3, _⟩, _⟩ := h.map
    rw [h3] at h2
    cases h2
  have hne3 : tB ≠ mB := h.map.ne_cells (h.blk.cell (j := 0) rfl)
  have hblk : Arr w' tB 69 [lv, .map (some mB)] := (hg.block tB h.blk.lt hne1).trans h.blk
  have hmap : MapIs w' mB n t.m := h.map.of_block (hg.block mB h.map.lt hne2)
  have hs : (w'.setCell ⟨tB, 0, none⟩ lv').heap.size = w'.heap.size := by simp [World.setCell]
  have hsz := hg.size
  have hH := h.hH
  refine ⟨hblk.set 0 lv', h.bt, h.bm, hmap.of_block (heap_setCell_other _ _ _ _ (by simpa using hne3.symm)), by simp [h.fl], ?_, by rw [hs]; exact Nat.le_refl _, by have := h.tH; omega, by have := h.mH; omega, fun g hg' => (own_block hr hg').1, fun i hi => ?_, fun i hi => ?_, fun f hf => ?_, by simp; omega, h.num⟩
  · have := own_set_apart (o := 0) (u := lv') hr hblk (by decide)
    rw [← fmtC_snoc t.list fvs ⟨id, []⟩ (.slice none 0 0) h.fl] at this
    simpa using this
  · have hi' : i < t.list.length := by simp at hi; omega
    dsimp only
    rw [getD_snoc _ _ hi', getD_snoc _ _ (by rw [h.fl]; exact hi')]
    have key : w.ownsRow B 55 4 fvs[i]! t.list[i]!.flds.length (fldL t.list[i]!.flds) ∧ ∀ g, fvs[i]!.ownBlock = some g → g < w.heap.size := by
      by_cases hlt : i + 1 < t.list.length
      · exact ⟨(h.old i hlt).1, fun g hg' => Nat.lt_of_lt_of_le ((h.old i hlt).2 g hg') hH⟩
      · have hn := h.new i (by omega)
        exact ⟨own_lower hn (Nat.le_trans h.bt (Nat.le_of_lt h.tH)), fun g hg' => (own_block hn hg').1⟩
    exact ⟨own_set_apart (own_apart key.1 h.row (by decide) hg) hblk (by decide), fun g hg' => Nat.lt_of_lt_of_le (key.2 g hg') hsz⟩
  · have hi' : i = t.list.length := by simp at hi; omega
    subst hi'
    dsimp only
    rw [getD_snoc_last, show t.list.length = fvs.length from h.fl.symm, getD_snoc_last]
    exact World.ownsRow_nil _ _ _ _
  · rcases List.mem_append.1 hf with hf | hf
    · exact h.ok f hf
    · obtain rfl : f = ⟨id, []⟩ := by simpa using hf
      exact ⟨hid, fun _ h => (by cases h), fun _ h => (by cases h), Nat.zero_le _⟩
set_option maxRecDepth 100000 in
set_option maxHeartbeats 8000000 in
theorem begin_any {B tB n H mB : Nat} {t : Tab} {lv : Value} {fvs : List Value} {w : World} (h : TabS B tB t n H mB lv fvs w) (hn : n + 1 ≤ 1000) (id : Int) (hid : I64 id) :
    Calls Tryz.prog 53 #[.pointer (some ⟨tB, 0, none⟩), .int .i64 id] w fun e w' => Below B w w' ∧ ((∃ t' n' H' lv' fvs', t.beginT id = some t' ∧ e = .returned (.tuple #[]) ∧ n' ≤ n + 1 ∧ TabS B tB t' n' H' mB lv' fvs' w' ∧ KeepFar tB mB lv fvs lv' fvs' w w') ∨ (t.beginT id = none ∧ e = errE ∧ FarStay tB mB lv fvs w w')) := by
  have hend := Lib.hid (end_any h hn)
  have hwi := fun W => Lib.hid (within_any id 1 1000000 W)
  have hmt := must_true
  have hmf := must_false
  go_enter Tryz.func53, Tryz.ntmps53
  go_wp2_with fail
  refine hend.out.mono ?_
  rintro e w1 ⟨hb1, hcase⟩
  rcases hcase with ⟨t1, n1, hf1, rfl, hn1, h1, hkp⟩ | ⟨hf1, rfl, hfar⟩
  · clear hend h
    have hkeep := Lib.hid hkp
    clear hkp
    have c0 := h1.blk.cell (j := 0) rfl
    have hL60 := h1.len
    have hdef : Hid (t.beginT id = if withinZ id 1 1000000 && decide (t1.list.length < 60) && lastLess t1.list id then some { t1 with list := t1.list ++ [⟨id, []⟩] } else none) := by
      show _ = _
      rw [Tab.beginT, hf1]
    clear hf1
    have hT := Lib.hid h1
    have hal : Below w1.heap.size w1 (w1.alloc (.cells #[.int .i64 id, .slice none 0 0] 34)) := (Below.refl _ _).alloc (Nat.le_refl _) _
    have hB1 : B ≤ w1.heap.size := Nat.le_trans h1.bt (Nat.le_of_lt h1.blk.lt)
    cases hw : withinZ id 1 1000000 with
    | false =>
      obtain ⟨a, cap, hlv⟩ := own_val h1.row
      rw [hlv] at c0
      have hr : Hid (t.beginT id = none) := by show _ = _; rw [hdef.out, hw]; rfl
      have hwl : IntKind.i64.wrap ((t1.list.length : Int) - 1) = (t1.list.length : Int) - 1 := IntWalk.i64_in _ (by omega)
      replace hlv := Lib.hid hlv
      clear h1
      clear hdef
      go_wp2_with fail
      refine (hwi _).out.mono ?_
      rintro e w2 ⟨rfl, hw2⟩
      subst w2
      rw [hw]
      go_wp2_with fail
      refine (hmf _).mono ?_
      rintro e w2 ⟨rfl, hw2⟩
      subst w2
      dsimp only [errE, errV]
      go_wp2_with fail
      exact ⟨rfl, hb1, .inr ⟨hr.out, rfl, hkeep.out.stay⟩⟩
    | true =>
      by_cases hlt60 : t1.list.length < 60
      · have hd60 : decide (t1.list.length < 60) = true := by simpa using hlt60
        cases hL : t1.list.length with
        | zero =>
          obtain ⟨a, cap, hlv⟩ := own_val h1.row
          have c00 := c0
          rw [hlv, hL] at c0
          rw [hL] at hlv
          have hr : Hid (t.beginT id = some { t1 with list := t1.list ++ [⟨id, []⟩] }) := by
            show _ = _
            rw [hdef.out, hw, hd60, lastLess, List.eq_nil_of_length_eq_zero hL]
            rfl
          replace hL := Lib.hid hL
          clear h1 hd60 c00
          clear hdef
          obtain ⟨v6, w6, hrun6, hr6, hg6, ho6⟩ := append_fmt (w1.alloc (.cells #[.int .i64 id, .slice none 0 0] 34)) B lv t1.list.length _ (hT.out.below hal).row w1.heap.size [.int .i64 id, .slice none 0 0] (Arr.new rfl rfl) rfl (by intro u hu; simp only [List.mem_cons, List.not_mem_nil, or_false] at hu; rcases hu with rfl | rfl <;> rfl) (by omega) (by simp; omega)
          obtain ⟨a6, c6, rfl⟩ := own_val hr6
          have hfin := (hT.out.below hal).begun hlt60 hid hr6 hg6
          have hbw : Below B w (w6.setCell ⟨tB, 0, none⟩ (.slice a6 (t1.list.length + 1) c6)) := ((hb1.trans (hal.mono hB1)).grown hg6 (by simp; omega) (fun j hj => (own_block (hT.out.below hal).row hj).2.1)).setCell (p := ⟨tB, 0, none⟩) hT.out.bt _
          have hkf : KeepFar tB mB lv fvs (.slice a6 (t1.list.length + 1) c6) (fvs ++ [.slice none 0 0]) w (w6.setCell ⟨tB, 0, none⟩ (.slice a6 (t1.list.length + 1) c6)) := fun b g1 g2 g3 g4 g5 => by
            obtain ⟨q1, q2, q3⟩ := hkeep.out b g1 g2 g3 g4 g5
            have hbl : b < w1.heap.size := Nat.lt_of_lt_of_le g1 hb1.size
            refine ⟨(heap_setCell_other _ _ _ _ (by simpa using g2)).trans ((hg6.block b (by simp; omega) (fun e => q2 e.symm)).trans ((hal.block b hbl).trans q1)), fun e => ?_, fun v hv => ?_⟩
            · rcases ho6 with ho6 | ho6
              · rw [ho6] at e
                exact q2 e
              · rw [ho6] at e
                injection e with e
                simp only [World.size_alloc] at e
                omega
            · rcases List.mem_append.1 hv with hv | hv
              · exact q3 v hv
              · simp only [List.mem_singleton] at hv
                subst hv
                intro e
                cases e
          have hne6 : some tB ≠ lv.ownBlock := fun e => by
            obtain ⟨_, _, cur, h2⟩ := own_block hT.out.row e.symm
            rw [show w1.heap[tB]? = _ from hT.out.blk] at h2
            injection h2 with h2
            injection h2 with _ h2
            exact absurd h2 (by decide)
          have hb6 : Arr w6 tB 69 [lv, .map (some mB)] := (hg6.block tB (by have := hT.out.blk.lt; simp; omega) hne6).trans (hT.out.blk.below hal)
          have s0 := hb6.cell (j := 0) rfl
          have f0 := hb6.free 0
          rw [hlv] at hrun6 s0
          obtain ⟨n6, hn6⟩ : ∃ n6, n6 = t1.list.length + 1 := ⟨_, rfl⟩
          rw [← hn6] at hrun6 hfin hbw hkf
          replace hkf := Lib.hid hkf
          replace hn6 := Lib.hid hn6
          replace hfin := Lib.hid hfin
          replace hbw := Lib.hid hbw
          replace hb6 := Lib.hid hb6
          replace hrun6 := Lib.hid hrun6
          replace hne6 := Lib.hid hne6
          clear hr6 hg6 hal ho6
          go_wp2_with fail
          refine (hwi _).out.mono ?_
          rintro e w2 ⟨rfl, hw2⟩
          subst w2
          rw [hw]
          go_wp2_with fail
          refine (hmt _).mono ?_
          rintro e w2 ⟨rfl, hw2⟩
          subst w2
          go_wp2_with (at_builtin; go_loud (refine wpList_append_known rfl _ _ _ _ rfl _ _ rfl rfl hrun6.out ?_))
          go_end0
          exact ⟨hbw.out, .inl ⟨_, n1, _, _, _, hr.out, rfl, hn1, hfin.out, hkf.out⟩⟩
        | succ k =>
          obtain ⟨g, cap, hlv, hgB, _, _, hgH, x0, x1, _, _, _⟩ := h1.last hL
          have hlast := last_of hL
          rw [hlv] at c0
          have hwl : IntKind.i64.wrap ((k : Int) + 1 - 1) = (k : Int) := by rw [show (k : Int) + 1 - 1 = (k : Int) by omega]; exact IntWalk.i64_in _ (by omega)
          have hwl2 : IntKind.i64.wrap (k : Int) = (k : Int) := IntWalk.i64_in _ (by omega)
          have k0 : (0 : Int) ≤ (k : Int) := by omega
          have k1 : (k : Int) < (k : Int) + 1 := by omega
          have kd : decide ((k : Int) < 0) = false := by simp
          rw [hL] at hd60
          by_cases hless : t1.list[k]!.id < id
          · have hdl : decide (t1.list[k]!.id < id) = true := by simpa using hless
            have hr : Hid (t.beginT id = some { t1 with list := t1.list ++ [⟨id, []⟩] }) := by
              have hll : lastLess t1.list id = true := by rw [lastLess, hlast]; exact hdl
              show _ = _
              rw [hdef.out, hw, hL, hd60, hll]
              rfl
            have hd60i : decide ((k : Int) + 1 < 60) = true := by simp; omega
            generalize t1.list[k]!.id = lid at *
            replace hL := Lib.hid hL
            replace hlast := Lib.hid hlast
            clear h1 hd60
            clear hdef
            obtain ⟨v6, w6, hrun6, hr6, hg6, ho6⟩ := append_fmt (w1.alloc (.cells #[.int .i64 id, .slice none 0 0] 34)) B lv t1.list.length _ (hT.out.below hal).row w1.heap.size [.int .i64 id, .slice none 0 0] (Arr.new rfl rfl) rfl (by intro u hu; simp only [List.mem_cons, List.not_mem_nil, or_false] at hu; rcases hu with rfl | rfl <;> rfl) (by omega) (by simp; omega)
            obtain ⟨a6, c6, rfl⟩ := own_val hr6
            have hfin := (hT.out.below hal).begun hlt60 hid hr6 hg6
            have hbw : Below B w (w6.setCell ⟨tB, 0, none⟩ (.slice a6 (t1.list.length + 1) c6)) := ((hb1.trans (hal.mono hB1)).grown hg6 (by simp; omega) (fun j hj => (own_block (hT.out.below hal).row hj).2.1)).setCell (p := ⟨tB, 0, none⟩) hT.out.bt _
            have hkf : KeepFar tB mB lv fvs (.slice a6 (t1.list.length + 1) c6) (fvs ++ [.slice none 0 0]) w (w6.setCell ⟨tB, 0, none⟩ (.slice a6 (t1.list.length + 1) c6)) := fun b g1 g2 g3 g4 g5 => by
              obtain ⟨q1, q2, q3⟩ := hkeep.out b g1 g2 g3 g4 g5
              have hbl : b < w1.heap.size := Nat.lt_of_lt_of_le g1 hb1.size
              refine ⟨(heap_setCell_other _ _ _ _ (by simpa using g2)).trans ((hg6.block b (by simp; omega) (fun e => q2 e.symm)).trans ((hal.block b hbl).trans q1)), fun e => ?_, fun v hv => ?_⟩
              · rcases ho6 with ho6 | ho6
                · rw [ho6] at e
                  exact q2 e
                · rw [ho6] at e
                  injection e with e
                  simp only [World.size_alloc] at e
                  omega
              · rcases List.mem_append.1 hv with hv | hv
                · exact q3 v hv
                · simp only [List.mem_singleton] at hv
                  subst hv
                  intro e
                  cases e
            have hne6 : some tB ≠ lv.ownBlock := fun e => by
              obtain ⟨_, _, cur, h2⟩ := own_block hT.out.row e.symm
              rw [show w1.heap[tB]? = _ from hT.out.blk] at h2
              injection h2 with h2
              injection h2 with _ h2
              exact absurd h2 (by decide)
            have hb6 : Arr w6 tB 69 [lv, .map (some mB)] := (hg6.block tB (by have := hT.out.blk.lt; simp; omega) hne6).trans (hT.out.blk.below hal)
            have s0 := hb6.cell (j := 0) rfl
            have f0 := hb6.free 0
            rw [hlv] at hrun6 s0
            obtain ⟨n6, hn6⟩ : ∃ n6, n6 = t1.list.length + 1 := ⟨_, rfl⟩
            rw [← hn6] at hrun6 hfin hbw hkf
            replace hkf := Lib.hid hkf
            replace hn6 := Lib.hid hn6
            replace hfin := Lib.hid hfin
            replace hbw := Lib.hid hbw
            replace hb6 := Lib.hid hb6
            replace hrun6 := Lib.hid hrun6
            replace hne6 := Lib.hid hne6
            clear hr6 hg6 hal ho6
            go_wp2_with fail
            refine (hwi _).out.mono ?_
            rintro e w2 ⟨rfl, hw2⟩
            subst w2
            rw [hw]
            go_wp2_with fail
            refine (hmt _).mono ?_
            rintro e w2 ⟨rfl, hw2⟩
            subst w2
            go_wp2_with (at_builtin; go_loud (refine wpList_append_known rfl _ _ _ _ rfl _ _ rfl rfl hrun6.out ?_))
            go_end0
            exact ⟨hbw.out, .inl ⟨_, n1, _, _, _, hr.out, rfl, hn1, hfin.out, hkf.out⟩⟩
          · have hdl : decide (t1.list[k]!.id < id) = false := by simpa using hless
            have hr : Hid (t.beginT id = none) := by
              have hll : lastLess t1.list id = false := by rw [lastLess, hlast]; exact hdl
              show _ = _
              rw [hdef.out, hw, hL, hd60, hll]
              rfl
            have hd60i : decide ((k : Int) + 1 < 60) = true := by simp; omega
            generalize t1.list[k]!.id = lid at *
            replace hL := Lib.hid hL
            replace hlast := Lib.hid hlast
            clear h1 hd60
            clear hdef
            go_wp2_with fail
            refine (hwi _).out.mono ?_
            rintro e w2 ⟨rfl, hw2⟩
            subst w2
            rw [hw]
            go_wp2_with fail
            refine (hmf _).mono ?_
            rintro e w2 ⟨rfl, hw2⟩
            subst w2
            dsimp only [errE, errV]
            go_wp2_with fail
            exact ⟨rfl, hb1, .inr ⟨hr.out, rfl, hkeep.out.stay⟩⟩
      · have hd60 : decide (t1.list.length < 60) = false := by simpa using hlt60
        obtain ⟨a, cap, hlv⟩ := own_val h1.row
        rw [hlv] at c0
        have hr : Hid (t.beginT id = none) := by show _ = _; rw [hdef.out, hw, hd60]; rfl
        have hwl : IntKind.i64.wrap ((t1.list.length : Int) - 1) = (t1.list.length : Int) - 1 := IntWalk.i64_in _ (by omega)
        have hwl2 : IntKind.i64.wrap (t1.list.length : Int) = (t1.list.length : Int) := IntWalk.i64_in _ (by omega)
        have kd : decide ((t1.list.length : Int) - 1 < 0) = false := by simp; omega
        replace hlv := Lib.hid hlv
        clear h1
        clear hdef
        go_wp2_with fail
        refine (hwi _).out.mono ?_
        rintro e w2 ⟨rfl, hw2⟩
        subst w2
        rw [hw]
        go_wp2_with fail
        refine (hmf _).mono ?_
        rintro e w2 ⟨rfl, hw2⟩
        subst w2
        dsimp only [errE, errV]
        go_wp2_with fail
        exact ⟨rfl, hb1, .inr ⟨hr.out, rfl, hkeep.out.stay⟩⟩
  · have hfin : Hid (t.beginT id = none) := by show _ = _; rw [Tab.beginT, hf1]
    clear hend h hmt hmf hwi
    dsimp only [errE, errV]
    go_wp2_with fail
    exact ⟨rfl, hb1, .inr ⟨hfin.out, rfl, hfar⟩⟩
end Go.Proofs.YtcpfmlaipejfpaaGreatDoor
namespace Go.Proofs.YtcpfmlaipejfpaaGreatDoor
open Go.RowKit Go.Maps Go.Shelf

theorem own_setAt {W : World} {B d n c i s : Nat} {e : TypeId} {xs : List Value} {u : Value} (h : W.ownsRow B e s (.slice (some ⟨d, 0, none⟩) n c) n xs) (_ : i < n * s) :
    (W.setCell ⟨d, i, none⟩ u).ownsRow B e s (.slice (some ⟨d, 0, none⟩) n c) n (xs.set i u) := by
  obtain ⟨hl, h⟩ := h
  rcases h with ⟨h, _⟩ | ⟨g', cap, cur, hv, h1, h2, h3, h4, h5, h6⟩
  · cases h
  · injection hv with e1 e2 e3
    injection e1 with e1
    injection e1 with e1
    subst e1 e3
    refine ⟨by simpa using hl, .inr ⟨d, c, cur.setIfInBounds i u, rfl, h1, cell_setRow_ok h2 u, h3, h4, by simpa using h5, ?_⟩⟩
    rw [Array.toList_setIfInBounds, List.take_set, h6]
theorem fmtC_set : ∀ (l : List Fmt) (vs : List Value) (k : Nat) (x : Fmt) (v : Value), vs.length = l.length → l.length = k + 1 → x.id = l[k]!.id → fmtC (l.dropLast ++ [x]) (vs.set k v) = (fmtC l vs).set (k * 2 + 1) v
  | [f], [u], 0, x, v, _, _, hx => by
    have hx' : x.id = f.id := hx
    simp [fmtC, hx']
  | f :: g :: r, u :: vs, k + 1, x, v, h, hk, hx => by
    have ih := fmtC_set (g :: r) vs k x v (by simpa using h) (by simpa using hk) (by simpa using hx)
    rw [show (k + 1) * 2 + 1 = (k * 2 + 1) + 2 by omega]
    simp only [List.dropLast_cons_cons, List.cons_append, List.set_cons_succ, fmtC]
    rw [ih]
theorem dropLast_at {l : List Fmt} {k i : Nat} {x : Fmt} (hk : l.length = k + 1) (hi : i < k) : (l.dropLast ++ [x])[i]! = l[i]! := by
  rw [getElem!_pos _ i (by simp; omega), getElem!_pos l i (by omega), List.getElem_append_left (by simp; omega), List.getElem_dropLast]
theorem dropLast_last {l : List Fmt} {k : Nat} {x : Fmt} (hk : l.length = k + 1) : (l.dropLast ++ [x])[k]! = x := by
  have hd : l.dropLast.length = k := by simp; omega
  rw [getElem!_pos _ k (by simp; omega), List.getElem_append_right (by omega)]
  simp
theorem set_at {l : List Value} {k i : Nat} {v : Value} (hi : i ≠ k) (hl : i < l.length) : (l.set k v)[i]! = l[i]! := by
  rw [getElem!_pos _ i (by simpa using hl), getElem!_pos l i hl, List.getElem_set_ne (fun e => hi e.symm)]
theorem set_last {l : List Value} {k : Nat} {v : Value} (hl : k < l.length) : (l.set k v)[k]! = v := by
  rw [getElem!_pos _ k (by simpa using hl), List.getElem_set_self]
/-- Behind the append to the last format's fields, and the store. -/
theorem TabS.added {B tB n H mB g k cap : Nat} {t : Tab} {fvs : List Value} {w w' : World} {f : Fld} {v' : Value} (h : TabS B tB t n H mB (.slice (some ⟨g, 0, none⟩) (k + 1) cap) fvs w) (hk : t.list.length = k + 1)
    (hr : w'.ownsRow H 55 4 v' (t.list[k]!.flds ++ [f]).length (fldL (t.list[k]!.flds ++ [f]))) (hg : w.grownBy w' fvs[k]!.ownBlock)
    (hf : withinZ f.kind 1 6 = true) (ho : FldOk f) (h16 : t.list[k]!.flds.length < 16) (hp : f.kind = 2 → 1 ≤ f.n ∧ f.n ≤ 3) :
    TabS B tB { t with list := t.list.dropLast ++ [⟨t.list[k]!.id, t.list[k]!.flds ++ [f]⟩] } n H mB (.slice (some ⟨g, 0, none⟩) (k + 1) cap) (fvs.set k v') (w'.setCell ⟨g, k * 2 + 1, none⟩ v') := by
  have hnew := h.new k (by omega)
  have hlen := h.fl
  have hgb : g < w.heap.size ∧ B ≤ g ∧ ∃ cur, w.heap[g]? = some (.cells cur 34 (0, 0)) := own_block h.row rfl
  have hgH : g < H := h.lH g rfl
  have hlt : ∀ b, b < H → some b ≠ fvs[k]!.ownBlock := fun b hb e => by have := (own_block hnew e.symm).2.1; omega
  have hkeep : ∀ b, b < H → w'.heap[b]? = w.heap[b]? := fun b hb => hg.block b (Nat.lt_of_lt_of_le hb h.hH) (hlt b hb)
  have hs : (w'.setCell ⟨g, k * 2 + 1, none⟩ v').heap.size = w'.heap.size := by simp [World.setCell]
  have hsz := hg.size
  have hneT : tB ≠ g := fun e => by
    obtain ⟨_, _, cur, h2⟩ := hgb
    rw [← e, show w.heap[tB]? = _ from h.blk] at h2
    injection h2 with h2
    injection h2 with _ h2
    exact absurd h2 (by decide)
  have hneM : mB ≠ g := fun e => by
    obtain ⟨_, _, cur, h2⟩ := hgb
    obtain ⟨D, ⟨es, clock, h3, _⟩, _⟩ := h.map
    rw [← e, h3] at h2
    cases h2
  have hrow : w'.ownsRow B 34 2 (.slice (some ⟨g, 0, none⟩) (k + 1) cap) (k + 1) (fmtC t.list fvs) := by
    have := h.row
    rw [hk] at this
    exact own_apart this hnew (by decide) hg
  have hgA : ∃ cur, w'.heap[g]? = some (.cells cur 34 (0, 0)) := by
    obtain ⟨_, _, cur, h2⟩ := hgb
    exact ⟨cur, (hkeep g hgH).trans h2⟩
  have hset : ∀ {B' n' : Nat} {v : Value} {xs : List Value}, w'.ownsRow B' 55 4 v n' xs → (w'.setCell ⟨g, k * 2 + 1, none⟩ v').ownsRow B' 55 4 v n' xs := fun {B' n' v xs} hv => by
    refine ownsRow_setCell_other hv (fun e1 => ?_) _
    obtain ⟨_, _, cur, h2⟩ := own_block hv e1
    obtain ⟨cur', h3⟩ := hgA
    rw [h3] at h2
    injection h2 with h2
    injection h2 with _ h2
    exact absurd h2 (by decide)
  refine ⟨(heap_setCell_other _ _ _ _ (by simpa using hneT)).trans ((hkeep tB h.tH).trans h.blk), h.bt, h.bm, (h.map.of_block (hkeep mB h.mH)).of_block (heap_setCell_other _ _ _ _ (by simpa using hneM)), by simp; omega, ?_, by rw [hs]; have := h.hH; omega, h.tH, h.mH, h.lH, fun i hi => ?_, fun i hi => ?_, fun x hx => ?_, by have := h.len; simp; omega, h.num⟩
  · have := own_setAt (i := k * 2 + 1) (u := v') hrow (by omega)
    rw [← fmtC_set t.list fvs k ⟨t.list[k]!.id, t.list[k]!.flds ++ [f]⟩ v' hlen hk rfl] at this
    simpa [hk] using this
  · have hi' : i < k := by simp at hi; omega
    dsimp only
    rw [dropLast_at hk hi', set_at (by omega) (by omega)]
    obtain ⟨o1, o2⟩ := h.old i (by omega)
    refine ⟨hset (o1.kept hg ?_), o2⟩
    rcases o1.2 with ⟨e1, _⟩ | ⟨g', c', cur', e1, _⟩
    · exact .inl (by rw [e1]; rfl)
    · refine .inr fun e2 => ?_
      have hb := o2 g' (by rw [e1]; rfl)
      rw [e1] at e2
      exact hlt g' hb e2
  · have hi' : i = k := by simp at hi; omega
    subst hi'
    dsimp only
    rw [dropLast_last hk, set_last (by omega)]
    exact hset hr
  · rcases List.mem_append.1 hx with hx | hx
    · exact h.ok x ((List.dropLast_sublist _).subset hx)
    · obtain rfl : x = ⟨t.list[k]!.id, t.list[k]!.flds ++ [f]⟩ := by simpa using hx
      have hl := h.ok t.list[k]! (by rw [getElem!_pos t.list k (by omega)]; exact List.getElem_mem (by omega))
      refine ⟨hl.id, fun y hy => ?_, fun y hy => ?_, by show (t.list[k]!.flds ++ [f]).length ≤ 16; rw [List.length_append, List.length_singleton]; omega⟩
      · rcases List.mem_append.1 hy with hy | hy
        · exact hl.all y hy
        · obtain rfl : y = f := by simpa using hy
          exact ⟨hf, ho⟩
      · rcases List.mem_append.1 hy with hy | hy
        · exact hl.prev y hy
        · obtain rfl : y = f := by simpa using hy
          exact hp
end Go.Proofs.YtcpfmlaipejfpaaGreatDoor
namespace Go.Proofs.YtcpfmlaipejfpaaGreatDoor
open Go.RowKit Go.Maps Go.Shelf

attribute [local go_sem] Oper.semAt_some

theorem num_fits {m : Int → Option Int} {prev : List Fld} {f : Fld} (h : fitsF m prev f = true) : f.kind = 2 → 1 ≤ f.n ∧ f.n ≤ 3 := fun hk => by
  simp [fitsF, hk] at h
  exact withinZ_iff.1 h.2
/-- The last format's length, by the program. -/
theorem TabS.length {B tB n H mB : Nat} {t : Tab} {lv : Value} {fvs : List Value} {w : World} (h : TabS B tB t n H mB lv fvs w) {k : Nat} (hk : t.list.length = k + 1) :
    Calls Tryz.prog 84 #[.pointer (some ⟨tB, 0, none⟩)] w fun e w' => e = .returned (.int .i64 (lenF t.m t.list[k]!.flds)) ∧ Below w.heap.size w w' := by
  have c0 := h.blk.cell (j := 0) rfl
  have hk60 := h.len
  obtain ⟨g, cap, rfl, hgB, hgc, hgm, hgH, x0, x1, hfr, hF, hok⟩ := h.last hk
  exact length_any tB g 0 cap k t.m fvs[k]! t.list[k]!.flds w c0 (by omega) (by simpa using x1) (Nat.lt_of_lt_of_le hgH h.hH) h.tabM hF (by have := hok.len; omega) hok.all
/-- An append whose run is known, as one step of a region that draws. -/
theorem step_append_known {P : Program} {ops : Array Oper} {o : Oper} {a : Act} {w : World} {K : Act → World → Prop} {Q : Exit → Act → World → Prop} {E : Prop} (hgd : o.guard = none) (d s : Operand) (t t' : TypeId)
    (ho : o.op = .call { callee := .builtin .append, args := #[d, s], argTypes := #[t, t'] }) (v u : Value) (hd : a.eval d = v) (hs : a.eval s = u) {v' : Value} {w' : World}
    (hr : (Builtin.append_ #[t, t'] o.type #[v, u]).run P w = .ok v' w') (h : K (a.put o.dst v') w') : if Region.wanted o (yielded ops a.tmps) = true then Oper.wp P o a w K Q else E := by
  have hw : Region.wanted o (yielded ops a.tmps) = true := by simp [Region.wanted, hgd]
  rw [if_pos hw]
  unfold Oper.wp execOp
  simp only [ho, resolve, invoke, builtin, Sem.run_bind, Sem.run_pure, Result.andThen_ok, List.map_toArray, List.map_cons, List.map_nil, hd, hs, hr]
  exact h
set_option maxRecDepth 100000 in
set_option maxHeartbeats 20000000 in
theorem add_any {B tB n H mB : Nat} {t : Tab} {lv : Value} {fvs : List Value} {w : World} (h : TabS B tB t n H mB lv fvs w) (f : Fld) (ho : FldOk f) :
    Calls Tryz.prog 54 #[.pointer (some ⟨tB, 0, none⟩), fldV f] w fun e w' => Below B w w' ∧ ((∃ t' fvs', t.addT f = some t' ∧ e = .returned (.tuple #[]) ∧ TabS B tB t' n H mB lv fvs' w' ∧ KeepFar tB mB lv fvs lv fvs' w w') ∨ (t.addT f = none ∧ e = errE ∧ FarStay tB mB lv fvs w w')) := by
  have hbx : Below w.heap.size w (w.alloc (.cells (fldC f).toArray 55)) := (Below.refl _ _).alloc (Nat.le_refl _) _
  have hbxx := Lib.hid hbx
  have hA : Arr (w.alloc (.cells (fldC f).toArray 55)) w.heap.size 55 (fldC f) := Arr.new rfl rfl
  have h1 := h.below hbx
  have hB0 : B ≤ w.heap.size := Nat.le_trans h.bt (Nat.le_of_lt h.blk.lt)
  have hwi := fun W => Lib.hid (within_any f.kind 1 6 W)
  have hmt := must_true
  have hmf := must_false
  have hBx : Below B w (w.alloc (.cells (fldC f).toArray 55)) := (Below.refl _ _).alloc hB0 _
  have c0 := h1.blk.cell (j := 0) rfl
  have xs0 := hA.cell (j := 0) rfl
  have xs1 := hA.cell (j := 1) rfl
  have xs2 := hA.cell (j := 2) rfl
  have xs3 := hA.cell (j := 3) rfl
  cases hL : t.list.length with
  | zero =>
    have hr : Hid (t.addT f = none) := by
      show _ = _
      rw [Tab.addT, List.eq_nil_of_length_eq_zero hL]
      rfl
    obtain ⟨a, cap, rfl⟩ := own_val h.row
    rw [hL] at c0
    replace hL := Lib.hid hL
    replace hBx := Lib.hid hBx
    obtain ⟨kd, nn, fr, tx⟩ := f
    unfold fldV fldC at *
    clear h1 h
    go_enter Tryz.func54, Tryz.ntmps54
    go_wp2_with fail
    refine (hmf _).mono ?_
    rintro e w2 ⟨rfl, hw2⟩
    subst w2
    dsimp only [errE, errV]
    go_wp2_with fail
    exact ⟨rfl, hBx.out, .inr ⟨hr.out, rfl, FarStay.of_below hbxx.out⟩⟩
  | succ k =>
    have hneX : Hid (some w.heap.size ≠ fvs[k]!.ownBlock) := fun e => by
      have := (own_block (h.new k (by omega)) e.symm).1
      omega
    have hH0 := h.hH
    obtain ⟨g, cap, rfl, hgB, hgc, hgm, hgH, x0, x1, hfr, hF, hok⟩ := h1.last hL
    have hneG : Hid (some g ≠ fvs[k]!.ownBlock) := fun e => by
      have := (own_block (h.new k (by omega)) e.symm).2.1
      omega
    have hneB : Hid (g ≠ w.heap.size) := fun e => by omega
    have hB8 : Hid (B ≤ w.heap.size) := hB0
    have hBfin : Hid (∀ (Y Y' : World) v, Below B w Y → Y.grownBy Y' fvs[k]!.ownBlock → Below B w (Y'.setCell ⟨g, k * 2 + 1, none⟩ v)) := fun Y Y' v h1 h2 =>
      (h1.grown h2 (Nat.le_trans hB0 (by have := h1.size; omega)) (fun j e => Nat.le_trans (by omega) (own_block (h.new k (by omega)) e).2.1)).setCell (p := ⟨g, k * 2 + 1, none⟩) hgB v
    clear hH0
    have hlast := last_of hL
    have hdef : Hid (t.addT f = if withinZ f.kind 1 6 && decide (t.list[k]!.flds.length < 16) && fitsF t.m t.list[k]!.flds f && decide (lenF t.m (t.list[k]!.flds ++ [f]) ≤ 65536) then some { t with list := t.list.dropLast ++ [⟨t.list[k]!.id, t.list[k]!.flds ++ [f]⟩] } else none) := by
      show _ = _
      rw [Tab.addT, hlast]
    have hk60 := h.len
    have hwk : IntKind.i64.wrap ((k : Int) + 1 - 1) = (k : Int) := by rw [show (k : Int) + 1 - 1 = (k : Int) by omega]; exact IntWalk.i64_in _ (by omega)
    have hwk2 : IntKind.i64.wrap (k : Int) = (k : Int) := IntWalk.i64_in _ (by omega)
    have k0 : (0 : Int) ≤ (k : Int) := by omega
    have k1 : (k : Int) < (k : Int) + 1 := by omega
    cases hw : withinZ f.kind 1 6 with
    | false =>
      have hr : Hid (t.addT f = none) := by show _ = _; rw [hdef.out, hw]; rfl
      replace hBx := Lib.hid hBx
      replace hL := Lib.hid hL
      replace hlast := Lib.hid hlast
      obtain ⟨kd, nn, fr, tx⟩ := f
      unfold fldV fldC at *
      dsimp only at hwi hw
      clear h1 h hdef hok hF
      go_enter Tryz.func54, Tryz.ntmps54
      go_wp2_with fail
      refine (hwi _).out.mono ?_
      rintro e w2 ⟨rfl, hw2⟩
      subst w2
      rw [hw]
      go_wp2_with fail
      refine (hmf _).mono ?_
      rintro e w2 ⟨rfl, hw2⟩
      subst w2
      dsimp only [errE, errV]
      go_wp2_with fail
      exact ⟨rfl, hBx.out, .inr ⟨hr.out, rfl, FarStay.of_below hbxx.out⟩⟩
    | true =>
      replace hBx := Lib.hid hBx
      replace hL := Lib.hid hL
      replace hlast := Lib.hid hlast
      obtain ⟨kd, nn, fr, tx⟩ := f
      unfold fldV fldC at *
      dsimp only at hwi hw
      replace hdef := Lib.hid hdef
      replace h1 := Lib.hid h1
      replace h := Lib.hid h
      replace hok := Lib.hid hok
      go_enter Tryz.func54, Tryz.ntmps54
      go_wp2_with fail
      refine (hwi _).out.mono ?_
      rintro e w2 ⟨rfl, hw2⟩
      subst w2
      rw [hw]
      go_wp2_with fail
      refine (hmt _).mono ?_
      rintro e w2 ⟨rfl, hw2⟩
      subst w2
      go_wp2_with fail
      go_quiet (fail)
      obtain ⟨W, hW⟩ : ∃ W, W = (w.alloc (.cells #[.int .i64 kd, .int .i64 nn, .int .i64 fr, .string (str tx)] 55)).drewN nq := ⟨_, rfl⟩
      rw [← hW]
      have hTW : Hid (TabS B tB t n H mB (.slice (some ⟨g, 0, none⟩) (k + 1) cap) fvs W) := by rw [hW]; exact h1.out.drwN nq
      have hKW : Hid (Below w.heap.size w W) := by rw [hW]; exact below_drewN hbx nq
      have hBW : Hid (Below B w W) := by rw [hW]; exact below_drewN hBx.out nq
      have hAW : Arr W w.heap.size 55 [.int .i64 kd, .int .i64 nn, .int .i64 fr, .string (str tx)] := by rw [hW]; exact hA.drewN nq
      have hFW : FldsAt W W.heap.size fvs[k]! t.list[k]!.flds := by rw [hW]; exact hF
      have xW : W.cell? ⟨g, k * 2 + 1, none⟩ = some fvs[k]! := by rw [hW]; exact x1
      have gW : g < W.heap.size := by rw [hW]; exact Nat.lt_of_lt_of_le hgH h1.out.hH
      clear hW hA hbx x0 x1 hF h1 h hBx c0 xs0 xs1 xs2 xs3 hfr
      have hFW0 := hFW
      obtain ⟨fa, fcap, hfv, hfc, hfm, _⟩ := hFW
      rw [hfv] at xW
      have s0 := hAW.cell (j := 0) rfl
      have s1 := hAW.cell (j := 1) rfl
      have s2 := hAW.cell (j := 2) rfl
      have s3 := hAW.cell (j := 3) rfl
      have a3 := hAW.lt
      have hl16 := hok.out.len
      generalize hfl : t.list[k]!.flds = fl at *
      replace hfl := Lib.hid hfl
      by_cases h16 : fl.length < 16
      · have hd16 : decide ((fl.length : Int) < 16) = true := by simp; omega
        go_wp2_with fail
        refine wp_region_held_drew (S := fun w' => w'.cell? ⟨g, k * 2 + 1, none⟩ = some (.slice fa fl.length fcap) ∧ w'.cell? ⟨w.heap.size, 0, none⟩ = some (.int .i64 kd) ∧ w'.cell? ⟨w.heap.size, 1, none⟩ = some (.int .i64 nn) ∧ w'.cell? ⟨w.heap.size, 2, none⟩ = some (.int .i64 fr) ∧ w'.cell? ⟨w.heap.size, 3, none⟩ = some (.string (str tx))) (by kernel_rfl) (by exact ⟨xW, s0, s1, s2, s3⟩) (fun hHeld => ?_)
        refine take_l (i := 0) (v := ?_) rfl (by kernel_rfl) (by kernel_rfl) (by kernel_rfl) (fun _ _ _ h => h) (Or.inl ⟨by kernel_rfl, ?_⟩) (by assumption) ?_
        rotate_left
        · intro w hSw; (try dsimp only at hSw); go_simp; (try with_reducible rfl)
        (try simp only [Act.put, List.setIfInBounds_toArray, List.set_cons_zero, List.set_cons_succ])
        refine take_l (i := 1) (v := ?_) rfl (by kernel_rfl) (by kernel_rfl) (by kernel_rfl) (fun _ _ _ h => h) (Or.inl ⟨by kernel_rfl, ?_⟩) (by assumption) ?_
        rotate_left
        · intro w hSw; (try dsimp only at hSw); go_simp; (try with_reducible rfl)
        (try simp only [Act.put, List.setIfInBounds_toArray, List.set_cons_zero, List.set_cons_succ])
        refine take_l (i := 2) (v := ?_) rfl (by kernel_rfl) (by kernel_rfl) (by kernel_rfl) (fun _ _ _ h => h) (Or.inl ⟨by kernel_rfl, ?_⟩) (by assumption) ?_
        rotate_left
        · intro w hSw; (try dsimp only at hSw); go_simp; (try with_reducible rfl)
        (try simp only [Act.put, List.setIfInBounds_toArray, List.set_cons_zero, List.set_cons_succ])
        refine take_l (i := 3) (v := ?_) rfl (by kernel_rfl) (by kernel_rfl) (by kernel_rfl) (fun _ _ _ h => h) (Or.inl ⟨by kernel_rfl, ?_⟩) (by assumption) ?_
        rotate_left
        · intro w hSw; (try dsimp only at hSw); go_simp; (try with_reducible rfl)
        (try simp only [Act.put, List.setIfInBounds_toArray, List.set_cons_zero, List.set_cons_succ])
        refine take_l (i := 4) (v := ?_) rfl (by kernel_rfl) (by kernel_rfl) (by kernel_rfl) (fun _ _ _ h => h) (Or.inl ⟨by kernel_rfl, ?_⟩) (by assumption) ?_
        rotate_left
        · intro w hSw; (try dsimp only at hSw); go_simp; (try with_reducible rfl)
        (try simp only [Act.put, List.setIfInBounds_toArray, List.set_cons_zero, List.set_cons_succ])
        refine take_l (i := 5) (v := ?_) rfl (by kernel_rfl) (by kernel_rfl) (by kernel_rfl) (fun _ _ _ h => h) (Or.inl ⟨by kernel_rfl, ?_⟩) (by assumption) ?_
        rotate_left
        · intro w hSw; (try dsimp only at hSw); go_simp; (try with_reducible rfl)
        (try simp only [Act.put, List.setIfInBounds_toArray, List.set_cons_zero, List.set_cons_succ])
        refine take_l (i := 6) (v := ?_) rfl (by kernel_rfl) (by kernel_rfl) (by kernel_rfl) (fun _ _ _ h => h) (Or.inl ⟨by kernel_rfl, ?_⟩) (by assumption) ?_
        rotate_left
        · intro w hSw; (try dsimp only at hSw); go_simp; (try with_reducible rfl)
        (try simp only [Act.put, List.setIfInBounds_toArray, List.set_cons_zero, List.set_cons_succ])
        refine take_l (i := 8) (v := ?_) rfl (by kernel_rfl) (by kernel_rfl) (by kernel_rfl) (fun _ _ _ h => h) (Or.inl ⟨by kernel_rfl, ?_⟩) (by assumption) ?_
        rotate_left
        · intro w hSw; (try dsimp only at hSw); go_simp; (try with_reducible rfl)
        (try simp only [Act.put, List.setIfInBounds_toArray, List.set_cons_zero, List.set_cons_succ])
        refine take_l (i := 9) (v := ?_) rfl (by kernel_rfl) (by kernel_rfl) (by kernel_rfl) (fun _ _ _ h => h) (Or.inl ⟨by kernel_rfl, ?_⟩) (by assumption) ?_
        rotate_left
        · intro w hSw; (try dsimp only at hSw); go_simp; (try with_reducible rfl)
        (try simp only [Act.put, List.setIfInBounds_toArray, List.set_cons_zero, List.set_cons_succ])
        refine take_l (i := 12) (v := ?_) rfl (by kernel_rfl) (by kernel_rfl) (by kernel_rfl) (fun _ _ _ h => h) (Or.inl ⟨by kernel_rfl, ?_⟩) (by assumption) ?_
        rotate_left
        · intro w hSw; (try dsimp only at hSw); go_simp; (try with_reducible rfl)
        (try simp only [Act.put, List.setIfInBounds_toArray, List.set_cons_zero, List.set_cons_succ])
        refine take_l (i := 13) (v := ?_) rfl (by kernel_rfl) (by kernel_rfl) (by kernel_rfl) (fun _ _ _ h => h) (Or.inl ⟨by kernel_rfl, ?_⟩) (by assumption) ?_
        rotate_left
        · intro w hSw; (try dsimp only at hSw); go_simp; (try with_reducible rfl)
        (try simp only [Act.put, List.setIfInBounds_toArray, List.set_cons_zero, List.set_cons_succ])
        refine take_l (i := 14) (v := ?_) rfl (by kernel_rfl) (by kernel_rfl) (by kernel_rfl) (fun _ _ _ h => h) (Or.inl ⟨by kernel_rfl, ?_⟩) (by assumption) ?_
        rotate_left
        · intro w hSw; (try dsimp only at hSw); go_simp; (try with_reducible rfl)
        (try simp only [Act.put, List.setIfInBounds_toArray, List.set_cons_zero, List.set_cons_succ])
        refine take_l (i := 15) (v := ?_) rfl (by kernel_rfl) (by kernel_rfl) (by kernel_rfl) (fun _ _ _ h => h) (Or.inl ⟨by kernel_rfl, ?_⟩) (by assumption) ?_
        rotate_left
        · intro w hSw; (try dsimp only at hSw); go_simp; (try with_reducible rfl)
        (try simp only [Act.put, List.setIfInBounds_toArray, List.set_cons_zero, List.set_cons_succ])
        refine take_l (i := 16) (v := ?_) rfl (by kernel_rfl) (by kernel_rfl) (by kernel_rfl) (fun _ _ _ h => h) (Or.inl ⟨by kernel_rfl, ?_⟩) (by assumption) ?_
        rotate_left
        · intro w hSw; (try dsimp only at hSw); go_simp; (try with_reducible rfl)
        (try simp only [Act.put, List.setIfInBounds_toArray, List.set_cons_zero, List.set_cons_succ])
        refine take_l (i := 17) (v := ?_) rfl (by kernel_rfl) (by kernel_rfl) (by kernel_rfl) (fun _ _ _ h => h) (Or.inl ⟨by kernel_rfl, ?_⟩) (by assumption) ?_
        rotate_left
        · intro w hSw; (try dsimp only at hSw); go_simp; (try with_reducible rfl)
        (try simp only [Act.put, List.setIfInBounds_toArray, List.set_cons_zero, List.set_cons_succ])
        refine wpAnyH_ready (rs := [7]) (by kernel_rfl) (by simp) ?_
        refine ready_l rfl (fun K hK => ?_) AllReadyH.nil
        go_simp
        (go_at_call 40; (with_reducible refine ((kinds_any _)).mono ?_); rintro e vA ⟨b1, b2, rfl, _, _, hbvA⟩; have hBvA : Below W.heap.size W vA := Below.trans (by repeat first | with_reducible exact Below.refl _ _ | with_reducible assumption | with_reducible refine below_drewN ?_ _ | with_reducible refine Below.drew ?_ | with_reducible refine Below.setCell ?_ (by first | exact Nat.le_refl _ | (simp; done) | (simp; omega) | omega) _ | with_reducible refine Below.alloc ?_ (by first | exact Nat.le_refl _ | (simp; done) | (simp; omega) | omega) _ | exact Below.refl _ _ | assumption) (hbvA.mono (by first | exact Nat.le_refl _ | assumption | (simp; done) | (simp; omega) | omega)); have hzvA := hbvA.size; )
        refine hK.out _ _ (by exact ⟨(hbvA.cell (p := ⟨_, k * 2 + 1, none⟩) gW).trans xW, (hbvA.cell (p := ⟨_, 0, none⟩) a3).trans s0, (hbvA.cell (p := ⟨_, 1, none⟩) a3).trans s1, (hbvA.cell (p := ⟨_, 2, none⟩) a3).trans s2, (hbvA.cell (p := ⟨_, 3, none⟩) a3).trans s3⟩) (fun hHeld => ?_)
        clear hK K
        (try simp only [Act.put, List.setIfInBounds_toArray, List.set_cons_zero, List.set_cons_succ])
        obtain ⟨fid, hfk, hen, hca⟩ := fits_fn tB t.m fl ⟨kd, nn, fr, tx⟩ b1 b2 hw ho (by omega) (by rw [← hfl.out]; exact hok.out.prev)
        obtain ⟨y, z, hix⟩ := kind_index b1 b2 kd hw hfk
        have hfd := kind_field0 (.func (.func fid) #[] #[]) y z
        have hTA : Hid (TabS B tB t n H mB (.slice (some ⟨g, 0, none⟩) (k + 1) cap) fvs vA) := hTW.out.drw.below hbvA
        have hFA := SliceAt.later (w := W.drew) hFW0 hbvA
        rw [hfv] at hFA
        have hcal := hca vA _ hTA.out.tabM hFA
        have hKA : Hid (Below w.heap.size w vA) := hKW.out.drew.trans (hbvA.mono (by simp only [World.size_drew]; exact hKW.out.size))
        have hBA : Hid (Below B w vA) := hBW.out.drew.trans (hbvA.mono (Nat.le_trans hTW.out.bt (Nat.le_of_lt hTW.out.blk.lt)))
        have gA := Nat.lt_of_lt_of_le gW hbvA.size
        have aA := Nat.lt_of_lt_of_le a3 hbvA.size
        have yW := (hbvA.cell (p := ⟨g, k * 2 + 1, none⟩) gW).trans xW
        have u0 := (hbvA.cell (p := ⟨w.heap.size, 0, none⟩) a3).trans s0
        have u1 := (hbvA.cell (p := ⟨w.heap.size, 1, none⟩) a3).trans s1
        have u2 := (hbvA.cell (p := ⟨w.heap.size, 2, none⟩) a3).trans s2
        have u3 := (hbvA.cell (p := ⟨w.heap.size, 3, none⟩) a3).trans s3
        unfold fldV fldC at hcal
        dsimp only at hcal
        have kk0 := (withinZ_iff.1 hw).1
        have kk6 := (withinZ_iff.1 hw).2
        generalize hfb : fitsF t.m fl ⟨kd, nn, fr, tx⟩ = fb at *
        replace hfb := Lib.hid hfb
        replace hcal := Lib.hid hcal
        replace hFA := Lib.hid hFA
        clear hca hfk
        refine take_l (i := 10) (v := ?_) rfl (by kernel_rfl) (by kernel_rfl) (by kernel_rfl) (fun _ _ _ h => h) (Or.inl ⟨by kernel_rfl, ?_⟩) (by assumption) ?_
        rotate_left
        · intro w hSw; (try dsimp only at hSw); go_simp; (try with_reducible rfl)
        (try simp only [Act.put, List.setIfInBounds_toArray, List.set_cons_zero, List.set_cons_succ])
        refine take_l (i := 11) (v := ?_) rfl (by kernel_rfl) (by kernel_rfl) (by kernel_rfl) (fun _ _ _ h => h) (Or.inl ⟨by kernel_rfl, ?_⟩) (by assumption) ?_
        rotate_left
        · intro w hSw; (try dsimp only at hSw); go_simp; (try with_reducible rfl)
        (try simp only [Act.put, List.setIfInBounds_toArray, List.set_cons_zero, List.set_cons_succ])
        refine wpAnyH_ready (rs := [18]) (by kernel_rfl) (by simp) ?_
        refine ready_l rfl (fun K hK => ?_) AllReadyH.nil
        go_simp
        ((with_reducible refine (hcal.out).mono ?_); rintro e vB ⟨rfl, hbvB⟩; have hBvB : Below W.heap.size W vB := Below.trans (by repeat first | with_reducible exact Below.refl _ _ | with_reducible assumption | with_reducible refine below_drewN ?_ _ | with_reducible refine Below.drew ?_ | with_reducible refine Below.setCell ?_ (by first | exact Nat.le_refl _ | (simp; done) | (simp; omega) | omega) _ | with_reducible refine Below.alloc ?_ (by first | exact Nat.le_refl _ | (simp; done) | (simp; omega) | omega) _ | exact Below.refl _ _ | assumption) (hbvB.mono (by first | exact Nat.le_refl _ | assumption | (simp; done) | (simp; omega) | omega)); have hzvB := hbvB.size; )
        refine hK.out _ _ (by exact ⟨(hbvB.cell (p := ⟨_, k * 2 + 1, none⟩) gA).trans yW, (hbvB.cell (p := ⟨_, 0, none⟩) aA).trans u0, (hbvB.cell (p := ⟨_, 1, none⟩) aA).trans u1, (hbvB.cell (p := ⟨_, 2, none⟩) aA).trans u2, (hbvB.cell (p := ⟨_, 3, none⟩) aA).trans u3⟩) (fun hHeld => ?_)
        clear hK K
        (try simp only [Act.put, List.setIfInBounds_toArray, List.set_cons_zero, List.set_cons_succ])
        refine take_l (i := 19) (v := ?_) rfl (by kernel_rfl) (by kernel_rfl) (by kernel_rfl) (fun _ _ _ h => h) (Or.inl ⟨by kernel_rfl, ?_⟩) (by assumption) ?_
        rotate_left
        · intro w hSw; (try dsimp only at hSw); go_simp; (try with_reducible rfl)
        (try simp only [Act.put, List.setIfInBounds_toArray, List.set_cons_zero, List.set_cons_succ])
        have hTB : Hid (TabS B tB t n H mB (.slice (some ⟨g, 0, none⟩) (k + 1) cap) fvs vB) := hTA.out.below hbvB
        have hKB : Hid (Below w.heap.size w vB) := hKA.out.trans (hbvB.mono hKA.out.size)
        have hBB : Hid (Below B w vB) := hBA.out.trans (hbvB.mono (Nat.le_trans hTA.out.bt (Nat.le_of_lt hTA.out.blk.lt)))
        refine wpAnyH_ready (rs := [20]) (by kernel_rfl) (by simp) ?_
        refine ready_l rfl (fun K hK => ?_) AllReadyH.nil
        go_simp
        go_at_call 81
        cases fb with
        | false =>
          have hr : Hid (t.addT ⟨kd, nn, fr, tx⟩ = none) := by
            show _ = _
            rw [hdef.out.out, hw, show decide (fl.length < 16) = true by simpa using h16]
            rfl
          refine (hmf _).mono ?_
          rintro e w2 ⟨rfl, hw2⟩
          subst w2
          dsimp only [errE, errV]
          exact ⟨rfl, hBB.out, .inr ⟨hr.out, rfl, FarStay.of_below hKB.out⟩⟩
        | true =>
          refine (hmt _).mono ?_
          rintro e w2 ⟨rfl, hw2⟩
          subst w2
          have zW := (hbvB.cell (p := ⟨g, k * 2 + 1, none⟩) gA).trans yW
          have v0 := (hbvB.cell (p := ⟨w.heap.size, 0, none⟩) aA).trans u0
          have v1 := (hbvB.cell (p := ⟨w.heap.size, 1, none⟩) aA).trans u1
          have v2 := (hbvB.cell (p := ⟨w.heap.size, 2, none⟩) aA).trans u2
          have v3 := (hbvB.cell (p := ⟨w.heap.size, 3, none⟩) aA).trans u3
          have gB := Nat.lt_of_lt_of_le gA hbvB.size
          have aB := Nat.lt_of_lt_of_le aA hbvB.size
          refine hK.out _ _ (by exact ⟨zW, v0, v1, v2, v3⟩) (fun hHeld => ?_)
          clear hK K hcal hFA hen hix hfd hTA hBA hTW hBW
          (try simp only [Act.put, List.setIfInBounds_toArray, List.set_cons_zero, List.set_cons_succ])
          refine wpAnyH_done (by kernel_rfl) ?_ _
          go_wp2_with fail
          obtain ⟨X, hX⟩ : ∃ X, X = vB.drew.alloc (.cells #[.int .i64 kd, .int .i64 nn, .int .i64 fr, .string (str tx)] 55) := ⟨_, rfl⟩
          have hbX : Below vB.drew.heap.size vB.drew X := by rw [hX]; exact (Below.refl _ _).alloc (Nat.le_refl _) _
          have hTX := hTB.out.drw.below hbX
          have hAX : Arr X vB.drew.heap.size 55 (fldC ⟨kd, nn, fr, tx⟩) := by rw [hX]; exact Arr.new rfl rfl
          have hnew := hTX.new k hL.out.symm
          obtain ⟨v6, w6, hrun6, hr6, hg6, ho6⟩ := append_fld X H fvs[k]! t.list[k]!.flds ⟨kd, nn, fr, tx⟩ hnew _ hAX (by rw [hfl.out]; omega) hTX.hH
          obtain ⟨fa6, fc6, rfl⟩ : ∃ a c, v6 = .slice a (fl.length + 1) c := by
            obtain ⟨a, c, e⟩ := own_val hr6
            exact ⟨a, c, by rw [e, hfl.out, List.length_append, List.length_singleton]⟩
          have hrun6' := hrun6
          rw [hfv, hX] at hrun6'
          replace hrun6' := Lib.hid hrun6'
          have vz0 := (hbX.cell (p := ⟨w.heap.size, 0, none⟩) aB).trans v0
          have vz1 := (hbX.cell (p := ⟨w.heap.size, 1, none⟩) aB).trans v1
          have vz2 := (hbX.cell (p := ⟨w.heap.size, 2, none⟩) aB).trans v2
          have vz3 := (hbX.cell (p := ⟨w.heap.size, 3, none⟩) aB).trans v3
          have aX := Nat.lt_of_lt_of_le aB hbX.size
          have gX := Nat.lt_of_lt_of_le gB hbX.size
          have wz0 := (hg6.cell_far ⟨w.heap.size, 0, none⟩ aX hneX.out).trans vz0
          have wz1 := (hg6.cell_far ⟨w.heap.size, 1, none⟩ aX hneX.out).trans vz1
          have wz2 := (hg6.cell_far ⟨w.heap.size, 2, none⟩ aX hneX.out).trans vz2
          have wz3 := (hg6.cell_far ⟨w.heap.size, 3, none⟩ aX hneX.out).trans vz3
          have wzg := (hg6.cell_far ⟨g, k * 2 + 1, none⟩ gX hneG.out).trans ((hbX.cell (p := ⟨g, k * 2 + 1, none⟩) gB).trans zW)
          have xz : ∀ j u, w6.cell? ⟨w.heap.size, j, none⟩ = some u → (w6.setCell ⟨g, k * 2 + 1, none⟩ (.slice fa6 (fl.length + 1) fc6)).cell? ⟨w.heap.size, j, none⟩ = some u := fun j u e => (World.cell?_setCell_far _ _ _ _ hneB.out).trans e
          have hadd := hTX.added hL.out hr6 hg6 hw ho (by rw [hfl.out]; exact h16) (num_fits hfb.out)
          replace hadd := Lib.hid hadd
          have hBX : Hid (Below B w (w6.setCell ⟨g, k * 2 + 1, none⟩ (.slice fa6 (fl.length + 1) fc6))) := hBfin.out _ _ _ (hBB.out.drew.trans (hbX.mono (by simp only [World.size_drew]; exact Nat.le_trans hB8.out (Nat.le_of_lt aB)))) hg6
          have hfz : w6.frozen? ⟨g, k * 2 + 1, none⟩ = false := by
            obtain ⟨g', cap', eg, _, _, _, _, _, _, hfrX, _, _⟩ := hTX.last hL.out
            injection eg with eg1
            injection eg1 with eg1
            injection eg1 with eg1
            rw [← eg1] at hfrX
            exact (hg6.frozen_far ⟨g, k * 2 + 1, none⟩ gX hneG.out).trans (hfrX _)
          have hlc : Hid (Calls Tryz.prog 84 #[.pointer (some ⟨tB, 0, none⟩)] (w6.setCell ⟨g, k * 2 + 1, none⟩ (.slice fa6 (fl.length + 1) fc6)) fun e w' => e = .returned (.int .i64 (lenF t.m (fl ++ [⟨kd, nn, fr, tx⟩]))) ∧ Below (w6.setCell ⟨g, k * 2 + 1, none⟩ (.slice fa6 (fl.length + 1) fc6)).heap.size (w6.setCell ⟨g, k * 2 + 1, none⟩ (.slice fa6 (fl.length + 1) fc6)) w') := by
            have := hadd.out.length (k := k) (by simp [hL.out])
            dsimp only at this
            rw [dropLast_last hL.out] at this
            dsimp only at this
            rw [hfl.out] at this
            exact this
          have hkf : Hid (∀ w9, Below (w6.setCell ⟨g, k * 2 + 1, none⟩ (.slice fa6 (fl.length + 1) fc6)).heap.size (w6.setCell ⟨g, k * 2 + 1, none⟩ (.slice fa6 (fl.length + 1) fc6)) w9 → KeepFar tB mB (.slice (some ⟨g, 0, none⟩) (k + 1) cap) fvs (.slice (some ⟨g, 0, none⟩) (k + 1) cap) (fvs.set k (.slice fa6 (fl.length + 1) fc6)) w w9) := fun w9 hb9 b q1 q2 q3 q4 q5 => by
            have hKX : Below w.heap.size w X := hKB.out.drew.trans (hbX.mono (by simp only [World.size_drew]; exact hKB.out.size))
            have hkl : k < fvs.length := by rw [hTX.fl, hL.out]; omega
            have hmk : fvs[k]! ∈ fvs := by rw [getElem!_pos fvs k hkl]; exact List.getElem_mem hkl
            have hbX2 : b < X.heap.size := Nat.lt_of_lt_of_le q1 hKX.size
            have hb6 : b < w6.heap.size := Nat.lt_of_lt_of_le hbX2 hg6.size
            have hng : b ≠ g := fun e => q4 (by rw [e]; rfl)
            refine ⟨(hb9.block b (by simpa [World.setCell] using hb6)).trans ((heap_setCell_other _ _ _ _ hng).trans ((hg6.block b hbX2 (fun e => q5 _ hmk e.symm)).trans (hKX.block b q1))), q4, fun v hv => ?_⟩
            rcases List.mem_or_eq_of_mem_set hv with hv | rfl
            · exact q5 v hv
            · intro e
              rcases ho6 with ho6 | ho6
              · rw [ho6] at e
                exact q5 _ hmk e
              · rw [ho6] at e
                injection e with e
                omega
          subst hX
          refine wp_region_held_drew (S := fun w' => w'.cell? ⟨w.heap.size, 0, none⟩ = some (.int .i64 kd) ∧ w'.cell? ⟨w.heap.size, 1, none⟩ = some (.int .i64 nn) ∧ w'.cell? ⟨w.heap.size, 2, none⟩ = some (.int .i64 fr) ∧ w'.cell? ⟨w.heap.size, 3, none⟩ = some (.string (str tx))) (by kernel_rfl) (by exact ⟨v0, v1, v2, v3⟩) (fun hHeld => ?_)
          refine take_l (i := 0) (v := ?_) rfl (by kernel_rfl) (by kernel_rfl) (by kernel_rfl) (fun _ _ _ h => h) (Or.inl ⟨by kernel_rfl, ?_⟩) (by assumption) ?_
          rotate_left
          · intro w hSw; (try dsimp only at hSw); go_simp; (try with_reducible rfl)
          (try simp only [Act.put, List.setIfInBounds_toArray, List.set_cons_zero, List.set_cons_succ])
          refine take_l (i := 1) (v := ?_) rfl (by kernel_rfl) (by kernel_rfl) (by kernel_rfl) (fun _ _ _ h => h) (Or.inl ⟨by kernel_rfl, ?_⟩) (by assumption) ?_
          rotate_left
          · intro w hSw; (try dsimp only at hSw); go_simp; (try with_reducible rfl)
          (try simp only [Act.put, List.setIfInBounds_toArray, List.set_cons_zero, List.set_cons_succ])
          refine take_l (i := 2) (v := ?_) rfl (by kernel_rfl) (by kernel_rfl) (by kernel_rfl) (fun _ _ _ h => h) (Or.inl ⟨by kernel_rfl, ?_⟩) (by assumption) ?_
          rotate_left
          · intro w hSw; (try dsimp only at hSw); go_simp; (try with_reducible rfl)
          (try simp only [Act.put, List.setIfInBounds_toArray, List.set_cons_zero, List.set_cons_succ])
          refine take_l (i := 3) (v := ?_) rfl (by kernel_rfl) (by kernel_rfl) (by kernel_rfl) (fun _ _ _ h => h) (Or.inl ⟨by kernel_rfl, ?_⟩) (by assumption) ?_
          rotate_left
          · intro w hSw; (try dsimp only at hSw); go_simp; (try with_reducible rfl)
          (try simp only [Act.put, List.setIfInBounds_toArray, List.set_cons_zero, List.set_cons_succ])
          refine take_l (i := 5) (v := ?_) rfl (by kernel_rfl) (by kernel_rfl) (by kernel_rfl) (fun _ _ _ h => h) (Or.inl ⟨by kernel_rfl, ?_⟩) (by assumption) ?_
          rotate_left
          · intro w hSw; (try dsimp only at hSw); go_simp; (try with_reducible rfl)
          (try simp only [Act.put, List.setIfInBounds_toArray, List.set_cons_zero, List.set_cons_succ])
          refine wpAnyH_ready (rs := [4, 6]) (by kernel_rfl) (by simp) ?_
          refine ready_l rfl (fun K hK => ?_) (ready_l rfl (fun K hK => ?_) AllReadyH.nil)
          · go_simp
            refine hK.out _ _ (by exact ⟨v0, v1, v2, v3⟩) (fun hHeld => ?_)
            clear hK K
            (try simp only [Act.put, List.setIfInBounds_toArray, List.set_cons_zero, List.set_cons_succ])
            refine wpAnyH_ready (rs := [6]) (by kernel_rfl) (by simp) ?_
            refine ready_l rfl (fun K hK => ?_) AllReadyH.nil
            go_simp
            refine hK.out _ _ (by exact ⟨vz0, vz1, vz2, vz3⟩) (fun hHeld => ?_)
            clear hK K
            (try simp only [Act.put, List.setIfInBounds_toArray, List.set_cons_zero, List.set_cons_succ])
            refine wpAnyH_ready (rs := [7]) (by kernel_rfl) (by simp) ?_
            refine ready_l rfl (fun K hK => ?_) AllReadyH.nil
            refine step_append_known rfl _ _ _ _ rfl _ _ rfl rfl hrun6'.out ?_
            (try simp only [Act.put, List.setIfInBounds_toArray, List.set_cons_zero, List.set_cons_succ])
            refine hK.out _ _ (by exact ⟨wz0, wz1, wz2, wz3⟩) (fun hHeld => ?_)
            clear hK K
            (try simp only [Act.put, List.setIfInBounds_toArray, List.set_cons_zero, List.set_cons_succ])
            refine take_l (i := 8) (v := ?_) rfl (by kernel_rfl) (by kernel_rfl) (by kernel_rfl) (fun _ _ _ h => h) (Or.inl ⟨by kernel_rfl, ?_⟩) (by assumption) ?_
            rotate_left
            · intro w hSw; (try dsimp only at hSw); go_simp; (try with_reducible rfl)
            (try simp only [Act.put, List.setIfInBounds_toArray, List.set_cons_zero, List.set_cons_succ])
            refine take_l (i := 9) (v := ?_) rfl (by kernel_rfl) (by kernel_rfl) (by kernel_rfl) (fun _ _ _ h => h) (Or.inl ⟨by kernel_rfl, ?_⟩) (by assumption) ?_
            rotate_left
            · intro w hSw; (try dsimp only at hSw); go_simp; (try with_reducible rfl)
            (try simp only [Act.put, List.setIfInBounds_toArray, List.set_cons_zero, List.set_cons_succ])
            refine wpAnyH_ready (rs := [10]) (by kernel_rfl) (by simp) ?_
            refine ready_l rfl (fun K hK => ?_) AllReadyH.nil
            go_simp
            refine hK.out _ _ (by exact ⟨xz _ _ wz0, xz _ _ wz1, xz _ _ wz2, xz _ _ wz3⟩) (fun hHeld => ?_)
            clear hK K
            (try simp only [Act.put, List.setIfInBounds_toArray, List.set_cons_zero, List.set_cons_succ])
            refine wpAnyH_done (by kernel_rfl) ?_ _
            go_wp2_with fail
            refine hlc.out.mono ?_
            rintro e w9 ⟨rfl, hb9⟩
            have hB9 : Hid (Below B w w9) := hBX.out.trans (hb9.mono (Nat.le_trans hadd.out.bt (Nat.le_of_lt hadd.out.blk.lt)))
            have hT9 := Lib.hid (hadd.out.below hb9)
            go_wp2_with fail
            cases hz : decide (lenF t.m (fl ++ [⟨kd, nn, fr, tx⟩]) ≤ 65536) with
            | false =>
              have hr : Hid (t.addT ⟨kd, nn, fr, tx⟩ = none) := by
                show _ = _
                rw [hdef.out.out, hw, show decide (fl.length < 16) = true by simpa using h16, hz]
                rfl
              refine (hmf _).mono ?_
              rintro e w2 ⟨rfl, hw2⟩
              subst w2
              dsimp only [errE, errV]
              exact ⟨rfl, hB9.out, .inr ⟨hr.out, rfl, (hkf.out _ hb9).stay⟩⟩
            | true =>
              have hr : Hid (t.addT ⟨kd, nn, fr, tx⟩ = some { t with list := t.list.dropLast ++ [⟨t.list[k]!.id, fl ++ [⟨kd, nn, fr, tx⟩]⟩] }) := by
                show _ = _
                rw [hdef.out.out, hw, show decide (fl.length < 16) = true by simpa using h16, hz]
                rfl
              refine (hmt _).mono ?_
              rintro e w2 ⟨rfl, hw2⟩
              subst w2
              rw [hfl.out] at hT9
              go_wp2_with fail
              go_end0
              exact ⟨hB9.out, .inl ⟨_, _, hr.out, rfl, hT9.out, hkf.out _ hb9⟩⟩
          · go_simp
            refine hK.out _ _ (by exact ⟨vz0, vz1, vz2, vz3⟩) (fun hHeld => ?_)
            clear hK K
            (try simp only [Act.put, List.setIfInBounds_toArray, List.set_cons_zero, List.set_cons_succ])
            refine wpAnyH_ready (rs := [4]) (by kernel_rfl) (by simp) ?_
            refine ready_l rfl (fun K hK => ?_) AllReadyH.nil
            go_simp
            refine hK.out _ _ (by exact ⟨vz0, vz1, vz2, vz3⟩) (fun hHeld => ?_)
            clear hK K
            (try simp only [Act.put, List.setIfInBounds_toArray, List.set_cons_zero, List.set_cons_succ])
            refine wpAnyH_ready (rs := [7]) (by kernel_rfl) (by simp) ?_
            refine ready_l rfl (fun K hK => ?_) AllReadyH.nil
            refine step_append_known rfl _ _ _ _ rfl _ _ rfl rfl hrun6'.out ?_
            (try simp only [Act.put, List.setIfInBounds_toArray, List.set_cons_zero, List.set_cons_succ])
            refine hK.out _ _ (by exact ⟨wz0, wz1, wz2, wz3⟩) (fun hHeld => ?_)
            clear hK K
            (try simp only [Act.put, List.setIfInBounds_toArray, List.set_cons_zero, List.set_cons_succ])
            refine take_l (i := 8) (v := ?_) rfl (by kernel_rfl) (by kernel_rfl) (by kernel_rfl) (fun _ _ _ h => h) (Or.inl ⟨by kernel_rfl, ?_⟩) (by assumption) ?_
            rotate_left
            · intro w hSw; (try dsimp only at hSw); go_simp; (try with_reducible rfl)
            (try simp only [Act.put, List.setIfInBounds_toArray, List.set_cons_zero, List.set_cons_succ])
            refine take_l (i := 9) (v := ?_) rfl (by kernel_rfl) (by kernel_rfl) (by kernel_rfl) (fun _ _ _ h => h) (Or.inl ⟨by kernel_rfl, ?_⟩) (by assumption) ?_
            rotate_left
            · intro w hSw; (try dsimp only at hSw); go_simp; (try with_reducible rfl)
            (try simp only [Act.put, List.setIfInBounds_toArray, List.set_cons_zero, List.set_cons_succ])
            refine wpAnyH_ready (rs := [10]) (by kernel_rfl) (by simp) ?_
            refine ready_l rfl (fun K hK => ?_) AllReadyH.nil
            go_simp
            refine hK.out _ _ (by exact ⟨xz _ _ wz0, xz _ _ wz1, xz _ _ wz2, xz _ _ wz3⟩) (fun hHeld => ?_)
            clear hK K
            (try simp only [Act.put, List.setIfInBounds_toArray, List.set_cons_zero, List.set_cons_succ])
            refine wpAnyH_done (by kernel_rfl) ?_ _
            go_wp2_with fail
            refine hlc.out.mono ?_
            rintro e w9 ⟨rfl, hb9⟩
            have hB9 : Hid (Below B w w9) := hBX.out.trans (hb9.mono (Nat.le_trans hadd.out.bt (Nat.le_of_lt hadd.out.blk.lt)))
            have hT9 := Lib.hid (hadd.out.below hb9)
            go_wp2_with fail
            cases hz : decide (lenF t.m (fl ++ [⟨kd, nn, fr, tx⟩]) ≤ 65536) with
            | false =>
              have hr : Hid (t.addT ⟨kd, nn, fr, tx⟩ = none) := by
                show _ = _
                rw [hdef.out.out, hw, show decide (fl.length < 16) = true by simpa using h16, hz]
                rfl
              refine (hmf _).mono ?_
              rintro e w2 ⟨rfl, hw2⟩
              subst w2
              dsimp only [errE, errV]
              exact ⟨rfl, hB9.out, .inr ⟨hr.out, rfl, (hkf.out _ hb9).stay⟩⟩
            | true =>
              have hr : Hid (t.addT ⟨kd, nn, fr, tx⟩ = some { t with list := t.list.dropLast ++ [⟨t.list[k]!.id, fl ++ [⟨kd, nn, fr, tx⟩]⟩] }) := by
                show _ = _
                rw [hdef.out.out, hw, show decide (fl.length < 16) = true by simpa using h16, hz]
                rfl
              refine (hmt _).mono ?_
              rintro e w2 ⟨rfl, hw2⟩
              subst w2
              rw [hfl.out] at hT9
              go_wp2_with fail
              go_end0
              exact ⟨hB9.out, .inl ⟨_, _, hr.out, rfl, hT9.out, hkf.out _ hb9⟩⟩
      · have hd16 : decide ((fl.length : Int) < 16) = false := by simp; omega
        have hr : Hid (t.addT ⟨kd, nn, fr, tx⟩ = none) := by
          show _ = _
          rw [hdef.out, hw, show decide (fl.length < 16) = false by simpa using h16]
          rfl
        have hfin : Hid (Below B w W.drew) := hBW.out.drew
        go_wp2_with fail
        refine wp_region_held_drew (S := fun w' => w'.cell? ⟨g, k * 2 + 1, none⟩ = some (.slice fa fl.length fcap)) (by kernel_rfl) (by exact xW) (fun hHeld => ?_)
        refine take_l (i := 0) (v := ?_) rfl (by kernel_rfl) (by kernel_rfl) (by kernel_rfl) (fun _ _ _ h => h) (Or.inl ⟨by kernel_rfl, ?_⟩) (by assumption) ?_
        rotate_left
        · intro w hSw; (try dsimp only at hSw); go_simp; (try with_reducible rfl)
        (try simp only [Act.put, List.setIfInBounds_toArray, List.set_cons_zero, List.set_cons_succ])
        refine take_l (i := 1) (v := ?_) rfl (by kernel_rfl) (by kernel_rfl) (by kernel_rfl) (fun _ _ _ h => h) (Or.inl ⟨by kernel_rfl, ?_⟩) (by assumption) ?_
        rotate_left
        · intro w hSw; (try dsimp only at hSw); go_simp; (try with_reducible rfl)
        (try simp only [Act.put, List.setIfInBounds_toArray, List.set_cons_zero, List.set_cons_succ])
        refine take_l (i := 2) (v := ?_) rfl (by kernel_rfl) (by kernel_rfl) (by kernel_rfl) (fun _ _ _ h => h) (Or.inl ⟨by kernel_rfl, ?_⟩) (by assumption) ?_
        rotate_left
        · intro w hSw; (try dsimp only at hSw); go_simp; (try with_reducible rfl)
        (try simp only [Act.put, List.setIfInBounds_toArray, List.set_cons_zero, List.set_cons_succ])
        refine take_l (i := 3) (v := ?_) rfl (by kernel_rfl) (by kernel_rfl) (by kernel_rfl) (fun _ _ _ h => h) (Or.inl ⟨by kernel_rfl, ?_⟩) (by assumption) ?_
        rotate_left
        · intro w hSw; (try dsimp only at hSw); go_simp; (try with_reducible rfl)
        (try simp only [Act.put, List.setIfInBounds_toArray, List.set_cons_zero, List.set_cons_succ])
        refine take_l (i := 4) (v := ?_) rfl (by kernel_rfl) (by kernel_rfl) (by kernel_rfl) (fun _ _ _ h => h) (Or.inl ⟨by kernel_rfl, ?_⟩) (by assumption) ?_
        rotate_left
        · intro w hSw; (try dsimp only at hSw); go_simp; (try with_reducible rfl)
        (try simp only [Act.put, List.setIfInBounds_toArray, List.set_cons_zero, List.set_cons_succ])
        refine take_l (i := 5) (v := ?_) rfl (by kernel_rfl) (by kernel_rfl) (by kernel_rfl) (fun _ _ _ h => h) (Or.inl ⟨by kernel_rfl, ?_⟩) (by assumption) ?_
        rotate_left
        · intro w hSw; (try dsimp only at hSw); go_simp; (try with_reducible rfl)
        (try simp only [Act.put, List.setIfInBounds_toArray, List.set_cons_zero, List.set_cons_succ])
        refine take_l (i := 6) (v := ?_) rfl (by kernel_rfl) (by kernel_rfl) (by kernel_rfl) (fun _ _ _ h => h) (Or.inl ⟨by kernel_rfl, ?_⟩) (by assumption) ?_
        rotate_left
        · intro w hSw; (try dsimp only at hSw); go_simp; (try with_reducible rfl)
        (try simp only [Act.put, List.setIfInBounds_toArray, List.set_cons_zero, List.set_cons_succ])
        refine take_l (i := 7) (v := undef) rfl (by kernel_rfl) (by kernel_rfl) (by kernel_rfl) (fun _ _ _ h => h) (Or.inr ⟨by kernel_rfl, rfl⟩) (by assumption) ?_
        (try simp only [Act.put, List.setIfInBounds_toArray, List.set_cons_zero, List.set_cons_succ])
        refine take_l (i := 8) (v := undef) rfl (by kernel_rfl) (by kernel_rfl) (by kernel_rfl) (fun _ _ _ h => h) (Or.inr ⟨by kernel_rfl, rfl⟩) (by assumption) ?_
        (try simp only [Act.put, List.setIfInBounds_toArray, List.set_cons_zero, List.set_cons_succ])
        refine take_l (i := 9) (v := undef) rfl (by kernel_rfl) (by kernel_rfl) (by kernel_rfl) (fun _ _ _ h => h) (Or.inr ⟨by kernel_rfl, rfl⟩) (by assumption) ?_
        (try simp only [Act.put, List.setIfInBounds_toArray, List.set_cons_zero, List.set_cons_succ])
        refine take_l (i := 10) (v := undef) rfl (by kernel_rfl) (by kernel_rfl) (by kernel_rfl) (fun _ _ _ h => h) (Or.inr ⟨by kernel_rfl, rfl⟩) (by assumption) ?_
        (try simp only [Act.put, List.setIfInBounds_toArray, List.set_cons_zero, List.set_cons_succ])
        refine take_l (i := 11) (v := undef) rfl (by kernel_rfl) (by kernel_rfl) (by kernel_rfl) (fun _ _ _ h => h) (Or.inr ⟨by kernel_rfl, rfl⟩) (by assumption) ?_
        (try simp only [Act.put, List.setIfInBounds_toArray, List.set_cons_zero, List.set_cons_succ])
        refine take_l (i := 12) (v := undef) rfl (by kernel_rfl) (by kernel_rfl) (by kernel_rfl) (fun _ _ _ h => h) (Or.inr ⟨by kernel_rfl, rfl⟩) (by assumption) ?_
        (try simp only [Act.put, List.setIfInBounds_toArray, List.set_cons_zero, List.set_cons_succ])
        refine take_l (i := 13) (v := undef) rfl (by kernel_rfl) (by kernel_rfl) (by kernel_rfl) (fun _ _ _ h => h) (Or.inr ⟨by kernel_rfl, rfl⟩) (by assumption) ?_
        (try simp only [Act.put, List.setIfInBounds_toArray, List.set_cons_zero, List.set_cons_succ])
        refine take_l (i := 14) (v := undef) rfl (by kernel_rfl) (by kernel_rfl) (by kernel_rfl) (fun _ _ _ h => h) (Or.inr ⟨by kernel_rfl, rfl⟩) (by assumption) ?_
        (try simp only [Act.put, List.setIfInBounds_toArray, List.set_cons_zero, List.set_cons_succ])
        refine take_l (i := 15) (v := undef) rfl (by kernel_rfl) (by kernel_rfl) (by kernel_rfl) (fun _ _ _ h => h) (Or.inr ⟨by kernel_rfl, rfl⟩) (by assumption) ?_
        (try simp only [Act.put, List.setIfInBounds_toArray, List.set_cons_zero, List.set_cons_succ])
        refine take_l (i := 16) (v := undef) rfl (by kernel_rfl) (by kernel_rfl) (by kernel_rfl) (fun _ _ _ h => h) (Or.inr ⟨by kernel_rfl, rfl⟩) (by assumption) ?_
        (try simp only [Act.put, List.setIfInBounds_toArray, List.set_cons_zero, List.set_cons_succ])
        refine take_l (i := 17) (v := undef) rfl (by kernel_rfl) (by kernel_rfl) (by kernel_rfl) (fun _ _ _ h => h) (Or.inr ⟨by kernel_rfl, rfl⟩) (by assumption) ?_
        (try simp only [Act.put, List.setIfInBounds_toArray, List.set_cons_zero, List.set_cons_succ])
        refine take_l (i := 18) (v := undef) rfl (by kernel_rfl) (by kernel_rfl) (by kernel_rfl) (fun _ _ _ h => h) (Or.inr ⟨by kernel_rfl, rfl⟩) (by assumption) ?_
        (try simp only [Act.put, List.setIfInBounds_toArray, List.set_cons_zero, List.set_cons_succ])
        refine take_l (i := 19) (v := ?_) rfl (by kernel_rfl) (by kernel_rfl) (by kernel_rfl) (fun _ _ _ h => h) (Or.inl ⟨by kernel_rfl, ?_⟩) (by assumption) ?_
        rotate_left
        · intro w hSw; (try dsimp only at hSw); go_simp; (try with_reducible rfl)
        (try simp only [Act.put, List.setIfInBounds_toArray, List.set_cons_zero, List.set_cons_succ])
        refine wpAnyH_ready (rs := [20]) (by kernel_rfl) (by simp) ?_
        refine ready_l rfl (fun K hK => ?_) AllReadyH.nil
        go_simp
        go_at_call 81
        refine (hmf _).mono ?_
        rintro e w2 ⟨rfl, hw2⟩
        subst w2
        dsimp only [errE, errV]
        exact ⟨rfl, hfin.out, .inr ⟨hr.out, rfl, FarStay.of_below hKW.out.drew⟩⟩
end Go.Proofs.YtcpfmlaipejfpaaGreatDoor
namespace Go.Proofs.YtcpfmlaipejfpaaGreatDoor
open Go.RowKit Go.Maps Go.Shelf

/-- A post that forgets panics. -/
def onlyNormal (Q : Exit → Act → World → Prop) : Exit → Act → World → Prop
  | .normal, a, w => Q .normal a w
  | _, _, _ => False
theorem wp_norm {P : Program} {c : Code} {Q : Exit → Act → World → Prop} {a : Act} {w : World} (h : c.wp P (onlyNormal Q) a w) : c.wp P Q a w :=
  wp_mono h fun e a w h => by cases e <;> first | exact h | exact h.elim
theorem assert_errno (n : Int) (xT : TypeId) (w : World) : (Instr.typeAssert (.iface 41 (.int .i64 n)) xT 41 true).run Tryz.prog w = .ok (.tuple #[.int .i64 n, .bool true]) w := by
  simp [Instr.typeAssert, run_underlying Tryz.underlying41, go_sem, Result.andThen]
theorem caught_idle (p : Addr) (w : World) :
    CallsD Tryz.prog 52 #[.pointer (some p)] .returning w fun e u' w' => e = .returned (.tuple #[]) ∧ u' = .returning ∧ w' = w := by
  refine callsD_of_wpS Tryz.func52 rfl fun c₀ cs hu => ?_
  apply wpS_seq
  apply wpS_region
  simp [wpOpsS, go_sem, recoverD, hu, Tryz.ntmps52, Exit.thenS]
  rw [show (#[Value.pointer (some p)] ++ (Array.replicate 12 undef).setIfInBounds 4 Value.nilIface : Array Value) = #[.pointer (some p), undef, undef, undef, undef, .nilIface, undef, undef, undef, undef, undef, undef, undef] by kernel_rfl]
  refine wpS_of_wp ?_
  go_wp2
  cases c₀
  simp_all [bodyPostS, results, Tryz.results52]
set_option maxRecDepth 10000 in
theorem caught_error (p : Addr) (b : Bool) (n : Int) (older : List PanicEntry) (w : World) (hc : w.cell? p = some (.bool b)) (hz : w.frozen? p = false) :
    CallsD Tryz.prog 52 #[.pointer (some p)] (.panicking ({ v := .iface 41 (.int .i64 n), recovered := false } :: older)) w fun e u' w' => e = .returned (.tuple #[]) ∧ u' = .panicking ({ v := .iface 41 (.int .i64 n), recovered := true } :: older) ∧ w' = w.setCell p (.bool false) := by
  refine callsD_of_wpS Tryz.func52 rfl fun c₀ cs hu => ?_
  apply wpS_seq
  apply wpS_region
  simp [wpOpsS, go_sem, recoverD, hu, Tryz.ntmps52, Exit.thenS]
  rw [show (#[Value.pointer (some p)] ++ (Array.replicate 12 undef).setIfInBounds 4 (Value.iface 41 (.int .i64 n)) : Array Value) = #[.pointer (some p), undef, undef, undef, undef, .iface 41 (.int .i64 n), undef, undef, undef, undef, undef, undef, undef] by kernel_rfl]
  refine wpS_of_wp ?_
  have hta := assert_errno
  go_wp2
  cases c₀
  simp_all [bodyPostS, results, Tryz.results52]
end Go.Proofs.YtcpfmlaipejfpaaGreatDoor
namespace Go.Proofs.YtcpfmlaipejfpaaGreatDoor
open Go.RowKit Go.Maps Go.Shelf

attribute [local go_sem] Oper.semAt_some

/-- A table of formats in memory, that is only read. -/
def FmtsAt (w : World) (B : Nat) (v : Value) (l : List Fmt) : Prop := ∃ fvs : List Value, fvs.length = l.length ∧ SliceAt w B v l.length (fmtC l fvs) ∧ ∀ i, i < l.length → FldsAt w B fvs[i]! l[i]!.flds
structure FmtIn (l : List Fmt) : Prop where
  len : l.length ≤ 1000000
  id : ∀ f ∈ l, I64 f.id
  flen : ∀ f ∈ l, f.flds.length ≤ 1000000
  ok : ∀ f ∈ l, ∀ x ∈ f.flds, FldOk x
/-- The empty table. -/
theorem TabS.first (w : World) (B : Nat) (hB : B ≤ w.heap.size) : TabS B (w.heap.size + 1) ⟨[], fun _ => none⟩ 0 (w.heap.size + 2) w.heap.size (.slice none 0 0) [] ((w.alloc (.map #[] 0)).alloc (.cells #[.slice none 0 0, .map (some w.heap.size)] 69)) := by
  have hs : (w.alloc (.map #[] 0)).heap.size = w.heap.size + 1 := by simp
  have hA : Arr ((w.alloc (.map #[] 0)).alloc (.cells #[.slice none 0 0, .map (some w.heap.size)] 69)) (w.alloc (.map #[] 0)).heap.size 69 [.slice none 0 0, .map (some w.heap.size)] := Arr.new rfl rfl
  rw [hs] at hA
  have hM : MapIs ((w.alloc (.map #[] 0)).alloc (.cells #[.slice none 0 0, .map (some w.heap.size)] 69)) w.heap.size 0 (fun _ => none) := (MapIs.made w).of_block (Below.heap_alloc _ _ _ (by rw [hs]; omega))
  exact ⟨hA, by omega, hB, hM, rfl, ⟨rfl, .inl ⟨rfl, rfl⟩⟩, by simp, by omega, by omega, fun g hg => (by cases hg), fun i hi => (by cases hi), fun i hi => (by cases hi), fun f hf => (by cases hf), by simp, by omega⟩

theorem built_bind (l : List Fmt) : builtT l = (Tab.takeAll ⟨[], fun _ => none⟩ l).bind Tab.fin := by
  unfold builtT
  cases Tab.takeAll ⟨[], fun _ => none⟩ l <;> rfl
theorem takeAll_step {t : Tab} {l : List Fmt} {i : Nat} (h : i < l.length) : Tab.takeAll t (l.drop i) = (t.beginT l[i]!.id).bind fun t => (t.addAll l[i]!.flds).bind fun t => t.takeAll (l.drop (i + 1)) := by
  rw [List.drop_eq_getElem_cons h, getElem!_pos l i h, Tab.takeAll]
  cases t.beginT l[i].id with
  | none => rfl
  | some t => cases hh : t.addAll l[i].flds <;> simp [hh]
theorem addAll_step {t : Tab} {l : List Fld} {i : Nat} (h : i < l.length) : t.addAll (l.drop i) = (t.addT l[i]!).bind fun t => t.addAll (l.drop (i + 1)) := by
  rw [List.drop_eq_getElem_cons h, getElem!_pos l i h, Tab.addAll]
  cases t.addT l[i] <;> rfl
theorem fin_list {t t' : Tab} (h : t.fin = some t') : t'.list = t.list := by
  unfold Tab.fin at h
  cases hl : t.list.getLast? with
  | none => rw [hl] at h; cases h; rfl
  | some f =>
    rw [hl] at h
    dsimp only at h
    split at h
    · cases h
    · cases h; rfl
theorem begin_len {t t' : Tab} {id : Int} (h : t.beginT id = some t') : t'.list.length = t.list.length + 1 := by
  unfold Tab.beginT at h
  cases hf : t.fin with
  | none => rw [hf] at h; cases h
  | some t1 =>
    rw [hf] at h
    dsimp only at h
    split at h
    · cases h
      simp [fin_list hf]
    · cases h
theorem add_len {t t' : Tab} {f : Fld} (h : t.addT f = some t') : t'.list.length = t.list.length := by
  unfold Tab.addT at h
  cases hl : t.list.getLast? with
  | none => rw [hl] at h; cases h
  | some g =>
    rw [hl] at h
    dsimp only at h
    split at h
    · cases h
      have : t.list ≠ [] := fun e => by rw [e] at hl; cases hl
      have := List.length_pos_iff.2 this
      simp; omega
    · cases h
theorem TabS.far {B tB n H mB : Nat} {t : Tab} {lv : Value} {fvs : List Value} {w : World} (h : TabS B tB t n H mB lv fvs w) {b : Nat} (hb : w.heap.size ≤ b) : b ≠ tB ∧ b ≠ mB ∧ lv.ownBlock ≠ some b ∧ ∀ v ∈ fvs, v.ownBlock ≠ some b := by
  have hH := h.hH
  refine ⟨fun e => by have := h.tH; omega, fun e => by have := h.mH; omega, fun e => by have := (own_block h.row e).1; omega, fun v hv e => ?_⟩
  obtain ⟨i, hi, rfl⟩ := List.getElem_of_mem hv
  have hi' := hi
  rw [h.fl] at hi'
  rw [← getElem!_pos fvs i hi] at e
  by_cases hl : i + 1 = t.list.length
  · have := (own_block (h.new i hl) e).1
    omega
  · have := (h.old i (by omega)).2 b e
    omega
set_option maxRecDepth 100000 in
set_option maxHeartbeats 8000000 in
theorem built_any (v : Value) (l : List Fmt) (w : World) (hv : FmtsAt w w.heap.size v l) (hl : FmtIn l) :
    Calls Tryz.prog 34 #[v] w fun e w' => Below w.heap.size w w' ∧ ∃ tB : Nat, ((∃ t', builtT l = some t' ∧ e = .returned (.tuple #[.pointer (some ⟨tB, 0, none⟩), .bool true]) ∧ TabM w' tB t'.m) ∨ (builtT l = none ∧ e = .returned (.tuple #[.pointer (some ⟨tB, 0, none⟩), .bool false]))) := by
  have hmf : ∀ (fn : Fn) (first cap : Array Value) (w : World), (Instr.makeFunc fn first cap).run Tryz.prog w = .ok (.func fn first cap) w := fun _ _ _ _ => rfl
  have hmm := @run_makeMap Tryz.prog
  obtain ⟨fvs, hfl, ⟨a, cap, rfl, hcp, hcm, hat⟩, hfs⟩ := hv
  have hat' := Lib.hid hat
  have hfs' := Lib.hid hfs
  have hl' := Lib.hid hl
  clear hat hfs hl
  go_enter_defers Tryz.func34, Tryz.ntmps34
  go_wp2_with fail
  obtain ⟨W0, hW0⟩ : ∃ W0, W0 = ((w.alloc (.cells #[.bool true] 4)).alloc (.map #[] 0)).alloc (.cells #[.slice none 0 0, .map (some (w.heap.size + 1))] 69) := ⟨_, rfl⟩
  have hT0 : TabS (w.heap.size + 1) (w.heap.size + 1 + 1) ⟨[], fun _ => none⟩ 0 (w.heap.size + 1 + 2) (w.heap.size + 1) (.slice none 0 0) [] W0 := by
    have := TabS.first (w.alloc (.cells #[.bool true] 4)) (w.heap.size + 1) (by simp)
    simp only [World.size_alloc] at this
    rw [hW0]
    exact this
  have hB0 : Below w.heap.size w W0 := by
    rw [hW0]
    exact (((Below.refl w.heap.size w).alloc (Nat.le_refl _) _).alloc (by simp) _).alloc (by simp only [World.size_alloc]; omega) _
  have hA0 : Arr W0 w.heap.size 4 [.bool true] := by
    have h1 : Arr (w.alloc (.cells #[.bool true] 4)) w.heap.size 4 [.bool true] := Arr.new rfl rfl
    rw [hW0]
    exact h1.below (((Below.refl _ _).alloc (Nat.le_refl _) _).alloc (by simp) _)
  rw [← hW0]
  have hT0' := Lib.hid hT0
  have hB0' := Lib.hid hB0
  have hA0' := Lib.hid hA0
  clear hT0 hB0 hA0 hW0
  go_loopw [13] (fun iv wr => ∃ i : Nat, i ≤ l.length ∧ iv = .int .i64 (i : Int) ∧ Hid (∃ t n H lv fvs', builtT l = (Tab.takeAll t (l.drop i)).bind Tab.fin ∧ n ≤ t.list.length ∧ TabS (w.heap.size + 1) (w.heap.size + 1 + 1) t n H (w.heap.size + 1) lv fvs' wr ∧ Below (w.heap.size + 1) W0 wr)) (fun iv _ => l.length - (intOf iv).toNat)
  case atStart => exact ⟨0, Nat.zero_le _, rfl, (show Hid _ from ⟨_, 0, _, _, _, built_bind l, Nat.zero_le _, hT0'.out, Below.refl _ _⟩)⟩
  case round =>
    obtain ⟨i, hi, rfl, hall⟩ := hrel
    by_cases hlt : i < l.length
    · obtain ⟨t, n, H, lv, gvs, hbd, hn, hT, hBr⟩ := hall.out
      clear hall
      obtain ⟨fb, fo, rfl, hfbl, hcell⟩ := hat'.out (by omega)
      have hL := hl'.out
      have hmem : l[i]! ∈ l := by rw [getElem!_pos l i hlt]; exact List.getElem_mem hlt
      have hid := hL.id _ hmem
      have hfx := hL.ok _ hmem
      have hfn := hL.flen _ hmem
      have hln := hL.len
      have hBT : Below w.heap.size w wr := hB0'.out.trans (hBr.mono (Nat.le_succ _))
      obtain ⟨a1, a2⟩ := fmtC_at l fvs hfl i hlt
      have x0 := (hBT.cell (p := ⟨fb, fo + i * 2, none⟩) hfbl).trans (hcell _ _ a1)
      have x1 : wr.cell? ⟨fb, fo + i * 2 + 1, none⟩ = some fvs[i]! := (hBT.cell (p := ⟨fb, fo + (i * 2 + 1), none⟩) hfbl).trans (hcell _ _ a2)
      have hFw := hfs'.out i hlt
      have hst := takeAll_step (t := t) hlt
      generalize l[i]!.id = id at *
      generalize l[i]!.flds = fl at *
      generalize fvs[i]! = fv at *
      have hw1i : IntKind.i64.wrap ((i : Int) + 1) = ((i + 1 : Nat) : Int) := by rw [Int.natCast_succ]; exact IntWalk.i64_in _ (by omega)
      have i0 : (0 : Int) ≤ (i : Int) := by omega
      have i1 : (i : Int) < (l.length : Int) := by omega
      obtain ⟨W3, hW3⟩ : ∃ W3, W3 = wr.alloc (.cells #[.int .i64 id, fv] 34) := ⟨_, rfl⟩
      have hA3 : Arr W3 wr.heap.size 34 [.int .i64 id, fv] := by rw [hW3]; exact Arr.new rfl rfl
      have hb3 : Below wr.heap.size wr W3 := by rw [hW3]; exact (Below.refl _ _).alloc (Nat.le_refl _) _
      have hT3 := hT.below hb3
      have hbeg := Lib.hid (begin_any hT3 (by have := hT.len; omega) id hid)
      have hW3h := Lib.hid hW3
      clear hcell a1 a2 hL
      replace hst := Lib.hid hst
      replace hbd := Lib.hid hbd
      replace hT := Lib.hid hT
      replace hfx := Lib.hid hfx
      obtain ⟨fa, fcap, rfl, hfc, hfm, hfat⟩ := hFw
      have hfr3 := Lib.hid (hT.out.far (Nat.le_refl _))
      replace hT3 := Lib.hid hT3
      replace hfat := Lib.hid hfat
      clear hW3
      go_wp2_with fail
      rw [← hW3h.out]
      refine hbeg.out.mono ?_
      rintro e w4 ⟨hb4, hcase⟩
      have hB4 : Below (w.heap.size + 1) W0 w4 := (hBr.trans (hb3.mono (Nat.le_trans (Nat.le_of_lt (Nat.lt_of_le_of_lt hT.out.bt hT.out.tH)) hT.out.hH))).trans hb4
      rcases hcase with ⟨t1, n1, H1, lv1, gv1, hf1, rfl, hn1, h1, hkp⟩ | ⟨hf1, rfl, _⟩
      · have hA4 : Arr w4 wr.heap.size 34 [.int .i64 id, .slice fa fl.length fcap] := (hkp wr.heap.size hA3.lt hfr3.out.1 hfr3.out.2.1 hfr3.out.2.2.1 hfr3.out.2.2.2).1.trans hA3
        have f1 := hA4.cell (j := 1) rfl
        have hbd1 : Hid (builtT l = ((t1.addAll (fl.drop 0)).bind fun t => t.takeAll (l.drop (i + 1))).bind Tab.fin) := by
          show _ = _
          rw [hbd.out, hst.out, hf1]
          rfl
        have hn1' : n1 ≤ t1.list.length := by rw [begin_len hf1]; omega
        have h1' := Lib.hid h1
        have hB4' := Lib.hid hB4
        clear hbd hst hf1 hkp h1 hA4 hB4 hb4 hbeg hfr3 hT3 hT hBr hb3 hA3 hBT
        go_wp2_with fail
        go_loopw [24] (fun jv wx => ∃ j : Nat, j ≤ fl.length ∧ jv = .int .i64 (j : Int) ∧ Hid (∃ t n H lv gvs, builtT l = ((t.addAll (fl.drop j)).bind fun t => t.takeAll (l.drop (i + 1))).bind Tab.fin ∧ n ≤ t.list.length ∧ TabS (w.heap.size + 1) (w.heap.size + 1 + 1) t n H (w.heap.size + 1) lv gvs wx ∧ Below (w.heap.size + 1) W0 wx)) (fun jv _ => fl.length - (intOf jv).toNat)
        case atStart => exact ⟨0, Nat.zero_le _, rfl, (show Hid _ from ⟨_, _, _, _, _, hbd1.out, hn1', h1'.out, hB4'.out⟩)⟩
        case round =>
          obtain ⟨j, hj, rfl, hall⟩ := hrel
          obtain ⟨t2, n2, H2, lv2, gv2, hbd2, hn2, hT2, hB2⟩ := hall.out
          clear hall
          by_cases hltj : j < fl.length
          · obtain ⟨xb, xo, rfl, hxb, hxc⟩ := hfat.out (by omega)
            have hBT2 : Below w.heap.size w wr := hB0'.out.trans (hB2.mono (Nat.le_succ _))
            have hcr := fun j u hu => (hBT2.cell (p := ⟨xb, xo + j, none⟩) hxb).trans (hxc j u hu)
            obtain ⟨y0, y1, y2, y3⟩ := fldCells hcr hltj
            have hxo := hfx.out fl[j]! (by rw [getElem!_pos fl j hltj]; exact List.getElem_mem hltj)
            have hst2 := addAll_step (t := t2) hltj
            generalize fl[j]! = x at *
            obtain ⟨kd, nn, fr, tx⟩ := x
            dsimp only at y0 y1 y2 y3
            have hwj : IntKind.i64.wrap ((j : Int) + 1) = ((j + 1 : Nat) : Int) := by rw [Int.natCast_succ]; exact IntWalk.i64_in _ (by omega)
            have j0 : (0 : Int) ≤ (j : Int) := by omega
            have j1 : (j : Int) < (fl.length : Int) := by omega
            obtain ⟨W5, hW5⟩ : ∃ W5, W5 = wr.alloc (.cells #[.int .i64 kd, .int .i64 nn, .int .i64 fr, .string (str tx)] 55) := ⟨_, rfl⟩
            have hb5 : Below wr.heap.size wr W5 := by rw [hW5]; exact (Below.refl _ _).alloc (Nat.le_refl _) _
            have hadd := add_any (hT2.below hb5) ⟨kd, nn, fr, tx⟩ hxo
            unfold fldV fldC at hadd
            dsimp only at hadd
            have hB5 : Hid (Below (w.heap.size + 1) W0 W5) := hB2.trans (hb5.mono (Nat.le_trans (Nat.le_of_lt (Nat.lt_of_le_of_lt hT2.bt hT2.tH)) hT2.hH))
            replace hadd := Lib.hid hadd
            replace hst2 := Lib.hid hst2
            replace hbd2 := Lib.hid hbd2
            replace hT2 := Lib.hid hT2
            replace hW5 := Lib.hid hW5
            clear hcr hBT2 hb5 hB2
            go_wp2_with fail
            rw [← hW5.out]
            refine hadd.out.mono ?_
            rintro e w6 ⟨hb6, hcase⟩
            have hB6 : Below (w.heap.size + 1) W0 w6 := hB5.out.trans hb6
            rcases hcase with ⟨t3, gv3, hf3, rfl, h3, _⟩ | ⟨hf3, rfl, _⟩
            · have hbd3 : Hid (builtT l = ((t3.addAll (fl.drop (j + 1))).bind fun t => t.takeAll (l.drop (i + 1))).bind Tab.fin) := by
                show _ = _
                rw [hbd2.out, hst2.out, hf3]
                rfl
              have hn3 : n2 ≤ t3.list.length := by rw [add_len hf3]; exact hn2
              replace h3 := Lib.hid h3
              replace hB6 := Lib.hid hB6
              clear hbd2 hst2 hf3 hadd hT2 hb6
              go_wp2_with fail
              exact ⟨⟨j + 1, by omega, by first | rfl | go_num, (show Hid _ from ⟨_, _, _, _, _, hbd3.out, hn3, h3.out, hB6.out⟩)⟩, by simp [intOf]; omega⟩
            · have hbn : builtT l = none := by rw [hbd2.out, hst2.out, hf3]; rfl
              dsimp only [errE, errV]
              have hA9 : Arr w6 w.heap.size 4 [.bool true] := (hB6.block w.heap.size (Nat.lt_succ_self _)).trans hA0'.out
              have hc9 : (w6.setCell ⟨w.heap.size, 0, none⟩ (.bool false)).cell? ⟨w.heap.size, 0, none⟩ = some (.bool false) := World.cell?_setCell_same' _ _ _ (by rw [hA9.cell (j := 0) rfl]; rfl)
              have hBe : Below w.heap.size w (w6.setCell ⟨w.heap.size, 0, none⟩ (.bool false)) := (hB0'.out.trans (hB6.mono (Nat.le_succ _))).setCell (p := ⟨w.heap.size, 0, none⟩) (Nat.le_refl _) _
              refine leaves_cons (f := 52) (args := #[.pointer (some ⟨w.heap.size, 0, none⟩)]) (by simp) (by simp [go_sem]) ?_
              refine (caught_error ⟨w.heap.size, 0, none⟩ true 40 [] _ ?_ ?_).mono ?_
              · exact hA9.cell (j := 0) rfl
              · exact hA9.free 0
              rintro e u' w'' ⟨rfl, rfl, rfl⟩
              simp [Leaves, settle, results, Tryz.results34, go_sem]
              rw [hc9]
              exact ⟨_, rfl, hBe, _, .inr ⟨hbn, rfl⟩⟩
          · have hbd3 : Hid (builtT l = (t2.takeAll (l.drop (i + 1))).bind Tab.fin) := by
              show _ = _
              rw [hbd2, List.drop_eq_nil_of_le (by omega)]
              rfl
            replace hbd2 := Lib.hid hbd2
            replace hT2 := Lib.hid hT2
            replace hB2 := Lib.hid hB2
            go_wp2_with fail
            exact ⟨⟨i + 1, by omega, by first | rfl | go_num, (show Hid _ from ⟨_, _, _, _, _, hbd3.out, hn2, hT2.out, hB2.out⟩)⟩, by simp [intOf]; omega⟩
      · have hbn : builtT l = none := by rw [hbd.out, hst.out, hf1]; rfl
        dsimp only [errE, errV]
        have hA9 : Arr w4 w.heap.size 4 [.bool true] := (hB4.block w.heap.size (Nat.lt_succ_self _)).trans hA0'.out
        have hc9 : (w4.setCell ⟨w.heap.size, 0, none⟩ (.bool false)).cell? ⟨w.heap.size, 0, none⟩ = some (.bool false) := World.cell?_setCell_same' _ _ _ (by rw [hA9.cell (j := 0) rfl]; rfl)
        have hBe : Below w.heap.size w (w4.setCell ⟨w.heap.size, 0, none⟩ (.bool false)) := (hB0'.out.trans (hB4.mono (Nat.le_succ _))).setCell (p := ⟨w.heap.size, 0, none⟩) (Nat.le_refl _) _
        refine leaves_cons (f := 52) (args := #[.pointer (some ⟨w.heap.size, 0, none⟩)]) (by simp) (by simp [go_sem]) ?_
        refine (caught_error ⟨w.heap.size, 0, none⟩ true 40 [] _ ?_ ?_).mono ?_
        · exact hA9.cell (j := 0) rfl
        · exact hA9.free 0
        rintro e u' w'' ⟨rfl, rfl, rfl⟩
        simp [Leaves, settle, results, Tryz.results34, go_sem]
        rw [hc9]
        exact ⟨_, rfl, hBe, _, .inr ⟨hbn, rfl⟩⟩
    · obtain ⟨t, n, H, lv, gvs, hbd, hn, hT, hBr⟩ := hall.out
      clear hall
      have hbe : Hid (builtT l = t.fin) := by
        show _ = _
        rw [hbd, List.drop_eq_nil_of_le (by omega)]
        rfl
      have hend := Lib.hid (end_any hT (by have := hT.len; omega))
      replace hT := Lib.hid hT
      replace hbd := Lib.hid hbd
      have hd : decide ((i : Int) < (l.length : Int)) = false := by simpa using hlt
      go_wp2_with fail
      refine hend.out.mono ?_
      rintro e w4 ⟨hb4, hcase⟩
      have hB4 : Below (w.heap.size + 1) W0 w4 := hBr.trans hb4
      rcases hcase with ⟨t1, n1, hf1, rfl, hn1, h1, _⟩ | ⟨hf1, rfl, _⟩
      · have hA9 : Arr w4 w.heap.size 4 [.bool true] := (hB4.block w.heap.size (Nat.lt_succ_self _)).trans hA0'.out
        have c9 := hA9.cell (j := 0) rfl
        have f9 := hA9.free 0
        have hbs : Hid (builtT l = some t1) := by show _ = _; rw [hbe.out, hf1]
        replace h1 := Lib.hid h1
        replace hB4 := Lib.hid hB4
        clear hbe hf1 hend hT hbd
        go_wp2_with fail
        have k9 : (w4.drew.setCell ⟨w.heap.size, 0, none⟩ (.bool true)).cell? ⟨w.heap.size, 0, none⟩ = some (.bool true) := World.cell?_setCell_same' _ _ _ (by rw [show w4.drew.cell? ⟨w.heap.size, 0, none⟩ = some (.bool true) from c9]; rfl)
        have hBe : Below w.heap.size w (w4.drew.setCell ⟨w.heap.size, 0, none⟩ (.bool true)) := ((hB0'.out.trans (hB4.out.mono (Nat.le_succ _))).drew).setCell (p := ⟨w.heap.size, 0, none⟩) (Nat.le_refl _) _
        have hTe : TabM (w4.drew.setCell ⟨w.heap.size, 0, none⟩ (.bool true)) (w.heap.size + 1 + 1) t1.m := by
          refine ⟨⟨w.heap.size + 1, n1, (World.cell?_setCell_far _ _ _ _ (by simp only; omega)).trans (h1.out.blk.cell (j := 1) rfl), h1.out.map.of_block (heap_setCell_other _ _ _ _ (by simp only; omega))⟩, ?_⟩
          have := h1.out.blk.lt
          simpa [World.setCell] using this
        replace k9 := Lib.hid k9
        replace hBe := Lib.hid hBe
        replace hTe := Lib.hid hTe
        refine wp_norm ?_
        refine wp_region_held_drew (S := fun w' => w'.cell? ⟨w.heap.size, 0, none⟩ = some (.bool true)) (by kernel_rfl) (by exact c9) (fun hHeld => ?_)
        refine take_l (i := 0) (v := ?_) rfl (by kernel_rfl) (by kernel_rfl) (by kernel_rfl) (fun _ _ _ h => h) (Or.inl ⟨by kernel_rfl, ?_⟩) (by assumption) ?_
        rotate_left
        · intro w hSw; (try dsimp only at hSw); go_simp; (try with_reducible rfl)
        (try simp only [Act.put, List.setIfInBounds_toArray, List.set_cons_zero, List.set_cons_succ])
        refine take_l (i := 1) (v := ?_) rfl (by kernel_rfl) (by kernel_rfl) (by kernel_rfl) (fun _ _ _ h => h) (Or.inl ⟨by kernel_rfl, ?_⟩) (by assumption) ?_
        rotate_left
        · intro w hSw; (try dsimp only at hSw); go_simp; (try with_reducible rfl)
        (try simp only [Act.put, List.setIfInBounds_toArray, List.set_cons_zero, List.set_cons_succ])
        refine take_l (i := 2) (v := ?_) rfl (by kernel_rfl) (by kernel_rfl) (by kernel_rfl) (fun _ _ _ h => h) (Or.inl ⟨by kernel_rfl, ?_⟩) (by assumption) ?_
        rotate_left
        · intro w hSw; (try dsimp only at hSw); go_simp; (try with_reducible rfl)
        (try simp only [Act.put, List.setIfInBounds_toArray, List.set_cons_zero, List.set_cons_succ])
        refine wpAnyH_ready (rs := [3]) (by kernel_rfl) (by simp) ?_
        refine ready_l rfl (fun K hK => ?_) AllReadyH.nil
        go_simp
        refine hK.out _ _ (by exact k9.out) (fun hHeld => ?_)
        clear hK K
        (try simp only [Act.put, List.setIfInBounds_toArray, List.set_cons_zero, List.set_cons_succ])
        refine wpAnyH_done (by kernel_rfl) ?_ _
        dsimp only [onlyNormal]
        go_wp2_with fail
        refine leaves_cons (f := 52) (args := #[.pointer (some ⟨w.heap.size, 0, none⟩)]) (by simp) (by simp [go_sem]) ?_
        refine (caught_idle ⟨w.heap.size, 0, none⟩ _).mono ?_
        rintro e u' w'' ⟨rfl, rfl, rfl⟩
        simp [Leaves, settle, results, Tryz.results34, go_sem]
        rw [show (w4.setCell ⟨w.heap.size, 0, none⟩ (.bool true)).cell? ⟨w.heap.size, 0, none⟩ = some (.bool true) from k9.out]
        exact ⟨_, rfl, hBe.out, _, .inl ⟨_, hbs.out, rfl, hTe.out⟩⟩
      · have hbn : builtT l = none := by rw [hbe.out, hf1]
        dsimp only [errE, errV]
        have hA9 : Arr w4 w.heap.size 4 [.bool true] := (hB4.block w.heap.size (Nat.lt_succ_self _)).trans hA0'.out
        have hc9 : (w4.setCell ⟨w.heap.size, 0, none⟩ (.bool false)).cell? ⟨w.heap.size, 0, none⟩ = some (.bool false) := World.cell?_setCell_same' _ _ _ (by rw [hA9.cell (j := 0) rfl]; rfl)
        have hBe : Below w.heap.size w (w4.setCell ⟨w.heap.size, 0, none⟩ (.bool false)) := (hB0'.out.trans (hB4.mono (Nat.le_succ _))).setCell (p := ⟨w.heap.size, 0, none⟩) (Nat.le_refl _) _
        refine leaves_cons (f := 52) (args := #[.pointer (some ⟨w.heap.size, 0, none⟩)]) (by simp) (by simp [go_sem]) ?_
        refine (caught_error ⟨w.heap.size, 0, none⟩ true 40 [] _ ?_ ?_).mono ?_
        · exact hA9.cell (j := 0) rfl
        · exact hA9.free 0
        rintro e u' w'' ⟨rfl, rfl, rfl⟩
        simp [Leaves, settle, results, Tryz.results34, go_sem]
        rw [hc9]
        exact ⟨_, rfl, hBe, _, .inr ⟨hbn, rfl⟩⟩
end Go.Proofs.YtcpfmlaipejfpaaGreatDoor
namespace Go.Proofs.YtcpfmlaipejfpaaGreatDoor
open Go.RowKit Go.Maps Go.Shelf

attribute [local go_sem] Oper.semAt_some

set_option maxRecDepth 100000 in
theorem valid_any (v : Value) (l : List Fmt) (w : World) (hv : FmtsAt w w.heap.size v l) (hl : FmtIn l) :
    Calls Tryz.prog 20 #[v] w fun e w' => e = .returned (.bool (validT l)) ∧ Below w.heap.size w w' := by
  have hb := Lib.hid (built_any v l w hv hl)
  obtain ⟨fvs, hfl, ⟨a, cap, rfl, hcp, hcm, hat⟩, hfs⟩ := hv
  clear hat hfs
  go_enter Tryz.func20, Tryz.ntmps20
  go_wp2_with fail
  refine hb.out.mono ?_
  rintro e w1 ⟨hb1, tB, ⟨t', ht, rfl, hT⟩ | ⟨ht, rfl⟩⟩
  · have hv : Hid (validT l = true) := by show _ = _; rw [validT, ht]; rfl
    replace ht := Lib.hid ht
    replace hT := Lib.hid hT
    go_wp2_with fail
    go_ret
    exact ⟨by rw [hv.out]; rfl, hb1⟩
  · have hv : Hid (validT l = false) := by show _ = _; rw [validT, ht]; rfl
    replace ht := Lib.hid ht
    go_wp2_with fail
    go_ret
    exact ⟨by rw [hv.out]; rfl, hb1⟩
set_option maxRecDepth 100000 in
theorem least_any (v : Value) (l : List Fmt) (id : Int) (hid : I64 id) (w : World) (hv : FmtsAt w w.heap.size v l) (hl : FmtIn l) :
    Calls Tryz.prog 18 #[v, .int .i64 id] w fun e w' => e = .returned (.int .i64 (leastT l id)) ∧ Below w.heap.size w w' := by
  have hb := Lib.hid (built_any v l w hv hl)
  obtain ⟨fvs, hfl, ⟨a, cap, rfl, hcp, hcm, hat⟩, hfs⟩ := hv
  clear hat hfs
  go_enter Tryz.func18, Tryz.ntmps18
  go_wp2_with fail
  refine hb.out.mono ?_
  rintro e w1 ⟨hb1, tB, ⟨t', ht, rfl, hT⟩ | ⟨ht, rfl⟩⟩
  · have hv : Hid (leastT l id = (t'.m id).getD 0) := by show _ = _; rw [leastT, ht]
    replace ht := Lib.hid ht
    obtain ⟨⟨mB, n, c1, hM⟩, hlt⟩ := hT
    have hlk := hM.look hid
    go_wp2_with fail
    go_ret
    exact ⟨by rw [hv.out]; rfl, hb1⟩
  · have hv : Hid (leastT l id = 0) := by show _ = _; rw [leastT, ht]
    replace ht := Lib.hid ht
    go_wp2_with fail
    go_ret
    exact ⟨by rw [hv.out]; rfl, hb1⟩
end Go.Proofs.YtcpfmlaipejfpaaGreatDoor
