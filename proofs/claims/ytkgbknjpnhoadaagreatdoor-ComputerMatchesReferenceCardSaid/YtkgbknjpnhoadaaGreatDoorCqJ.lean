/-
  The contract of computer.Print.
-/
import Derived.Test.YtkgbknjpnhoadaaGreatDoorCqI
import Derived.Lib.ConvBytes
namespace Go.Proofs.YtkgbknjpnhoadaaGreatDoor
open Go.RowKit Go.Shelf

attribute [local go_sem] Oper.semAt_some

def byteAt (p : List UInt8) (j : Nat) : Nat := (p.getD j 0).toNat
/-- The lines of some pairs of bytes. -/
def linesOf (p : List UInt8) (xs : List Nat) : List UInt8 := xs.flatMap fun x => lineB (byteAt p (2 * x)) (byteAt p (2 * x + 1)) ++ [10]
theorem linesOf_snoc (p : List UInt8) (xs : List Nat) (x : Nat) : linesOf p (xs ++ [x]) = linesOf p xs ++ (lineB (byteAt p (2 * x)) (byteAt p (2 * x + 1)) ++ [10]) := by simp [linesOf]
theorem linesOf_range : ∀ (K : Nat) (p : List UInt8), p.length = 2 * K → linesOf p (List.range K) = printB p
  | 0, p, h => by
    have : p = [] := List.length_eq_zero_iff.1 (by omega)
    subst this; rfl
  | K + 1, p, h => by
    match p, h with
    | a :: b :: r, h =>
      have ih := linesOf_range K r (by simp at h; omega)
      rw [List.range_succ_eq_map, printB, ← ih]
      simp only [linesOf, List.flatMap_cons, List.flatMap_map, Nat.mul_zero, Nat.zero_add]
      have e : ∀ x, byteAt (a :: b :: r) (2 * (x + 1)) = byteAt r (2 * x) := fun x => by simp [byteAt, show 2 * (x + 1) = 2 * x + 2 from by omega]
      have e' : ∀ x, byteAt (a :: b :: r) (2 * (x + 1) + 1) = byteAt r (2 * x + 1) := fun x => by simp [byteAt, show 2 * (x + 1) + 1 = 2 * x + 1 + 2 from by omega]
      simp only [Nat.succ_eq_add_one, e, e']
      simp [byteAt]
theorem byteAt_lt (p : List UInt8) (j : Nat) : byteAt p j < 256 := (p.getD j 0).toNat_lt
theorem map_finRangeK (K : Nat) : (List.finRange K).map (·.1) = List.range K := by
  apply List.ext_getElem <;> simp
theorem linesOf_len (p : List UInt8) (xs : List Nat) : (linesOf p xs).length ≤ 12 * xs.length := by
  induction xs with
  | nil => simp [linesOf]
  | cons x xs ih =>
    have := lineB_len (byteAt_lt p (2 * x)) (byteAt_lt p (2 * x + 1))
    simp [linesOf] at ih ⊢; omega

theorem linesOf_ne (p : List UInt8) {K : Nat} (h : K ≠ 0) : linesOf p (List.range K) ≠ [] := by
  obtain ⟨k, rfl⟩ : ∃ k, K = k + 1 := ⟨K - 1, by omega⟩
  rw [List.range_succ, linesOf_snoc]
  simp
theorem isBuilder_kept {T e : TypeId} {B b : Nat} {bs : List Value} {W W' : World} {row : Option Nat} (h : Lib.IsBuilder T e B b bs W) (hg : W.grownBy W' row) (hr : ∀ r, row = some r → ∃ o : Obj, W.heap[r]? = some o ∧ o.isCells = false) : Lib.IsBuilder T e B b bs W' := by
  have key : ∀ p, Lib.BuilderAt T e B b p bs W → Lib.BuilderAt T e B b p bs W' := by
    rintro p ⟨hB, v, hb, hown, hne⟩
    refine ⟨hB, v, (hg.block b (Array.getElem?_eq_some_iff.1 hb).1 (fun e' => ?_)).trans hb, hown.kept hg ?_, hne⟩
    · obtain ⟨o, ho, hc⟩ := hr b e'.symm
      rw [hb] at ho; injection ho with ho; subst ho; cases hc
    · rcases hown.2 with ⟨rfl, _⟩ | ⟨g, cap, cur, rfl, _, hgg, _⟩
      · exact .inl rfl
      · refine .inr (fun e' => ?_)
        obtain ⟨o, ho, hc⟩ := hr g e'.symm
        rw [hgg] at ho; injection ho with ho; subst ho; cases hc
  exact h.imp (key _) (key _)
theorem isBuilder_below {T e : TypeId} {B b : Nat} {bs : List Value} {W W' : World} (h : Lib.IsBuilder T e B b bs W) (hb : Below W.heap.size W W') : Lib.IsBuilder T e B b bs W' :=
  isBuilder_kept (row := none) h ⟨hb.os, hb.tape, hb.output, hb.size, fun k hk _ => hb.block k hk⟩ (fun r e => by cases e)
theorem isBuilder_heap {T e : TypeId} {B b : Nat} {bs : List Value} {W : World} (h : Lib.IsBuilder T e B b bs W) : ∃ cs, W.heap[b]? = some (.cells cs T (0, 0)) := by
  rcases h with ⟨_, v, hb, _⟩ | ⟨_, v, hb, _⟩ <;> exact ⟨_, hb⟩

theorem arr_kept {W W' : World} {row : Option Nat} {B : Nat} {T : TypeId} {L : List Value} (h : Arr W B T L) (hg : W.grownBy W' row) (hr : ∀ r, row = some r → ∃ o : Obj, W.heap[r]? = some o ∧ o.isCells = false) : Arr W' B T L := by
  refine (hg.block B h.lt (fun e => ?_)).trans h
  obtain ⟨o, ho, hc⟩ := hr B e.symm
  rw [h] at ho; injection ho with ho; subst ho; cases hc

set_option maxRecDepth 100000 in
set_option maxHeartbeats 2000000 in
theorem Print_in (p : ByteArray) (K : Nat) (w : World) (hp : p.size = 2 * K) (hKm : K ≤ 128) (hE : Env w) :
    CallsIn Fence.wide 3 Tryz.prog 12 #[.string p] w fun e W' => e = .returned (.tuple #[.string (str (printB p.data.toList)), .int .i64 0]) ∧ Below w.heap.size w W' := by
  have hB : Below w.heap.size w w := Below.refl _ _
  have hcv := fun (W : World) => Lib.run_convert_string_bytes (P := Tryz.prog) W 9 41 5 p Tryz.underlying9 Tryz.underlying41 Tryz.underlying5
  have hV := Valid_any p ByteArray.empty
  rw [show progOk p.data.toList ByteArray.empty.data.toList = true by simp [progOk]; omega] at hV
  replace hV := Lib.hid hV
  refine callsIn_of_wp_marks Tryz.func12 rfl trivial ?_ rfl
  simp only [Tryz.ntmps12, List.size_toArray, List.length_cons, List.length_nil, Nat.reduceAdd, Nat.reduceSub, Array.replicate_succ, Array.replicate_zero, List.push_toArray, List.append_toArray, List.nil_append, List.cons_append]
  gi_wp2_with (fail)
  refine ⟨trivial, (callsIn_wide.2 (hV.out _)).mono ?_⟩
  rintro e w1 ⟨rfl, q1, rfl⟩
  gi_wp2_with (fail)
  obtain ⟨W1, hW1⟩ : ∃ W1, W1 = (w.drewN q1).alloc (.cells #[.pointer none, .slice none 0 0] 54) := ⟨_, rfl⟩
  have hs1 : W1.heap.size = w.heap.size + 1 := by rw [hW1]; simp
  have hb1 : W1.heap[w.heap.size]? = some (.cells #[.pointer none, .slice none 0 0] 54 (0, 0)) := by rw [hW1]; exact World.alloc_heap_new (w.drewN q1) _
  have hB1 : Below w.heap.size w W1 := by rw [hW1]; exact (below_drewN (Below.refl _ w) q1).alloc (Nat.le_refl _) _
  rw [← hW1]
  clear hW1
  have hbuf := buf_of_string W1 5 p (by omega)
  have hrow := Lib.bytesWorld_at_new W1 5 p
  have hb2 := (Lib.bytesWorld_at_old W1 5 p w.heap.size (by omega)).trans hb1
  have hB2 : Below w.heap.size w (Lib.bytesWorld W1 5 p) := hB1.trans ⟨rfl, rfl, rfl, by rw [Lib.bytesWorld_size]; omega, fun k hk => Lib.bytesWorld_at_old W1 5 p k (by omega)⟩
  have hcell := fun j (hj : j < 2 * K) => Lib.bytesWorld_cell W1 5 p j (by omega)
  obtain ⟨cap', hcap', hc1, hc2⟩ := hbuf.val
  rw [hs1] at hrow hcell
  rw [hp] at hcap'
  injection hcap' with ha hl hcap'
  clear ha hl
  rw [hcap']
  have hc1' : 2 * K ≤ cap' := by simpa [hp] using hc1
  obtain ⟨R, hR⟩ : ∃ R, R = Obj.cells (Lib.bytesCells W1 5 p) 5 ((Lib.bytesCells W1 5 p).size, (Lib.bytesCells W1 5 p).size + 1) := ⟨_, rfl⟩
  have hRn : ∀ cs, R ≠ .cells cs 5 (0, 0) := by
    intro cs e
    rw [hR] at e
    injection e with _ _ e
    injection e with _ e
    omega
  have hRc : R.isCells = true := by rw [hR]; rfl
  rw [← hR] at hrow
  clear hR
  generalize Lib.bytesWorld W1 5 p = W2 at *
  clear hbuf hb1 hB1 hs1 hcap' hc1 hcv
  refine ⟨trivial, (callsIn_wide.2 (Chunk_any (w.heap.size + 1) (2 * K) cap' W2)).mono ?_⟩
  rintro e w3 ⟨rfl, mA, mN, hb3⟩
  have hlt0 := (Array.getElem?_eq_some_iff.1 hb2).1
  have hlt0' := (Array.getElem?_eq_some_iff.1 hrow).1
  have hbk := (hb3.block _ hlt0).trans hb2
  have hrw := (hb3.block _ hlt0').trans hrow
  have hB3 := hB2.trans (hb3.mono hB2.size)
  have hc3 : ∀ (W : World), W.heap[w.heap.size + 1]? = some R → ∀ j, j < 2 * K → W.cell? ⟨w.heap.size + 1, j, none⟩ = some (.int .u8 (byteAt p.data.toList j : Nat)) := fun W hW j hj =>
    (World.cell?_of_block (a := ⟨w.heap.size + 1, j, none⟩) (hW.trans hrow.symm)).trans (hcell j hj)
  have hlt1 := mA.lt
  have hlt2 := mN.lt
  have hbig : w.heap.size + 1 < W2.heap.size := hlt0'
  have hIB : Lib.IsBuilder 54 5 w.heap.size w.heap.size (Lib.byteCells (linesOf p.data.toList [])) w3 := .inl ⟨Nat.le_refl _, _, hbk, World.ownsRow_nil _ _ _ _, by simp [Value.ownBlock]⟩
  have hpl : p.data.toList.length = 2 * K := by simpa using hp
  have hfin := linesOf_range K p.data.toList hpl
  generalize hpl0 : p.data.toList = pl at *
  replace hpl0 := Lib.hid hpl0
  replace hc3 := Lib.hid hc3
  replace hcell := Lib.hid hcell
  replace hfin := Lib.hid hfin
  replace hp := Lib.hid hp
  replace hpl := Lib.hid hpl
  clear hb2 hrow hB2 hb3
  gi_wp2_with (fail)
  refine wpIn_rangeFunc_ownF rfl (by omega) (gf := 47) (lb := #[.pointer (some ⟨W2.heap.size, 0, none⟩), .pointer (some ⟨W2.heap.size + 1, 0, none⟩)]) rfl trivial (enters_of Tryz.func47 (by kernel_rfl) rfl)
    (chunk1_stops _ (w.heap.size + 1) cap' W2.heap.size (W2.heap.size + 1) K w3 (by omega) hc1' hc2 hlt1 hlt2 (mA.cell rfl) (mN.cell rfl)) keepB_t (keepB_b hlt1 hlt2) (Below.refl _ _) (fun _ => rfl)
    (fun pre W => (Lib.IsBuilder 54 5 w.heap.size w.heap.size (Lib.byteCells (linesOf pl (pre.map (·.1)))) W ∧ W.heap[w.heap.size + 1]? = some R ∧ Arr W W2.heap.size 41 [.slice (some ⟨w.heap.size + 1, 0, none⟩) (2 * K) cap'] ∧ Arr W (W2.heap.size + 1) 3 [.int .i64 2] ∧ (pre = [] → Arr W w.heap.size 54 [.pointer none, .slice none 0 0])) ∧ Below w.heap.size w W)
    (fun _ _ _ => False)
    (OwnFrom.and (Own.from (fun _ _ _ _ ⟨h1, h2, h3, h4, h5⟩ hg hr => ⟨isBuilder_kept h1 hg hr, (hg.block _ (Array.getElem?_eq_some_iff.1 h2).1 (fun e => by
      obtain ⟨o, ho, hc⟩ := hr _ e.symm
      rw [h2] at ho; injection ho with ho; subst ho; rw [hRc] at hc; cases hc)).trans h2, arr_kept h3 hg hr, arr_kept h4 hg hr, fun e => arr_kept (h5 e) hg hr⟩) _) (ownFrom_below (Nat.le_refl _) (by omega)))
    (fun _ _ _ _ _ hs _ _ => hs)
    ⟨⟨hIB, hrw, mA, mN, fun _ => hbk⟩, hB3⟩
    ?a1 ?assign ?body ?done ?stop
  case assign =>
    intro l x W K hK
    gi_wp2
    exact hK
  case body =>
    rintro l pre x W ⟨⟨hI, hRW, mA, mN, _⟩, hB⟩ hlt
    have hx := x.2
    have cA := hc3.out W hRW (2 * x.1) (by omega)
    have cB := hc3.out W hRW (2 * x.1 + 1) (by omega)
    have hoA := byteAt_lt pl (2 * x.1)
    have hoB := byteAt_lt pl (2 * x.1 + 1)
    have hsn := linesOf_snoc pl (pre.map (·.1)) x.1
    have hllen := linesOf_len pl (pre.map (·.1))
    have hlnl := lineB_len hoA hoB
    rw [List.length_map] at hllen
    replace hE := hE.below hB
    gi_wp2
    refine wpIn_round_still_tail 6 (by kernel_rfl) (by kernel_rfl) (by kernel_rfl) ?hQ ?_
    case hQ => rintro ⟨a, w, h⟩; exact h
    simp only [List.take_succ_cons, List.take_zero, List.drop_succ_cons, List.drop_zero]
    repeat still_step
    refine wpStill_nil ?_
    have hd : Below W.heap.size W W.drew := (Below.refl _ _).drew
    have hkd : KeepW w.heap.size W W.drew := KeepW.of_below hd
    have hbk2 := isBuilder_heap hI
    replace hI := isBuilder_below hI hd
    replace hE := hE.below hd
    have hBd := hB.trans (hd.mono hB.size)
    have hadd := add_str (lineB (byteAt pl (2 * x.1)) (byteAt pl (2 * x.1 + 1))) [10] (by simp only [List.length_cons, List.length_nil]; omega)
    rw [show str [10] = ⟨#[10]⟩ from rfl] at hadd
    have hL := fun (W : World) hE => line_any (byteAt pl (2 * x.1)) (byteAt pl (2 * x.1 + 1)) hoA hoB W hE
    have hws : (Lib.byteCells (linesOf pl (pre.map (·.1)))).length + (str (lineB (byteAt pl (2 * x.1)) (byteAt pl (2 * x.1 + 1)) ++ [10])).size ≤ 140737488355328 := by
      rw [Lib.byteCells_length, str_size]
      simp only [List.length_append, List.length_cons, List.length_nil]
      omega
    have hcs : Lib.byteCells (linesOf pl (pre.map (·.1))) ++ Lib.strCells (str (lineB (byteAt pl (2 * x.1)) (byteAt pl (2 * x.1 + 1)) ++ [10])) = Lib.byteCells (linesOf pl ((pre ++ [x]).map (·.1))) := by
      rw [List.map_append, List.map_cons, List.map_nil, hsn]
      simp [Lib.byteCells, Lib.strCells, str]
    generalize lineB (byteAt pl (2 * x.1)) (byteAt pl (2 * x.1 + 1)) = ln at *
    generalize byteAt pl (2 * x.1) = oA at *
    generalize byteAt pl (2 * x.1 + 1) = oB at *
    replace hL := Lib.hid hL
    replace hcs := Lib.hid hcs
    clear hsn hllen hlnl cA cB
    change wpList _ _ _ _ _ W.drew
    generalize W.drew = Wd at *
    go_wp2_with (fail)
    refine (hL.out Wd hE).mono ?_
    rintro e W4 ⟨rfl, hb4⟩
    have hI4 := isBuilder_below hI hb4
    have hB4 := hBd.trans (hb4.mono hBd.size)
    have hk4 := hkd.trans (KeepW.of_below hb4)
    clear hI hE hBd hkd hd hb4
    go_wp2_with (fail)
    refine (WriteString_any w.heap.size w.heap.size _ (str (ln ++ [10])) W4 hI4 hws hB4.size).mono ?_
    rintro e W5 ⟨rfl, ⟨hI5, hb5⟩, hk5⟩
    rw [hcs.out] at hI5
    have hk6 := hk4.trans hk5
    obtain ⟨bcs, hbk2⟩ := hbk2
    go_wp2_with (fail)
    gi_wp2_with (fail)
    have nA : Arr W5 W2.heap.size 41 [.slice (some ⟨w.heap.size + 1, 0, none⟩) (2 * K) cap'] := hk6.arr mA (by omega) (by decide)
    have nN : Arr W5 (W2.heap.size + 1) 3 [.int .i64 2] := hk6.arr mN (by omega) (by decide)
    exact ⟨hk6.others hbk2, ⟨nA.trans mA.symm, nN.trans mN.symm⟩, ⟨.inr hI5, hk6.2 _ _ (by omega) hRW hRn, nA, nN, fun e => absurd e (by simp)⟩, hB4.trans hb5⟩
  case done =>
    rintro D ys W hD rfl ⟨⟨hI, hRW, mA, mN, hpn⟩, hB⟩ hK
    rw [map_finRangeK] at hI
    have hDW := (Array.getElem?_eq_some_iff.1 hK).1
    have hDs : w.heap.size ≤ D := by have := hB3.size; omega
    by_cases hK0 : K = 0
    · subst hK0
      have hn := hpn (by simp)
      have hS := String_nil w.heap.size (.pointer none) W hn
      have hp0 : printB p.data.toList = [] := by rw [hpl0.out, ← hfin.out]; rfl
      replace hS := Lib.hid hS
      replace hp0 := Lib.hid hp0
      clear hn hpn hI
      gi_wp2_with (fail)
      refine ⟨trivial, (callsIn_wide.2 hS.out).mono ?_⟩
      rintro e W2 ⟨rfl, rfl⟩
      have hK2 : W.drew.heap[D]? = some (.deferred (some [])) := hK
      have hB2 := hB.drew
      gi_wp2_with (fail)
      refine ⟨by simp, .inl ⟨_, _, rfl, run_takeDeferred hK2, ?_⟩⟩
      exact ⟨.tuple #[.string (str []), .int .i64 0], by simp [results, Tryz.f12, go_sem], by rw [hp0.out], hB2.trans (belowK_b (w := w) (Nat.le_refl _) W.drew D _ _ hDs hK2 rfl rfl)⟩
    · have hne := linesOf_ne pl hK0
      have hp0 : printB p.data.toList = linesOf pl (List.range K) := by rw [hpl0.out, ← hfin.out]
      obtain ⟨bcs, hbc⟩ := isBuilder_heap hI
      have hS := String_some w.heap.size w.heap.size (linesOf pl (List.range K)) W hI hne
      generalize linesOf pl (List.range K) = ls at *
      replace hS := Lib.hid hS
      replace hp0 := Lib.hid hp0
      clear hpn hI
      gi_wp2_with (fail)
      refine ⟨trivial, (callsIn_wide.2 hS.out).mono ?_⟩
      rintro e W2 ⟨rfl, hk2, hb2⟩
      have hK2 : W2.heap[D]? = some (.deferred (some [])) := hk2.2 D _ (fun e => by subst e; rw [hbc] at hK; cases hK) hK (fun cs e => by cases e)
      have hB2 := hB.trans hb2
      gi_wp2_with (fail)
      refine ⟨by simp, .inl ⟨_, _, rfl, run_takeDeferred hK2, ?_⟩⟩
      exact ⟨.tuple #[.string (str ls), .int .i64 0], by simp [results, Tryz.f12, go_sem], by rw [hp0.out], hB2.trans (belowK_b (w := w) (Nat.le_refl _) W2 D _ _ hDs hK2 rfl rfl)⟩
  case stop =>
    rintro D c pre W _ _ h _
    exact h.elim

def printL (p : ByteArray) : List UInt8 := if progOk p.data.toList [] then printB p.data.toList else []
def printE (p : ByteArray) : Int := if progOk p.data.toList [] then 0 else 120
set_option maxHeartbeats 1000000 in
/-- P12.5: computer.Print. -/
theorem Print_any (p : ByteArray) (w : World) (hE : Env w) :
    Calls Tryz.prog 12 #[.string p] w fun e W' => e = .returned (.tuple #[.string (str (printL p)), .int .i64 (printE p)]) ∧ Below w.heap.size w W' := by
  unfold printL printE
  cases hq : progOk p.data.toList [] with
  | true =>
    have h2 : p.size ≤ 256 ∧ p.size % 2 = 0 := by simpa [progOk] using hq
    exact callsIn_wide.1 (Print_in p (p.size / 2) w (by omega) (by omega) hE)
  | false =>
    have hV := Valid_any p ByteArray.empty
    rw [show progOk p.data.toList ByteArray.empty.data.toList = false from hq] at hV
    replace hV := Lib.hid hV
    clear hq
    go_enter Tryz.func12, Tryz.ntmps12
    go_wp2_with (go_at_call 26; refine (hV.out _).mono ?_; rintro e w1 ⟨rfl, q1, rfl⟩; have hb1 := below_drewN (Below.refl w.heap.size w) q1)
    go_ret2
    exact ⟨rfl, hb1⟩
end Go.Proofs.YtkgbknjpnhoadaaGreatDoor
