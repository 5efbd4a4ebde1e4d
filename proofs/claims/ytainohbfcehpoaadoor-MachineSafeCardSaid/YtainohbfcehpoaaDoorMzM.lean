/-
  What the rows' condition gives at chapter 8: the library's variables that are read, and the table of the operations.
  The arguments of chapter 8's laws, opened: texts, integers, pairs of integers.
  What the rows' condition gives at chapter 8, the reference's tables too.
  What the rows' condition gives at chapter 8, the reference's names too.
-/
import Derived.Test.YtainohbfcehpoaaDoorMzA
import Derived.Test.YtainohbfcehpoaaDoorMzG
import Derived.Lay
import Derived.Test.YtainohbfcehpoaaDoorMzJ
import Derived.Test.YtainohbfcehpoaaDoorMzL
namespace Go.Proofs.YtainohbfcehpoaaDoor
open Go.ChangeShapes Go.WideShapes Go.ChangeAt Go.RowKit

abbrev laidC : List (String × DataW Unit) := [("math/bits.deBruijn32tab", Rows.laid_math_bits_deBruijn32tab), ("math/bits.deBruijn64tab", Rows.laid_math_bits_deBruijn64tab), ("internal/strconv.uint64pow10", Rows.laid_internal_strconv_uint64pow10), ("strconv.ErrRange", Rows.laid_strconv_ErrRange), ("strconv.ErrSyntax", Rows.laid_strconv_ErrSyntax), ("evergreen/machine.operations", Rows.laid_evergreen_machine_operations)]
theorem shapeC (os : Os) : (World.laidAll Tryd.prog os laidC).Shaped Tryd.prog := World.shaped_of_ZipB (by kernel_rfl) (by kernel_rfl)
theorem door_metC (os : Os) (args : Array Value) : laidMetH Tryd.prog laidC ((World.laidAll Tryd.prog os laidC).forCall (fun _ _ => 0) ⟨#[], args, []⟩).memory := by
  rw [MakeChecks.laidMetH_plain _ _ _ (by kernel_rfl)]; exact laidMet_laidAll _ (by kernel_rfl) (by kernel_rfl)
theorem pow_data : (Rows.laid_internal_strconv_uint64pow10 : DataW Unit) = Lib.tabData .u64 Lib.pow10Tab := by rfl
theorem gPow : Tryd.prog.globalNamed "internal/strconv.uint64pow10" = some 5 := by kernel_rfl
theorem gSyn : Tryd.prog.globalNamed "strconv.ErrSyntax" = some 6 := by kernel_rfl
theorem gRng : Tryd.prog.globalNamed "strconv.ErrRange" = some 7 := by kernel_rfl
theorem gOps : Tryd.prog.globalNamed "evergreen/machine.operations" = some 3 := by kernel_rfl
theorem sentinel_cell {P : Program} {n nm : String} {d : DataW Unit} {r : List (String × DataW Unit)} {W : World} {g : Nat} {ti : TypeId} {ms : Array (String × TypeId)}
    (h : laidMet P ((n, .iface nm d) :: r) W) (hg : P.globalNamed n = some g) (ht : (P.globals[g]?).map (·.type) = some ti) (hi : P.underlying ti = some (.interface ms)) :
    ∃ u v, W.cell? ⟨g, 0, none⟩ = some (.iface u v) := by
  obtain ⟨ps, ⟨g0, t0, cs0, f0, p0, q0, hg0, ht0, hv0, hd0, _, e0⟩, _, _⟩ := h
  obtain rfl := Option.some.inj (hg.symm.trans hg0)
  obtain rfl := Option.some.inj (ht.symm.trans ht0)
  obtain ⟨l0⟩ := cs0
  obtain ⟨_, u, v, hl, _, _⟩ := iface_of_trod hi hd0
  obtain rfl : l0 = [.iface u v] := hl
  exact ⟨u, v, by simpa using World.var?_cell hg0 hv0 0⟩
/-- A row of the table of the operations: a text, two integers, two flags. -/
def rowData {H : Type} (r : List UInt8 × Int × Int × Bool × Bool) : DataW H := .agg [.lit (.string r.1), .lit (.int .i64 r.2.1), .lit (.int .i64 r.2.2.1), .lit (.bool r.2.2.2.1), .lit (.bool r.2.2.2.2)]
def rowVals (r : List UInt8 × Int × Int × Bool × Bool) : List Value := [.string (str r.1), .int .i64 r.2.1, .int .i64 r.2.2.1, .bool r.2.2.2.1, .bool r.2.2.2.2]
section
variable {H : Type} {enc : TypeId × Value → H} {P : Program} {w : World} {b : Nat} {sp : Nat → Bool} {hd : Bool}
theorem row_trod {t ts ti tb : TypeId} {fs : Array Field} (ht : P.underlying t = some (.struct fs)) (hs : P.underlying ts = some .string) (hi : P.underlying ti = some (.int .i64)) (hb : P.underlying tb = some .bool)
    (cs1 : P.cellsOf ts = 1) (ci1 : P.cellsOf ti = 1) (cb1 : P.cellsOf tb = 1) (ct : P.cellsOf t = 5)
    (hf : fs.map (fun f => (f.type, f.offset)) = #[(ts, 0), (ti, 1), (ti, 2), (tb, 3), (tb, 4)]) {fuel : Nat} {cs : List Value} {r : List UInt8 × Int × Int × Bool × Bool} {p : List MemPlace}
    (h : DataW.trod enc P w b sp hd fuel t cs = some (rowData r, p)) : cs = rowVals r := by
  obtain ⟨xs, m, _, hx, hl, _, he⟩ := DataW.trod_struct ht h
  rw [ct] at hl
  have hag : xs.map (·.1) = [.lit (.string r.1), .lit (.int .i64 r.2.1), .lit (.int .i64 r.2.2.1), .lit (.bool r.2.2.2.1), .lit (.bool r.2.2.2.2)] := by
    have := congrArg Prod.fst hx
    simp only [rowData, DataW.agg.injEq] at this
    exact this.symm
  have hfi : ∀ (i : Nat) (t' : TypeId) (o : Nat), (#[(ts, 0), (ti, 1), (ti, 2), (tb, 3), (tb, 4)] : Array (TypeId × Nat))[i]? = some (t', o) → ∃ f, fs[i]? = some f ∧ f.type = t' ∧ f.offset = o := by
    intro i t' o hio
    rw [← hf, Array.getElem?_map] at hio
    obtain ⟨f, hf1, hf2⟩ := Option.map_eq_some_iff.1 hio
    injection hf2 with h1 h2
    exact ⟨f, hf1, h1, h2⟩
  match cs, hl with
  | [c0, c1, c2, c3, c4], _ =>
    have hxl : xs.length = 5 := by have := congrArg List.length hag; simpa using this
    match xs, hxl, hag, he with
    | [x0, x1, x2, x3, x4], _, hag, he =>
      simp only [List.map_cons, List.map_nil, List.cons.injEq, and_true] at hag
      obtain ⟨g0, g1, g2, g3, g4⟩ := hag
      obtain ⟨f0, a0, b0, d0⟩ := hfi 0 ts 0 rfl
      obtain ⟨f1, a1, b1, d1⟩ := hfi 1 ti 1 rfl
      obtain ⟨f2, a2, b2, d2⟩ := hfi 2 ti 2 rfl
      obtain ⟨f3, a3, b3, d3⟩ := hfi 3 tb 3 rfl
      obtain ⟨f4, a4, b4, d4⟩ := hfi 4 tb 4 rfl
      have k0 := he 0 f0 a0
      have k1 := he 1 f1 a1
      have k2 := he 2 f2 a2
      have k3 := he 3 f3 a3
      have k4 := he 4 f4 a4
      rw [b0, d0, cs1] at k0
      rw [b1, d1, ci1] at k1
      rw [b2, d2, ci1] at k2
      rw [b3, d3, cb1] at k3
      rw [b4, d4, cb1] at k4
      obtain ⟨s, e0, y0, _⟩ := DataW.trod_string hs k0
      obtain ⟨n1, e1, y1, _⟩ := DataW.trod_int hi k1
      obtain ⟨n2, e2, y2, _⟩ := DataW.trod_int hi k2
      obtain ⟨n3, e3, y3⟩ := DataW.trod_bool hb k3
      obtain ⟨n4, e4, y4⟩ := DataW.trod_bool hb k4
      simp at e0 e1 e2 e3 e4
      subst y0 y1 y2 y3 y4 e0 e1 e2 e3 e4
      simp only [DataW.lit.injEq, Lit.string.injEq, Lit.int.injEq, Lit.bool.injEq, true_and] at g0 g1 g2 g3 g4
      subst g1 g2 g3 g4
      unfold rowVals
      rw [← g0]
      rfl
theorem rows_trod {t e : TypeId} {n : Nat} (ht : P.underlying t = some (.array n e)) (hce : P.cellsOf e = 5) (_ : P.cellsOf t = n * 5)
    (hrow : ∀ (fuel : Nat) (cs : List Value) (r : List UInt8 × Int × Int × Bool × Bool) (p : List MemPlace), DataW.trod enc P w b sp hd fuel e cs = some (rowData r, p) → cs = rowVals r)
    {fuel : Nat} {cs : List Value} {rs : List (List UInt8 × Int × Int × Bool × Bool)} {p : List MemPlace} (h : DataW.trod enc P w b sp hd fuel t cs = some (.agg (rs.map rowData), p)) :
    ∀ o, o < n → ∀ j, j < 5 → cs[o * 5 + j]? = (rs[o]?).bind fun r => (rowVals r)[j]? := by
  intro o ho j hj
  obtain ⟨xs, m, _, hx, _, hlen, he⟩ := DataW.trod_array ht h
  have hag : xs.map (·.1) = rs.map rowData := by
    have := congrArg Prod.fst hx
    simp only [DataW.agg.injEq] at this
    exact this.symm
  have h1 := he o ho
  rw [hce] at h1
  have hxo : xs[o]? = some (xs[o]'(by omega)) := List.getElem?_eq_getElem (by omega)
  have hro : (rs.map (rowData (H := H)))[o]? = some (xs[o]'(by omega)).1 := by rw [← hag, List.getElem?_map, hxo]; rfl
  rw [List.getElem?_map] at hro
  obtain ⟨r, hr1, hr2⟩ := Option.map_eq_some_iff.1 hro
  rw [hxo] at h1
  have h2 := hrow m _ r _ (h1.trans (by rw [hr2]))
  have h3 := congrArg (fun l => l[j]?) h2
  simp only [List.getElem?_take, List.getElem?_drop, if_pos hj] at h3
  rw [h3, hr1]
  rfl
end
theorem ops_data : (Rows.laid_evergreen_machine_operations : DataW Unit) = .agg ((List.range 12).map fun o => rowData (opName o, ((takesOp o : Nat) : Int), ((putsOp o : Nat) : Int), longOp o, leadOp o)) := by rfl
theorem ops_of_laid {W : World} {r : List (String × DataW Unit)} (h : laidMet Tryd.prog (("evergreen/machine.operations", Rows.laid_evergreen_machine_operations) :: r) W) : OpsIs W := by
  rw [ops_data, show ((List.range 12).map fun o => (rowData (opName o, ((takesOp o : Nat) : Int), ((putsOp o : Nat) : Int), longOp o, leadOp o) : DataW Unit)) = (((List.range 12).map fun o => (opName o, ((takesOp o : Nat) : Int), ((putsOp o : Nat) : Int), longOp o, leadOp o)).map rowData) by rw [List.map_map]; rfl] at h
  obtain ⟨ps, ⟨g0, t0, cs0, f0, p0, q0, hg0, ht0, hv0, hd0, _, e0⟩, _, _⟩ := h
  obtain rfl := Option.some.inj (gOps.symm.trans hg0)
  obtain rfl := Option.some.inj ((show (Tryd.prog.globals[3]?).map (·.type) = some 92 by kernel_rfl).symm.trans ht0)
  intro o ho j hj
  have hc := rows_trod Tryd.underlying92 (by kernel_rfl) (by kernel_rfl)
    (fun fuel cs r p => row_trod Tryd.underlying75 Tryd.underlying9 Tryd.underlying3 Tryd.underlying4 (by kernel_rfl) (by kernel_rfl) (by kernel_rfl) (by kernel_rfl) (by kernel_rfl)) hd0 o ho j hj
  have hv := World.var?_cell gOps hv0 (o * 5 + j)
  rw [hv, ← Array.getElem?_toList, hc, List.getElem?_map, List.getElem?_range ho]
  rfl
theorem env_of_laid {W : World} (h : laidMet Tryd.prog laidC W) (hsh : W.ShapedOpen Tryd.prog) : Env W := by
  unfold laidC at h
  rw [pow_data] at h
  have h2 := h.tail.tail
  have h3 := h2.tail
  have h4 := h3.tail
  refine ⟨ops_of_laid h4.tail, Lib.tabIs_of_head gPow (t := 125) (by kernel_rfl) Tryd.underlying125 Tryd.underlying111 (by kernel_rfl) (by kernel_rfl) h2,
    Go.Proofs.cell_of_shapedOpen_int (zero := #[.int .i64 0]) (t := 3) hsh (of_decide_eq_true (by kernel_rfl)) (by kernel_rfl) rfl (by kernel_rfl) (by kernel_rfl) Tryd.underlying3, ?_, ?_⟩
  · exact sentinel_cell h4 gSyn (by kernel_rfl) Tryd.underlying78
  · exact sentinel_cell h3 gRng (by kernel_rfl) Tryd.underlying78
theorem env_of_C {W : World} (h : laidMetH Tryd.prog laidC W) (hsh : W.ShapedOpen Tryd.prog) : Env W := by
  rw [MakeChecks.laidMetH_plain _ _ _ (by kernel_rfl)] at h
  exact env_of_laid h hsh
end Go.Proofs.YtainohbfcehpoaaDoor
namespace Go.Proofs.YtainohbfcehpoaaDoor
open Go.ChangeShapes Go.WideShapes Go.ChangeAt Go.RowKit

theorem Tryd.kids : Kids Tryd.prog (· < Tryd.prog.types.size) := kids_rows (by kernel_rfl) (by kernel_rfl)
theorem Tryd.full : ∀ t e, t < Tryd.prog.types.size → Tryd.prog.underlying t = some (.slice e) → 0 < Tryd.prog.cellsOf e := slices_full_of Tryd.prog (by kernel_rfl)
theorem text_of (a : ByteArray) : ∃ l : List UInt8, a = str l := ⟨a.data.toList, rfl⟩
theorem u16_of_wf {a : Int} (h : (Lit.int .u16 a).wf = true) : ∃ m : Nat, m < 65536 ∧ a = (m : Int) := by
  have := h
  simp [Lit.wf, IntKind.min, IntKind.max, IntKind.signed, IntKind.bits] at this
  exact ⟨a.toNat, by omega, by omega⟩
theorem u8_of_wf {a : Int} (h : (Lit.int .u8 a).wf = true) : ∃ m : Nat, m < 256 ∧ a = (m : Int) := by
  have := h
  simp [Lit.wf, IntKind.min, IntKind.max, IntKind.signed, IntKind.bits] at this
  exact ⟨a.toNat, by omega, by omega⟩
section
variable {H : Type} {enc : TypeId × Value → H} {w : World} {r : Go.Reach} {b0 : Nat} {v : Value} {d : DataW H} {ps : List MemPlace}
set_option maxRecDepth 100000 in
theorem open_pairs (hval : Value.okWide Tryd.prog w r b0 22 v) (hd : DataW.Trod enc Tryd.prog w 0 (fun _ => true) true 22 v d ps) : ∃ (n : Nat) (zs : List Int), zs.length = n * 2 ∧ (∀ z ∈ zs, I64 z) ∧ SliceAt w w.heap.size v n (zs.map (Value.int .i64)) :=
  open_introws Tryd.underlying22 (k := 2) (by kernel_rfl) (array_row Tryd.underlying54 Tryd.underlying3 (by kernel_rfl)) (Nat.zero_lt_succ _) hval hd
end
end Go.Proofs.YtainohbfcehpoaaDoor
namespace Go.Proofs.YtainohbfcehpoaaDoor
open Go.ChangeShapes Go.WideShapes Go.ChangeAt Go.RowKit

abbrev laidR : List (String × DataW Unit) := ("evergreen/evergreenref08.Takes", Rows.laid_evergreen_evergreenref08_Takes) :: ("evergreen/evergreenref08.Puts", Rows.laid_evergreen_evergreenref08_Puts) :: laidC
theorem shapeR (os : Os) : (World.laidAll Tryd.prog os laidR).Shaped Tryd.prog := World.shaped_of_ZipB (by kernel_rfl) (by kernel_rfl)
theorem door_metR (os : Os) (args : Array Value) : laidMetH Tryd.prog laidR ((World.laidAll Tryd.prog os laidR).forCall (fun _ _ => 0) ⟨#[], args, []⟩).memory := by
  rw [MakeChecks.laidMetH_plain _ _ _ (by kernel_rfl)]; exact laidMet_laidAll _ (by kernel_rfl) (by kernel_rfl)
theorem takes_data : (Rows.laid_evergreen_evergreenref08_Takes : DataW Unit) = Lib.tabData .i64 ((List.range 12).map fun o => ((takesOp o : Nat) : Int)) := by rfl
theorem puts_data : (Rows.laid_evergreen_evergreenref08_Puts : DataW Unit) = Lib.tabData .i64 ((List.range 12).map fun o => ((putsOp o : Nat) : Int)) := by rfl
theorem gTakes : Tryd.prog.globalNamed "evergreen/evergreenref08.Takes" = some 0 := by kernel_rfl
theorem gPuts : Tryd.prog.globalNamed "evergreen/evergreenref08.Puts" = some 1 := by kernel_rfl
theorem tab12 {W : World} {name : String} {g : Nat} {f : Nat → Nat} (h : Lib.TabIs Tryd.prog W name .i64 ((List.range 12).map fun o => ((f o : Nat) : Int))) (hg : Tryd.prog.globalNamed name = some g) :
    ∀ o, o < 12 → W.cell? ⟨g, o, none⟩ = some (.int .i64 (f o : Nat)) := fun o ho => by
  have := h.cell hg o (by simpa using ho)
  rw [this, List.getD_eq_getElem?_getD, List.getElem?_map, List.getElem?_range ho]
  rfl
theorem envR_of_laid {W : World} (h : laidMet Tryd.prog laidR W) (hsh : W.ShapedOpen Tryd.prog) : EnvR W := by
  unfold laidR at h
  rw [takes_data, puts_data] at h
  exact ⟨env_of_laid h.tail.tail hsh,
    tab12 (Lib.tabIs_of_head gTakes (t := 44) (by kernel_rfl) Tryd.underlying44 Tryd.underlying3 (by kernel_rfl) (by kernel_rfl) h) gTakes,
    tab12 (Lib.tabIs_of_head gPuts (t := 44) (by kernel_rfl) Tryd.underlying44 Tryd.underlying3 (by kernel_rfl) (by kernel_rfl) h.tail) gPuts⟩
theorem env_of_R {W : World} (h : laidMetH Tryd.prog laidR W) (hsh : W.ShapedOpen Tryd.prog) : EnvR W := by
  rw [MakeChecks.laidMetH_plain _ _ _ (by kernel_rfl)] at h
  exact envR_of_laid h hsh
end Go.Proofs.YtainohbfcehpoaaDoor
namespace Go.Proofs.YtainohbfcehpoaaDoor
open Go.ChangeShapes Go.WideShapes Go.ChangeAt Go.RowKit

abbrev laidN : List (String × DataW Unit) := ("evergreen/evergreenref08.Names", Rows.laid_evergreen_evergreenref08_Names) :: laidR
theorem shapeN (os : Os) : (World.laidAll Tryd.prog os laidN).Shaped Tryd.prog := World.shaped_of_ZipB (by kernel_rfl) (by kernel_rfl)
theorem door_metN (os : Os) (args : Array Value) : laidMetH Tryd.prog laidN ((World.laidAll Tryd.prog os laidN).forCall (fun _ _ => 0) ⟨#[], args, []⟩).memory := by
  rw [MakeChecks.laidMetH_plain _ _ _ (by kernel_rfl)]; exact laidMet_laidAll _ (by kernel_rfl) (by kernel_rfl)
theorem names_data : (Rows.laid_evergreen_evergreenref08_Names : DataW Unit) = .agg ((List.range 12).map fun o => .lit (.string (opName o))) := by rfl
theorem gNames : Tryd.prog.globalNamed "evergreen/evergreenref08.Names" = some 2 := by kernel_rfl
theorem names_of_laid {W : World} {r : List (String × DataW Unit)} (h : laidMet Tryd.prog (("evergreen/evergreenref08.Names", Rows.laid_evergreen_evergreenref08_Names) :: r) W) :
    ∀ o, o < 12 → W.cell? ⟨2, o, none⟩ = some (.string (str (opName o))) := by
  rw [names_data] at h
  obtain ⟨ps, ⟨g0, t0, cs0, f0, p0, q0, hg0, ht0, hv0, hd0, _, e0⟩, _, _⟩ := h
  obtain rfl := Option.some.inj (gNames.symm.trans hg0)
  obtain rfl := Option.some.inj ((show (Tryd.prog.globals[2]?).map (·.type) = some 83 by kernel_rfl).symm.trans ht0)
  intro o ho
  obtain ⟨xs, m, _, hx, hl, hlen, he⟩ := DataW.trod_array Tryd.underlying83 hd0
  have hag : xs.map (·.1) = (List.range 12).map fun o => (DataW.lit (.string (opName o)) : DataW Unit) := by
    have := congrArg Prod.fst hx
    simp only [DataW.agg.injEq] at this
    exact this.symm
  have h1 := he o ho
  rw [show Tryd.prog.cellsOf 9 = 1 by kernel_rfl, Nat.mul_one] at h1
  have hxo : xs[o]? = some (xs[o]'(by omega)) := List.getElem?_eq_getElem (by omega)
  have hro : ((List.range 12).map fun o => (DataW.lit (.string (opName o)) : DataW Unit))[o]? = some (xs[o]'(by omega)).1 := by rw [← hag, List.getElem?_map, hxo]; rfl
  rw [List.getElem?_map, List.getElem?_range ho] at hro
  injection hro with hro
  rw [hxo] at h1
  obtain ⟨s, hcs, hxs, _⟩ := DataW.trod_string Tryd.underlying9 h1
  rw [hxs] at hro
  simp only [DataW.lit.injEq, Lit.string.injEq] at hro
  have hv := World.var?_cell gNames hv0 o
  have hc := congrArg (fun l => l[0]?) hcs
  simp only [List.getElem?_take, List.getElem?_drop, Nat.add_zero] at hc
  rw [hv, ← Array.getElem?_toList]
  have hs : s = str (opName o) := by rw [hro]; rfl
  rw [← hs]
  simpa using hc
theorem env_of_N {W : World} (h : laidMetH Tryd.prog laidN W) (hsh : W.ShapedOpen Tryd.prog) : EnvN W := by
  rw [MakeChecks.laidMetH_plain _ _ _ (by kernel_rfl)] at h
  unfold laidN at h
  exact ⟨envR_of_laid h.tail hsh, names_of_laid h⟩
end Go.Proofs.YtainohbfcehpoaaDoor
