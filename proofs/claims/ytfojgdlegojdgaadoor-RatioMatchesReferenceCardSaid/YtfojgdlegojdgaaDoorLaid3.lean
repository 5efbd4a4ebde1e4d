/-
  What the rows' condition gives at chapter 3: the library's variables that are read.
-/
import Derived.Test.YtfojgdlegojdgaaDoorLaidG
import Derived.Test.YtfojgdlegojdgaaDoorNum
namespace Go.Proofs.YtfojgdlegojdgaaDoor
open Go.ChangeShapes Go.WideShapes Go.ChangeAt Go.RowKit

abbrev laid3 : List (String × DataW Unit) := [("math/bits.deBruijn32tab", Rows.laid_math_bits_deBruijn32tab), ("math/bits.deBruijn64tab", Rows.laid_math_bits_deBruijn64tab), ("internal/strconv.uint64pow10", Rows.laid_internal_strconv_uint64pow10), ("strconv.ErrRange", Rows.laid_strconv_ErrRange), ("strconv.ErrSyntax", Rows.laid_strconv_ErrSyntax), ("evergreen/ratio.errMisfit", Rows.laid_evergreen_ratio_errMisfit)]
theorem door_met3 (os : Os) (args : Array Value) : laidMetH Tryd.prog laid3 ((World.doorLaid Tryd.prog 400 os).forCall (fun _ _ => 0) ⟨#[], args, []⟩).memory :=
  laidMetH_of_parts3 (fuel := 8) (laidMet_of_run' 8 (by kernel_rfl) (by kernel_rfl)) (by kernel_rfl) (by kernel_rfl)
theorem pow_data : (Rows.laid_internal_strconv_uint64pow10 : DataW Unit) = Lib.tabData .u64 Lib.pow10Tab := by rfl
theorem gPow : Tryd.prog.globalNamed "internal/strconv.uint64pow10" = some 4 := by kernel_rfl
theorem gSyn : Tryd.prog.globalNamed "strconv.ErrSyntax" = some 2 := by kernel_rfl
theorem gRng : Tryd.prog.globalNamed "strconv.ErrRange" = some 3 := by kernel_rfl
theorem sentinel_cell {P : Program} {n nm : String} {d : DataW Unit} {r : List (String × DataW Unit)} {W : World} {g : Nat} {ti : TypeId} {ms : Array (String × TypeId)}
    (h : laidMet P ((n, .iface nm d) :: r) W) (hg : P.globalNamed n = some g) (ht : (P.globals[g]?).map (·.type) = some ti) (hi : P.underlying ti = some (.interface ms)) :
    ∃ u v, W.cell? ⟨g, 0, none⟩ = some (.iface u v) := by
  obtain ⟨ps, ⟨g0, t0, cs0, f0, p0, q0, hg0, ht0, hv0, hd0, _, e0⟩, _, _⟩ := h
  obtain rfl := Option.some.inj (hg.symm.trans hg0)
  obtain rfl := Option.some.inj (ht.symm.trans ht0)
  obtain ⟨l0⟩ := cs0
  obtain ⟨_, u, v, hl, _, _⟩ := iface_of_trod hi hd0
  obtain rfl : l0 = [.iface u v] := hl
  exact ⟨u, v, by simpa using World.var?_cell hg0 hv0 0⟩
theorem env_of_laid {W : World} (h : laidMetH Tryd.prog laid3 W) (hsh : W.ShapedOpen Tryd.prog) : Env W := by
  rw [MakeChecks.laidMetH_plain _ _ _ (by kernel_rfl)] at h
  unfold laid3 at h
  rw [pow_data] at h
  have h1 := h.tail.tail
  have h2 := h1.tail
  have h3 := h2.tail
  refine ⟨Lib.tabIs_of_head gPow (t := 120) (by kernel_rfl) Tryd.underlying120 Tryd.underlying63 (by kernel_rfl) (by kernel_rfl) h1, Tryd.laysM145.s1_3 W hsh, ?_, ?_⟩
  · exact sentinel_cell h3 gSyn (by kernel_rfl) Tryd.underlying58
  · exact sentinel_cell h2 gRng (by kernel_rfl) Tryd.underlying58
end Go.Proofs.YtfojgdlegojdgaaDoor
