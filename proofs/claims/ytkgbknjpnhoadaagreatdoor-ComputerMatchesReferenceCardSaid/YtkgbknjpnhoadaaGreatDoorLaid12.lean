/-
  What the rows' condition gives at chapter 12: the library's variables that are read.
-/
import Derived.Test.YtkgbknjpnhoadaaGreatDoorLaidQ
import Derived.Test.YtkgbknjpnhoadaaGreatDoorCqG
import Derived.Lay
namespace Go.Proofs.YtkgbknjpnhoadaaGreatDoor
open Go.ChangeShapes Go.WideShapes Go.ChangeAt Go.RowKit

abbrev laid12 : List (String × DataW Unit) := [("math/bits.deBruijn32tab", Rows.laid_math_bits_deBruijn32tab), ("math/bits.deBruijn64tab", Rows.laid_math_bits_deBruijn64tab), ("internal/strconv.uint64pow10", Rows.laid_internal_strconv_uint64pow10), ("unicode/utf8.acceptRanges", Rows.laid_unicode_utf8_acceptRanges), ("strconv.ErrRange", Rows.laid_strconv_ErrRange), ("strconv.ErrSyntax", Rows.laid_strconv_ErrSyntax), ("unicode.White_Space", Rows.laid_unicode_White_Space), ("strings.asciiSpace", Rows.laid_strings_asciiSpace), ("unicode/utf8.first", Rows.laid_unicode_utf8_first)]
theorem shape12 (os : Os) : (World.laidAll Tryz.prog os laid12).Shaped Tryz.prog := World.shaped_of_ZipB (by kernel_rfl) (by kernel_rfl)
theorem door_met12 (os : Os) (args : Array Value) : laidMetH Tryz.prog laid12 ((World.laidAll Tryz.prog os laid12).forCall (fun _ _ => 0) ⟨#[], args, []⟩).memory := by
  rw [MakeChecks.laidMetH_plain _ _ _ (by kernel_rfl)]; exact laidMet_laidAll _ (by kernel_rfl) (by kernel_rfl)
theorem pow_data : (Rows.laid_internal_strconv_uint64pow10 : DataW Unit) = Lib.tabData .u64 Lib.pow10Tab := by rfl
theorem sp_data : (Rows.laid_strings_asciiSpace : DataW Unit) = Lib.tabData .u8 Lib.asciiSpaceTab := by kernel_rfl
theorem gPow : Tryz.prog.globalNamed "internal/strconv.uint64pow10" = some 5 := by kernel_rfl
theorem gSp : Tryz.prog.globalNamed "strings.asciiSpace" = some 0 := by kernel_rfl
theorem gSyn : Tryz.prog.globalNamed "strconv.ErrSyntax" = some 3 := by kernel_rfl
theorem gRng : Tryz.prog.globalNamed "strconv.ErrRange" = some 4 := by kernel_rfl
theorem sentinel_cell {P : Program} {n nm : String} {d : DataW Unit} {r : List (String × DataW Unit)} {W : World} {g : Nat} {ti : TypeId} {ms : Array (String × TypeId)}
    (h : laidMet P ((n, .iface nm d) :: r) W) (hg : P.globalNamed n = some g) (ht : (P.globals[g]?).map (·.type) = some ti) (hi : P.underlying ti = some (.interface ms)) :
    ∃ u v, W.cell? ⟨g, 0, none⟩ = some (.iface u v) := by
  obtain ⟨ps, ⟨g0, t0, cs0, f0, p0, q0, hg0, ht0, hv0, hd0, _, e0⟩, _, _⟩ := h
  obtain rfl := Option.some.inj (hg.symm.trans hg0)
  obtain rfl := Option.some.inj (ht.symm.trans ht0)
  obtain ⟨l0⟩ := cs0
  obtain ⟨_, u, v, hl, _, _⟩ := iface_of_trod hi hd0
  obtain rfl : l0 = [.iface u v] := hl
  exact ⟨u, v, by simpa using World.var?_cell hg0 hv0 0⟩
theorem env_of_laid {W : World} (h : laidMetH Tryz.prog laid12 W) (hsh : W.ShapedOpen Tryz.prog) : Env W := by
  rw [MakeChecks.laidMetH_plain _ _ _ (by kernel_rfl)] at h
  unfold laid12 at h
  rw [pow_data, sp_data] at h
  have h1 := h.tail.tail
  have h4 := h1.tail.tail
  have h5 := h4.tail
  have h7 := h5.tail.tail
  refine ⟨Lib.tabIs_of_head gPow (t := 173) (by kernel_rfl) Tryz.underlying173 Tryz.underlying95 (by kernel_rfl) (by kernel_rfl) h1,
    Lib.tabIs_of_head gSp (t := 75) (by kernel_rfl) Tryz.underlying75 Tryz.underlying5 (by kernel_rfl) (by kernel_rfl) h7, Tryz.laysM146.s1_3 W hsh, ?_, ?_⟩
  · exact sentinel_cell h5 gSyn (by kernel_rfl) Tryz.underlying59
  · exact sentinel_cell h4 gRng (by kernel_rfl) Tryz.underlying59
end Go.Proofs.YtkgbknjpnhoadaaGreatDoor
