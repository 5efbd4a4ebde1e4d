/-
  What the rows' condition gives at chapter 8, the reference's tables too.
-/
import Derived.Test.YtainohbfcehpoaaDoorStay08
import Derived.Test.YtainohbfcehpoaaDoorMdA
namespace Go.Proofs.YtainohbfcehpoaaDoor
open Go.ChangeShapes Go.WideShapes Go.ChangeAt Go.RowKit

abbrev laidR : List (String × DataW Unit) := ("evergreen/evergreenref08.Takes", Rows.laid_evergreen_evergreenref08_Takes) :: ("evergreen/evergreenref08.Puts", Rows.laid_evergreen_evergreenref08_Puts) :: laidC
theorem shapeR (os : Os) : (World.laidAll Tryd.prog os laidR).Shaped Tryd.prog := World.shaped_of_ZipB (by kernel_rfl) (by kernel_rfl)
theorem door_metR (os : Os) (args : Array Value) : laidMetH Tryd.prog laidR ((World.laidAll Tryd.prog os laidR).forCall (fun _ _ => 0) ⟨#[], args, []⟩).memory := by
  rw [MakeChecks.laidMetH_plain _ _ _ (by kernel_rfl)]; exact laidMet_laidAll _ (by kernel_rfl) (by kernel_rfl)
theorem takes_data : (Rows.laid_evergreen_evergreenref08_Takes : DataW Unit) = Lib.tabData .i64 ((List.range 12).map fun o => ((takesOp o : Nat) : Int)) := by rfl
theorem puts_data : (Rows.laid_evergreen_evergreenref08_Puts : DataW Unit) = Lib.tabData .i64 ((List.range 12).map fun o => ((putsOp o : Nat) : Int)) := by rfl
theorem gTakes : Tryd.prog.globalNamed "evergreen/evergreenref08.Takes" = some 0 := by kernel_rfl
theorem gPuts : Tryd.prog.globalNamed "evergreen/evergreenref08.Puts" = some 1 := by kernel_rfl
theorem tab12 {W : World} {name : String} {g : Nat} {f : Nat → Nat} (h : Lib.TabIs Tryd.prog W name .i64 ((List.range 12).map fun o => ((f o : Nat) : Int))) (hg : Tryd.prog.globalNamed name = some g) :
    ∀ o, o < 12 → W.cell? ⟨g, o, none⟩ = some (.int .i64 (f o : Nat)) := fun o ho => by
  have := h.cell hg o (by simpa using ho)
  rw [this, List.getD_eq_getElem?_getD, List.getElem?_map, List.getElem?_range ho]
  rfl
theorem envR_of_laid {W : World} (h : laidMet Tryd.prog laidR W) (hsh : W.ShapedOpen Tryd.prog) : EnvR W := by
  unfold laidR at h
  rw [takes_data, puts_data] at h
  exact ⟨env_of_laid h.tail.tail hsh,
    tab12 (Lib.tabIs_of_head gTakes (t := 44) (by kernel_rfl) Tryd.underlying44 Tryd.underlying3 (by kernel_rfl) (by kernel_rfl) h) gTakes,
    tab12 (Lib.tabIs_of_head gPuts (t := 44) (by kernel_rfl) Tryd.underlying44 Tryd.underlying3 (by kernel_rfl) (by kernel_rfl) h.tail) gPuts⟩
theorem env_of_R {W : World} (h : laidMetH Tryd.prog laidR W) (hsh : W.ShapedOpen Tryd.prog) : EnvR W := by
  rw [MakeChecks.laidMetH_plain _ _ _ (by kernel_rfl)] at h
  exact envR_of_laid h hsh
end Go.Proofs.YtainohbfcehpoaaDoor
