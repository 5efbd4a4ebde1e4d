/-
  What the rows' condition gives at chapter 8, the reference's tables too.
  What the rows' condition gives at chapter 8, the reference's names too.
-/
import Derived.Test.YtainohbfcehpoaaDoorStay08
import Derived.Test.YtainohbfcehpoaaDoorMdA
import Derived.Test.YtainohbfcehpoaaDoorMyP
namespace Go.Proofs.YtainohbfcehpoaaDoor
open Go.ChangeShapes Go.WideShapes Go.ChangeAt Go.RowKit

abbrev laidR : List (String × DataW Unit) := ("evergreen/evergreenref08.Takes", Rows.laid_evergreen_evergreenref08_Takes) :: ("evergreen/evergreenref08.Puts", Rows.laid_evergreen_evergreenref08_Puts) :: laidC
theorem shapeR (os : Os) : (World.laidAll Tryd.prog os laidR).Shaped Tryd.prog := World.shaped_of_ZipB (by kernel_rfl) (by kernel_rfl)
theorem door_metR (os : Os) (args : Array Value) : laidMetH Tryd.prog laidR ((World.laidAll Tryd.prog os laidR).forCall (fun _ _ => 0) ⟨#[], args, []⟩).memory := by
  rw [MakeChecks.laidMetH_plain _ _ _ (by kernel_rfl)]; exact laidMet_laidAll _ (by kernel_rfl) (by kernel_rfl)
theorem takes_data : (Rows.laid_evergreen_evergreenref08_Takes : DataW Unit) = Lib.tabData .i64 ((List.range 12).map fun o => ((takesOp o : Nat) : Int)) := by rfl
theorem puts_data : (Rows.laid_evergreen_evergreenref08_Puts : DataW Unit) = Lib.tabData .i64 ((List.range 12).map fun o => ((putsOp o : Nat) : Int)) := by rfl
theorem gTakes : Tryd.prog.globalNamed "evergreen/evergreenref08.Takes" = some 0 := by kernel_rfl
theorem gPuts : Tryd.prog.globalNamed "evergreen/evergreenref08.Puts" = some 1 := by kernel_rfl
theorem tab12 {W : World} {name : String} {g : Nat} {f : Nat → Nat} (h : Lib.TabIs Tryd.prog W name .i64 ((List.range 12).map fun o => ((f o : Nat) : Int))) (hg : Tryd.prog.globalNamed name = some g) :
    ∀ o, o < 12 → W.cell? ⟨g, o, none⟩ = some (.int .i64 (f o : Nat)) := fun o ho => by
  have := h.cell hg o (by simpa using ho)
  rw [this, List.getD_eq_getElem?_getD, List.getElem?_map, List.getElem?_range ho]
  rfl
theorem envR_of_laid {W : World} (h : laidMet Tryd.prog laidR W) (hsh : W.ShapedOpen Tryd.prog) : EnvR W := by
  unfold laidR at h
  rw [takes_data, puts_data] at h
  exact ⟨env_of_laid h.tail.tail hsh,
    tab12 (Lib.tabIs_of_head gTakes (t := 44) (by kernel_rfl) Tryd.underlying44 Tryd.underlying3 (by kernel_rfl) (by kernel_rfl) h) gTakes,
    tab12 (Lib.tabIs_of_head gPuts (t := 44) (by kernel_rfl) Tryd.underlying44 Tryd.underlying3 (by kernel_rfl) (by kernel_rfl) h.tail) gPuts⟩
theorem env_of_R {W : World} (h : laidMetH Tryd.prog laidR W) (hsh : W.ShapedOpen Tryd.prog) : EnvR W := by
  rw [MakeChecks.laidMetH_plain _ _ _ (by kernel_rfl)] at h
  exact envR_of_laid h hsh
end Go.Proofs.YtainohbfcehpoaaDoor
namespace Go.Proofs.YtainohbfcehpoaaDoor
open Go.ChangeShapes Go.WideShapes Go.ChangeAt Go.RowKit

abbrev laidN : List (String × DataW Unit) := ("evergreen/evergreenref08.Names", Rows.laid_evergreen_evergreenref08_Names) :: laidR
theorem shapeN (os : Os) : (World.laidAll Tryd.prog os laidN).Shaped Tryd.prog := World.shaped_of_ZipB (by kernel_rfl) (by kernel_rfl)
theorem door_metN (os : Os) (args : Array Value) : laidMetH Tryd.prog laidN ((World.laidAll Tryd.prog os laidN).forCall (fun _ _ => 0) ⟨#[], args, []⟩).memory := by
  rw [MakeChecks.laidMetH_plain _ _ _ (by kernel_rfl)]; exact laidMet_laidAll _ (by kernel_rfl) (by kernel_rfl)
theorem names_data : (Rows.laid_evergreen_evergreenref08_Names : DataW Unit) = .agg ((List.range 12).map fun o => .lit (.string (opName o))) := by rfl
theorem gNames : Tryd.prog.globalNamed "evergreen/evergreenref08.Names" = some 2 := by kernel_rfl
theorem names_of_laid {W : World} {r : List (String × DataW Unit)} (h : laidMet Tryd.prog (("evergreen/evergreenref08.Names", Rows.laid_evergreen_evergreenref08_Names) :: r) W) :
    ∀ o, o < 12 → W.cell? ⟨2, o, none⟩ = some (.string (str (opName o))) := by
  rw [names_data] at h
  obtain ⟨ps, ⟨g0, t0, cs0, f0, p0, q0, hg0, ht0, hv0, hd0, _, e0⟩, _, _⟩ := h
  obtain rfl := Option.some.inj (gNames.symm.trans hg0)
  obtain rfl := Option.some.inj ((show (Tryd.prog.globals[2]?).map (·.type) = some 83 by kernel_rfl).symm.trans ht0)
  intro o ho
  obtain ⟨xs, m, _, hx, hl, hlen, he⟩ := DataW.trod_array Tryd.underlying83 hd0
  have hag : xs.map (·.1) = (List.range 12).map fun o => (DataW.lit (.string (opName o)) : DataW Unit) := by
    have := congrArg Prod.fst hx
    simp only [DataW.agg.injEq] at this
    exact this.symm
  have h1 := he o ho
  rw [show Tryd.prog.cellsOf 9 = 1 by kernel_rfl, Nat.mul_one] at h1
  have hxo : xs[o]? = some (xs[o]'(by omega)) := List.getElem?_eq_getElem (by omega)
  have hro : ((List.range 12).map fun o => (DataW.lit (.string (opName o)) : DataW Unit))[o]? = some (xs[o]'(by omega)).1 := by rw [← hag, List.getElem?_map, hxo]; rfl
  rw [List.getElem?_map, List.getElem?_range ho] at hro
  injection hro with hro
  rw [hxo] at h1
  obtain ⟨s, hcs, hxs, _⟩ := DataW.trod_string Tryd.underlying9 h1
  rw [hxs] at hro
  simp only [DataW.lit.injEq, Lit.string.injEq] at hro
  have hv := World.var?_cell gNames hv0 o
  have hc := congrArg (fun l => l[0]?) hcs
  simp only [List.getElem?_take, List.getElem?_drop, Nat.add_zero] at hc
  rw [hv, ← Array.getElem?_toList]
  have hs : s = str (opName o) := by rw [hro]; rfl
  rw [← hs]
  simpa using hc
theorem env_of_N {W : World} (h : laidMetH Tryd.prog laidN W) (hsh : W.ShapedOpen Tryd.prog) : EnvN W := by
  rw [MakeChecks.laidMetH_plain _ _ _ (by kernel_rfl)] at h
  unfold laidN at h
  exact ⟨envR_of_laid h.tail hsh, names_of_laid h⟩
end Go.Proofs.YtainohbfcehpoaaDoor
