/-
  What the rows' condition gives where it names two variables: digest.round and ratio.errMisfit.
-/
import Derived.Test.YtjlldolmlfgejaaDoorLaid
namespace Go.Proofs.YtjlldolmlfgejaaDoor
open Go.ChangeShapes Go.WideShapes Go.ChangeAt Go.RowKit

abbrev laid2 : List (String × DataW Unit) := [("evergreen/digest.round", Rows.laid_evergreen_digest_round), ("evergreen/ratio.errMisfit", Rows.laid_evergreen_ratio_errMisfit)]
theorem door_met2 (os : Os) (args : Array Value) : laidMetH Tryd.prog laid2 ((World.doorLaid Tryd.prog 400 os).forCall (fun _ _ => 0) ⟨#[], args, []⟩).memory :=
  laidMetH_of_parts3 (fuel := 8) (laidMet_of_run' 8 (by kernel_rfl) (by kernel_rfl)) (by kernel_rfl) (by kernel_rfl)
theorem round_of_laid2 {W : World} (h : laidMetH Tryd.prog laid2 W) : W.rangeAt 0 0 (u32s KS) := by
  rw [MakeChecks.laidMetH_plain _ _ _ (by kernel_rfl)] at h
  unfold laid2 at h
  rw [round_data] at h
  have hT := Lib.tabIs_of_head gRound (t := 96) (by kernel_rfl) Tryd.underlying96 Tryd.underlying71 (by kernel_rfl) (by kernel_rfl) h
  intro j v hv
  have hj : j < KS.length := by
    rcases Nat.lt_or_ge j KS.length with h' | h'
    · exact h'
    · rw [u32s, List.getElem?_map, List.getElem?_eq_none h'] at hv; cases hv
  rw [Nat.zero_add, hT.cell gRound j hj]
  rw [u32s, List.getElem?_map, List.getElem?_eq_getElem hj] at hv
  simp only [Option.map_some] at hv
  rw [← hv, List.getD_eq_getElem?_getD, List.getElem?_eq_getElem hj]
  rfl
end Go.Proofs.YtjlldolmlfgejaaDoor
