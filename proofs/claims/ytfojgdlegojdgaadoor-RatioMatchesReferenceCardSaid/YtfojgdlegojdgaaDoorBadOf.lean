/-
  Where a fraction is not valid: of panics with errMisfit.
-/
import Derived.Test.YtfojgdlegojdgaaDoorClamp
import Derived.Test.YtfojgdlegojdgaaDoorIsE
import Derived.WalkLawsBesides
namespace Go.Proofs.YtfojgdlegojdgaaDoor
open Go.RowKit

/-- The sentinel. -/
def misV (a : Addr) : Value := .iface 129 (.pointer (some a))
def Mis (w : World) (a : Addr) : Prop := w.cell? ⟨0, 0, none⟩ = some (misV a)
theorem Mis.below {w w' : World} {a : Addr} (h : Mis w a) (hb : Below w.heap.size w w') : Mis w' a := (hb.cell (World.block_lt_of_cell? w _ h)).trans h
/-- What panics. -/
def misE (a : Addr) : Ending := .panicked [{ v := misV a, recovered := false }]

set_option maxRecDepth 100000 in
set_option maxHeartbeats 1000000 in
theorem of_bad (a b : Int) (w : World) (ha : I64 a) (hb : I64 b) (h : vld a b = false) (p : Addr) (hM : Mis w p) :
    Calls Tryd.prog 51 #[rv a b] w fun e w' => e = misE p ∧ Below w.heap.size w w' := by
  have hB : Below w.heap.size w w := Below.refl _ _
  have hV := Lib.hid (fun w => Valid_b a b w ha hb)
  have hv := Lib.hid h
  have hM2 : ∀ W, Below w.heap.size w W → W.cell? ⟨0, 0, none⟩ = some (.iface 129 (.pointer (some p))) := fun W hW => hM.below hW
  replace hM2 := Lib.hid hM2
  go_enter Tryd.func51, Tryd.ntmps51
  go_wp2_with fail
  refine name_calls ?_
  intro w1 hww1
  have hBzw1 := hB.size
  replace hB : Below w.heap.size w w1 := by rw [hww1]; exact (by repeat first | with_reducible exact Below.refl _ _ | with_reducible assumption | with_reducible refine below_drewN ?_ _ | with_reducible refine Below.drew ?_ | with_reducible refine Below.setCell ?_ (by first | exact Nat.le_refl _ | (simp; done) | (simp; omega) | omega) _ | with_reducible refine Below.alloc ?_ (by first | exact Nat.le_refl _ | (simp; done) | (simp; omega) | omega) _ | exact Below.refl _ _ | assumption)
  clear hww1 hBzw1
  refine (hV.out _).mono ?_
  rintro e w2 ⟨rfl, hb1⟩
  replace hB := hB.trans (hb1.mono hB.size)
  have hb_w2 := hb1
  clear hb1
  rw [hv.out]
  have c0 := hM2.out _ hB
  go_wp2
  exact ⟨rfl, rfl, hB⟩
end Go.Proofs.YtfojgdlegojdgaaDoor
