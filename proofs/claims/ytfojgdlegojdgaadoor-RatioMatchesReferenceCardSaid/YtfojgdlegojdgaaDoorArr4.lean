/-
  An array of four integers among the arguments of a law, opened and shut; errMisfit out of the row's condition.
-/
import Derived.Test.YtfojgdlegojdgaaDoorLaid3
import Derived.Test.YtfojgdlegojdgaaDoorBadOf
namespace Go.Proofs.YtfojgdlegojdgaaDoor
open Go.ChangeShapes Go.WideShapes Go.ChangeAt Go.RowKit

section
variable {H : Type} {enc : TypeId × Value → H}
abbrev fourv (a b c d : Int) : Value := .agg #[.int .i64 a, .int .i64 b, .int .i64 c, .int .i64 d]
theorem okWide_array {P : Program} {w : World} {r : Reach} {base : Nat} {t : TypeId} {v : Value} {n : Nat} {e : TypeId} (ht : P.underlying t = some (.array n e)) (h : Value.okWide P w r base t v) : ∃ cs, v = .agg cs ∧ cs.size = P.cellsOf t := by
  simp only [Value.okWide, ht] at h
  obtain ⟨cs, h1, h2, _⟩ := h
  exact ⟨cs, h1, h2⟩
theorem list4 {α : Type} {l : List α} (h : l.length = 4) : ∃ a b c d, l = [a, b, c, d] := by
  match l, h with
  | [a, b, c, d], _ => exact ⟨a, b, c, d, rfl⟩
/-- What four numbers read as. -/
def four (a b c d : Int) : DataW H := .agg [.lit (.int .i64 a), .lit (.int .i64 b), .lit (.int .i64 c), .lit (.int .i64 d)]
set_option maxRecDepth 100000 in
theorem open_four {w : World} {r : Reach} {base : Nat} {sp : Nat → Bool} {v : Value} {d : DataW H} {p : List MemPlace}
    (hv : Value.okWide Tryd.prog w r base 48 v) (h : DataW.Trod enc Tryd.prog w 0 sp true 48 v d p) :
    ∃ x0 x1 x2 x3, v = fourv x0 x1 x2 x3 ∧ d = four x0 x1 x2 x3 ∧ p = [] ∧ (Lit.int .i64 x0).wf = true ∧ (Lit.int .i64 x1).wf = true ∧ (Lit.int .i64 x2).wf = true ∧ (Lit.int .i64 x3).wf = true := by
  obtain ⟨cs, rfl, hsz⟩ := okWide_array Tryd.underlying48 hv
  rw [show Tryd.prog.cellsOf 48 = 4 from by kernel_rfl] at hsz
  obtain ⟨l⟩ := cs
  obtain ⟨c0, c1, c2, c3, rfl⟩ := list4 (l := l) (by simpa using hsz)
  obtain ⟨fuel, hf⟩ := h
  obtain ⟨xs, m, rfl, hx, _, hl, hi⟩ := DataW.trod_array Tryd.underlying48 hf
  have h0 := hi 0 (by omega)
  have h1 := hi 1 (by omega)
  have h2 := hi 2 (by omega)
  have h3 := hi 3 (by omega)
  rw [show Tryd.prog.cellsOf 3 = 1 from by kernel_rfl] at h0 h1 h2 h3
  obtain ⟨y0, y1, y2, y3, rfl⟩ := list4 hl
  · simp [Value.cells] at h0 h1 h2 h3
    obtain ⟨x0, e0, rfl, w0⟩ := DataW.trod_int Tryd.underlying3 h0
    obtain ⟨x1, e1, rfl, w1⟩ := DataW.trod_int Tryd.underlying3 h1
    obtain ⟨x2, e2, rfl, w2⟩ := DataW.trod_int Tryd.underlying3 h2
    obtain ⟨x3, e3, rfl, w3⟩ := DataW.trod_int Tryd.underlying3 h3
    simp at e0 e1 e2 e3
    subst e0 e1 e2 e3
    simp only [Prod.mk.injEq] at hx
    exact ⟨x0, x1, x2, x3, rfl, hx.1, by rw [hx.2]; rfl, w0, w1, w2, w3⟩
set_option maxRecDepth 100000 in
theorem shut_four {w : World} {sp : Nat → Bool} {x0 x1 x2 x3 : Int} (w0 : (Lit.int .i64 x0).wf = true) (w1 : (Lit.int .i64 x1).wf = true) (w2 : (Lit.int .i64 x2).wf = true) (w3 : (Lit.int .i64 x3).wf = true) :
    DataW.Trod enc Tryd.prog w 0 sp true 48 (fourv x0 x1 x2 x3) (four x0 x1 x2 x3) [] := by
  refine ⟨2, ?_⟩
  have e1 : Tryd.prog.cellsOf 3 = 1 := by kernel_rfl
  have e4 : Tryd.prog.cellsOf 48 = 4 := by kernel_rfl
  simp [DataW.trod, Tryd.underlying48, Tryd.underlying3, e1, e4, Value.cells, List.range, List.range.loop, w0, w1, w2, w3, four]
end
theorem gMis : Tryd.prog.globalNamed "evergreen/ratio.errMisfit" = some 0 := by kernel_rfl
theorem star_err : "*errors.errorString" = "*" ++ "errors.errorString" := by decide
theorem mis_row (u : TypeId) (h : Tryd.prog.typeName? 3 u = some "*errors.errorString") : u = 129 :=
  typeName_ptr_named (nm := "errors.errorString") (by rw [← star_err]; kernel_rfl) (by kernel_rfl) (by decide) u (by rw [← star_err]; exact h)
theorem mis_of_laid {W : World} (h : laidMetH Tryd.prog laid3 W) : ∃ p, Mis W p := by
  rw [MakeChecks.laidMetH_plain _ _ _ (by kernel_rfl)] at h
  unfold laid3 at h
  have h5 := h.tail.tail.tail.tail.tail
  obtain ⟨a, s, hv, _⟩ := laid_sentinel h5 gMis (by kernel_rfl) Tryd.underlying58 mis_row Tryd.underlying129 Tryd.underlying131 rfl rfl Tryd.underlying9 (by kernel_rfl) (by kernel_rfl)
  exact ⟨a, by unfold Mis misV; simpa using World.var?_cell gMis hv 0⟩
end Go.Proofs.YtfojgdlegojdgaaDoor
