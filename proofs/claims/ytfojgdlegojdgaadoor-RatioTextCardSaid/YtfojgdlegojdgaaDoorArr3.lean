/-
  Arrays of integers among the arguments of a law: three pairs, and four numbers, opened and shut.
-/
import Derived.Test.YtfojgdlegojdgaaDoorLaidG
import Derived.Test.YtfojgdlegojdgaaDoorMade
namespace Go.Proofs.YtfojgdlegojdgaaDoor
open Go.ChangeShapes Go.WideShapes Go.ChangeAt Go.RowKit

section
variable {H : Type} {enc : TypeId × Value → H}
theorem okWide_array {P : Program} {w : World} {r : Reach} {base : Nat} {t : TypeId} {v : Value} {n : Nat} {e : TypeId} (ht : P.underlying t = some (.array n e)) (h : Value.okWide P w r base t v) : ∃ cs, v = .agg cs ∧ cs.size = P.cellsOf t := by
  simp only [Value.okWide, ht] at h
  obtain ⟨cs, h1, h2, _⟩ := h
  exact ⟨cs, h1, h2⟩
theorem list2 {α : Type} {l : List α} (h : l.length = 2) : ∃ a b, l = [a, b] := by
  match l, h with
  | [a, b], _ => exact ⟨a, b, rfl⟩
theorem list3 {α : Type} {l : List α} (h : l.length = 3) : ∃ a b c, l = [a, b, c] := by
  match l, h with
  | [a, b, c], _ => exact ⟨a, b, c, rfl⟩
theorem list6 {l : List Value} (h : l.length = 6) : ∃ a b c d e f, l = [a, b, c, d, e, f] := by
  match l, h with
  | [a, b, c, d, e, f], _ => exact ⟨a, b, c, d, e, f, rfl⟩
set_option maxRecDepth 100000 in
theorem open_pair {w : World} {base : Nat} {sp : Nat → Bool} {held : Bool} {fuel : Nat} {c0 c1 : Value} {y : DataW H × List MemPlace} (h : DataW.trod enc Tryd.prog w base sp held fuel 39 [c0, c1] = some y) :
    ∃ a b, c0 = .int .i64 a ∧ c1 = .int .i64 b ∧ (Lit.int .i64 a).wf = true ∧ (Lit.int .i64 b).wf = true ∧ y = (.agg [.lit (.int .i64 a), .lit (.int .i64 b)], []) := by
  obtain ⟨xs, m, rfl, rfl, _, hl, hx⟩ := DataW.trod_array Tryd.underlying39 h
  have h0 := hx 0 (by omega)
  have h1 := hx 1 (by omega)
  rw [show Tryd.prog.cellsOf 3 = 1 from by kernel_rfl] at h0 h1
  obtain ⟨u, v, rfl⟩ := list2 hl
  · simp at h0 h1
    obtain ⟨a, e0, rfl, w0⟩ := DataW.trod_int Tryd.underlying3 h0
    obtain ⟨b, e1, rfl, w1⟩ := DataW.trod_int Tryd.underlying3 h1
    simp at e0 e1
    exact ⟨a, b, e0, e1, w0, w1, rfl⟩
/-- What three pairs read as. -/
def six (a b c d e f : Int) : DataW H := .agg [.agg [.lit (.int .i64 a), .lit (.int .i64 b)], .agg [.lit (.int .i64 c), .lit (.int .i64 d)], .agg [.lit (.int .i64 e), .lit (.int .i64 f)]]
set_option maxRecDepth 100000 in
theorem pair_mk {w : World} {base : Nat} {sp : Nat → Bool} {held : Bool} {a b : Int} (ha : (Lit.int .i64 a).wf = true) (hb : (Lit.int .i64 b).wf = true) :
    DataW.trod enc Tryd.prog w base sp held 2 39 [.int .i64 a, .int .i64 b] = some (.agg [.lit (.int .i64 a), .lit (.int .i64 b)], []) := by
  have e1 : Tryd.prog.cellsOf 3 = 1 := by kernel_rfl
  have e2 : Tryd.prog.cellsOf 39 = 2 := by kernel_rfl
  simp [DataW.trod, Tryd.underlying39, Tryd.underlying3, e1, e2, ha, hb, List.range, List.range.loop]
set_option maxRecDepth 100000 in
theorem open_six {w : World} {r : Reach} {base : Nat} {sp : Nat → Bool} {v : Value} {d : DataW H} {p : List MemPlace}
    (hv : Value.okWide Tryd.prog w r base 40 v) (h : DataW.Trod enc Tryd.prog w 0 sp true 40 v d p) :
    ∃ x0 x1 x2 x3 x4 x5, v = sixv x0 x1 x2 x3 x4 x5 ∧ d = six x0 x1 x2 x3 x4 x5 ∧ p = [] ∧ (Lit.int .i64 x0).wf = true ∧ (Lit.int .i64 x1).wf = true ∧ (Lit.int .i64 x2).wf = true ∧ (Lit.int .i64 x3).wf = true ∧ (Lit.int .i64 x4).wf = true ∧ (Lit.int .i64 x5).wf = true := by
  obtain ⟨cs, rfl, hsz⟩ := okWide_array Tryd.underlying40 hv
  rw [show Tryd.prog.cellsOf 40 = 6 from by kernel_rfl] at hsz
  obtain ⟨l⟩ := cs
  obtain ⟨c0, c1, c2, c3, c4, c5, rfl⟩ := list6 (l := l) (by simpa using hsz)
  obtain ⟨fuel, hf⟩ := h
  obtain ⟨xs, m, rfl, hx, _, hl, hi⟩ := DataW.trod_array Tryd.underlying40 hf
  have h0 := hi 0 (by omega)
  have h1 := hi 1 (by omega)
  have h2 := hi 2 (by omega)
  rw [show Tryd.prog.cellsOf 39 = 2 from by kernel_rfl] at h0 h1 h2
  obtain ⟨y0, y1, y2, rfl⟩ := list3 hl
  · simp [Value.cells] at h0 h1 h2
    obtain ⟨x0, x1, rfl, rfl, w0, w1, rfl⟩ := open_pair h0
    obtain ⟨x2, x3, rfl, rfl, w2, w3, rfl⟩ := open_pair h1
    obtain ⟨x4, x5, rfl, rfl, w4, w5, rfl⟩ := open_pair h2
    simp only [Prod.mk.injEq] at hx
    exact ⟨x0, x1, x2, x3, x4, x5, rfl, hx.1, by rw [hx.2]; rfl, w0, w1, w2, w3, w4, w5⟩
set_option maxRecDepth 100000 in
theorem shut_six {w : World} {sp : Nat → Bool} {x0 x1 x2 x3 x4 x5 : Int} (w0 : (Lit.int .i64 x0).wf = true) (w1 : (Lit.int .i64 x1).wf = true) (w2 : (Lit.int .i64 x2).wf = true) (w3 : (Lit.int .i64 x3).wf = true) (w4 : (Lit.int .i64 x4).wf = true) (w5 : (Lit.int .i64 x5).wf = true) :
    DataW.Trod enc Tryd.prog w 0 sp true 40 (sixv x0 x1 x2 x3 x4 x5) (six x0 x1 x2 x3 x4 x5) [] := by
  refine ⟨3, ?_⟩
  have e2 : Tryd.prog.cellsOf 39 = 2 := by kernel_rfl
  have e3 : Tryd.prog.cellsOf 40 = 6 := by kernel_rfl
  rw [DataW.trod.eq_def]
  simp [Tryd.underlying40, e2, e3, Value.cells, List.range, List.range.loop, pair_mk, w0, w1, w2, w3, w4, w5, six]
end
end Go.Proofs.YtfojgdlegojdgaaDoor
