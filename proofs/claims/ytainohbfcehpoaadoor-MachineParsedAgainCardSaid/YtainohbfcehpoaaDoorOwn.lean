/-
  A block of the call's own, known whole.
-/
import Derived.Test.YtainohbfcehpoaaDoorBas0
import Derived.Deep.MidRow
namespace Go.Proofs.YtainohbfcehpoaaDoor
open Go.RowKit


/-- The block B holds the cells L. -/
def Arr (w : World) (B : Nat) (T : TypeId) (L : List Value) : Prop := w.heap[B]? = some (.cells L.toArray T (0, 0))
section
variable {w w' : World} {B : Nat} {T : TypeId} {L : List Value}
theorem Arr.lt (h : Arr w B T L) : B < w.heap.size := (Array.getElem?_eq_some_iff.1 h).1
theorem Arr.cell? (h : Arr w B T L) (j : Nat) : w.cell? ⟨B, j, none⟩ = L[j]? := by
  have := cell_of_row w B j L.toArray T (0, 0) h
  simpa using this
theorem Arr.cell (h : Arr w B T L) {j : Nat} {v : Value} (hv : L[j]? = some v) : w.cell? ⟨B, j, none⟩ = some v := (h.cell? j).trans hv
theorem Arr.free (h : Arr w B T L) (j : Nat) : w.frozen? ⟨B, j, none⟩ = false := frozen_of_row w B j _ T h
theorem Arr.mine (h : Arr w B T L) {j : Nat} {v : Value} (hv : L[j]? = some v) : Mine w B j v := ⟨h.cell hv, h.free j, h.lt⟩
theorem Arr.below (h : Arr w B T L) (hb : Below w.heap.size w w') : Arr w' B T L := (hb.block B h.lt).trans h
theorem Arr.belowAt {C : Nat} (h : Arr w B T L) (hb : Below C w w') (hC : B < C) : Arr w' B T L := (hb.block B hC).trans h
theorem Arr.drew (h : Arr w B T L) : Arr w.drew B T L := h
theorem Arr.drewN (h : Arr w B T L) (n : Nat) : Arr (w.drewN n) B T L := h
theorem Arr.alloc (h : Arr w B T L) (o : Obj) : Arr (w.alloc o) B T L := (Below.heap_alloc w o B h.lt).trans h
theorem Arr.new {cs : Array Value} (hL : cs = L.toArray) (hB : B = w.heap.size) : Arr (w.alloc (.cells cs T)) B T L := by
  subst hB hL; exact (MapKept.heap_alloc w _).1
theorem Arr.set (h : Arr w B T L) (j : Nat) (u : Value) : Arr (w.setCell ⟨B, j, none⟩ u) B T (L.set j u) := by
  have := heap_setCell_same w B j L.toArray T u h
  unfold Arr
  rw [this]
  congr 2
  simp
theorem Arr.other (h : Arr w B T L) {b o : Nat} (u : Value) (hne : b ≠ B) : Arr (w.setCell ⟨b, o, none⟩ u) B T L :=
  (heap_setCell_other w ⟨b, o, none⟩ B u (by simpa using fun e => hne e.symm)).trans h
theorem Arr.range (h : Arr w B T L) : w.rangeAt B 0 L := fun j v hv => by rw [Nat.zero_add]; exact h.cell hv
theorem Arr.there (h : Arr w B T L) : w.there B 0 L.length := fun j hj => by
  rw [Nat.zero_add]
  exact ⟨by rw [h.cell? j]; simp [hj], h.free j⟩
end
theorem Arr.splice {B : Nat} {T : TypeId} : ∀ (vs : List Value) (o : Nat) (w : World) (L : List Value), Arr w B T L → o + vs.length ≤ L.length → Arr (w.setCells B o vs) B T (L.take o ++ vs ++ L.drop (o + vs.length))
  | [], o, w, L, h, _ => by simpa [World.setCells] using h
  | v :: r, o, w, L, h, hl => by
    have hl' : o < L.length := by simp at hl; omega
    have ih := Arr.splice r (o + 1) (w.setCell ⟨B, o, none⟩ v) (L.set o v) (h.set o v) (by simp at hl ⊢; omega)
    have e1 : (L.set o v).take (o + 1) = L.take o ++ [v] := by
      rw [List.take_succ_eq_append_getElem (by simpa using hl')]
      simp [List.take_set_of_le]
    have e2 : (L.set o v).drop (o + 1 + r.length) = L.drop (o + (v :: r).length) := by
      rw [List.drop_set_of_lt (by omega)]
      congr 1
      simp; omega
    rw [e1, e2] at ih
    simpa [World.setCells] using ih
theorem Arr.setAll {w : World} {B : Nat} {T : TypeId} {L vs : List Value} (h : Arr w B T L) (hl : vs.length = L.length) : Arr (w.setCells B 0 vs) B T vs := by
  have := Arr.splice vs 0 w L h (by omega)
  simpa [hl] using this
theorem Arr.setCells_other {B : Nat} {T : TypeId} {L : List Value} (b : Nat) : ∀ (vs : List Value) (o : Nat) (w : World), Arr w B T L → b ≠ B → Arr (w.setCells b o vs) B T L
  | [], _, _, h, _ => h
  | _ :: r, o, _, h, hne => Arr.setCells_other b r (o + 1) _ (h.other _ hne) hne
theorem Below.setCells {B : Nat} {a : World} (b : Nat) : ∀ (vs : List Value) (o : Nat) (w : World), Below B a w → B ≤ b → Below B a (w.setCells b o vs)
  | [], _, _, h, _ => h
  | _ :: r, o, _, h, hb => Below.setCells b r (o + 1) _ (h.setCell (p := ⟨b, o, none⟩) hb _) hb
theorem Mine.setCells_other {b' o' : Nat} {v : Value} (b : Nat) : ∀ (vs : List Value) (o : Nat) (w : World), Mine w b' o' v → b ≠ b' → Mine (w.setCells b o vs) b' o' v
  | [], _, _, h, _ => h
  | _ :: r, o, _, h, hne => Mine.setCells_other b r (o + 1) _ (h.other _ (Or.inl hne)) hne
theorem arr_load {P : Program} {ops : Array Oper} {rest : List Oper} {op : Oper} {a : Act} {w : World} {Q : Exit → Act → World → Prop} (hgd : op.guard = none) (ty : TypeId) (x : Operand) (ho : op.op = .load ty x)
    (B : Nat) (hx : a.eval x = .pointer (some ⟨B, 0, none⟩)) {T : TypeId} {L : List Value} (hA : Arr w B T L) {d : TypeDesc} {n : Nat}
    (hu : P.underlying ty = some d) (hd : d.isRow = true) (hi : (P.info? ty).map (·.size) = some n) (hn : L.length = n)
    (h : wpList P ops Q rest (a.put op.dst (.agg L.toArray)) w) : wpList P ops Q (op :: rest) a w :=
  wpList_load_mid hgd ty x ho B 0 hx L d hA.range hu hd (by rw [hn]; exact hi) h
theorem arr_store {P : Program} {ops : Array Oper} {rest : List Oper} {op : Oper} {a : Act} {w : World} {Q : Exit → Act → World → Prop} (hgd : op.guard = none) (ty : TypeId) (x y : Operand) (ho : op.op = .store ty x y)
    (B : Nat) (hx : a.eval x = .pointer (some ⟨B, 0, none⟩)) {T : TypeId} {L vs : List Value} (hy : a.eval y = .agg vs.toArray) (hA : Arr w B T L) {n : Nat}
    (hi : (P.info? ty).map (·.size) = some n) (hn : L.length = n) (hv : vs.length = n) (h1 : vs.all (·.oneCell') = true)
    (h : wpList P ops Q rest (a.put op.dst undef) (w.setCells B 0 vs)) : wpList P ops Q (op :: rest) a w := by
  refine wpList_store_mid hgd ty x y ho B 0 vs.toArray hx hy ?_ ?_ ?_ (by simpa using h)
  · have := hA.there; rw [hn] at this; simpa [hv] using this
  · simpa [hv] using hi
  · simpa using h1
theorem arr_result {P : Program} {fn : Func} {p : Tmp} {ty : TypeId} (h : fn.results = #[.cell p ty]) (tmps : Array Value) {w : World} {B : Nat} {T : TypeId} {L : List Value} (hA : Arr w B T L) {d : TypeDesc} {n : Nat}
    (hp : tmps.getD p undef = .pointer (some ⟨B, 0, none⟩)) (hu : P.underlying ty = some d) (hd : d.isRow = true) (hi : (P.info? ty).map (·.size) = some n) (hn : L.length = n) :
    (results fn tmps).run P w = .ok (.agg L.toArray) w :=
  results_cell_row h tmps w B T L.toArray (0, 0) d hp hA hu (by cases d <;> simp_all [TypeDesc.isRow]) (by simpa [hn] using hi)
end Go.Proofs.YtainohbfcehpoaaDoor
