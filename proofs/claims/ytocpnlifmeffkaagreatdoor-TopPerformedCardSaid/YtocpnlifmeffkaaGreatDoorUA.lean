/-
  Small lemmas on endings, on cells of the call's own, names for worlds.
  A block of the call's own, known whole.
  A row of one-cell elements of the call's own, whatever mark lies behind its end (a conversion's row has one): one element more.
  Rows of the call's own; regions walked by hand.
  The computer of chapter 12, plain: what an operation does, and what a performance is.
  The computer of chapter 12 in memory.
-/
import Derived.Test.YtocpnlifmeffkaaGreatDoorRows
import Derived.WalkKit
import Derived.WalkSpells
import Derived.WalkLawsBesides
import Derived.Lib.Hide
import Derived.Deep.QuietTactic
import Derived.BigQuiet
import Derived.Deep.MidRow
import Derived.Deep.AppendSrc
import Derived.OwnWalkIn
import Derived.Deep.Draws
import Derived.Lib.ConvBytes
import Derived.Maps.AppendAt
import Derived.RangeFuncBox
import Derived.Deep.RegionHeld3
import Derived.Deep.AppendLies
import Derived.IntWalk
namespace Go.Proofs.YtocpnlifmeffkaaGreatDoor
open Go.RowKit

theorem ret_u64 {a b : Int} (h : a = b) : Ending.returned (.int .u64 a) = .returned (.int .u64 b) := by rw [h]
theorem ret_i64 {a b : Int} (h : a = b) : Ending.returned (.int .i64 a) = .returned (.int .i64 b) := by rw [h]
theorem ret_bool {a b : Bool} (h : a = b) : Ending.returned (.bool a) = .returned (.bool b) := by rw [h]
def U64 : Int := 18446744073709551616
/-- An int. -/
structure I64 (n : Int) : Prop where
  lo : -9223372036854775808 ≤ n
  hi : n ≤ 9223372036854775807
theorem neg_wrap (n : Int) (h1 : I64 n) (h : n < 0) : IntKind.u64.wrap (-IntKind.u64.wrap n) = n.natAbs := by
  obtain ⟨h1, h2⟩ := h1
  simp [IntKind.wrap, IntKind.bits, IntKind.signed] ; omega
theorem pos_wrap (n : Int) (h1 : I64 n) (h : 0 ≤ n) : IntKind.u64.wrap n = n.natAbs := by
  obtain ⟨h1, h2⟩ := h1
  simp [IntKind.wrap, IntKind.bits, IntKind.signed] ; omega
theorem natAbs_u64 (n : Int) (h : I64 n) : Hid ((n.natAbs : Int) < U64) := by
  obtain ⟨h1, h2⟩ := h
  show (n.natAbs : Int) < 18446744073709551616
  omega

theorem quiet_add {P : Program} {f : FuncId} {args : Array Value} {w : World} {a n : Nat} {v : Value}
    (h : Calls P f args (w.drewN (a + n)) fun e w' => e = .returned v ∧ ∃ m, w' = (w.drewN (a + n)).drewN m) :
    Calls P f args (w.drewN (a + n)) fun e w'' => e = .returned v ∧ ∃ m, w'' = w.drewN (a + m) :=
  h.mono fun _ _ ⟨he, m, hm⟩ => ⟨he, n + m, by rw [hm, World.drewN_drewN, Nat.add_assoc]⟩
theorem quiet_add_same {P : Program} {f : FuncId} {args : Array Value} {w : World} {a n : Nat} {v : Value}
    (h : Calls P f args (w.drewN (a + n)) fun e w' => e = .returned v ∧ w' = w.drewN (a + n)) :
    Calls P f args (w.drewN (a + n)) fun e w'' => e = .returned v ∧ ∃ m, w'' = w.drewN (a + m) :=
  h.mono fun _ _ ⟨he, hm⟩ => ⟨he, n, hm⟩

/-- What a call that only computes leaves: draws alone. -/
def Dr (w w' : World) : Prop := ∃ n, w' = w.drewN n
theorem Dr.refl (w : World) : Dr w w := ⟨0, rfl⟩

/-! A name for the world at hand. -/
theorem name_wp {P : Program} {c : Code} {Q : Exit → Act → World → Prop} {a : Act} {W : World} (h : ∀ w', w' = W → c.wp P Q a w') : c.wp P Q a W := h W rfl
theorem name_list {P : Program} {ops : Array Oper} {Q : Exit → Act → World → Prop} {l : List Oper} {a : Act} {W : World} (h : ∀ w', w' = W → wpList P ops Q l a w') : wpList P ops Q l a W := h W rfl
theorem name_then {K : Act → World → Prop} {Q : Exit → Act → World → Prop} {e : Exit} {a : Act} {W : World} (h : ∀ w', w' = W → Exit.then K Q e a w') : Exit.then K Q e a W := h W rfl
theorem name_block {K : Exit → Act → World → Prop} {i : Nat} {e : Exit} {a : Act} {W : World} (h : ∀ w', w' = W → Exit.inBlock i K e a w') : Exit.inBlock i K e a W := h W rfl
theorem name_calls {P : Program} {f : FuncId} {args : Array Value} {W : World} {R : Ending → World → Prop} (h : ∀ w', w' = W → Calls P f args w' R) : Calls P f args W R := h W rfl
theorem name_post {P : Program} {fn : Func} {R : Ending → World → Prop} {e : Exit} {a : Act} {W : World} (h : ∀ w', w' = W → bodyPost P fn R e a w') : bodyPost P fn R e a W := h W rfl

/-- What is known of a cell of the call's own: its value, that it is not frozen, that its block is there. -/
structure Mine (w : World) (b o : Nat) (v : Value) : Prop where
  cell : w.cell? ⟨b, o, none⟩ = some v
  free : w.frozen? ⟨b, o, none⟩ = false
  lt : b < w.heap.size
theorem Mine.below {w w' : World} {b o : Nat} {v : Value} (h : Mine w b o v) (hb : Below w.heap.size w w') : Mine w' b o v :=
  ⟨(hb.cell (p := ⟨b, o, none⟩) h.lt).trans h.cell, (hb.frozen (p := ⟨b, o, none⟩) h.lt).trans h.free, Nat.lt_of_lt_of_le h.lt hb.size⟩
theorem Mine.belowAt {w w' : World} {B b o : Nat} {v : Value} (h : Mine w b o v) (hb : Below B w w') (hB : b < B) : Mine w' b o v :=
  ⟨(hb.cell (p := ⟨b, o, none⟩) hB).trans h.cell, (hb.frozen (p := ⟨b, o, none⟩) hB).trans h.free, Nat.lt_of_lt_of_le h.lt hb.size⟩
theorem Mine.drew {w : World} {b o : Nat} {v : Value} (h : Mine w b o v) : Mine w.drew b o v := ⟨h.cell, h.free, h.lt⟩
theorem Mine.drewN {w : World} {b o : Nat} {v : Value} (h : Mine w b o v) (n : Nat) : Mine (w.drewN n) b o v := ⟨h.cell, h.free, h.lt⟩
theorem Mine.alloc {w : World} {b o : Nat} {v : Value} (h : Mine w b o v) (x : Obj) : Mine (w.alloc x) b o v :=
  h.below ((Below.refl _ _).alloc (Nat.le_refl _) _)
/-- A cell of the call's own, whatever it holds. -/
def MineS (w : World) (b o : Nat) : Prop := ∃ v, Mine w b o v
theorem Mine.slot {w : World} {b o : Nat} {v : Value} (h : Mine w b o v) : MineS w b o := ⟨v, h⟩
theorem Mine.set {w : World} {b o : Nat} (h : MineS w b o) (u : Value) : Mine (w.setCell ⟨b, o, none⟩ u) b o u := by
  obtain ⟨v, h⟩ := h
  exact ⟨World.cell?_setCell_same' _ _ _ (by rw [h.cell]; rfl), (World.frozen?_setCell _ _ _ _).trans h.free, by simpa [World.setCell] using h.lt⟩
theorem MineS.set {w : World} {b o : Nat} (h : MineS w b o) (u : Value) (b' o' : Nat) : MineS (w.setCell ⟨b', o', none⟩ u) b o := by
  obtain ⟨v, h⟩ := h
  by_cases e : b' = b ∧ o' = o
  · obtain ⟨rfl, rfl⟩ := e; exact ⟨u, Mine.set ⟨v, h⟩ u⟩
  · exact ⟨v, (World.cell?_setCell_other _ _ _ _ (by intro e'; injection e' with e1 e2; omega)).trans h.cell, (World.frozen?_setCell _ _ _ _).trans h.free, by simpa [World.setCell] using h.lt⟩
theorem MineS.alloc {w : World} {b o : Nat} (h : MineS w b o) (x : Obj) : MineS (w.alloc x) b o := by
  obtain ⟨v, h⟩ := h; exact ⟨v, h.below ((Below.refl _ _).alloc (Nat.le_refl _) _)⟩
theorem MineS.drew {w : World} {b o : Nat} (h : MineS w b o) : MineS w.drew b o := by
  obtain ⟨v, h⟩ := h; exact ⟨v, h.drew⟩
theorem MineS.drewN {w : World} {b o : Nat} (h : MineS w b o) (n : Nat) : MineS (w.drewN n) b o := by
  obtain ⟨v, h⟩ := h; exact ⟨v, h.drewN n⟩
theorem Mine.other {w : World} {b o b' o' : Nat} {v : Value} (h : Mine w b o v) (u : Value) (hne : b' ≠ b ∨ o' ≠ o) : Mine (w.setCell ⟨b', o', none⟩ u) b o v :=
  ⟨(World.cell?_setCell_other _ _ _ _ (by intro e; injection e with e1 e2; omega)).trans h.cell, (World.frozen?_setCell _ _ _ _).trans h.free, by simpa [World.setCell] using h.lt⟩
theorem Mine.new {w : World} {cs : Array Value} {t : TypeId} {o : Nat} {v : Value} (h : cs[o]? = some v) : Mine (w.alloc (.cells cs t)) w.heap.size o v := by
  have e : (w.alloc (.cells cs t)).heap[w.heap.size]? = some (.cells cs t (0, 0)) := (MapKept.heap_alloc w _).1
  have e2 : ∀ a : World, a.heap[w.heap.size]? = some (.cells cs t (0, 0)) → a.cell? ⟨w.heap.size, o, none⟩ = some v ∧ a.frozen? ⟨w.heap.size, o, none⟩ = false := by
    intro a ha
    simp only [World.cell?, World.frozen?, ha]
    simp [h]
  exact ⟨(e2 _ e).1, (e2 _ e).2, by simp⟩
theorem MineS.new {w : World} {cs : Array Value} {t : TypeId} {o : Nat} (h : o < cs.size) : MineS (w.alloc (.cells cs t)) w.heap.size o :=
  ⟨cs[o], Mine.new (by simp [h])⟩
theorem Mine.newAt {w : World} {cs : Array Value} {t : TypeId} {b o : Nat} {v : Value} (h : cs[o]? = some v) (hb : b = w.heap.size) : Mine (w.alloc (.cells cs t)) b o v := by
  subst hb; exact Mine.new h
theorem Mine.set' {w : World} {b o : Nat} {v : Value} (h : Mine w b o v) (u : Value) : Mine (w.setCell ⟨b, o, none⟩ u) b o u := Mine.set h.slot u
theorem name_wpIn {F : Fence} {n : Nat} {P : Program} {c : Code} {Q : Exit → Act → World → Prop} {a : Act} {W : World} (h : ∀ w', w' = W → c.wpIn F n P Q a w') : c.wpIn F n P Q a W := h W rfl
end Go.Proofs.YtocpnlifmeffkaaGreatDoor
namespace Go.Proofs.YtocpnlifmeffkaaGreatDoor
open Go.RowKit


/-- The block B holds the cells L. -/
def Arr (w : World) (B : Nat) (T : TypeId) (L : List Value) : Prop := w.heap[B]? = some (.cells L.toArray T (0, 0))
section
variable {w w' : World} {B : Nat} {T : TypeId} {L : List Value}
theorem Arr.lt (h : Arr w B T L) : B < w.heap.size := (Array.getElem?_eq_some_iff.1 h).1
theorem Arr.cell? (h : Arr w B T L) (j : Nat) : w.cell? ⟨B, j, none⟩ = L[j]? := by
  have := cell_of_row w B j L.toArray T (0, 0) h
  simpa using this
theorem Arr.cell (h : Arr w B T L) {j : Nat} {v : Value} (hv : L[j]? = some v) : w.cell? ⟨B, j, none⟩ = some v := (h.cell? j).trans hv
theorem Arr.free (h : Arr w B T L) (j : Nat) : w.frozen? ⟨B, j, none⟩ = false := frozen_of_row w B j _ T h
theorem Arr.mine (h : Arr w B T L) {j : Nat} {v : Value} (hv : L[j]? = some v) : Mine w B j v := ⟨h.cell hv, h.free j, h.lt⟩
theorem Arr.below (h : Arr w B T L) (hb : Below w.heap.size w w') : Arr w' B T L := (hb.block B h.lt).trans h
theorem Arr.belowAt {C : Nat} (h : Arr w B T L) (hb : Below C w w') (hC : B < C) : Arr w' B T L := (hb.block B hC).trans h
theorem Arr.drew (h : Arr w B T L) : Arr w.drew B T L := h
theorem Arr.drewN (h : Arr w B T L) (n : Nat) : Arr (w.drewN n) B T L := h
theorem Arr.alloc (h : Arr w B T L) (o : Obj) : Arr (w.alloc o) B T L := (Below.heap_alloc w o B h.lt).trans h
theorem Arr.new {cs : Array Value} (hL : cs = L.toArray) (hB : B = w.heap.size) : Arr (w.alloc (.cells cs T)) B T L := by
  subst hB hL; exact (MapKept.heap_alloc w _).1
theorem Arr.set (h : Arr w B T L) (j : Nat) (u : Value) : Arr (w.setCell ⟨B, j, none⟩ u) B T (L.set j u) := by
  have := heap_setCell_same w B j L.toArray T u h
  unfold Arr
  rw [this]
  congr 2
  simp
theorem Arr.other (h : Arr w B T L) {b o : Nat} (u : Value) (hne : b ≠ B) : Arr (w.setCell ⟨b, o, none⟩ u) B T L :=
  (heap_setCell_other w ⟨b, o, none⟩ B u (by simpa using fun e => hne e.symm)).trans h
theorem Arr.range (h : Arr w B T L) : w.rangeAt B 0 L := fun j v hv => by rw [Nat.zero_add]; exact h.cell hv
theorem Arr.there (h : Arr w B T L) : w.there B 0 L.length := fun j hj => by
  rw [Nat.zero_add]
  exact ⟨by rw [h.cell? j]; simp [hj], h.free j⟩
end
theorem Arr.splice {B : Nat} {T : TypeId} : ∀ (vs : List Value) (o : Nat) (w : World) (L : List Value), Arr w B T L → o + vs.length ≤ L.length → Arr (w.setCells B o vs) B T (L.take o ++ vs ++ L.drop (o + vs.length))
  | [], o, w, L, h, _ => by simpa [World.setCells] using h
  | v :: r, o, w, L, h, hl => by
    have hl' : o < L.length := by simp at hl; omega
    have ih := Arr.splice r (o + 1) (w.setCell ⟨B, o, none⟩ v) (L.set o v) (h.set o v) (by simp at hl ⊢; omega)
    have e1 : (L.set o v).take (o + 1) = L.take o ++ [v] := by
      rw [List.take_succ_eq_append_getElem (by simpa using hl')]
      simp [List.take_set_of_le]
    have e2 : (L.set o v).drop (o + 1 + r.length) = L.drop (o + (v :: r).length) := by
      rw [List.drop_set_of_lt (by omega)]
      congr 1
      simp; omega
    rw [e1, e2] at ih
    simpa [World.setCells] using ih
theorem Arr.setAll {w : World} {B : Nat} {T : TypeId} {L vs : List Value} (h : Arr w B T L) (hl : vs.length = L.length) : Arr (w.setCells B 0 vs) B T vs := by
  have := Arr.splice vs 0 w L h (by omega)
  simpa [hl] using this
theorem Arr.setCells_other {B : Nat} {T : TypeId} {L : List Value} (b : Nat) : ∀ (vs : List Value) (o : Nat) (w : World), Arr w B T L → b ≠ B → Arr (w.setCells b o vs) B T L
  | [], _, _, h, _ => h
  | _ :: r, o, _, h, hne => Arr.setCells_other b r (o + 1) _ (h.other _ hne) hne
theorem Below.setCells {B : Nat} {a : World} (b : Nat) : ∀ (vs : List Value) (o : Nat) (w : World), Below B a w → B ≤ b → Below B a (w.setCells b o vs)
  | [], _, _, h, _ => h
  | _ :: r, o, _, h, hb => Below.setCells b r (o + 1) _ (h.setCell (p := ⟨b, o, none⟩) hb _) hb
theorem Mine.setCells_other {b' o' : Nat} {v : Value} (b : Nat) : ∀ (vs : List Value) (o : Nat) (w : World), Mine w b' o' v → b ≠ b' → Mine (w.setCells b o vs) b' o' v
  | [], _, _, h, _ => h
  | _ :: r, o, _, h, hne => Mine.setCells_other b r (o + 1) _ (h.other _ (Or.inl hne)) hne
theorem arr_load {P : Program} {ops : Array Oper} {rest : List Oper} {op : Oper} {a : Act} {w : World} {Q : Exit → Act → World → Prop} (hgd : op.guard = none) (ty : TypeId) (x : Operand) (ho : op.op = .load ty x)
    (B : Nat) (hx : a.eval x = .pointer (some ⟨B, 0, none⟩)) {T : TypeId} {L : List Value} (hA : Arr w B T L) {d : TypeDesc} {n : Nat}
    (hu : P.underlying ty = some d) (hd : d.isRow = true) (hi : (P.info? ty).map (·.size) = some n) (hn : L.length = n)
    (h : wpList P ops Q rest (a.put op.dst (.agg L.toArray)) w) : wpList P ops Q (op :: rest) a w :=
  wpList_load_mid hgd ty x ho B 0 hx L d hA.range hu hd (by rw [hn]; exact hi) h
theorem arr_store {P : Program} {ops : Array Oper} {rest : List Oper} {op : Oper} {a : Act} {w : World} {Q : Exit → Act → World → Prop} (hgd : op.guard = none) (ty : TypeId) (x y : Operand) (ho : op.op = .store ty x y)
    (B : Nat) (hx : a.eval x = .pointer (some ⟨B, 0, none⟩)) {T : TypeId} {L vs : List Value} (hy : a.eval y = .agg vs.toArray) (hA : Arr w B T L) {n : Nat}
    (hi : (P.info? ty).map (·.size) = some n) (hn : L.length = n) (hv : vs.length = n) (h1 : vs.all (·.oneCell') = true)
    (h : wpList P ops Q rest (a.put op.dst undef) (w.setCells B 0 vs)) : wpList P ops Q (op :: rest) a w := by
  refine wpList_store_mid hgd ty x y ho B 0 vs.toArray hx hy ?_ ?_ ?_ (by simpa using h)
  · have := hA.there; rw [hn] at this; simpa [hv] using this
  · simpa [hv] using hi
  · simpa using h1
theorem arr_result {P : Program} {fn : Func} {p : Tmp} {ty : TypeId} (h : fn.results = #[.cell p ty]) (tmps : Array Value) {w : World} {B : Nat} {T : TypeId} {L : List Value} (hA : Arr w B T L) {d : TypeDesc} {n : Nat}
    (hp : tmps.getD p undef = .pointer (some ⟨B, 0, none⟩)) (hu : P.underlying ty = some d) (hd : d.isRow = true) (hi : (P.info? ty).map (·.size) = some n) (hn : L.length = n) :
    (results fn tmps).run P w = .ok (.agg L.toArray) w :=
  results_cell_row h tmps w B T L.toArray (0, 0) d hp hA hu (by cases d <;> simp_all [TypeDesc.isRow]) (by simpa [hn] using hi)
end Go.Proofs.YtocpnlifmeffkaaGreatDoor
namespace Go.Proofs.YtocpnlifmeffkaaGreatDoor
open Go.RowKit

/-- The value v is a slice whose row is the block g: it holds the cells xs. -/
def Buf (w : World) (g : Nat) (e : TypeId) (v : Value) (xs : List Value) : Prop :=
  ∃ cap cur fr, v = .slice (some ⟨g, 0, none⟩) xs.length cap ∧ w.heap[g]? = some (.cells cur e fr) ∧ (fr = (0, 0) ∨ cur.size ≤ fr.1) ∧ xs.length ≤ cap ∧ cap ≤ maxLen ∧ cur.size = cap ∧ cur.toList.take xs.length = xs
section
variable {w w' : World} {g : Nat} {e : TypeId} {v : Value} {xs : List Value}
theorem Buf.lt (h : Buf w g e v xs) : g < w.heap.size := by
  obtain ⟨cap, cur, fr, _, hg, _⟩ := h; exact (Array.getElem?_eq_some_iff.1 hg).1
theorem Buf.val (h : Buf w g e v xs) : ∃ cap, v = .slice (some ⟨g, 0, none⟩) xs.length cap ∧ xs.length ≤ cap ∧ cap ≤ maxLen := by
  obtain ⟨cap, cur, fr, hv, _, _, h1, h2, _⟩ := h; exact ⟨cap, hv, h1, h2⟩
theorem Buf.of_block (h : Buf w g e v xs) (hb : w'.heap[g]? = w.heap[g]?) : Buf w' g e v xs := by
  obtain ⟨cap, cur, fr, hv, hg, rest⟩ := h; exact ⟨cap, cur, fr, hv, hb.trans hg, rest⟩
theorem Buf.below (h : Buf w g e v xs) (hb : Below w.heap.size w w') : Buf w' g e v xs := h.of_block (hb.block g h.lt)
theorem Buf.alloc (h : Buf w g e v xs) (o : Obj) : Buf (w.alloc o) g e v xs := h.of_block (Below.heap_alloc w o g h.lt)
theorem Buf.drew (h : Buf w g e v xs) : Buf w.drew g e v xs := h.of_block rfl
theorem Buf.drewN (h : Buf w g e v xs) (n : Nat) : Buf (w.drewN n) g e v xs := h.of_block rfl
theorem Buf.other (h : Buf w g e v xs) {b o : Nat} (u : Value) (hne : b ≠ g) : Buf (w.setCell ⟨b, o, none⟩ u) g e v xs :=
  h.of_block (Below.heap_setCell w ⟨b, o, none⟩ u g (by simpa using fun e => hne e.symm))
theorem Buf.cell (h : Buf w g e v xs) {j : Nat} {u : Value} (hu : xs[j]? = some u) : w.cell? ⟨g, j, none⟩ = some u := by
  obtain ⟨cap, cur, fr, _, hg, _, _, _, _, ht⟩ := h
  rw [cell_of_row w g j cur e fr hg]
  rw [← ht, List.getElem?_take] at hu
  split at hu
  · simpa using hu
  · cases hu
end

theorem cell_setRow_ok {w : World} {g o : Nat} {cur : Array Value} {e : TypeId} {fr : Nat × Nat} (hg : w.heap[g]? = some (.cells cur e fr)) (u : Value) : (w.setCell ⟨g, o, none⟩ u).heap[g]? = some (.cells (cur.setIfInBounds o u) e fr) := by
  simp only [World.setCell, Array.getElem?_modify, if_pos, hg]
  rfl

theorem run_append_buf {P : Program} (w : World) (g : Nat) (t ty e : TypeId) (i : TypeInfo) (z : Value) (ht : P.underlying t = some (.slice e)) (hi : P.info? e = some i) (hz : i.zero = some z)
    (hsize : i.size = 1) (hby : i.bytes ≤ 8) (hzs : z.cells.size = 1) (v : Value) (xs : List Value) (h : Buf w g e v xs)
    (a : Addr) (c : Nat) (u : Value) (hu : w.cell? (a.add 0) = some u) (h1 : u.oneCell' = true) (hlen : xs.length + 1 ≤ 1000000) :
    ∃ v' w' g', (Builtin.append_ #[t, t] ty #[v, .slice (some a) 1 c]).run P w = .ok v' w' ∧ (g' = g ∨ g' = w.heap.size) ∧ Buf w' g' e v' (xs ++ [u]) ∧ w.grownBy w' (some g) := by
  obtain ⟨cap, cur, fr, rfl, hg, hfr, hle, hcm, hcs, htake⟩ := h
  have hs : Src P i.size t (.slice (some a) 1 c) 1 [u] w := Src.ofSlice w ht a 1 c [u] (by simp [hsize]) (fun j x hx => by
    match j, hx with
    | 0, hx => simp at hx; subst hx; exact hu) (by simpa using h1)
  by_cases hroom : xs.length + 1 ≤ cap
  · have hcell : (w.cell? ⟨g, xs.length, none⟩).isSome = true := by
      rw [cell_of_row w g _ cur e fr hg]; simp; omega
    have hfree : w.frozen? ⟨g, xs.length, none⟩ = false := by
      simp only [World.frozen?, hg]
      rcases hfr with rfl | hfr
      · simp
      · have : ¬ fr.1 ≤ xs.length := by omega
        simp [this]
    have hr := run_append_room_src (P := P) w t t ty e i ht hi g 0 xs.length cap (.slice (some a) 1 c) 1 [u] hs hroom
      (fun j hj => by simp at hj; subst hj; simpa [hsize] using hcell) (fun j hj => by simp at hj; subst hj; simpa [hsize] using hfree)
    simp only [hsize, Nat.mul_one, Nat.zero_add, World.setCells] at hr
    refine ⟨_, _, g, hr, .inl rfl, ⟨cap, cur.setIfInBounds xs.length u, fr, by simp, cell_setRow_ok hg u, by simpa using hfr, by simpa using hroom, hcm, by simpa using hcs, ?_⟩, ⟨rfl, rfl, rfl, by simp [World.setCell], fun k hk hne => Below.heap_setCell w ⟨g, xs.length, none⟩ u k (by simpa using hne)⟩⟩
    have hlt : xs.length < cur.toList.length := by simp; omega
    rw [Array.toList_setIfInBounds, List.length_append, List.length_singleton, List.take_succ_eq_append_getElem (by simpa using hlt)]
    simp [List.take_set_of_le, htake]
  · have hcap : xs.length = cap := by omega
    have hold : (Builtin.firstCells i.size xs.length (.slice (some ⟨g, 0, none⟩) xs.length cap)).run P w.drew = .ok xs.toArray w.drew :=
      run_firstCells_some w.drew i.size xs.length ⟨g, 0, none⟩ xs.length cap xs (by simp [hsize]) (fun j x hx => by
        rw [Addr.add_mid, Nat.zero_add]
        have hb : Buf w g e (.slice (some ⟨g, 0, none⟩) xs.length cap) xs := ⟨cap, cur, fr, rfl, hg, hfr, hle, hcm, hcs, htake⟩
        exact hb.drew.cell hx)
    have hn : Builtin.nextslicecap (xs.length + 1) cap * i.bytes ≤ 281474976710656 := by
      refine growslice_fits (by omega) ?_
      have : (xs.length + 1) * i.bytes ≤ 1000000 * 8 := Nat.mul_le_mul hlen hby
      omega
    have hr := run_append_grow_src (P := P) w t t ty e i z ht hi hz (some ⟨g, 0, none⟩) xs.length cap xs hold (.slice (some a) 1 c) 1 [u] hs (by omega) (by omega) hn
    have hge := grownCap_ge w (xs.length + 1) cap e
    have hcm' : grownCap w (xs.length + 1) cap e ≤ maxLen := grownCap_le_maxLen w (xs.length + 1) cap e (by simp [maxLen]; omega)
    refine ⟨_, _, w.heap.size, hr, .inr rfl, ⟨_, _, (0, 0), by simp, heap_alloc_new w.drew _, .inl rfl, by simpa using hge, hcm', ?_, ?_⟩, ⟨rfl, rfl, rfl, by simp, fun k hk _ => Below.heap_alloc w.drew _ k hk⟩⟩
    · simp only [Array.size_append, List.size_toArray, size_zeroCells, hzs, List.length_append, List.length_singleton, Nat.mul_one]
      omega
    · simp only [Array.toList_append]
      exact List.take_left

theorem wpListIn_append_buf {F : Fence} {n : Nat} {P : Program} {w : World} {ops : Array Oper} {rest : List Oper} {o : Oper} {a : Act} {Q : Exit → Act → World → Prop} (hgd : o.guard = none) (s x : Operand) (t : TypeId)
    (ho : o.op = .call { callee := .builtin .append, args := #[s, x], argTypes := #[t, t] })
    (g : Nat) (e : TypeId) (i : TypeInfo) (z : Value) (ht : P.underlying t = some (.slice e)) (hi : P.info? e = some i) (hz : i.zero = some z)
    (hsize : i.size = 1) (hby : i.bytes ≤ 8) (hzs : z.cells.size = 1) (v : Value) (xs : List Value) (hs : a.eval s = v) (hB : Buf w g e v xs)
    (ad : Addr) (c : Nat) (u : Value) (hx : a.eval x = .slice (some ad) 1 c) (hu : w.cell? (ad.add 0) = some u) (h1 : u.oneCell' = true) (hlen : xs.length + 1 ≤ 1000000)
    (h : ∀ v' w' g', (g' = g ∨ g' = w.heap.size) → Buf w' g' e v' (xs ++ [u]) → w.grownBy w' (some g) → wpListIn F n P ops Q rest (a.put o.dst v') w') : wpListIn F n P ops Q (o :: rest) a w := by
  refine wpListIn_plain hgd fun K hK' => ?_
  obtain ⟨v', w', g', hrun, r1, r2, r3⟩ := run_append_buf (P := P) w g t o.type e i z ht hi hz hsize hby hzs v xs hB ad c u hu h1 hlen
  unfold Oper.wpIn
  refine ⟨?_, ?_⟩
  · simp [Oper.about, ho, resolve, Target.leads, Sem.run_pure]
  · rw [Oper.semAt_plain F _ _ (by rw [ho]; intro c hc'; cases hc')]
    simp [execOp, ho, resolve, invoke, builtin, hs, hx, hrun, Result.andThen]
    exact hK' _ _ (h v' w' g' r1 r2 r3)

/-- '[]byte(s)' of a string that is no constant. -/
theorem buf_of_string (w : World) (e : TypeId) (s : ByteArray) (hs : s.size ≤ 1000000) :
    Buf (Lib.bytesWorld w e s) w.heap.size e (.slice (some ⟨w.heap.size, 0, none⟩) s.size (grownCap w s.size 0 e)) (s.data.toList.map fun b => Value.int .u8 b.toNat) := by
  have hge := grownCap_ge w s.size 0 e
  have hcm : grownCap w s.size 0 e ≤ maxLen := grownCap_le_maxLen w s.size 0 e (by simp [maxLen]; omega)
  have hl : s.data.toList.length = s.size := by simp
  refine ⟨grownCap w s.size 0 e, Lib.bytesCells w e s, _, by simp, Lib.bytesWorld_at_new w e s, .inr (Nat.le_refl _), by simpa using hge, hcm, ?_, ?_⟩
  · simp [Lib.bytesCells]; omega
  · unfold Lib.bytesCells
    rw [Array.toList_append, Array.toList_map, List.length_map]
    exact List.take_left' (by simp)
end Go.Proofs.YtocpnlifmeffkaaGreatDoor
namespace Go.Proofs.YtocpnlifmeffkaaGreatDoor
open Go.RowKit

theorem own_below {w w' : World} {B n s : Nat} {e : TypeId} {v : Value} {xs : List Value} (h : w.ownsRow B e s v n xs) (hb : Below w.heap.size w w') : w'.ownsRow B e s v n xs := by
  obtain ⟨hl, h⟩ := h
  refine ⟨hl, ?_⟩
  rcases h with h | ⟨g, cap, cur, hv, hB, hg, r⟩
  · exact .inl h
  · exact .inr ⟨g, cap, cur, hv, hB, (hb.block g (Array.getElem?_eq_some_iff.1 hg).1).trans hg, r⟩
theorem own_cell {w : World} {B n : Nat} {e : TypeId} {v : Value} {xs : List Value} (h : w.ownsRow B e 1 v n xs) {j : Nat} {u : Value} (hu : xs[j]? = some u) :
    ∃ g cap, v = .slice (some ⟨g, 0, none⟩) n cap ∧ B ≤ g ∧ w.cell? ⟨g, j, none⟩ = some u := by
  obtain ⟨hl, h⟩ := h
  have hj := (List.getElem?_eq_some_iff.1 hu).1
  rcases h with ⟨_, rfl⟩ | ⟨g, cap, cur, hv, hB, hg, h1, h2, h3, h4⟩
  · omega
  · refine ⟨g, cap, hv, hB, ?_⟩
    rw [cell_of_row w g j cur e (0, 0) hg]
    rw [← h4, List.getElem?_take] at hu
    split at hu
    · simpa using hu
    · cases hu
theorem own_cells {w : World} {B n : Nat} {e : TypeId} {v : Value} {xs : List Value} (h : w.ownsRow B e 1 v (n + 1) xs) :
    ∃ g cap, v = .slice (some ⟨g, 0, none⟩) (n + 1) cap ∧ B ≤ g ∧ n + 1 ≤ cap ∧ cap ≤ maxLen ∧ g < w.heap.size ∧ ∀ j u, xs[j]? = some u → w.cell? ⟨g, j, none⟩ = some u ∧ w.frozen? ⟨g, j, none⟩ = false := by
  obtain ⟨hl, h⟩ := h
  rcases h with ⟨_, h⟩ | ⟨g, cap, cur, hv, hB, hg, h1, h2, h3, h4⟩
  · omega
  · refine ⟨g, cap, hv, hB, h1, h2, (Array.getElem?_eq_some_iff.1 hg).1, fun j u hu => ⟨?_, frozen_of_row w g j cur e hg⟩⟩
    rw [cell_of_row w g j cur e (0, 0) hg]
    rw [← h4, List.getElem?_take] at hu
    split at hu
    · simpa using hu
    · cases hu
theorem own_slice {w : World} {B n s : Nat} {e : TypeId} {v : Value} {xs : List Value} (h : w.ownsRow B e s v n xs) (hn : 0 < n) : ∃ g cap, v = .slice (some ⟨g, 0, none⟩) n cap := by
  rcases h.2 with ⟨_, h0⟩ | ⟨g, cap, _, hv, _⟩
  · omega
  · exact ⟨g, cap, hv⟩
theorem own_len {w : World} {B n m s : Nat} {e : TypeId} {v : Value} {xs : List Value} (h : w.ownsRow B e s v n xs) (hn : n = m) : w.ownsRow B e s v m xs := hn ▸ h
theorem own_base {w : World} {B C n s : Nat} {e : TypeId} {v : Value} {xs : List Value} (h : w.ownsRow C e s v n xs) (hBC : B ≤ C) : w.ownsRow B e s v n xs := by
  obtain ⟨hl, h⟩ := h
  refine ⟨hl, ?_⟩
  rcases h with h | ⟨g, cap, cur, hv, hB, r⟩
  · exact .inl h
  · exact .inr ⟨g, cap, cur, hv, Nat.le_trans hBC hB, r⟩
theorem Buf.of_arr {w : World} {B : Nat} {T : TypeId} {L : List Value} (h : Arr w B T L) (hl : L.length ≤ maxLen) : Buf w B T (.slice (some ⟨B, 0, none⟩) L.length L.length) L :=
  ⟨L.length, L.toArray, (0, 0), rfl, h, .inl rfl, Nat.le_refl _, hl, by simp, by simp⟩
theorem cell_one_new0 (w : World) (u : Value) (t : TypeId) : (w.alloc (.cells #[u] t)).cell? ((⟨w.heap.size, 0, none⟩ : Addr).add 0) = some u := by
  rw [Addr.add_mid]; exact (Mine.new rfl).cell
theorem name_wpl {P : Program} {ops : Array Oper} {Q : Exit → Act → World → Prop} {l : List Oper} {a : Act} {W : World} (h : ∀ w', w' = W → wpList P ops Q l a w') : wpList P ops Q l a W := h W rfl
theorem cells_new (w : World) (L : List Value) (T : TypeId) (j : Nat) (u : Value) (hu : L[j]? = some u) : (w.alloc (.cells L.toArray T)).cell? ((⟨w.heap.size, 0, none⟩ : Addr).add j) = some u := by
  rw [Addr.add_mid, Nat.zero_add]; exact (Arr.new rfl rfl).cell hu
theorem Buf.set {w : World} {g : Nat} {e : TypeId} {v : Value} {xs : List Value} (h : Buf w g e v xs) {j : Nat} (u : Value) : Buf (w.setCell ⟨g, j, none⟩ u) g e v (xs.set j u) := by
  obtain ⟨cap, cur, fr, hv, hg, hfr, hle, hcm, hcs, ht⟩ := h
  refine ⟨cap, cur.setIfInBounds j u, fr, by simpa using hv, cell_setRow_ok hg u, by simpa using hfr, by simpa using hle, hcm, by simpa using hcs, ?_⟩
  rw [Array.toList_setIfInBounds, List.length_set, List.take_set]
  rw [ht]
theorem Buf.free {w : World} {g : Nat} {e : TypeId} {v : Value} {xs : List Value} (h : Buf w g e v xs) {j : Nat} (hj : j < xs.length) : w.frozen? ⟨g, j, none⟩ = false := by
  obtain ⟨cap, cur, fr, hv, hg, hfr, hle, hcm, hcs, ht⟩ := h
  simp only [World.frozen?, hg]
  rcases hfr with rfl | hfr
  · simp
  · have : ¬ fr.1 ≤ j := by omega
    simp [this]
theorem buf_of_own {w : World} {B : Nat} {e : TypeId} {v : Value} {n : Nat} {xs : List Value} (h : w.ownsRow B e 1 v (n + 1) xs) : ∃ g, B ≤ g ∧ Buf w g e v xs := by
  obtain ⟨hl, h⟩ := h
  rcases h with ⟨_, h⟩ | ⟨g, cap, cur, rfl, hb, hg, h1, h2, h3, h4⟩
  · omega
  · exact ⟨g, hb, cap, cur, (0, 0), by simp at hl; rw [hl], hg, .inl rfl, by omega, h2, by omega, by rw [hl]; exact h4⟩
theorem run_append_keep {P : Program} (w : World) (g : Nat) (t ty e : TypeId) (i : TypeInfo) (z : Value) (ht : P.underlying t = some (.slice e)) (hi : P.info? e = some i) (hz : i.zero = some z)
    (hsize : i.size = 1) (hby : i.bytes ≤ 8) (hzs : z.cells.size = 1) (v : Value) (xs : List Value) (h : Buf w g e v xs)
    (a : Addr) (c : Nat) (u : Value) (hu : w.cell? (a.add 0) = some u) (h1 : u.oneCell' = true) (hlen : xs.length + 1 ≤ 1000000) :
    ∃ v' w' g', (Builtin.append_ #[t, t] ty #[v, .slice (some a) 1 c]).run P w = .ok v' w' ∧ (g' = g ∨ g' = w.heap.size) ∧ Buf w' g' e v' (xs ++ [u]) ∧ w.grownBy w' (some g) ∧ ∀ j y, xs[j]? = some y → w'.cell? ⟨g, j, none⟩ = some y := by
  have hB := h
  obtain ⟨cap, cur, fr, rfl, hg, hfr, hle, hcm, hcs, htake⟩ := h
  have hs : Src P i.size t (.slice (some a) 1 c) 1 [u] w := Src.ofSlice w ht a 1 c [u] (by simp [hsize]) (fun j x hx => by
    match j, hx with
    | 0, hx => simp at hx; subst hx; exact hu) (by simpa using h1)
  by_cases hroom : xs.length + 1 ≤ cap
  · have hcell : (w.cell? ⟨g, xs.length, none⟩).isSome = true := by
      rw [cell_of_row w g _ cur e fr hg]; simp; omega
    have hfree : w.frozen? ⟨g, xs.length, none⟩ = false := by
      simp only [World.frozen?, hg]
      rcases hfr with rfl | hfr
      · simp
      · have : ¬ fr.1 ≤ xs.length := by omega
        simp [this]
    have hr := run_append_room_src (P := P) w t t ty e i ht hi g 0 xs.length cap (.slice (some a) 1 c) 1 [u] hs hroom
      (fun j hj => by simp at hj; subst hj; simpa [hsize] using hcell) (fun j hj => by simp at hj; subst hj; simpa [hsize] using hfree)
    simp only [hsize, Nat.mul_one, Nat.zero_add, World.setCells] at hr
    refine ⟨_, _, g, hr, .inl rfl, ⟨cap, cur.setIfInBounds xs.length u, fr, by simp, cell_setRow_ok hg u, by simpa using hfr, by simpa using hroom, hcm, by simpa using hcs, ?_⟩, ⟨rfl, rfl, rfl, by simp [World.setCell], fun k hk hne => Below.heap_setCell w ⟨g, xs.length, none⟩ u k (by simpa using hne)⟩, ?_⟩
    · have hlt : xs.length < cur.toList.length := by simp; omega
      rw [Array.toList_setIfInBounds, List.length_append, List.length_singleton, List.take_succ_eq_append_getElem (by simpa using hlt)]
      simp [List.take_set_of_le, htake]
    · intro j y hj
      have hjl := (List.getElem?_eq_some_iff.1 hj).1
      rw [World.cell?_setCell_other _ _ _ _ (by intro e; injection e with _ e; omega)]
      exact hB.cell hj
  · have hold : (Builtin.firstCells i.size xs.length (.slice (some ⟨g, 0, none⟩) xs.length cap)).run P w.drew = .ok xs.toArray w.drew :=
      run_firstCells_some w.drew i.size xs.length ⟨g, 0, none⟩ xs.length cap xs (by simp [hsize]) (fun j x hx => by
        rw [Addr.add_mid, Nat.zero_add]
        exact hB.drew.cell hx)
    have hn : Builtin.nextslicecap (xs.length + 1) cap * i.bytes ≤ 281474976710656 := by
      refine growslice_fits (by omega) ?_
      have : (xs.length + 1) * i.bytes ≤ 1000000 * 8 := Nat.mul_le_mul hlen hby
      omega
    have hr := run_append_grow_src (P := P) w t t ty e i z ht hi hz (some ⟨g, 0, none⟩) xs.length cap xs hold (.slice (some a) 1 c) 1 [u] hs (by omega) (by omega) hn
    have hge := grownCap_ge w (xs.length + 1) cap e
    have hcm' : grownCap w (xs.length + 1) cap e ≤ maxLen := grownCap_le_maxLen w (xs.length + 1) cap e (by simp [maxLen]; omega)
    refine ⟨_, _, w.heap.size, hr, .inr rfl, ⟨_, _, (0, 0), by simp, heap_alloc_new w.drew _, .inl rfl, by simpa using hge, hcm', ?_, ?_⟩, ⟨rfl, rfl, rfl, by simp, fun k hk _ => Below.heap_alloc w.drew _ k hk⟩, ?_⟩
    · simp only [Array.size_append, List.size_toArray, size_zeroCells, hzs, List.length_append, List.length_singleton, Nat.mul_one]
      omega
    · simp only [Array.toList_append]
      exact List.take_left
    · intro j y hj
      exact (hB.drew.alloc _).cell hj
theorem step_append_keep {P : Program} {ops : Array Oper} {o : Oper} {a : Act} {w : World} {K : Act → World → Prop} {Q : Exit → Act → World → Prop} {E : Prop} (hgd : o.guard = none) (s x : Operand) (t : TypeId)
    (ho : o.op = .call { callee := .builtin .append, args := #[s, x], argTypes := #[t, t] })
    (g : Nat) (e : TypeId) (i : TypeInfo) (z : Value) (ht : P.underlying t = some (.slice e)) (hi : P.info? e = some i) (hz : i.zero = some z)
    (hsize : i.size = 1) (hby : i.bytes ≤ 8) (hzs : z.cells.size = 1) (v : Value) (xs : List Value) (hs : a.eval s = v) (hB : Buf w g e v xs)
    (ad : Addr) (c : Nat) (u : Value) (hx : a.eval x = .slice (some ad) 1 c) (hu : w.cell? (ad.add 0) = some u) (h1 : u.oneCell' = true) (hlen : xs.length + 1 ≤ 1000000)
    (h : ∀ v' w' g', (g' = g ∨ g' = w.heap.size) → Buf w' g' e v' (xs ++ [u]) → w.grownBy w' (some g) → (∀ j y, xs[j]? = some y → w'.cell? ⟨g, j, none⟩ = some y) → K (a.put o.dst v') w') :
    if Region.wanted o (yielded ops a.tmps) = true then Oper.wp P o a w K Q else E := by
  have hw : Region.wanted o (yielded ops a.tmps) = true := by simp [Region.wanted, hgd]
  rw [if_pos hw]
  obtain ⟨v', w', g', hrun, r1, r2, r3, r4⟩ := run_append_keep (P := P) w g t o.type e i z ht hi hz hsize hby hzs v xs hB ad c u hu h1 hlen
  unfold Oper.wp
  simp [execOp, ho, resolve, invoke, builtin, hs, hx, hrun, Result.andThen]
  exact h v' w' g' r1 r2 r3 r4
section
variable {P : Program} {Q : Exit → Act → World → Prop} {md : Region.Mode} {S : World → Prop}
theorem take_l {l : List Oper} {i : Nat} {oi : Oper} {v : Value} {fuel : Nat} {listed : Array Bool} {a : Act} {w : World} (hi : l[i]? = some oi)
    (hs : Region.noSelect l.toArray = true) (hf : Region.free md l.toArray listed i = true) (hr : (Region.ready md l.toArray listed).contains i = true)
    (hQ : ∀ c a w, Q (.panic c) (a.put oi.dst v) w → Q (.panic c) a w) (hy : YieldsIf P l.toArray S oi v a) (hS : S w)
    (h : wpAnyH P md l.toArray Q S fuel (listed.setIfInBounds i true) (a.put oi.dst v) w) : wpAnyH P md l.toArray Q S (fuel + 1) listed a w :=
  wpAnyH_take (by simpa using hi) hs hf hr hQ hy hS h
theorem ready_l {l : List Oper} {fuel : Nat} {listed : Array Bool} {a : Act} {w : World} {i : Nat} {o : Oper} {rs : List Nat} (ho : l[i]? = some o)
    (h : ∀ K' : Act → World → Prop, Shut (∀ a w, S w → (S w → wpAnyH P md l.toArray Q S fuel (listed.setIfInBounds i true) a w) → K' a w) → if Region.wanted o (yielded l.toArray a.tmps) = true then Oper.wp P o a w K' Q else K' (a.put o.dst undef) w)
    (hs : AllReadyH P md l.toArray Q S fuel listed a w rs) : AllReadyH P md l.toArray Q S fuel listed a w (i :: rs) :=
  AllReadyH.cons (by simpa using ho) h hs
/-- take_l, short. -/
theorem tk {l : List Oper} (i : Nat) {oi : Oper} (v : Value) {fuel : Nat} {listed : Array Bool} {a : Act} {w : World} (hi : l[i]? = some oi)
    (hv : ∀ w, S w → (execOp a.eval oi).run P w = .ok (.value v) w)
    (h : wpAnyH P md l.toArray Q S fuel (listed.setIfInBounds i true) (a.put oi.dst v) w)
    (hs : Region.noSelect l.toArray = true := by kernel_rfl) (hf : Region.free md l.toArray listed i = true := by kernel_rfl) (hr : (Region.ready md l.toArray listed).contains i = true := by kernel_rfl)
    (hQ : ∀ c a w, Q (.panic c) (a.put oi.dst v) w → Q (.panic c) a w := by exact fun _ _ _ h => h) (hw : Region.wanted oi (yielded l.toArray a.tmps) = true := by kernel_rfl) (hS : S w := by assumption) : wpAnyH P md l.toArray Q S (fuel + 1) listed a w :=
  take_l hi hs hf hr hQ (Or.inl ⟨hw, hv⟩) hS h
end
end Go.Proofs.YtocpnlifmeffkaaGreatDoor
namespace Go.Proofs.YtocpnlifmeffkaaGreatDoor

/-- An event. -/
structure Ev where
  t : Int
  k : Int
  a : Int
  b : Int
def keyOk (e : Ev) : Bool := e.k == 5 && decide (0 ≤ e.t) && decide (e.t ≤ 20000) && decide (1 ≤ e.a) && decide (e.a ≤ 255) && e.b == 0
def inOrder : List Ev → Bool
  | x :: y :: r => decide (x.t ≤ y.t) && inOrder (y :: r)
  | _ => true
def keysOk (l : List Ev) : Bool := decide (l.length ≤ 100) && l.all keyOk && inOrder l

/-- A computer while it works: the keys are those that were not taken. -/
structure Cpu where
  mem : List Nat
  disk : List Nat
  a : Nat
  c : Nat
  time : Nat
  keys : List Ev
/-- A key is taken. -/
def Cpu.take (x : Cpu) : Cpu := match x.keys with
  | [] => { x with a := 0 }
  | k :: r => if (x.time : Int) < k.t then { x with a := 0 } else { x with a := k.a.toNat, keys := r }
/-- What an operation does, its number n, and the byte of the memory there m: the computer behind it, and the event. -/
def Cpu.op (x : Cpu) (o n m : Nat) : Cpu × Option Ev :=
  match o with
  | 1 => ({ x with a := n }, none)
  | 2 => ({ x with a := m }, none)
  | 3 => ({ x with mem := x.mem.set n x.a }, none)
  | 4 => ({ x with a := x.mem.getD m 0 }, none)
  | 5 => ({ x with mem := x.mem.set m x.a }, none)
  | 6 => ({ x with a := (x.a + m) % 256 }, none)
  | 7 => ({ x with a := (x.a + 256 - m) % 256 }, none)
  | 8 => ({ x with c := n }, none)
  | 9 => ((if x.a = 0 then { x with c := n } else x), none)
  | 10 => ((if 128 ≤ x.a then { x with c := n } else x), none)
  | 11 => (x.take, none)
  | 12 => (x, some ⟨x.time, 1, (m % 80 : Nat), x.a⟩)
  | 13 => (x, some ⟨x.time, 2, m, (x.a % 2 : Nat)⟩)
  | 14 => ({ x with a := x.disk.getD m 0 }, none)
  | 15 => ({ x with disk := x.disk.set m x.a }, some ⟨x.time, 3, m, x.a⟩)
  | _ => ({ x with a := x.time % 256 }, none)
/-- The events of so many steps. -/
def runs : Nat → Cpu → List Ev
  | 0, _ => []
  | f + 1, x =>
    if x.mem.getD x.c 0 = 0 ∨ 17 ≤ x.mem.getD x.c 0 then [⟨x.time, 4, x.mem.getD x.c 0, x.mem.getD ((x.c + 1) % 256) 0⟩]
    else
      (({ x with c := (x.c + 2) % 256 } : Cpu).op (x.mem.getD x.c 0) (x.mem.getD ((x.c + 1) % 256) 0) (x.mem.getD (x.mem.getD ((x.c + 1) % 256) 0) 0)).2.toList ++
      runs f { (({ x with c := (x.c + 2) % 256 } : Cpu).op (x.mem.getD x.c 0) (x.mem.getD ((x.c + 1) % 256) 0) (x.mem.getD (x.mem.getD ((x.c + 1) % 256) 0) 0)).1 with time := x.time + 1 }
/-- What lies in a memory of 256 bytes. -/
def loaded (s : List UInt8) : List Nat := s.map (·.toNat) ++ List.replicate (256 - s.length) 0
/-- P12.1: whether a memory image and a disk are valid. -/
def progOk (p d : List UInt8) : Bool := decide (p.length ≤ 256) && decide (p.length % 2 = 0) && decide (d.length ≤ 256)
/-- P12.1: a performance. -/
def perf (p d : List UInt8) (keys : List Ev) (most : Nat) : List Ev := runs most ⟨loaded p, loaded d, 0, 0, 0, keys⟩
def perfOk (p d : List UInt8) (keys : List Ev) (most : Int) : Bool := progOk p d && keysOk keys && decide (0 ≤ most) && decide (most ≤ 20000)

/-- The computer's parts are of the right sizes. -/
structure Cpu.WF (x : Cpu) : Prop where
  mem : x.mem.length = 256
  disk : x.disk.length = 256
  memB : ∀ v, v ∈ x.mem → v < 256
  diskB : ∀ v, v ∈ x.disk → v < 256
  a : x.a < 256
  c : x.c < 256
  keys : ∀ k, k ∈ x.keys → keyOk k = true
theorem getD_lt {l : List Nat} (h : ∀ v, v ∈ l → v < 256) (i : Nat) : l.getD i 0 < 256 := by
  rw [List.getD_eq_getElem?_getD]
  cases hi : l[i]? with
  | none => simp
  | some v => simpa using h v (List.mem_of_getElem? hi)
theorem set_lt {l : List Nat} (h : ∀ v, v ∈ l → v < 256) (i : Nat) {u : Nat} (hu : u < 256) : ∀ v, v ∈ l.set i u → v < 256 := by
  intro v hv
  rcases List.mem_or_eq_of_mem_set hv with h1 | rfl
  · exact h v h1
  · exact hu
theorem keyOk_parts {k : Ev} (h : keyOk k = true) : k.k = 5 ∧ 0 ≤ k.t ∧ k.t ≤ 20000 ∧ 1 ≤ k.a ∧ k.a ≤ 255 ∧ k.b = 0 := by
  simp [keyOk] at h; omega
theorem Cpu.WF.take {x : Cpu} (h : x.WF) : x.take.WF := by
  unfold Cpu.take
  cases hk : x.keys with
  | nil => exact ⟨h.mem, h.disk, h.memB, h.diskB, by simp, h.c, by simp⟩
  | cons k r =>
    dsimp only
    split
    · exact ⟨h.mem, h.disk, h.memB, h.diskB, by simp, h.c, by simpa [hk] using h.keys⟩
    · have h1 := keyOk_parts (h.keys k (by simp [hk]))
      exact ⟨h.mem, h.disk, h.memB, h.diskB, by simp; omega, h.c, fun k' hk' => h.keys k' (by simp [hk]; exact .inr hk')⟩
theorem Cpu.WF.op {x : Cpu} (h : x.WF) (o : Nat) {n m : Nat} (hn : n < 256) (hm : m < 256) : (x.op o n m).1.WF := by
  unfold Cpu.op
  split
  case h_3 => exact ⟨by simp [h.mem], h.disk, set_lt h.memB _ h.a, h.diskB, h.a, h.c, h.keys⟩
  case h_5 => exact ⟨by simp [h.mem], h.disk, set_lt h.memB _ h.a, h.diskB, h.a, h.c, h.keys⟩
  case h_4 => exact ⟨h.mem, h.disk, h.memB, h.diskB, getD_lt h.memB _, h.c, h.keys⟩
  case h_14 => exact ⟨h.mem, h.disk, h.memB, h.diskB, getD_lt h.diskB _, h.c, h.keys⟩
  case h_15 => exact ⟨h.mem, by simp [h.disk], h.memB, set_lt h.diskB _ h.a, h.a, h.c, h.keys⟩
  case h_9 => dsimp only; split <;> exact ⟨h.mem, h.disk, h.memB, h.diskB, h.a, by first | exact hn | exact h.c, h.keys⟩
  case h_10 => dsimp only; split <;> exact ⟨h.mem, h.disk, h.memB, h.diskB, h.a, by first | exact hn | exact h.c, h.keys⟩
  case h_11 => exact h.take
  all_goals exact ⟨h.mem, h.disk, h.memB, h.diskB, by first | exact hn | exact hm | exact h.a | (dsimp only; omega), by first | exact h.c | exact hn, h.keys⟩
theorem Cpu.WF.at {x : Cpu} (h : x.WF) (t c : Nat) (hc : c < 256) : ({ x with c := c, time := t } : Cpu).WF := ⟨h.mem, h.disk, h.memB, h.diskB, h.a, hc, h.keys⟩
theorem loaded_len {s : List UInt8} (h : s.length ≤ 256) : (loaded s).length = 256 := by simp [loaded]; omega
theorem loaded_lt (s : List UInt8) : ∀ v, v ∈ loaded s → v < 256 := by
  intro v hv
  rcases List.mem_append.1 hv with h | h
  · obtain ⟨b, _, rfl⟩ := List.mem_map.1 h
    exact b.toNat_lt
  · have := (List.mem_replicate.1 h).2; omega
end Go.Proofs.YtocpnlifmeffkaaGreatDoor
namespace Go.Proofs.YtocpnlifmeffkaaGreatDoor
open Go.RowKit

/-- Below B nothing has turned but block x. -/
structure BelowBut (B x : Nat) (w w' : World) : Prop where
  os : w'.os = w.os
  tape : w'.tape = w.tape
  output : w'.output = w.output
  size : w.heap.size ≤ w'.heap.size
  block : ∀ k, k < B → k ≠ x → w'.heap[k]? = w.heap[k]?
section
variable {B C x : Nat} {w w' w'' : World}
theorem BelowBut.of (h : Below B w w') : BelowBut B x w w' := ⟨h.os, h.tape, h.output, h.size, fun k hk _ => h.block k hk⟩
theorem BelowBut.refl (B x : Nat) (w : World) : BelowBut B x w w := BelowBut.of (Below.refl _ _)
theorem BelowBut.setCell (h : BelowBut B x w w') (o : Nat) (u : Value) : BelowBut B x w (w'.setCell ⟨x, o, none⟩ u) :=
  ⟨h.os, h.tape, h.output, by simpa [World.setCell] using h.size, fun k hk hne => (Below.heap_setCell w' ⟨x, o, none⟩ u k (by simpa using hne)).trans (h.block k hk hne)⟩
theorem BelowBut.drew (h : BelowBut B x w w') : BelowBut B x w w'.drew := ⟨h.os, h.tape, h.output, h.size, h.block⟩
theorem BelowBut.drewN (h : BelowBut B x w w') (n : Nat) : BelowBut B x w (w'.drewN n) := ⟨h.os, h.tape, h.output, h.size, h.block⟩
theorem BelowBut.alloc (h : BelowBut B x w w') (o : Obj) (hB : B ≤ w'.heap.size) : BelowBut B x w (w'.alloc o) :=
  ⟨h.os, h.tape, h.output, by simpa using Nat.le_succ_of_le h.size, fun k hk hne => (Below.heap_alloc w' o k (by omega)).trans (h.block k hk hne)⟩
theorem BelowBut.trans (h : BelowBut B x w w') (k : BelowBut C x w' w'') (hBC : B ≤ C) : BelowBut B x w w'' :=
  ⟨k.os.trans h.os, k.tape.trans h.tape, k.output.trans h.output, Nat.le_trans h.size k.size, fun j hj hne => (k.block j (by omega) hne).trans (h.block j hj hne)⟩
theorem BelowBut.below (h : BelowBut B x w w') (hx : C ≤ x) (hC : C ≤ B) : Below C w w' := ⟨h.os, h.tape, h.output, h.size, fun k hk => h.block k (by omega) (by omega)⟩
theorem BelowBut.cell (h : BelowBut B x w w') {b o : Nat} (hb : b < B) (hne : b ≠ x) : w'.cell? ⟨b, o, none⟩ = w.cell? ⟨b, o, none⟩ := World.cell?_of_block (a := ⟨b, o, none⟩) (h.block b hb hne)
theorem BelowBut.mine (h : BelowBut w.heap.size x w w') {b o : Nat} {v : Value} (hm : Mine w b o v) (hne : b ≠ x) : Mine w' b o v := by
  have hb := h.block b hm.lt hne
  refine ⟨(World.cell?_of_block (a := ⟨b, o, none⟩) hb).trans hm.cell, ?_, Nat.lt_of_lt_of_le hm.lt h.size⟩
  rw [← hm.free]
  simp only [World.frozen?, hb]
theorem BelowBut.arr (h : BelowBut w.heap.size x w w') {b : Nat} {T : TypeId} {L : List Value} (hm : Arr w b T L) (hne : b ≠ x) : Arr w' b T L := (h.block b hm.lt hne).trans hm
end

/-- The cells of events. -/
def evCells (l : List Ev) : List Value := l.flatMap fun e => [.int .i64 e.t, .int .i64 e.k, .int .i64 e.a, .int .i64 e.b]
theorem evCells_len (l : List Ev) : (evCells l).length = 4 * l.length := by
  induction l with
  | nil => rfl
  | cons e l ih => simp [evCells] at ih ⊢; omega
theorem evCells_cons (e : Ev) (l : List Ev) : evCells (e :: l) = [.int .i64 e.t, .int .i64 e.k, .int .i64 e.a, .int .i64 e.b] ++ evCells l := rfl
theorem evCells_app (l r : List Ev) : evCells (l ++ r) = evCells l ++ evCells r := by simp [evCells]
/-- A value that is a slice whose elements' cells are xs, in a block below B. -/
def SliceAt (w : World) (B : Nat) (v : Value) (n : Nat) (xs : List Value) : Prop :=
  ∃ a cap, v = .slice a n cap ∧ n ≤ cap ∧ cap ≤ maxLen ∧ (0 < n → ∃ b o, a = some ⟨b, o, none⟩ ∧ b < B ∧ ∀ j u, xs[j]? = some u → w.cell? ⟨b, o + j, none⟩ = some u)
theorem SliceAt.keep {w w' : World} {B : Nat} {v : Value} {n : Nat} {xs : List Value} (h : SliceAt w B v n xs) (hb : ∀ b, b < B → w'.heap[b]? = w.heap[b]?) : SliceAt w' B v n xs := by
  obtain ⟨a, cap, hv, h1, h2, hc⟩ := h
  refine ⟨a, cap, hv, h1, h2, fun hn => ?_⟩
  obtain ⟨b, o, ha, hlt, hx⟩ := hc hn
  exact ⟨b, o, ha, hlt, fun j u hu => (World.cell?_of_block (a := ⟨b, o + j, none⟩) (hb b hlt)).trans (hx j u hu)⟩
theorem SliceAt.but {w w' : World} {B C : Nat} {v : Value} {n : Nat} {xs : List Value} (h : SliceAt w B v n xs) (hb : BelowBut C B w w') (hC : B ≤ C) : SliceAt w' B v n xs :=
  h.keep fun b hlt => hb.block b (by omega) (by omega)
theorem SliceAt.below {w w' : World} {B C : Nat} {v : Value} {n : Nat} {xs : List Value} (h : SliceAt w B v n xs) (hb : Below C w w') (hC : B ≤ C) : SliceAt w' B v n xs :=
  h.keep fun b hlt => hb.block b (by omega)

def nums (l : List Nat) : List Value := l.map fun n : Nat => .int .u8 (n : Int)
theorem nums_len (l : List Nat) : (nums l).length = l.length := by simp [nums]
theorem nums_at {l : List Nat} {j : Nat} (h : j < l.length) : (nums l)[j]? = some (.int .u8 (l.getD j 0 : Nat)) := by
  simp [nums, List.getD_eq_getElem?_getD, h]
theorem nums_set (l : List Nat) (j u : Nat) : (nums l).set j (.int .u8 (u : Int)) = nums (l.set j u) := by simp [nums, List.map_set]
/-- The cells of the computer. -/
def cpuCells (kv : Value) (x : Cpu) : List Value := kv :: (nums x.mem ++ (nums x.disk ++ [.int .u8 (x.a : Int), .int .u8 (x.c : Int), .int .i64 (x.time : Int)]))
section
variable {kv : Value} {x : Cpu} (h : x.WF)
include h
theorem cpu_mem {j : Nat} (hj : j < 256) : (cpuCells kv x)[1 + j]? = some (.int .u8 (x.mem.getD j 0 : Nat)) := by
  have h1 := nums_len x.mem; have h2 := h.mem
  rw [cpuCells, Nat.add_comm, List.getElem?_cons_succ, List.getElem?_append_left (by omega), nums_at (by omega)]
theorem cpu_disk {j : Nat} (hj : j < 256) : (cpuCells kv x)[257 + j]? = some (.int .u8 (x.disk.getD j 0 : Nat)) := by
  have h1 := nums_len x.mem; have h2 := h.mem; have h3 := nums_len x.disk; have h4 := h.disk
  rw [cpuCells, show 257 + j = 256 + j + 1 from by omega, List.getElem?_cons_succ, List.getElem?_append_right (by omega), List.getElem?_append_left (by omega), h1, h2, show 256 + j - 256 = j from by omega, nums_at (by omega)]
theorem cpu_reg {i : Nat} (hi : i < 3) : (cpuCells kv x)[513 + i]? = [Value.int .u8 (x.a : Int), .int .u8 (x.c : Int), .int .i64 (x.time : Int)][i]? := by
  have h1 := nums_len x.mem; have h2 := h.mem; have h3 := nums_len x.disk; have h4 := h.disk
  rw [cpuCells, show 513 + i = 512 + i + 1 from by omega, List.getElem?_cons_succ, List.getElem?_append_right (by omega), List.getElem?_append_right (by omega), h1, h2, h3, h4, show 512 + i - 256 - 256 = i from by omega]
theorem cpu_setMem {j : Nat} (hj : j < 256) (u : Nat) : (cpuCells kv x).set (1 + j) (.int .u8 (u : Int)) = cpuCells kv { x with mem := x.mem.set j u } := by
  have h1 := nums_len x.mem; have h2 := h.mem
  rw [cpuCells, Nat.add_comm, List.set_cons_succ, List.set_append_left _ _ (by omega), nums_set]
  rfl
theorem cpu_setDisk {j : Nat} (hj : j < 256) (u : Nat) : (cpuCells kv x).set (257 + j) (.int .u8 (u : Int)) = cpuCells kv { x with disk := x.disk.set j u } := by
  have h1 := nums_len x.mem; have h2 := h.mem; have h3 := nums_len x.disk; have h4 := h.disk
  rw [cpuCells, show 257 + j = 256 + j + 1 from by omega, List.set_cons_succ, List.set_append_right _ _ (by omega), List.set_append_left _ _ (by omega), h1, h2, show 256 + j - 256 = j from by omega, nums_set]
  rfl
theorem cpu_setReg (i : Nat) (hi : i < 3) (u : Value) : (cpuCells kv x).set (513 + i) u = kv :: (nums x.mem ++ (nums x.disk ++ [Value.int .u8 (x.a : Int), .int .u8 (x.c : Int), .int .i64 (x.time : Int)].set i u)) := by
  have h1 := nums_len x.mem; have h2 := h.mem; have h3 := nums_len x.disk; have h4 := h.disk
  rw [cpuCells, show 513 + i = 512 + i + 1 from by omega, List.set_cons_succ, List.set_append_right _ _ (by omega), List.set_append_right _ _ (by omega), h1, h2, h3, h4, show 512 + i - 256 - 256 = i from by omega]
end

/-- The computer lies in block B. -/
structure CpuAt (w : World) (B : Nat) (x : Cpu) : Prop where
  wf : x.WF
  at_ : ∃ kv, Arr w B 68 (cpuCells kv x) ∧ SliceAt w B kv x.keys.length (evCells x.keys)
section
variable {w w' : World} {B : Nat} {x : Cpu}
theorem CpuAt.lt (h : CpuAt w B x) : B < w.heap.size := by obtain ⟨_, _, hA, _⟩ := h; exact hA.lt
theorem CpuAt.free (h : CpuAt w B x) (o : Nat) : w.frozen? ⟨B, o, none⟩ = false := by obtain ⟨_, _, hA, _⟩ := h; exact hA.free o
theorem CpuAt.mem (h : CpuAt w B x) {j : Nat} (hj : j < 256) : w.cell? ⟨B, 1 + j, none⟩ = some (.int .u8 (x.mem.getD j 0 : Nat)) := by obtain ⟨hw, _, hA, _⟩ := h; exact hA.cell (cpu_mem hw hj)
theorem CpuAt.disk (h : CpuAt w B x) {j : Nat} (hj : j < 256) : w.cell? ⟨B, 257 + j, none⟩ = some (.int .u8 (x.disk.getD j 0 : Nat)) := by obtain ⟨hw, _, hA, _⟩ := h; exact hA.cell (cpu_disk hw hj)
theorem CpuAt.a (h : CpuAt w B x) : w.cell? ⟨B, 513, none⟩ = some (.int .u8 (x.a : Int)) := by obtain ⟨hw, _, hA, _⟩ := h; exact hA.cell (cpu_reg hw (i := 0) (by omega))
theorem CpuAt.c (h : CpuAt w B x) : w.cell? ⟨B, 514, none⟩ = some (.int .u8 (x.c : Int)) := by obtain ⟨hw, _, hA, _⟩ := h; exact hA.cell (cpu_reg hw (i := 1) (by omega))
theorem CpuAt.time (h : CpuAt w B x) : w.cell? ⟨B, 515, none⟩ = some (.int .i64 (x.time : Int)) := by obtain ⟨hw, _, hA, _⟩ := h; exact hA.cell (cpu_reg hw (i := 2) (by omega))
theorem CpuAt.drew (h : CpuAt w B x) : CpuAt w.drew B x := ⟨h.wf, by obtain ⟨_, kv, hA, hK⟩ := h; exact ⟨kv, hA, hK⟩⟩
theorem CpuAt.drewN (h : CpuAt w B x) (n : Nat) : CpuAt (w.drewN n) B x := ⟨h.wf, by obtain ⟨_, kv, hA, hK⟩ := h; exact ⟨kv, hA, hK⟩⟩
theorem CpuAt.belowAt {C : Nat} (h : CpuAt w B x) (hb : Below C w w') (hC : B < C) : CpuAt w' B x := ⟨h.wf, by obtain ⟨_, kv, hA, hK⟩ := h; exact ⟨kv, hA.belowAt hb hC, hK.below hb (by omega)⟩⟩
theorem CpuAt.below (h : CpuAt w B x) (hb : Below w.heap.size w w') : CpuAt w' B x := h.belowAt hb h.lt
theorem CpuAt.alloc (h : CpuAt w B x) (o : Obj) : CpuAt (w.alloc o) B x := h.below ((Below.refl _ _).alloc (Nat.le_refl _) _)
theorem CpuAt.store (h : CpuAt w B x) {o : Nat} {u : Value} {y : Cpu} (hy : y.WF) (hk : y.keys = x.keys) (hs : ∀ kv, (cpuCells kv x).set o u = cpuCells kv y) : CpuAt (w.setCell ⟨B, o, none⟩ u) B y := by
  obtain ⟨_, kv, hA, hK⟩ := h
  refine ⟨hy, kv, by rw [← hs kv]; exact hA.set o u, ?_⟩
  rw [hk]
  exact hK.but ((BelowBut.refl B _ _).setCell o u) (Nat.le_refl _)
theorem CpuAt.setA (h : CpuAt w B x) {v : Nat} (hv : v < 256) : CpuAt (w.setCell ⟨B, 513, none⟩ (.int .u8 (v : Int))) B { x with a := v } :=
  h.store ⟨h.wf.mem, h.wf.disk, h.wf.memB, h.wf.diskB, hv, h.wf.c, h.wf.keys⟩ rfl (fun _ => by rw [cpu_setReg h.wf 0 (by omega)]; rfl)
theorem CpuAt.setC (h : CpuAt w B x) {v : Nat} (hv : v < 256) : CpuAt (w.setCell ⟨B, 514, none⟩ (.int .u8 (v : Int))) B { x with c := v } :=
  h.store ⟨h.wf.mem, h.wf.disk, h.wf.memB, h.wf.diskB, h.wf.a, hv, h.wf.keys⟩ rfl (fun _ => by rw [cpu_setReg h.wf 1 (by omega)]; rfl)
theorem CpuAt.setTime (h : CpuAt w B x) (v : Nat) : CpuAt (w.setCell ⟨B, 515, none⟩ (.int .i64 (v : Int))) B { x with time := v } :=
  h.store ⟨h.wf.mem, h.wf.disk, h.wf.memB, h.wf.diskB, h.wf.a, h.wf.c, h.wf.keys⟩ rfl (fun _ => by rw [cpu_setReg h.wf 2 (by omega)]; rfl)
theorem CpuAt.setMem (h : CpuAt w B x) {j v : Nat} (hj : j < 256) (hv : v < 256) : CpuAt (w.setCell ⟨B, 1 + j, none⟩ (.int .u8 (v : Int))) B { x with mem := x.mem.set j v } :=
  h.store ⟨by simp [h.wf.mem], h.wf.disk, set_lt h.wf.memB _ hv, h.wf.diskB, h.wf.a, h.wf.c, h.wf.keys⟩ rfl (fun _ => cpu_setMem h.wf hj v)
theorem CpuAt.setDisk (h : CpuAt w B x) {j v : Nat} (hj : j < 256) (hv : v < 256) : CpuAt (w.setCell ⟨B, 257 + j, none⟩ (.int .u8 (v : Int))) B { x with disk := x.disk.set j v } :=
  h.store ⟨h.wf.mem, by simp [h.wf.disk], h.wf.memB, set_lt h.wf.diskB _ hv, h.wf.a, h.wf.c, h.wf.keys⟩ rfl (fun _ => cpu_setDisk h.wf hj v)
end
end Go.Proofs.YtocpnlifmeffkaaGreatDoor
