/-
  Small lemmas on endings, on cells of the call's own, names for worlds.
-/
import Derived.Test.YtainohbfcehpoaaDoorRows
import Derived.WalkKit
import Derived.WalkSpells
import Derived.WalkLawsBesides
import Derived.Lib.Hide
import Derived.Deep.QuietTactic
import Derived.BigQuiet
namespace Go.Proofs.YtainohbfcehpoaaDoor
open Go.RowKit

theorem ret_u64 {a b : Int} (h : a = b) : Ending.returned (.int .u64 a) = .returned (.int .u64 b) := by rw [h]
theorem ret_i64 {a b : Int} (h : a = b) : Ending.returned (.int .i64 a) = .returned (.int .i64 b) := by rw [h]
theorem ret_bool {a b : Bool} (h : a = b) : Ending.returned (.bool a) = .returned (.bool b) := by rw [h]
def U64 : Int := 18446744073709551616
/-- An int. -/
structure I64 (n : Int) : Prop where
  lo : -9223372036854775808 ≤ n
  hi : n ≤ 9223372036854775807
theorem neg_wrap (n : Int) (h1 : I64 n) (h : n < 0) : IntKind.u64.wrap (-IntKind.u64.wrap n) = n.natAbs := by
  obtain ⟨h1, h2⟩ := h1
  simp [IntKind.wrap, IntKind.bits, IntKind.signed] ; omega
theorem pos_wrap (n : Int) (h1 : I64 n) (h : 0 ≤ n) : IntKind.u64.wrap n = n.natAbs := by
  obtain ⟨h1, h2⟩ := h1
  simp [IntKind.wrap, IntKind.bits, IntKind.signed] ; omega
theorem natAbs_u64 (n : Int) (h : I64 n) : Hid ((n.natAbs : Int) < U64) := by
  obtain ⟨h1, h2⟩ := h
  show (n.natAbs : Int) < 18446744073709551616
  omega

theorem quiet_add {P : Program} {f : FuncId} {args : Array Value} {w : World} {a n : Nat} {v : Value}
    (h : Calls P f args (w.drewN (a + n)) fun e w' => e = .returned v ∧ ∃ m, w' = (w.drewN (a + n)).drewN m) :
    Calls P f args (w.drewN (a + n)) fun e w'' => e = .returned v ∧ ∃ m, w'' = w.drewN (a + m) :=
  h.mono fun _ _ ⟨he, m, hm⟩ => ⟨he, n + m, by rw [hm, World.drewN_drewN, Nat.add_assoc]⟩
theorem quiet_add_same {P : Program} {f : FuncId} {args : Array Value} {w : World} {a n : Nat} {v : Value}
    (h : Calls P f args (w.drewN (a + n)) fun e w' => e = .returned v ∧ w' = w.drewN (a + n)) :
    Calls P f args (w.drewN (a + n)) fun e w'' => e = .returned v ∧ ∃ m, w'' = w.drewN (a + m) :=
  h.mono fun _ _ ⟨he, hm⟩ => ⟨he, n, hm⟩

/-- What a call that only computes leaves: draws alone. -/
def Dr (w w' : World) : Prop := ∃ n, w' = w.drewN n
theorem Dr.refl (w : World) : Dr w w := ⟨0, rfl⟩

/-! A name for the world at hand. -/
theorem name_wp {P : Program} {c : Code} {Q : Exit → Act → World → Prop} {a : Act} {W : World} (h : ∀ w', w' = W → c.wp P Q a w') : c.wp P Q a W := h W rfl
theorem name_list {P : Program} {ops : Array Oper} {Q : Exit → Act → World → Prop} {l : List Oper} {a : Act} {W : World} (h : ∀ w', w' = W → wpList P ops Q l a w') : wpList P ops Q l a W := h W rfl
theorem name_then {K : Act → World → Prop} {Q : Exit → Act → World → Prop} {e : Exit} {a : Act} {W : World} (h : ∀ w', w' = W → Exit.then K Q e a w') : Exit.then K Q e a W := h W rfl
theorem name_block {K : Exit → Act → World → Prop} {i : Nat} {e : Exit} {a : Act} {W : World} (h : ∀ w', w' = W → Exit.inBlock i K e a w') : Exit.inBlock i K e a W := h W rfl
theorem name_calls {P : Program} {f : FuncId} {args : Array Value} {W : World} {R : Ending → World → Prop} (h : ∀ w', w' = W → Calls P f args w' R) : Calls P f args W R := h W rfl
theorem name_post {P : Program} {fn : Func} {R : Ending → World → Prop} {e : Exit} {a : Act} {W : World} (h : ∀ w', w' = W → bodyPost P fn R e a w') : bodyPost P fn R e a W := h W rfl

/-- What is known of a cell of the call's own: its value, that it is not frozen, that its block is there. -/
structure Mine (w : World) (b o : Nat) (v : Value) : Prop where
  cell : w.cell? ⟨b, o, none⟩ = some v
  free : w.frozen? ⟨b, o, none⟩ = false
  lt : b < w.heap.size
theorem Mine.below {w w' : World} {b o : Nat} {v : Value} (h : Mine w b o v) (hb : Below w.heap.size w w') : Mine w' b o v :=
  ⟨(hb.cell (p := ⟨b, o, none⟩) h.lt).trans h.cell, (hb.frozen (p := ⟨b, o, none⟩) h.lt).trans h.free, Nat.lt_of_lt_of_le h.lt hb.size⟩
theorem Mine.belowAt {w w' : World} {B b o : Nat} {v : Value} (h : Mine w b o v) (hb : Below B w w') (hB : b < B) : Mine w' b o v :=
  ⟨(hb.cell (p := ⟨b, o, none⟩) hB).trans h.cell, (hb.frozen (p := ⟨b, o, none⟩) hB).trans h.free, Nat.lt_of_lt_of_le h.lt hb.size⟩
theorem Mine.drew {w : World} {b o : Nat} {v : Value} (h : Mine w b o v) : Mine w.drew b o v := ⟨h.cell, h.free, h.lt⟩
theorem Mine.drewN {w : World} {b o : Nat} {v : Value} (h : Mine w b o v) (n : Nat) : Mine (w.drewN n) b o v := ⟨h.cell, h.free, h.lt⟩
theorem Mine.alloc {w : World} {b o : Nat} {v : Value} (h : Mine w b o v) (x : Obj) : Mine (w.alloc x) b o v :=
  h.below ((Below.refl _ _).alloc (Nat.le_refl _) _)
/-- A cell of the call's own, whatever it holds. -/
def MineS (w : World) (b o : Nat) : Prop := ∃ v, Mine w b o v
theorem Mine.slot {w : World} {b o : Nat} {v : Value} (h : Mine w b o v) : MineS w b o := ⟨v, h⟩
theorem Mine.set {w : World} {b o : Nat} (h : MineS w b o) (u : Value) : Mine (w.setCell ⟨b, o, none⟩ u) b o u := by
  obtain ⟨v, h⟩ := h
  exact ⟨World.cell?_setCell_same' _ _ _ (by rw [h.cell]; rfl), (World.frozen?_setCell _ _ _ _).trans h.free, by simpa [World.setCell] using h.lt⟩
theorem MineS.set {w : World} {b o : Nat} (h : MineS w b o) (u : Value) (b' o' : Nat) : MineS (w.setCell ⟨b', o', none⟩ u) b o := by
  obtain ⟨v, h⟩ := h
  by_cases e : b' = b ∧ o' = o
  · obtain ⟨rfl, rfl⟩ := e; exact ⟨u, Mine.set ⟨v, h⟩ u⟩
  · exact ⟨v, (World.cell?_setCell_other _ _ _ _ (by intro e'; injection e' with e1 e2; omega)).trans h.cell, (World.frozen?_setCell _ _ _ _).trans h.free, by simpa [World.setCell] using h.lt⟩
theorem MineS.alloc {w : World} {b o : Nat} (h : MineS w b o) (x : Obj) : MineS (w.alloc x) b o := by
  obtain ⟨v, h⟩ := h; exact ⟨v, h.below ((Below.refl _ _).alloc (Nat.le_refl _) _)⟩
theorem MineS.drew {w : World} {b o : Nat} (h : MineS w b o) : MineS w.drew b o := by
  obtain ⟨v, h⟩ := h; exact ⟨v, h.drew⟩
theorem MineS.drewN {w : World} {b o : Nat} (h : MineS w b o) (n : Nat) : MineS (w.drewN n) b o := by
  obtain ⟨v, h⟩ := h; exact ⟨v, h.drewN n⟩
theorem Mine.other {w : World} {b o b' o' : Nat} {v : Value} (h : Mine w b o v) (u : Value) (hne : b' ≠ b ∨ o' ≠ o) : Mine (w.setCell ⟨b', o', none⟩ u) b o v :=
  ⟨(World.cell?_setCell_other _ _ _ _ (by intro e; injection e with e1 e2; omega)).trans h.cell, (World.frozen?_setCell _ _ _ _).trans h.free, by simpa [World.setCell] using h.lt⟩
theorem Mine.new {w : World} {cs : Array Value} {t : TypeId} {o : Nat} {v : Value} (h : cs[o]? = some v) : Mine (w.alloc (.cells cs t)) w.heap.size o v := by
  have e : (w.alloc (.cells cs t)).heap[w.heap.size]? = some (.cells cs t (0, 0)) := (MapKept.heap_alloc w _).1
  have e2 : ∀ a : World, a.heap[w.heap.size]? = some (.cells cs t (0, 0)) → a.cell? ⟨w.heap.size, o, none⟩ = some v ∧ a.frozen? ⟨w.heap.size, o, none⟩ = false := by
    intro a ha
    simp only [World.cell?, World.frozen?, ha]
    simp [h]
  exact ⟨(e2 _ e).1, (e2 _ e).2, by simp⟩
theorem MineS.new {w : World} {cs : Array Value} {t : TypeId} {o : Nat} (h : o < cs.size) : MineS (w.alloc (.cells cs t)) w.heap.size o :=
  ⟨cs[o], Mine.new (by simp [h])⟩
theorem Mine.newAt {w : World} {cs : Array Value} {t : TypeId} {b o : Nat} {v : Value} (h : cs[o]? = some v) (hb : b = w.heap.size) : Mine (w.alloc (.cells cs t)) b o v := by
  subst hb; exact Mine.new h
theorem Mine.set' {w : World} {b o : Nat} {v : Value} (h : Mine w b o v) (u : Value) : Mine (w.setCell ⟨b, o, none⟩ u) b o u := Mine.set h.slot u
theorem name_wpIn {F : Fence} {n : Nat} {P : Program} {c : Code} {Q : Exit → Act → World → Prop} {a : Act} {W : World} (h : ∀ w', w' = W → c.wpIn F n P Q a w') : c.wpIn F n P Q a W := h W rfl
end Go.Proofs.YtainohbfcehpoaaDoor
