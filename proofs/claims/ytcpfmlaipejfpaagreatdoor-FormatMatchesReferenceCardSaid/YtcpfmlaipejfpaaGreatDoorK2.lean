/-
  Formats of chapter 4, plain: fields, formats, tables; what makes a table valid, step by step.
  Formats of chapter 4: small contracts (within, alone, must), values of fields.
  Formats of chapter 4: the table of kinds.
  A map of integers by integers that the call makes, as a function; general but for the types' numbers.
  Formats of chapter 4: what makes a field fit, kind by kind.
  Formats of chapter 4: the kinds' own tests.
  Formats of chapter 4: which function of the table of kinds is called, and what it answers.
  Formats of chapter 4: the least length of the last format.
-/
import Derived.Test.YtcpfmlaipejfpaaGreatDoorK1
import Derived.Lib.SplitLaws
import Derived.Deep.MidRow
import Derived.Maps.OwnOps
import Derived.Maps.OwnSet
import Derived.Maps.Views
import Derived.Test.YtcpfmlaipejfpaaGreatDoorShelf
import Derived.WalkMore
import Derived.StillTailTactics
import Derived.Deep.RegionHeld3
namespace Go.Proofs.YtcpfmlaipejfpaaGreatDoor

structure Fld where
  kind : Int
  n : Int
  frm : Int
  text : List UInt8
deriving DecidableEq, Inhabited
structure Fmt where
  id : Int
  flds : List Fld
deriving DecidableEq, Inhabited
def w64i (n : Int) : Int := IntKind.i64.wrap n
def withinZ (n lo hi : Int) : Bool := decide (lo ≤ n) && decide (n ≤ hi)
theorem withinZ_iff {n lo hi : Int} : withinZ n lo hi = true ↔ lo ≤ n ∧ n ≤ hi := by simp [withinZ]
def aloneF (f : Fld) : Bool := (f.frm == -1) && f.text.isEmpty
/-- The field names an earlier number that no other field names. -/
def countedF (prev : List Fld) (f : Fld) : Bool :=
  withinZ f.frm 0 ((prev.length : Int) - 1) && (prev[f.frm.toNat]!.kind == 2) && f.text.isEmpty && !prev.any (fun g => g.frm == f.frm)
/-- A field is as it should be, behind others; m: the least lengths of the formats ahead. -/
def fitsF (m : Int → Option Int) (prev : List Fld) (f : Fld) : Bool :=
  if f.kind = 1 then (f.n == 0) && (f.frm == -1) && withinZ (f.text.length : Int) 1 16
  else if f.kind = 2 then aloneF f && withinZ f.n 1 3
  else if f.kind = 3 then (if aloneF f then withinZ f.n 0 4096 else (f.n == 0) && countedF prev f)
  else if f.kind = 4 then (m f.n).isSome && countedF prev f
  else if f.kind = 5 then
    match m f.n with
    | some x => countedF prev f && decide (x < 2 ^ (8 * prev[f.frm.toNat]!.n).toNat)
    | none => false
  else if f.kind = 6 then aloneF f && withinZ f.n 1 3
  else false
def leastF (m : Int → Option Int) (f : Fld) : Int :=
  if f.kind = 1 then (f.text.length : Int)
  else if f.kind = 4 then 0
  else if f.kind = 5 then (m f.n).getD 0
  else f.n
def lenF (m : Int → Option Int) (l : List Fld) : Int := l.foldl (fun n f => w64i (n + leastF m f)) 0
/-- A table that is being made: its formats, the least lengths of those that are complete. -/
structure Tab where
  list : List Fmt
  m : Int → Option Int
def putM (m : Int → Option Int) (k v : Int) : Int → Option Int := fun i => if i = k then some v else m i
def Tab.fin (t : Tab) : Option Tab :=
  match t.list.getLast? with
  | none => some t
  | some f => if f.flds.isEmpty then none else some { t with m := putM t.m f.id (lenF t.m f.flds) }
def lastLess (l : List Fmt) (id : Int) : Bool :=
  match l.getLast? with
  | none => true
  | some f => decide (f.id < id)
def Tab.beginT (t : Tab) (id : Int) : Option Tab :=
  match t.fin with
  | none => none
  | some t => if withinZ id 1 1000000 && decide (t.list.length < 60) && lastLess t.list id then some { t with list := t.list ++ [⟨id, []⟩] } else none
def Tab.addT (t : Tab) (f : Fld) : Option Tab :=
  match t.list.getLast? with
  | none => none
  | some g =>
    if withinZ f.kind 1 6 && decide (g.flds.length < 16) && fitsF t.m g.flds f && decide (lenF t.m (g.flds ++ [f]) ≤ 65536) then some { t with list := t.list.dropLast ++ [⟨g.id, g.flds ++ [f]⟩] } else none
def Tab.addAll (t : Tab) : List Fld → Option Tab
  | [] => some t
  | f :: r => match t.addT f with
    | none => none
    | some t => t.addAll r
def Tab.takeAll (t : Tab) : List Fmt → Option Tab
  | [] => some t
  | f :: r => match t.beginT f.id with
    | none => none
    | some t => match t.addAll f.flds with
      | none => none
      | some t => t.takeAll r
def builtT (l : List Fmt) : Option Tab :=
  match (Tab.takeAll ⟨[], fun _ => none⟩ l) with
  | none => none
  | some t => t.fin
def validT (l : List Fmt) : Bool := (builtT l).isSome
/-- P4.1: the least length of a format of a table. -/
def leastT (l : List Fmt) (id : Int) : Int :=
  match builtT l with
  | none => 0
  | some t => (t.m id).getD 0
end Go.Proofs.YtcpfmlaipejfpaaGreatDoor
namespace Go.Proofs.YtcpfmlaipejfpaaGreatDoor
open Go.RowKit

attribute [local go_sem] Oper.semAt_some

def str (l : List UInt8) : ByteArray := ⟨l.toArray⟩
theorem str_size (l : List UInt8) : (str l).size = l.length := by simp [str, ByteArray.size]
theorem str_list (l : List UInt8) : (str l).data.toList = l := by simp [str]
theorem str_empty (l : List UInt8) : (str l).toList.isEmpty = l.isEmpty := by rw [ByteArray.toList_eq, str_list]
def fldC (f : Fld) : List Value := [.int .i64 f.kind, .int .i64 f.n, .int .i64 f.frm, .string (str f.text)]
def fldV (f : Fld) : Value := .agg (fldC f).toArray
def fldL (l : List Fld) : List Value := l.flatMap fldC
theorem fldL_len (l : List Fld) : (fldL l).length = l.length * 4 := by
  induction l with
  | nil => rfl
  | cons x l ih => simp [fldL, fldC] at ih ⊢; omega
theorem fldL_snoc (l : List Fld) (x : Fld) : fldL (l ++ [x]) = fldL l ++ fldC x := by simp [fldL]
theorem fldL_at : ∀ (l : List Fld) (i j : Nat), i < l.length → j < 4 → (fldL l)[i * 4 + j]? = (fldC l[i]!)[j]?
  | [], i, _, h, _ => by simp at h
  | x :: l, 0, j, _, hj => by
    simp only [fldL, List.flatMap_cons, Nat.zero_mul, Nat.zero_add, List.getElem!_cons_zero]
    rw [List.getElem?_append_left (by simp [fldC]; omega)]
  | x :: l, i + 1, j, h, hj => by
    have ih := fldL_at l i j (by simpa using h) hj
    rw [List.getElem!_cons_succ, ← ih]
    simp only [fldL, List.flatMap_cons]
    rw [List.getElem?_append_right (by simp [fldC]; omega)]
    congr 1
    simp [fldC]; omega
theorem within_any (a b c : Int) (w : World) :
    Calls Tryz.prog 59 #[.int .i64 a, .int .i64 b, .int .i64 c] w fun e w' => e = .returned (.bool (withinZ a b c)) ∧ w' = w := by
  have hv : Hid (withinZ a b c = (decide (b ≤ a) && decide (a ≤ c))) := rfl
  by_cases h : b ≤ a
  · have hd : decide (b ≤ a) = true := by simpa using h
    go_enter Tryz.func59, Tryz.ntmps59
    go_wp2
    go_ret
    exact ⟨by rw [hv.out, hd]; rfl, rfl⟩
  · have hd : decide (b ≤ a) = false := by simpa using h
    go_enter Tryz.func59, Tryz.ntmps59
    go_wp2
    go_ret
    exact ⟨by rw [hv.out, hd]; rfl, rfl⟩
theorem withinR_any (a b c : Int) (w : World) :
    Calls Tryz.prog 56 #[.int .i64 a, .int .i64 b, .int .i64 c] w fun e w' => e = .returned (.bool (withinZ a b c)) ∧ w' = w := by
  have hv : Hid (withinZ a b c = (decide (b ≤ a) && decide (a ≤ c))) := rfl
  by_cases h : b ≤ a
  · have hd : decide (b ≤ a) = true := by simpa using h
    go_enter Tryz.func56, Tryz.ntmps56
    go_wp2
    go_ret
    exact ⟨by rw [hv.out, hd]; rfl, rfl⟩
  · have hd : decide (b ≤ a) = false := by simpa using h
    go_enter Tryz.func56, Tryz.ntmps56
    go_wp2
    go_ret
    exact ⟨by rw [hv.out, hd]; rfl, rfl⟩
theorem alone_any (f : Fld) (w : World) :
    Calls Tryz.prog 67 #[fldV f] w fun e w' => e = .returned (.bool (aloneF f)) ∧ Below w.heap.size w w' := by
  obtain ⟨k, n, m, t⟩ := f
  have hv : Hid (aloneF ⟨k, n, m, t⟩ = ((m == -1) && (str t).toList.isEmpty)) := by show _ = _; rw [str_empty]; rfl
  unfold fldV fldC
  by_cases h : m = -1
  · have hd : (m == -1) = true := by rw [h]; rfl
    replace h := Lib.hid h
    go_enter Tryz.func67, Tryz.ntmps67
    go_wp2
    go_ret
    exact ⟨by rw [hv.out, hd]; rfl, (Below.refl _ _).alloc (Nat.le_refl _) _⟩
  · have hd : (m == -1) = false := by rw [beq_eq_false_iff_ne]; exact h
    replace h := Lib.hid h
    go_enter Tryz.func67, Tryz.ntmps67
    go_wp2
    go_ret
    exact ⟨by rw [hv.out, hd]; rfl, (Below.refl _ _).alloc (Nat.le_refl _) _⟩
/-- A panic with the error of the package. -/
def errV : Value := .iface 41 (.int .i64 40)
def errE : Ending := .panicked [{ v := errV, recovered := false }]
theorem must_true (w : World) : Calls Tryz.prog 81 #[.bool true] w fun e w' => e = .returned (.tuple #[]) ∧ w' = w := by
  go_enter Tryz.func81, Tryz.ntmps81
  go_wp2
  go_end0
  exact ⟨rfl, rfl⟩
theorem must_false (w : World) : Calls Tryz.prog 81 #[.bool false] w fun e w' => e = errE ∧ w' = w := by
  go_enter Tryz.func81, Tryz.ntmps81
  go_wp2
  exact ⟨rfl, rfl, rfl⟩
end Go.Proofs.YtcpfmlaipejfpaaGreatDoor
namespace Go.Proofs.YtcpfmlaipejfpaaGreatDoor
open Go.RowKit

attribute [local go_sem] Oper.semAt_some

def fnV (k : Nat) : Value := .func (.func k) #[] #[]
def namedV (b : Nat) : Value := .func (.func 86) #[] #[.pointer (some ⟨b, 0, none⟩)]
def kindsL (b1 b2 : Nat) : List Value :=
  [.nilFunc, .nilFunc, .nilFunc,
   fnV 58, fnV 60, fnV 61,
   fnV 63, fnV 64, namedV b1,
   fnV 66, fnV 64, fnV 69,
   fnV 71, fnV 72, fnV 73,
   fnV 74, fnV 75, fnV 76,
   fnV 63, fnV 64, namedV b2]
def numberW : List UInt8 := [110, 117, 109, 98, 101, 114]
def checkW : List UInt8 := [99, 104, 101, 99, 107]
theorem named_any (s : List UInt8) (w : World) :
    Calls Tryz.prog 65 #[.string (str s)] w fun e w' => e = .returned (.func (.func 86) #[] #[.pointer (some ⟨w.heap.size, 0, none⟩)]) ∧ w' = w.alloc (.cells #[.string (str s)] 9) := by
  have hmf : ∀ (fn : Fn) (first cap : Array Value) (w : World), (Instr.makeFunc fn first cap).run Tryz.prog w = .ok (.func fn first cap) w := fun _ _ _ _ => rfl
  go_enter Tryz.func65, Tryz.ntmps65
  go_wp2
  go_ret
  exact ⟨rfl, rfl⟩
set_option maxRecDepth 100000 in
set_option maxHeartbeats 4000000 in
theorem kinds_any (w : World) :
    Calls Tryz.prog 40 #[] w fun e w' => ∃ b1 b2, e = .returned (.agg (kindsL b1 b2).toArray) ∧ Arr w' b1 9 [.string (str numberW)] ∧ Arr w' b2 9 [.string (str checkW)] ∧ Below w.heap.size w w' := by
  have hn := fun W => Lib.hid (named_any numberW W)
  have hc := fun W => Lib.hid (named_any checkW W)
  go_enter Tryz.func40, Tryz.ntmps40
  go_wp2_with fail
  refine (hn _).out.mono ?_
  rintro e w1 ⟨rfl, rfl⟩
  go_wp2_with fail
  refine (hc _).out.mono ?_
  rintro e w2 ⟨rfl, rfl⟩
  obtain ⟨W, hW⟩ : ∃ W, W = ((w.alloc (.cells #[.nilFunc, .nilFunc, .nilFunc, .nilFunc, .nilFunc, .nilFunc, .nilFunc, .nilFunc, .nilFunc, .nilFunc, .nilFunc, .nilFunc, .nilFunc, .nilFunc, .nilFunc, .nilFunc, .nilFunc, .nilFunc, .nilFunc, .nilFunc, .nilFunc] 82)).alloc (.cells #[.string (str numberW)] 9)).alloc (.cells #[.string (str checkW)] 9) := ⟨_, rfl⟩
  have hA : Arr W w.heap.size 82 [.nilFunc, .nilFunc, .nilFunc, .nilFunc, .nilFunc, .nilFunc, .nilFunc, .nilFunc, .nilFunc, .nilFunc, .nilFunc, .nilFunc, .nilFunc, .nilFunc, .nilFunc, .nilFunc, .nilFunc, .nilFunc, .nilFunc, .nilFunc, .nilFunc] := by rw [hW]; exact ((Arr.new rfl rfl).alloc _).alloc _
  have h1 : Arr W (w.heap.size + 1) 9 [.string (str numberW)] := by rw [hW]; exact (Arr.new rfl (by simp)).alloc _
  have h2 : Arr W (w.heap.size + 1 + 1) 9 [.string (str checkW)] := by rw [hW]; exact Arr.new rfl (by simp)
  have hB : Below w.heap.size w W := by rw [hW]; exact (((Below.refl _ _).alloc (Nat.le_refl _) _).alloc (by simp) _).alloc (by simp; omega) _
  rw [← hW]
  clear hW hn hc
  have hfin : Hid (Arr (W.setCells w.heap.size 0 (kindsL (w.heap.size + 1) (w.heap.size + 1 + 1))) w.heap.size 82 (kindsL (w.heap.size + 1) (w.heap.size + 1 + 1))) := hA.setAll rfl
  have hfb : Hid (Below w.heap.size w (W.setCells w.heap.size 0 (kindsL (w.heap.size + 1) (w.heap.size + 1 + 1)))) := Below.setCells _ _ _ _ hB (Nat.le_refl _)
  have hf1 : Hid (Arr (W.setCells w.heap.size 0 (kindsL (w.heap.size + 1) (w.heap.size + 1 + 1))) (w.heap.size + 1) 9 [.string (str numberW)]) := Arr.setCells_other _ _ _ _ h1 (by omega)
  have hf2 : Hid (Arr (W.setCells w.heap.size 0 (kindsL (w.heap.size + 1) (w.heap.size + 1 + 1))) (w.heap.size + 1 + 1) 9 [.string (str checkW)]) := Arr.setCells_other _ _ _ _ h2 (by omega)
  replace hA := Lib.hid hA
  replace h1 := Lib.hid h1
  replace h2 := Lib.hid h2
  replace hB := Lib.hid hB
  go_wp2_with (refine arr_store rfl 82 _ _ rfl w.heap.size rfl (vs := kindsL (w.heap.size + 1) (w.heap.size + 1 + 1)) rfl hA.out (n := 21) (by kernel_rfl) rfl rfl rfl ?_)
  generalize W.setCells w.heap.size 0 (kindsL (w.heap.size + 1) (w.heap.size + 1 + 1)) = W2 at *
  refine bodyPost_ret (arr_result (p := 0) (ty := 82) (n := 21) (by kernel_rfl) _ hfin.out rfl Tryz.underlying82 rfl (by kernel_rfl) rfl) rfl ?_
  exact ⟨_, _, rfl, hf1.out, hf2.out, hfb.out⟩
end Go.Proofs.YtcpfmlaipejfpaaGreatDoor
namespace Go.Proofs.YtcpfmlaipejfpaaGreatDoor
open Go.RowKit Go.Maps

theorem keyedI : Keyed Tryz.prog 3 := int_keyed Tryz.underlying3
theorem zeroI (w : World) : (zeroValue 3).run Tryz.prog w = .ok (.int .i64 0) w := by kernel_rfl
theorem wf_i64' {a : Int} (h : I64 a) : (Lit.int .i64 a).wf = true := by
  obtain ⟨h1, h2⟩ := h
  simp [Lit.wf, IntKind.min, IntKind.max, IntKind.signed, IntKind.bits]
  omega
theorem keyI {a : Int} (h : I64 a) : keyOf Tryz.prog 3 (.int .i64 a) = some (.int .i64 a) := keyOf_int_mk Tryz.underlying3 (wf_i64' h)
/-- Block b is a map of at most n entries that says what m says. -/
def MapIs (w : World) (b n : Nat) (m : Int → Option Int) : Prop :=
  ∃ D : DataW Unit, w.ownsMap Tryz.prog 3 (plainElem Tryz.prog 3) b n D ∧ ∀ k, Maps.has D (.int .i64 k) = (m k).isSome ∧ D.atKey (.int .i64 k) (.lit (.int .i64 0)) = .lit (.int .i64 ((m k).getD 0))
theorem MapIs.lt {w : World} {b n : Nat} {m : Int → Option Int} (h : MapIs w b n m) : b < w.heap.size := by obtain ⟨D, h1, _⟩ := h; exact h1.lt
theorem MapIs.of_block {w w' : World} {b n : Nat} {m : Int → Option Int} (h : MapIs w b n m) (hb : w'.heap[b]? = w.heap[b]?) : MapIs w' b n m := by
  obtain ⟨D, ⟨es, clock, h1, h2⟩, h3⟩ := h
  exact ⟨D, ⟨es, clock, hb.trans h1, h2⟩, h3⟩
theorem MapIs.below {w w' : World} {b n : Nat} {m : Int → Option Int} (h : MapIs w b n m) (hb : Below w.heap.size w w') : MapIs w' b n m := h.of_block (hb.block b h.lt)
theorem MapIs.made (w : World) : MapIs (w.alloc (.map #[] 0)) w.heap.size 0 (fun _ => none) :=
  ⟨.map [], World.ownsMap_made _ _ _ _, fun _ => ⟨rfl, rfl⟩⟩
set_option maxRecDepth 100000 in
theorem MapIs.look {w : World} {b n : Nat} {m : Int → Option Int} (h : MapIs w b n m) {k : Int} (hk : I64 k) : (Instr.lookup 67 (.map (some b)) (.int .i64 k) false).run Tryz.prog w = .ok (.int .i64 ((m k).getD 0)) w := by
  obtain ⟨D, h1, h2⟩ := h
  obtain ⟨c, hrun, hat, _⟩ := h1.lookup_int keyedI Tryz.underlying67 Tryz.underlying3 (zeroI _) (keyI hk)
  rw [(h2 k).2] at hat
  injection hat with hat
  injection hat with _ hat
  rw [hrun, ← hat]
set_option maxRecDepth 100000 in
theorem MapIs.lookOk {w : World} {b n : Nat} {m : Int → Option Int} (h : MapIs w b n m) {k : Int} (hk : I64 k) : (Instr.lookup 67 (.map (some b)) (.int .i64 k) true).run Tryz.prog w = .ok (.tuple #[.int .i64 ((m k).getD 0), .bool (m k).isSome]) w := by
  obtain ⟨D, h1, h2⟩ := h
  obtain ⟨v, ps, hrun, hv⟩ := h1.look_ok keyedI Tryz.underlying67 (zeroI _) (plainElem_int Tryz.underlying3 (by decide)) (keyI hk)
  rw [(h2 k).2] at hv
  obtain ⟨c, rfl, hc, _⟩ := plainElem_int_inv Tryz.underlying3 hv
  have hc1 := congrArg Prod.fst hc
  dsimp only at hc1
  injection hc1 with hc1
  injection hc1 with _ hc1
  rw [hrun, (h2 k).1, ← hc1]
set_option maxRecDepth 100000 in
theorem MapIs.put {w : World} {b n : Nat} {m : Int → Option Int} (h : MapIs w b n m) (hn : n < maxLen) {k v : Int} (hk : I64 k) (hv : I64 v) : ∃ w', (Instr.mapUpdate 67 (.map (some b)) (.int .i64 k) (.int .i64 v)).run Tryz.prog w = .ok () w' ∧ MapIs w' b (n + 1) (putM m k v) ∧ w.grownBy w' (some b) := by
  obtain ⟨D, h1, h2⟩ := h
  obtain ⟨w', hrun, r1, r2⟩ := h1.update keyedI Tryz.underlying67 hn (keyI hk) (plainElem_int Tryz.underlying3 (wf_i64' hv))
  refine ⟨w', hrun, ⟨_, r1, fun j => ?_⟩, r2⟩
  by_cases e : j = k
  · subst e
    have hl : WideAt.IsKeyLit (Lit.int .i64 j) := trivial
    refine ⟨?_, ?_⟩
    · rw [has_put_same h1.isMap hl]; simp [putM]
    · rw [atKey_put_same h1.isMap hl]; simp [putM]
  · have hne : (Lit.int .i64 j) ≠ (Lit.int .i64 k) := by intro h; injection h with _ h; exact e h
    refine ⟨?_, ?_⟩
    · rw [has_put_other hne, (h2 j).1]; simp [putM, e]
    · rw [atKey_put_other hne, (h2 j).2]; simp [putM, e]
end Go.Proofs.YtcpfmlaipejfpaaGreatDoor
namespace Go.Proofs.YtcpfmlaipejfpaaGreatDoor
open Go.RowKit Go.Maps Go.Shelf

attribute [local go_sem] Oper.semAt_some

theorem counted1_any (f g : Fld) (B : Nat) (W : World) (h : W.cell? ⟨B, 2, none⟩ = some (.int .i64 f.frm)) (hB : B < W.heap.size) :
    Calls Tryz.prog 88 #[fldV g, .pointer (some ⟨B, 0, none⟩)] W fun e w' => e = .returned (.bool (g.frm == f.frm)) ∧ Below W.heap.size W w' := by
  unfold fldV fldC
  have h2 : (W.alloc (.cells #[.int .i64 g.kind, .int .i64 g.n, .int .i64 g.frm, .string (str g.text)] 55)).cell? ⟨B, 2, none⟩ = some (.int .i64 f.frm) := (World.cell?_of_block (a := ⟨B, 2, none⟩) (Below.heap_alloc W _ _ hB)).trans h
  go_enter Tryz.func88, Tryz.ntmps88
  go_wp2
  go_ret
  exact ⟨rfl, (Below.refl _ _).alloc (Nat.le_refl _) _⟩
/-- A value that is a slice of fields. -/
def FldsAt (w : World) (B : Nat) (v : Value) (l : List Fld) : Prop := SliceAt w B v l.length (fldL l)
set_option maxHeartbeats 1000000 in
theorem noneHas_nil (a : Option Addr) (c b : Nat) (w : World) :
    Calls Tryz.prog 87 #[.slice a 0 c, .func (.func 88) #[] #[.pointer (some ⟨b, 0, none⟩)]] w fun e w' => e = .returned (.bool false) ∧ Below w.heap.size w w' := by
  go_enter Tryz.func87, Tryz.ntmps87
  go_wp2
  go_loop [8] (fun i => i = .int .i64 0) (fun _ => 0)
  case atStart => rfl
  case round =>
    subst hrel
    go_wp2
    go_ret
    exact ⟨rfl, Below.refl _ w⟩
theorem has_any (v : Value) (l : List Fld) (f : Fld) (B : Nat) (w : World) (hv : FldsAt w w.heap.size v l) (hl : l.length ≤ 1000000) (h : w.cell? ⟨B, 2, none⟩ = some (.int .i64 f.frm)) (hB : B < w.heap.size) :
    Calls Tryz.prog 87 #[v, .func (.func 88) #[] #[.pointer (some ⟨B, 0, none⟩)]] w fun e w' => e = .returned (.bool (l.any fun g => g.frm == f.frm)) ∧ Below w.heap.size w w' := by
  obtain ⟨a, cap, rfl, _, _, hc⟩ := hv
  cases l with
  | nil => exact noneHas_nil a cap B w
  | cons x r =>
    obtain ⟨b, o, rfl, hb, hcell⟩ := hc (by simp)
    generalize hxl : x :: r = l at *
    have hh := AnyQ.slices_ContainsFunc Tryz.laysF8 4 Tryz.isAgg55 Tryz.sizeOf55 fldC (fun _ => rfl) (fun g => g.frm == f.frm) 88 #[.pointer (some ⟨B, 0, none⟩)] (enters_of Tryz.func88 (by kernel_rfl) rfl) b o l.length cap l w
      (fun W y hb' => (counted1_any f y B W ((hb'.cell (p := ⟨B, 2, none⟩) hB).trans h) (Nat.lt_of_lt_of_le hB hb'.size)).mono fun _ _ h => ⟨h.1, hb'.trans (h.2.mono hb'.size)⟩) (Nat.le_refl _) (by omega) hb
      (fun j hj i u hu => by
        have hi : i < 4 := (List.getElem?_eq_some_iff.1 hu).1
        have := hcell (j * 4 + i) u ((fldL_at l j i hj hi).trans hu)
        rwa [← Nat.add_assoc] at this)
    rwa [List.take_length] at hh
set_option maxRecDepth 100000 in
set_option maxHeartbeats 4000000 in
theorem counted_any (v : Value) (l : List Fld) (f : Fld) (w : World) (hv : FldsAt w w.heap.size v l) (hl : l.length ≤ 1000000) :
    Calls Tryz.prog 68 #[v, fldV f] w fun e w' => e = .returned (.bool (countedF l f)) ∧ Below w.heap.size w w' := by
  have hbx : Below w.heap.size w (w.alloc (.cells (fldC f).toArray 55)) := (Below.refl _ _).alloc (Nat.le_refl _) _
  have hA : Arr (w.alloc (.cells (fldC f).toArray 55)) w.heap.size 55 (fldC f) := Arr.new rfl rfl
  have hv1 := hv.later hbx
  have hh := has_any v l f w.heap.size (w.alloc (.cells (fldC f).toArray 55)) hv1 hl (hA.cell (j := 2) rfl) hA.lt
  have hws := within_any f.frm 0 ((l.length : Int) - 1)
  have hdef : Hid (countedF l f = (withinZ f.frm 0 ((l.length : Int) - 1) && (l[f.frm.toNat]!.kind == 2) && f.text.isEmpty && !l.any (fun g => g.frm == f.frm))) := rfl
  have hmf : ∀ (fn : Fn) (first cap : Array Value) (w : World), (Instr.makeFunc fn first cap).run Tryz.prog w = .ok (.func fn first cap) w := fun _ _ _ _ => rfl
  have hte := str_empty f.text
  have hkc : f.frm.toNat < l.length → ∃ b o a, v = .slice (some ⟨b, o, none⟩) l.length a ∧ (w.alloc (.cells (fldC f).toArray 55)).cell? ⟨b, o + f.frm.toNat * 4, none⟩ = some (.int .i64 l[f.frm.toNat]!.kind) := fun hi => by
    obtain ⟨a, cap, rfl, _, _, hc⟩ := hv1
    obtain ⟨b, o, rfl, _, hcell⟩ := hc (by omega)
    exact ⟨b, o, cap, rfl, hcell _ _ (by have := fldL_at l f.frm.toNat 0 hi (by omega); rw [Nat.add_zero] at this; exact this.trans rfl)⟩
  obtain ⟨a, cap, rfl, _, _, _⟩ := hv
  obtain ⟨k, n, m, t⟩ := f
  unfold fldC at hh hkc hbx
  unfold fldV fldC
  dsimp only at hh hws hdef hte hkc
  have hwl : IntKind.i64.wrap ((l.length : Int) - 1) = (l.length : Int) - 1 := IntWalk.i64_in _ (by omega)
  generalize hany : (l.any fun g => g.frm == m) = any at *
  replace hh := Lib.hid hh
  replace hany := Lib.hid hany
  replace hbx := Lib.hid hbx
  cases hb : withinZ m 0 ((l.length : Int) - 1) with
  | false =>
    have hr : Hid (countedF l ⟨k, n, m, t⟩ = false) := by show _ = _; rw [hdef.out, hb]; rfl
    clear hdef hkc
    go_enter Tryz.func68, Tryz.ntmps68
    go_wp2_with fail
    refine (hws _).mono ?_
    rintro e w1 ⟨rfl, rfl⟩
    rw [hb]
    go_wp2_with fail
    go_ret
    exact ⟨by rw [hr.out]; rfl, hbx.out⟩
  | true =>
    obtain ⟨h0, h1⟩ := withinZ_iff.1 hb
    obtain ⟨i, rfl⟩ : ∃ i : Nat, m = (i : Int) := ⟨m.toNat, by omega⟩
    have hi : i < l.length := by omega
    obtain ⟨b, o, c2, e1, hk⟩ := hkc (by simpa using hi)
    injection e1 with e1 _ e2
    subst e1 e2
    rw [Int.toNat_natCast] at hk hdef
    have i2 : (i : Int) < (l.length : Int) := by omega
    generalize hkk : l[i]!.kind = kk at *
    replace hkk := Lib.hid hkk
    replace hdef := Lib.hid hdef.out
    by_cases hk2 : kk = 2
    · have hq : (kk == 2) = true := by rw [hk2]; rfl
      replace hk2 := Lib.hid hk2
      cases ht : t.isEmpty with
      | false =>
        rw [ht] at hte
        have hr : Hid (countedF l ⟨k, n, (i : Int), t⟩ = false) := by show _ = _; rw [hdef.out, hb, hq, ht]; rfl
        clear hdef
        go_enter Tryz.func68, Tryz.ntmps68
        go_wp2_with fail
        refine (hws _).mono ?_
        rintro e w1 ⟨rfl, rfl⟩
        rw [hb]
        go_wp2_with fail
        go_ret
        exact ⟨by rw [hr.out]; rfl, hbx.out⟩
      | true =>
        rw [ht] at hte
        have hr : Hid (countedF l ⟨k, n, (i : Int), t⟩ = !any) := by show _ = _; rw [hdef.out, hb, hq, ht]; rfl
        clear hdef
        go_enter Tryz.func68, Tryz.ntmps68
        go_wp2_with fail
        refine (hws _).mono ?_
        rintro e w1 ⟨rfl, rfl⟩
        rw [hb]
        go_wp2_with fail
        refine hh.out.mono ?_
        rintro e w2 ⟨rfl, hb2⟩
        have hB2 := hbx.out.trans (hb2.mono hbx.out.size)
        go_wp2_with fail
        go_ret
        exact ⟨by rw [hr.out]; rfl, hB2⟩
    · have hq : (kk == 2) = false := by rw [beq_eq_false_iff_ne]; exact hk2
      have hr : Hid (countedF l ⟨k, n, (i : Int), t⟩ = false) := by show _ = _; rw [hdef.out, hb, hq]; rfl
      replace hk2 := Lib.hid hk2
      clear hdef
      go_enter Tryz.func68, Tryz.ntmps68
      go_wp2_with fail
      refine (hws _).mono ?_
      rintro e w1 ⟨rfl, rfl⟩
      rw [hb]
      go_wp2_with fail
      go_ret
      exact ⟨by rw [hr.out]; rfl, hbx.out⟩
end Go.Proofs.YtcpfmlaipejfpaaGreatDoor
namespace Go.Proofs.YtcpfmlaipejfpaaGreatDoor
open Go.RowKit Go.Maps Go.Shelf

attribute [local go_sem] Oper.semAt_some

set_option maxHeartbeats 1000000 in
theorem wide_any (tv fv : Value) (f : Fld) (w : World) :
    Calls Tryz.prog 63 #[tv, fv, fldV f] w fun e w' => e = .returned (.bool (aloneF f && withinZ f.n 1 3)) ∧ Below w.heap.size w w' := by
  have ha := fun W => Lib.hid (alone_any f W)
  have hw := fun W => Lib.hid (within_any f.n 1 3 W)
  have hbx : Hid (Below w.heap.size w (w.alloc (.cells (fldC f).toArray 55))) := (Below.refl _ _).alloc (Nat.le_refl _) _
  have hsz : w.heap.size < (w.alloc (.cells (fldC f).toArray 55)).heap.size := by simp
  have hA : Arr (w.alloc (.cells (fldC f).toArray 55)) w.heap.size 55 (fldC f) := Arr.new rfl rfl
  have hc1 := fun W (hb : Below (w.alloc (.cells (fldC f).toArray 55)).heap.size (w.alloc (.cells (fldC f).toArray 55)) W) => (hA.below hb).cell (j := 1) rfl
  generalize hr : aloneF f = r at *
  generalize hr2 : withinZ f.n 1 3 = r2 at *
  replace hr := Lib.hid hr
  replace hr2 := Lib.hid hr2
  obtain ⟨k, n, m, t⟩ := f
  unfold fldV fldC at *
  dsimp only at hw hc1
  go_enter Tryz.func63, Tryz.ntmps63
  go_wp2_with fail
  refine (ha _).out.mono ?_
  rintro e w1 ⟨rfl, hb1⟩
  have hB1 := hbx.out.trans (hb1.mono hbx.out.size)
  have hc := hc1 _ hb1
  clear hA hc1 ha
  cases r with
  | false =>
    go_wp2_with fail
    go_ret
    exact ⟨rfl, hB1⟩
  | true =>
    go_wp2_with fail
    refine (hw _).out.mono ?_
    rintro e w2 ⟨rfl, rfl⟩
    go_wp2_with fail
    go_ret
    exact ⟨by cases r2 <;> rfl, hB1⟩
set_option maxHeartbeats 1000000 in
theorem lit_any (tv fv : Value) (f : Fld) (w : World) (ht : f.text.length ≤ 1000000000) :
    Calls Tryz.prog 58 #[tv, fv, fldV f] w fun e w' => e = .returned (.bool ((f.n == 0) && (f.frm == -1) && withinZ (f.text.length : Int) 1 16)) ∧ Below w.heap.size w w' := by
  have hw := fun W => Lib.hid (within_any (f.text.length : Int) 1 16 W)
  have hbx : Hid (Below w.heap.size w (w.alloc (.cells (fldC f).toArray 55))) := (Below.refl _ _).alloc (Nat.le_refl _) _
  have hps := str_size f.text
  generalize hr2 : withinZ (f.text.length : Int) 1 16 = r2 at *
  replace hr2 := Lib.hid hr2
  obtain ⟨k, n, m, t⟩ := f
  unfold fldV fldC at *
  dsimp only at hw hps ht
  have hwl : IntKind.i64.wrap (t.length : Int) = (t.length : Int) := IntWalk.i64_in _ (by omega)
  by_cases h1 : n = 0
  · have q1 : (n == 0) = true := by rw [h1]; rfl
    replace h1 := Lib.hid h1
    by_cases h2 : m = -1
    · have q2 : (m == -1) = true := by rw [h2]; rfl
      replace h2 := Lib.hid h2
      go_enter Tryz.func58, Tryz.ntmps58
      go_wp2_with fail
      refine (hw _).out.mono ?_
      rintro e w2 ⟨rfl, rfl⟩
      go_wp2_with fail
      go_ret
      exact ⟨by first | rfl | (cases r2 <;> rfl) | (rw [q1, q2]; cases r2 <;> rfl), hbx.out⟩
    · have q2 : (m == -1) = false := by rw [beq_eq_false_iff_ne]; exact h2
      replace h2 := Lib.hid h2
      go_enter Tryz.func58, Tryz.ntmps58
      go_wp2_with fail
      go_ret
      exact ⟨by first | rfl | (rw [q1, q2]; rfl), hbx.out⟩
  · have q1 : (n == 0) = false := by rw [beq_eq_false_iff_ne]; exact h1
    replace h1 := Lib.hid h1
    go_enter Tryz.func58, Tryz.ntmps58
    go_wp2_with fail
    go_ret
    exact ⟨by first | rfl | (rw [q1]; rfl), hbx.out⟩
set_option maxHeartbeats 2000000 in
theorem bytes_any (tv fv : Value) (l : List Fld) (f : Fld) (w : World) (hv : FldsAt w w.heap.size fv l) (hl : l.length ≤ 1000000) :
    Calls Tryz.prog 66 #[tv, fv, fldV f] w fun e w' => e = .returned (.bool (if aloneF f then withinZ f.n 0 4096 else (f.n == 0) && countedF l f)) ∧ Below w.heap.size w w' := by
  have ha := fun W => Lib.hid (alone_any f W)
  have hw := fun W => Lib.hid (within_any f.n 0 4096 W)
  have hbx : Hid (Below w.heap.size w (w.alloc (.cells (fldC f).toArray 55))) := (Below.refl _ _).alloc (Nat.le_refl _) _
  have hsz : w.heap.size < (w.alloc (.cells (fldC f).toArray 55)).heap.size := by simp
  have hA : Arr (w.alloc (.cells (fldC f).toArray 55)) w.heap.size 55 (fldC f) := Arr.new rfl rfl
  have hcn := fun W (hb : Below w.heap.size w W) => Lib.hid (counted_any fv l f W (hv.later hb) hl)
  have hcs := fun W (hb : Below (w.alloc (.cells (fldC f).toArray 55)).heap.size (w.alloc (.cells (fldC f).toArray 55)) W) => hA.below hb
  obtain ⟨fa, fcap, rfl, _, _, _⟩ := hv
  generalize hr : aloneF f = r at *
  generalize hr2 : withinZ f.n 0 4096 = r2 at *
  generalize hr3 : countedF l f = r3 at *
  replace hr := Lib.hid hr
  replace hr2 := Lib.hid hr2
  replace hr3 := Lib.hid hr3
  obtain ⟨k, n, m, t⟩ := f
  unfold fldV fldC at *
  dsimp only at hw
  go_enter Tryz.func66, Tryz.ntmps66
  go_wp2_with fail
  refine (ha _).out.mono ?_
  rintro e w1 ⟨rfl, hb1⟩
  have hB1 := hbx.out.trans (hb1.mono hbx.out.size)
  have hA1 := hcs _ hb1
  have c0 := hA1.cell (j := 0) rfl
  have c1 := hA1.cell (j := 1) rfl
  have c2 := hA1.cell (j := 2) rfl
  have c3 := hA1.cell (j := 3) rfl
  clear hA hcs ha hA1
  cases r with
  | true =>
    go_wp2_with fail
    refine (hw _).out.mono ?_
    rintro e w2 ⟨rfl, rfl⟩
    go_wp2_with fail
    go_ret
    exact ⟨by rfl, hB1⟩
  | false =>
    by_cases h1 : n = 0
    · have q1 : (n == 0) = true := by rw [h1]; rfl
      replace h1 := Lib.hid h1
      have hcc := hcn _ hB1
      clear hcn
      go_wp2_with fail
      refine hcc.out.mono ?_
      rintro e w2 ⟨rfl, hb2⟩
      have hB2 := hB1.trans (hb2.mono hB1.size)
      go_wp2_with fail
      go_ret
      exact ⟨by first | rfl | (cases r3 <;> rfl) | (rw [if_neg (by decide), q1]; cases r3 <;> rfl), hB2⟩
    · have q1 : (n == 0) = false := by rw [beq_eq_false_iff_ne]; exact h1
      replace h1 := Lib.hid h1
      go_wp2_with fail
      go_ret
      exact ⟨by first | rfl | (rw [if_neg (by decide), q1]; rfl), hB1⟩
/-- What lies of a table while it is only read: where its map lies, and what that says. -/
structure TabM (w : World) (tB : Nat) (m : Int → Option Int) : Prop where
  map : ∃ mB n, w.cell? ⟨tB, 1, none⟩ = some (.map (some mB)) ∧ MapIs w mB n m
  lt : tB < w.heap.size
theorem TabM.below {w w' : World} {tB : Nat} {m : Int → Option Int} (h : TabM w tB m) (hb : Below w.heap.size w w') : TabM w' tB m := by
  obtain ⟨⟨mB, n, h1, h2⟩, h3⟩ := h
  exact ⟨⟨mB, n, (hb.cell (p := ⟨tB, 1, none⟩) h3).trans h1, h2.below hb⟩, Nat.lt_of_lt_of_le h3 hb.size⟩
theorem TabM.drew {w : World} {tB : Nat} {m : Int → Option Int} (h : TabM w tB m) (n : Nat) : TabM (w.drewN n) tB m := by
  obtain ⟨⟨mB, k, h1, h2⟩, h3⟩ := h
  exact ⟨⟨mB, k, h1, h2.of_block rfl⟩, h3⟩
set_option maxHeartbeats 2000000 in
theorem size_any (tv : Value) (f : Fld) (w : World) :
    Calls Tryz.prog 64 #[tv, fldV f] w fun e w' => e = .returned (.int .i64 f.n) ∧ Below w.heap.size w w' := by
  obtain ⟨k, n, m, t⟩ := f
  unfold fldV fldC
  go_enter Tryz.func64, Tryz.ntmps64
  go_wp2
  go_ret
  exact ⟨rfl, (Below.refl _ _).alloc (Nat.le_refl _) _⟩
theorem nothing_any (tv : Value) (f : Fld) (w : World) :
    Calls Tryz.prog 72 #[tv, fldV f] w fun e w' => e = .returned (.int .i64 0) ∧ Below w.heap.size w w' := by
  obtain ⟨k, n, m, t⟩ := f
  unfold fldV fldC
  go_enter Tryz.func72, Tryz.ntmps72
  go_wp2
  go_ret
  exact ⟨rfl, (Below.refl _ _).alloc (Nat.le_refl _) _⟩
theorem litlen_any (tv : Value) (f : Fld) (w : World) (ht : f.text.length ≤ 1000000000) :
    Calls Tryz.prog 60 #[tv, fldV f] w fun e w' => e = .returned (.int .i64 (f.text.length : Int)) ∧ Below w.heap.size w w' := by
  have hps := str_size f.text
  obtain ⟨k, n, m, t⟩ := f
  unfold fldV fldC
  dsimp only at hps ht
  have hwl : IntKind.i64.wrap (t.length : Int) = (t.length : Int) := IntWalk.i64_in _ (by omega)
  go_enter Tryz.func60, Tryz.ntmps60
  go_wp2
  go_ret
  exact ⟨rfl, (Below.refl _ _).alloc (Nat.le_refl _) _⟩
set_option maxHeartbeats 2000000 in
theorem inlen_any (tB : Nat) (mm : Int → Option Int) (f : Fld) (w : World) (hT : TabM w tB mm) (hn : I64 f.n) :
    Calls Tryz.prog 75 #[.pointer (some ⟨tB, 0, none⟩), fldV f] w fun e w' => e = .returned (.int .i64 ((mm f.n).getD 0)) ∧ Below w.heap.size w w' := by
  have hbx : Below w.heap.size w (w.alloc (.cells (fldC f).toArray 55)) := (Below.refl _ _).alloc (Nat.le_refl _) _
  have hA : Arr (w.alloc (.cells (fldC f).toArray 55)) w.heap.size 55 (fldC f) := Arr.new rfl rfl
  obtain ⟨⟨mB, n0, c1, hM⟩, _⟩ := hT.below hbx
  have hl := fun q => (hM.of_block (w' := (w.alloc (.cells (fldC f).toArray 55)).drewN q) rfl).look hn
  have hB : Hid (∀ q, Below w.heap.size w ((w.alloc (.cells (fldC f).toArray 55)).drewN q)) := fun q => ⟨hbx.os, hbx.tape, hbx.output, hbx.size, hbx.block⟩
  obtain ⟨k, n, m, t⟩ := f
  unfold fldV fldC at *
  dsimp only at hl
  go_enter Tryz.func75, Tryz.ntmps75
  go_wp2_with fail
  go_quiet (fail)
  go_wp2_with fail
  go_ret
  exact ⟨rfl, hB.out _⟩
/-- The earlier fields are as they should be: a number's width. -/
def PrevOk (l : List Fld) : Prop := ∀ g ∈ l, g.kind = 2 → 1 ≤ g.n ∧ g.n ≤ 3
set_option maxHeartbeats 2000000 in
theorem list_any (tB : Nat) (mm : Int → Option Int) (fv : Value) (l : List Fld) (f : Fld) (w : World) (hT : TabM w tB mm) (hn : I64 f.n) (hv : FldsAt w w.heap.size fv l) (hl : l.length ≤ 1000000) :
    Calls Tryz.prog 71 #[.pointer (some ⟨tB, 0, none⟩), fv, fldV f] w fun e w' => e = .returned (.bool ((mm f.n).isSome && countedF l f)) ∧ Below w.heap.size w w' := by
  have hbx : Below w.heap.size w (w.alloc (.cells (fldC f).toArray 55)) := (Below.refl _ _).alloc (Nat.le_refl _) _
  have hA : Arr (w.alloc (.cells (fldC f).toArray 55)) w.heap.size 55 (fldC f) := Arr.new rfl rfl
  obtain ⟨⟨mB, n0, c1, hM⟩, _⟩ := hT.below hbx
  have hlk := fun q => (hM.of_block (w' := (w.alloc (.cells (fldC f).toArray 55)).drewN q) rfl).lookOk hn
  have hB : Hid (∀ q, Below w.heap.size w ((w.alloc (.cells (fldC f).toArray 55)).drewN q)) := fun q => ⟨hbx.os, hbx.tape, hbx.output, hbx.size, hbx.block⟩
  have hcn := fun W (hb : Below w.heap.size w W) => Lib.hid (counted_any fv l f W (hv.later hb) hl)
  obtain ⟨fa, fcap, rfl, _, _, _⟩ := hv
  generalize hr3 : countedF l f = r3 at *
  replace hr3 := Lib.hid hr3
  obtain ⟨k, n, m, t⟩ := f
  unfold fldV fldC at *
  dsimp only at hlk
  generalize hq : (mm n).isSome = q at *
  generalize (mm n).getD 0 = q0 at *
  replace hq := Lib.hid hq
  go_enter Tryz.func71, Tryz.ntmps71
  go_wp2_with fail
  go_quiet (fail)
  cases q with
  | false =>
    go_wp2_with fail
    go_ret
    exact ⟨by rfl, hB.out _⟩
  | true =>
    have hcc := hcn _ (hB.out nq)
    have hB1 := hB.out nq
    clear hcn
    go_wp2_with fail
    refine hcc.out.mono ?_
    rintro e w2 ⟨rfl, hb2⟩
    have hB2 := hB1.trans (hb2.mono hB1.size)
    go_wp2_with fail
    go_ret
    exact ⟨by first | rfl | (cases r3 <;> rfl), hB2⟩
set_option maxRecDepth 100000 in
set_option maxHeartbeats 4000000 in
theorem inside_any (tB : Nat) (mm : Int → Option Int) (fv : Value) (l : List Fld) (f : Fld) (w : World) (hT : TabM w tB mm) (hn : I64 f.n) (hv : FldsAt w w.heap.size fv l) (hl : l.length ≤ 1000000) (hp : PrevOk l) :
    Calls Tryz.prog 74 #[.pointer (some ⟨tB, 0, none⟩), fv, fldV f] w fun e w' => e = .returned (.bool (match mm f.n with | some x => countedF l f && decide (x < 2 ^ (8 * l[f.frm.toNat]!.n).toNat) | none => false)) ∧ Below w.heap.size w w' := by
  have hbx : Below w.heap.size w (w.alloc (.cells (fldC f).toArray 55)) := (Below.refl _ _).alloc (Nat.le_refl _) _
  have hA : Arr (w.alloc (.cells (fldC f).toArray 55)) w.heap.size 55 (fldC f) := Arr.new rfl rfl
  obtain ⟨⟨mB, n0, c1, hM⟩, _⟩ := hT.below hbx
  have hlk := fun q => (hM.of_block (w' := (w.alloc (.cells (fldC f).toArray 55)).drewN q) rfl).lookOk hn
  have hB : Hid (∀ q, Below w.heap.size w ((w.alloc (.cells (fldC f).toArray 55)).drewN q)) := fun q => ⟨hbx.os, hbx.tape, hbx.output, hbx.size, hbx.block⟩
  have hcn := fun W (hb : Below w.heap.size w W) => Lib.hid (counted_any fv l f W (hv.later hb) hl)
  have hAq : Hid (∀ q W, Below ((w.alloc (.cells (fldC f).toArray 55)).drewN q).heap.size ((w.alloc (.cells (fldC f).toArray 55)).drewN q) W → W.cell? ⟨w.heap.size, 2, none⟩ = some (.int .i64 f.frm)) := fun q W hb => ((hA.drewN q).below hb).cell (j := 2) rfl
  have hvq : Hid (∀ W, Below w.heap.size w W → f.frm.toNat < l.length → ∃ b o c, fv = .slice (some ⟨b, o, none⟩) l.length c ∧ W.cell? ⟨b, o + f.frm.toNat * 4 + 1, none⟩ = some (.int .i64 l[f.frm.toNat]!.n)) := fun W hb hi => by
    obtain ⟨a, cap, rfl, _, _, hc⟩ := hv.later hb
    obtain ⟨b, o, rfl, _, hcell⟩ := hc (by omega)
    exact ⟨b, o, cap, rfl, by have := hcell _ _ ((fldL_at l f.frm.toNat 1 hi (by omega)).trans rfl); rwa [← Nat.add_assoc] at this⟩
  have hcf : Hid (countedF l f = true → withinZ f.frm 0 ((l.length : Int) - 1) = true ∧ l[f.frm.toNat]!.kind = 2) := fun h => by
    simp only [countedF, Bool.and_eq_true] at h
    exact ⟨h.1.1.1, by simpa using h.1.1.2⟩
  have hpn : Hid (f.frm.toNat < l.length → l[f.frm.toNat]!.kind = 2 → 1 ≤ l[f.frm.toNat]!.n ∧ l[f.frm.toNat]!.n ≤ 3) := fun hi => hp _ (by rw [getElem!_pos l _ hi]; exact List.getElem_mem hi)
  obtain ⟨fa, fcap, rfl, _, _, _⟩ := hv
  generalize hr3 : countedF l f = r3 at *
  replace hr3 := Lib.hid hr3
  obtain ⟨k, n, m, t⟩ := f
  unfold fldV fldC at *
  dsimp only at hlk hAq hvq hcf hpn ⊢
  generalize l[m.toNat]!.n = N at *
  generalize l[m.toNat]!.kind = kk at *
  cases hq : mm n with
  | none =>
    rw [hq] at hlk
    dsimp only [Option.getD, Option.isSome] at hlk
    replace hq := Lib.hid hq
    clear hcn
    go_enter Tryz.func74, Tryz.ntmps74
    go_wp2_with fail
    go_quiet (fail)
    go_wp2_with fail
    go_ret
    exact ⟨by rfl, hB.out _⟩
  | some x =>
    rw [hq] at hlk
    dsimp only [Option.getD, Option.isSome] at hlk
    replace hq := Lib.hid hq
    go_enter Tryz.func74, Tryz.ntmps74
    go_wp2_with fail
    go_quiet (fail)
    have hcc := hcn _ (hB.out nq)
    have hB1 := hB.out nq
    clear hcn
    go_wp2_with fail
    refine hcc.out.mono ?_
    rintro e w2 ⟨rfl, hb2⟩
    have hB2 := hB1.trans (hb2.mono hB1.size)
    have cm := hAq.out _ _ hb2
    cases r3 with
    | false =>
      go_wp2_with fail
      go_ret
      exact ⟨by rfl, hB2⟩
    | true =>
      obtain ⟨hwi, hk2⟩ := hcf.out rfl
      obtain ⟨h0, h1⟩ := withinZ_iff.1 hwi
      obtain ⟨i, rfl⟩ : ∃ i : Nat, m = (i : Int) := ⟨m.toNat, by omega⟩
      have hi : i < l.length := by omega
      obtain ⟨b, o, c, e1, cn⟩ := hvq.out w2 hB2 (by simpa using hi)
      injection e1 with e1 _ e2
      subst e1 e2
      rw [Int.toNat_natCast] at cn
      have hp3 := hpn.out (by simpa using hi) hk2
      have i2 : (i : Int) < (l.length : Int) := by omega
      obtain ⟨p, rfl, hpp⟩ : ∃ p : Nat, N = (p : Int) ∧ (p = 1 ∨ p = 2 ∨ p = 3) := ⟨N.toNat, by omega, by omega⟩
      replace hk2 := Lib.hid hk2
      rcases hpp with rfl | rfl | rfl
      · go_wp2_with fail
        go_ret
        exact ⟨by first | rfl | simp, hB2⟩
      · go_wp2_with fail
        go_ret
        exact ⟨by first | rfl | simp, hB2⟩
      · go_wp2_with fail
        go_ret
        exact ⟨by first | rfl | simp, hB2⟩
end Go.Proofs.YtcpfmlaipejfpaaGreatDoor
namespace Go.Proofs.YtcpfmlaipejfpaaGreatDoor
open Go.RowKit Go.Maps Go.Shelf

/-- A field as it can be told. -/
structure FldOk (f : Fld) : Prop where
  k : I64 f.kind
  n : I64 f.n
  m : I64 f.frm
  t : f.text.length ≤ 1000000000
theorem kind6 {f : Fld} (h : withinZ f.kind 1 6 = true) : f.kind = 1 ∨ f.kind = 2 ∨ f.kind = 3 ∨ f.kind = 4 ∨ f.kind = 5 ∨ f.kind = 6 := by
  have := withinZ_iff.1 h
  omega
theorem least_fn (tB : Nat) (m : Int → Option Int) (f : Fld) (b1 b2 : Nat) (hk : withinZ f.kind 1 6 = true) (ho : FldOk f) :
    ∃ fid, (kindsL b1 b2)[f.kind.toNat * 3 + 1]? = some (.func (.func fid) #[] #[]) ∧ (∀ args w, (callFunc fid args).run Tryz.prog w = .ok (.enter fid args) w) ∧
      ∀ W, TabM W tB m → Calls Tryz.prog fid #[.pointer (some ⟨tB, 0, none⟩), fldV f] W fun e w' => e = .returned (.int .i64 (leastF m f)) ∧ Below W.heap.size W w' := by
  obtain ⟨k, n, fr, t⟩ := f
  have h6 := kind6 hk
  dsimp only at h6
  rcases h6 with rfl | rfl | rfl | rfl | rfl | rfl
  · exact ⟨60, rfl, enters_of Tryz.func60 (by kernel_rfl) rfl, fun W _ => litlen_any _ _ W ho.t⟩
  · exact ⟨64, rfl, enters_of Tryz.func64 (by kernel_rfl) rfl, fun W _ => size_any _ _ W⟩
  · exact ⟨64, rfl, enters_of Tryz.func64 (by kernel_rfl) rfl, fun W _ => size_any _ _ W⟩
  · exact ⟨72, rfl, enters_of Tryz.func72 (by kernel_rfl) rfl, fun W _ => nothing_any _ _ W⟩
  · exact ⟨75, rfl, enters_of Tryz.func75 (by kernel_rfl) rfl, fun W h => inlen_any tB m _ W h ho.n⟩
  · exact ⟨64, rfl, enters_of Tryz.func64 (by kernel_rfl) rfl, fun W _ => size_any _ _ W⟩
theorem fits_fn (tB : Nat) (m : Int → Option Int) (l : List Fld) (f : Fld) (b1 b2 : Nat) (hk : withinZ f.kind 1 6 = true) (ho : FldOk f) (hl : l.length ≤ 1000000) (hp : PrevOk l) :
    ∃ fid, (kindsL b1 b2)[f.kind.toNat * 3]? = some (.func (.func fid) #[] #[]) ∧ (∀ args w, (callFunc fid args).run Tryz.prog w = .ok (.enter fid args) w) ∧
      ∀ W fv, TabM W tB m → FldsAt W W.heap.size fv l → Calls Tryz.prog fid #[.pointer (some ⟨tB, 0, none⟩), fv, fldV f] W fun e w' => e = .returned (.bool (fitsF m l f)) ∧ Below W.heap.size W w' := by
  obtain ⟨k, n, fr, t⟩ := f
  have h6 := kind6 hk
  dsimp only at h6
  rcases h6 with rfl | rfl | rfl | rfl | rfl | rfl
  · exact ⟨58, rfl, enters_of Tryz.func58 (by kernel_rfl) rfl, fun W fv _ _ => lit_any _ fv _ W ho.t⟩
  · exact ⟨63, rfl, enters_of Tryz.func63 (by kernel_rfl) rfl, fun W fv _ _ => wide_any _ fv _ W⟩
  · exact ⟨66, rfl, enters_of Tryz.func66 (by kernel_rfl) rfl, fun W fv _ hv => bytes_any _ fv l _ W hv hl⟩
  · exact ⟨71, rfl, enters_of Tryz.func71 (by kernel_rfl) rfl, fun W fv h hv => list_any tB m fv l _ W h ho.n hv hl⟩
  · exact ⟨74, rfl, enters_of Tryz.func74 (by kernel_rfl) rfl, fun W fv h hv => inside_any tB m fv l _ W h ho.n hv hl hp⟩
  · exact ⟨63, rfl, enters_of Tryz.func63 (by kernel_rfl) rfl, fun W fv _ _ => wide_any _ fv _ W⟩
theorem kind_field0 (x y z : Value) (W : World) : (Instr.field 81 (.agg #[x, y, z]) 0).run Tryz.prog W = .ok x W := by kernel_rfl
theorem kind_field2 (x y z : Value) (W : World) : (Instr.field 81 (.agg #[x, y, z]) 2).run Tryz.prog W = .ok z W := by kernel_rfl
set_option maxRecDepth 100000 in
/-- The kind's struct, taken out of the table by value. -/
theorem kind_index (b1 b2 : Nat) (k : Int) (hk : withinZ k 1 6 = true) {x : Value} (hx : (kindsL b1 b2)[k.toNat * 3]? = some x) : ∃ y z, ∀ W, (Instr.index 82 (.agg (kindsL b1 b2).toArray) (.int .i64 k)).run Tryz.prog W = .ok (.agg #[x, y, z]) W := by
  have h6 : k = 1 ∨ k = 2 ∨ k = 3 ∨ k = 4 ∨ k = 5 ∨ k = 6 := by have := withinZ_iff.1 hk; omega
  rcases h6 with rfl | rfl | rfl | rfl | rfl | rfl
  · injection hx with hx; subst hx; exact ⟨(kindsL b1 b2).getD 4 .nilFunc, (kindsL b1 b2).getD 5 .nilFunc, fun W => by kernel_rfl⟩
  · injection hx with hx; subst hx; exact ⟨(kindsL b1 b2).getD 7 .nilFunc, (kindsL b1 b2).getD 8 .nilFunc, fun W => by kernel_rfl⟩
  · injection hx with hx; subst hx; exact ⟨(kindsL b1 b2).getD 10 .nilFunc, (kindsL b1 b2).getD 11 .nilFunc, fun W => by kernel_rfl⟩
  · injection hx with hx; subst hx; exact ⟨(kindsL b1 b2).getD 13 .nilFunc, (kindsL b1 b2).getD 14 .nilFunc, fun W => by kernel_rfl⟩
  · injection hx with hx; subst hx; exact ⟨(kindsL b1 b2).getD 16 .nilFunc, (kindsL b1 b2).getD 17 .nilFunc, fun W => by kernel_rfl⟩
  · injection hx with hx; subst hx; exact ⟨(kindsL b1 b2).getD 19 .nilFunc, (kindsL b1 b2).getD 20 .nilFunc, fun W => by kernel_rfl⟩
end Go.Proofs.YtcpfmlaipejfpaaGreatDoor
namespace Go.Proofs.YtcpfmlaipejfpaaGreatDoor
open Go.RowKit Go.Maps Go.Shelf

attribute [local go_sem] Oper.semAt_some

theorem TabM.drw {w : World} {tB : Nat} {m : Int → Option Int} (h : TabM w tB m) : TabM w.drew tB m := by
  obtain ⟨⟨mB, k, h1, h2⟩, h3⟩ := h
  exact ⟨⟨mB, k, h1, h2.of_block rfl⟩, h3⟩
/-- Fields that came in by the table's own door. -/
def AllOk (l : List Fld) : Prop := ∀ f ∈ l, withinZ f.kind 1 6 = true ∧ FldOk f
theorem fldCells {w : World} {b o : Nat} {l : List Fld} (h : ∀ j u, (fldL l)[j]? = some u → w.cell? ⟨b, o + j, none⟩ = some u) {i : Nat} (hi : i < l.length) :
    w.cell? ⟨b, o + i * 4, none⟩ = some (.int .i64 l[i]!.kind) ∧ w.cell? ⟨b, o + i * 4 + 1, none⟩ = some (.int .i64 l[i]!.n) ∧ w.cell? ⟨b, o + i * 4 + 2, none⟩ = some (.int .i64 l[i]!.frm) ∧ w.cell? ⟨b, o + i * 4 + 3, none⟩ = some (.string (str l[i]!.text)) := by
  have key : ∀ j, j < 4 → ∀ u, (fldC l[i]!)[j]? = some u → w.cell? ⟨b, o + i * 4 + j, none⟩ = some u := fun j hj u hu => by
    rw [Nat.add_assoc]
    exact h _ u ((fldL_at l i j hi hj).trans hu)
  exact ⟨key 0 (by omega) _ rfl, key 1 (by omega) _ rfl, key 2 (by omega) _ rfl, key 3 (by omega) _ rfl⟩
theorem lenF_snoc (m : Int → Option Int) (l : List Fld) (i : Nat) (hi : i < l.length) : lenF m (l.take (i + 1)) = w64i (lenF m (l.take i) + leastF m l[i]!) := by
  rw [List.take_succ_eq_append_getElem hi, lenF, List.foldl_append, getElem!_pos l i hi]
  rfl
set_option maxRecDepth 100000 in
set_option maxHeartbeats 8000000 in
theorem length_any (tB lb lo lc k : Nat) (m : Int → Option Int) (fv : Value) (l : List Fld) (w : World) (h0 : w.cell? ⟨tB, 0, none⟩ = some (.slice (some ⟨lb, lo, none⟩) (k + 1) lc)) (hk : k ≤ 1000000) (h1 : w.cell? ⟨lb, lo + k * 2 + 1, none⟩ = some fv) (hlb : lb < w.heap.size)
    (hT : TabM w tB m) (hv : FldsAt w w.heap.size fv l) (hl : l.length ≤ 1000000) (ho : AllOk l) :
    Calls Tryz.prog 84 #[.pointer (some ⟨tB, 0, none⟩)] w fun e w' => e = .returned (.int .i64 (lenF m l)) ∧ Below w.heap.size w w' := by
  have hki := fun W => Lib.hid (kinds_any W)
  have hv0 := hv
  obtain ⟨fa, fcap, rfl, hfc, hfm, hcx⟩ := hv
  replace hcx := Lib.hid hcx
  have hwk : IntKind.i64.wrap ((k : Int) + 1 - 1) = (k : Int) := by rw [show (k : Int) + 1 - 1 = (k : Int) by omega]; exact IntWalk.i64_in _ (by omega)
  have hwl : IntKind.i64.wrap (l.length : Int) = (l.length : Int) := IntWalk.i64_in _ (by omega)
  have k0 : (0 : Int) ≤ (k : Int) := by omega
  have k1 : (k : Int) < (k : Int) + 1 := by omega
  go_enter Tryz.func84, Tryz.ntmps84
  go_wp2_with fail
  refine (hki _).out.mono ?_
  rintro e w1 ⟨b1, b2, rfl, _, _, hb1⟩
  obtain ⟨W, hW⟩ : ∃ W, W = w1.alloc (.cells #[.nilFunc, .nilFunc, .nilFunc, .nilFunc, .nilFunc, .nilFunc, .nilFunc, .nilFunc, .nilFunc, .nilFunc, .nilFunc, .nilFunc, .nilFunc, .nilFunc, .nilFunc, .nilFunc, .nilFunc, .nilFunc, .nilFunc, .nilFunc, .nilFunc] 82) := ⟨_, rfl⟩
  have hA : Arr W w1.heap.size 82 [.nilFunc, .nilFunc, .nilFunc, .nilFunc, .nilFunc, .nilFunc, .nilFunc, .nilFunc, .nilFunc, .nilFunc, .nilFunc, .nilFunc, .nilFunc, .nilFunc, .nilFunc, .nilFunc, .nilFunc, .nilFunc, .nilFunc, .nilFunc, .nilFunc] := by rw [hW]; exact Arr.new rfl rfl
  have hsz1 := hb1.size
  have hBW : Below w.heap.size w W := by rw [hW]; exact hb1.alloc hb1.size _
  have hfin : Hid (Arr (W.setCells w1.heap.size 0 (kindsL b1 b2)) w1.heap.size 82 (kindsL b1 b2)) := hA.setAll rfl
  have hfb : Hid (Below w.heap.size w (W.setCells w1.heap.size 0 (kindsL b1 b2))) := Below.setCells _ _ _ _ hBW hsz1
  obtain ⟨W2, hW2⟩ : ∃ W2, W2 = W.setCells w1.heap.size 0 (kindsL b1 b2) := ⟨_, rfl⟩
  rw [← hW2] at hfin hfb
  have c0 := (hfb.out.cell (p := ⟨tB, 0, none⟩) hT.lt).trans h0
  have c1 := (hfb.out.cell (p := ⟨lb, lo + k * 2 + 1, none⟩) hlb).trans h1
  replace hA := Lib.hid hA
  replace hBW := Lib.hid hBW
  replace hv0 := Lib.hid hv0
  replace hT := Lib.hid hT
  replace hW2 := Lib.hid hW2
  clear hki
  go_wp2_with (rw [← hW]; refine arr_store rfl 82 _ _ rfl w1.heap.size rfl (vs := kindsL b1 b2) rfl hA.out (n := 21) (by kernel_rfl) rfl rfl rfl ?_; rw [← hW2.out])
  dsimp only [Act.put, List.setIfInBounds_toArray, List.set_cons_zero, List.set_cons_succ]
  go_quiet (fail)
  obtain ⟨Wq, hWq⟩ : ∃ Wq, Wq = W2.drewN nq := ⟨_, rfl⟩
  rw [← hWq]
  have hAq : Arr Wq w1.heap.size 82 (kindsL b1 b2) := by rw [hWq]; exact hfin.out.drewN nq
  have hBq : Below w.heap.size w Wq := by rw [hWq]; exact below_drewN hfb.out nq
  clear hWq hfin hfb c0 c1 hA hBW hW hW2
  go_wp2_with fail
  have hstart : Hid (lenF m (l.take 0) = 0) := rfl
  go_loopw [3, 22] (fun nv iv wr => ∃ i : Nat, i ≤ l.length ∧ nv = .int .i64 (lenF m (l.take i)) ∧ iv = .int .i64 (i : Int) ∧ Hid (Below Wq.heap.size Wq wr)) (fun _ iv _ => l.length - (intOf iv).toNat)
  case atStart => exact ⟨0, Nat.zero_le _, rfl, rfl, (show Hid _ from Below.refl _ _)⟩
  case round =>
    obtain ⟨i, hi, rfl, rfl, hall⟩ := hrel
    have hBr := hall.out
    clear hall
    have hBT := hBq.trans (hBr.mono hBq.size)
    by_cases hlt : i < l.length
    · have hd : decide ((i : Int) < (l.length : Int)) = true := by simpa using hlt
      obtain ⟨fb, fo, rfl, hfbl, hcell⟩ := hcx.out (by omega)
      have hcr := fun j u hu => (hBT.cell (p := ⟨fb, fo + j, none⟩) hfbl).trans (hcell j u hu)
      obtain ⟨x0, x1, x2, x3⟩ := fldCells hcr hlt
      obtain ⟨hkd, hok⟩ := ho l[i]! (by rw [getElem!_pos l i hlt]; exact List.getElem_mem hlt)
      obtain ⟨fid, hfk, hen, hca⟩ := least_fn tB m l[i]! b1 b2 hkd hok
      have hAr := hAq.below hBr
      have hsn := lenF_snoc m l i hlt
      obtain ⟨hk0, hk6⟩ := withinZ_iff.1 hkd
      have hTr := hT.out.below hBT
      have hv := hok
      generalize l[i]! = x at *
      obtain ⟨kd, n, fr, t⟩ := x
      dsimp only at x0 x1 x2 x3 hk0 hk6 hfk
      obtain ⟨κ, rfl⟩ : ∃ κ : Nat, kd = (κ : Int) := ⟨kd.toNat, by omega⟩
      rw [Int.toNat_natCast] at hfk
      unfold fldV fldC at hca
      dsimp only at hca
      generalize hlv : leastF m ⟨(κ : Int), n, fr, t⟩ = lv at *
      generalize hln : lenF m (l.take i) = ln at *
      have hw1i : IntKind.i64.wrap ((i : Int) + 1) = ((i + 1 : Nat) : Int) := by rw [Int.natCast_succ]; exact IntWalk.i64_in _ (by omega)
      have i0 : (0 : Int) ≤ (i : Int) := by omega
      have i1 : (i : Int) < (l.length : Int) := by omega
      have kk0 : (0 : Int) ≤ (κ : Int) := by omega
      have kk1 : (κ : Int) < 7 := by omega
      obtain ⟨W3, hW3⟩ : ∃ W3, W3 = wr.alloc (.cells #[.int .i64 (κ : Int), .int .i64 n, .int .i64 fr, .string (str t)] 55) := ⟨_, rfl⟩
      have hA3 : Arr W3 wr.heap.size 55 [.int .i64 (κ : Int), .int .i64 n, .int .i64 fr, .string (str t)] := by rw [hW3]; exact Arr.new rfl rfl
      have hb3 : Below wr.heap.size wr W3 := by rw [hW3]; exact (Below.refl _ _).alloc (Nat.le_refl _) _
      have hfc3 : W3.cell? ⟨w1.heap.size, κ * 3 + 1, none⟩ = some (.func (.func fid) #[] #[]) := (hAr.below hb3).cell hfk
      have hBr3 := hBr.trans (hb3.mono hBr.size)
      have hT3 := hTr.below hb3
      replace hlv := Lib.hid hlv
      replace hln := Lib.hid hln
      replace hsn := Lib.hid hsn
      replace hAr := Lib.hid hAr
      replace hca := Lib.hid hca
      replace hkd := Lib.hid hkd
      clear hcr
      go_wp2_with fail
      rw [← hW3]
      clear hW3
      have z3 := hA3.lt
      have s0 := hA3.cell (j := 0) rfl
      have s1 := hA3.cell (j := 1) rfl
      have s2 := hA3.cell (j := 2) rfl
      have s3 := hA3.cell (j := 3) rfl
      refine wp_region_held_drew (S := fun w' => w'.cell? ⟨wr.heap.size, 0, none⟩ = some (.int .i64 (κ : Int)) ∧ w'.cell? ⟨wr.heap.size, 1, none⟩ = some (.int .i64 n) ∧ w'.cell? ⟨wr.heap.size, 2, none⟩ = some (.int .i64 fr) ∧ w'.cell? ⟨wr.heap.size, 3, none⟩ = some (.string (str t)) ∧ w'.cell? ⟨w1.heap.size, κ * 3 + 1, none⟩ = some (.func (.func fid) #[] #[])) (by kernel_rfl) (by exact ⟨s0, s1, s2, s3, hfc3⟩) (fun hHeld => ?_)
      refine take_l (i := 0) (v := ?_) rfl (by kernel_rfl) (by kernel_rfl) (by kernel_rfl) (fun _ _ _ h => h) (Or.inl ⟨by kernel_rfl, ?_⟩) (by assumption) ?_
      rotate_left
      · intro w hSw; (try dsimp only at hSw); go_simp; (try with_reducible rfl)
      (try simp only [Act.put, List.setIfInBounds_toArray, List.set_cons_zero, List.set_cons_succ])
      refine take_l (i := 1) (v := ?_) rfl (by kernel_rfl) (by kernel_rfl) (by kernel_rfl) (fun _ _ _ h => h) (Or.inl ⟨by kernel_rfl, ?_⟩) (by assumption) ?_
      rotate_left
      · intro w hSw; (try dsimp only at hSw); go_simp; (try with_reducible rfl)
      (try simp only [Act.put, List.setIfInBounds_toArray, List.set_cons_zero, List.set_cons_succ])
      refine take_l (i := 2) (v := ?_) rfl (by kernel_rfl) (by kernel_rfl) (by kernel_rfl) (fun _ _ _ h => h) (Or.inl ⟨by kernel_rfl, ?_⟩) (by assumption) ?_
      rotate_left
      · intro w hSw; (try dsimp only at hSw); go_simp; (try with_reducible rfl)
      (try simp only [Act.put, List.setIfInBounds_toArray, List.set_cons_zero, List.set_cons_succ])
      refine take_l (i := 3) (v := ?_) rfl (by kernel_rfl) (by kernel_rfl) (by kernel_rfl) (fun _ _ _ h => h) (Or.inl ⟨by kernel_rfl, ?_⟩) (by assumption) ?_
      rotate_left
      · intro w hSw; (try dsimp only at hSw); go_simp; (try with_reducible rfl)
      (try simp only [Act.put, List.setIfInBounds_toArray, List.set_cons_zero, List.set_cons_succ])
      refine take_l (i := 4) (v := ?_) rfl (by kernel_rfl) (by kernel_rfl) (by kernel_rfl) (fun _ _ _ h => h) (Or.inl ⟨by kernel_rfl, ?_⟩) (by assumption) ?_
      rotate_left
      · intro w hSw; (try dsimp only at hSw); go_simp; (try with_reducible rfl)
      (try simp only [Act.put, List.setIfInBounds_toArray, List.set_cons_zero, List.set_cons_succ])
      refine take_l (i := 5) (v := ?_) rfl (by kernel_rfl) (by kernel_rfl) (by kernel_rfl) (fun _ _ _ h => h) (Or.inl ⟨by kernel_rfl, ?_⟩) (by assumption) ?_
      rotate_left
      · intro w hSw; (try dsimp only at hSw); go_simp; (try with_reducible rfl)
      (try simp only [Act.put, List.setIfInBounds_toArray, List.set_cons_zero, List.set_cons_succ])
      refine take_l (i := 6) (v := ?_) rfl (by kernel_rfl) (by kernel_rfl) (by kernel_rfl) (fun _ _ _ h => h) (Or.inl ⟨by kernel_rfl, ?_⟩) (by assumption) ?_
      rotate_left
      · intro w hSw; (try dsimp only at hSw); go_simp; (try with_reducible rfl)
      (try simp only [Act.put, List.setIfInBounds_toArray, List.set_cons_zero, List.set_cons_succ])
      refine take_l (i := 7) (v := ?_) rfl (by kernel_rfl) (by kernel_rfl) (by kernel_rfl) (fun _ _ _ h => h) (Or.inl ⟨by kernel_rfl, ?_⟩) (by assumption) ?_
      rotate_left
      · intro w hSw; (try dsimp only at hSw); go_simp; (try with_reducible rfl)
      (try simp only [Act.put, List.setIfInBounds_toArray, List.set_cons_zero, List.set_cons_succ])
      refine wpAnyH_ready (rs := [8]) (by kernel_rfl) (by simp) ?_
      refine ready_l rfl (fun K hK => ?_) AllReadyH.nil
      go_simp
      ((with_reducible refine ((hca.out _ hT3.drw)).mono ?_); rintro e vA ⟨rfl, hbvA⟩; have hBvA : Below W3.heap.size W3 vA := Below.trans (by repeat first | with_reducible exact Below.refl _ _ | with_reducible assumption | with_reducible refine below_drewN ?_ _ | with_reducible refine Below.drew ?_ | with_reducible refine Below.setCell ?_ (by first | exact Nat.le_refl _ | (simp; done) | (simp; omega) | omega) _ | with_reducible refine Below.alloc ?_ (by first | exact Nat.le_refl _ | (simp; done) | (simp; omega) | omega) _ | exact Below.refl _ _ | assumption) (hbvA.mono (by first | exact Nat.le_refl _ | assumption | (simp; done) | (simp; omega) | omega)); have hzvA := hbvA.size; )
      refine hK.out _ _ (by exact ⟨(hbvA.cell (p := ⟨_, 0, none⟩) z3).trans s0, (hbvA.cell (p := ⟨_, 1, none⟩) z3).trans s1, (hbvA.cell (p := ⟨_, 2, none⟩) z3).trans s2, (hbvA.cell (p := ⟨_, 3, none⟩) z3).trans s3, (hbvA.cell (p := ⟨_, κ * 3 + 1, none⟩) (hAq.below hBr3).lt).trans hfc3⟩) (fun hHeld => ?_)
      clear hK K
      (try simp only [Act.put, List.setIfInBounds_toArray, List.set_cons_zero, List.set_cons_succ])
      refine take_l (i := 9) (v := ?_) rfl (by kernel_rfl) (by kernel_rfl) (by kernel_rfl) (fun _ _ _ h => h) (Or.inl ⟨by kernel_rfl, ?_⟩) (by assumption) ?_
      rotate_left
      · intro w hSw; (try dsimp only at hSw); go_simp; (try with_reducible rfl)
      (try simp only [Act.put, List.setIfInBounds_toArray, List.set_cons_zero, List.set_cons_succ])
      refine take_l (i := 10) (v := ?_) rfl (by kernel_rfl) (by kernel_rfl) (by kernel_rfl) (fun _ _ _ h => h) (Or.inl ⟨by kernel_rfl, ?_⟩) (by assumption) ?_
      rotate_left
      · intro w hSw; (try dsimp only at hSw); go_simp; (try with_reducible rfl)
      (try simp only [Act.put, List.setIfInBounds_toArray, List.set_cons_zero, List.set_cons_succ])
      refine wpAnyH_done (by kernel_rfl) ?_ _
      go_wp2_with fail
      exact ⟨⟨i + 1, by omega, by rw [hsn.out]; rfl, by first | rfl | go_num, (show Hid _ from hBr3.drew.trans (hbvA.mono hBr3.size))⟩, by simp [intOf]; omega⟩
    · have hd : decide ((i : Int) < (l.length : Int)) = false := by simpa using hlt
      have hie : Hid (lenF m (l.take i) = lenF m l) := by show _ = _; rw [List.take_of_length_le (by omega)]
      go_wp2_with fail
      go_ret
      exact ⟨by rw [hie.out]; rfl, hBT⟩
end Go.Proofs.YtcpfmlaipejfpaaGreatDoor
