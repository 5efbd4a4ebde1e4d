/-
  Package content: the table of the properties.
  Package content: Property, of the texts.
  Package content: the place of a cell.
-/
import Derived.Test.YtocpnlifmeffkaaGreatDoorUQ
namespace Go.Proofs.YtocpnlifmeffkaaGreatDoor
open Go.RowKit Go.Shelf Go.Maps

attribute [local go_sem] Oper.semAt_some

/-- How a function is read. -/
def fnElem (v : Value) : Option (DataW Unit × List MemPlace) :=
  match v with
  | .func (.func g) ⟨[]⟩ ⟨[]⟩ => some (.lit (.int .i64 g), [])
  | .nilFunc => some (.nil, [])
  | _ => none
theorem fnElem_at {v : Value} {g : Nat} {ps : List MemPlace} (h : fnElem v = some (.lit (.int .i64 g), ps)) : v = .func (.func g) #[] #[] := by
  unfold fnElem at h
  split at h
  · injection h with h
    injection h with h _
    injection h with h
    injection h with _ h
    rw [Int.ofNat_inj] at h
    subst h
    rfl
  · injection h with h
    injection h with h _
    cases h
  · cases h
theorem keyedP : Keyed Tryz.prog 3 := int_keyed Tryz.underlying3
theorem keyP {a : Int} (h : (Lit.int .i64 a).wf = true) : keyOf Tryz.prog 3 (.int .i64 a) = some (.int .i64 a) := keyOf_int_mk Tryz.underlying3 h
theorem zeroF (w : World) : (zeroValue 115).run Tryz.prog w = .ok .nilFunc w := by kernel_rfl
/-- Block b is a map of at most n entries from numbers to functions; m says which. -/
def FnMap (w : World) (b n : Nat) (m : Int → Option Nat) : Prop :=
  ∃ D : DataW Unit, w.ownsMap Tryz.prog 3 fnElem b n D ∧ ∀ k g, m k = some g → Maps.has D (.int .i64 k) = true ∧ D.atKey (.int .i64 k) .nil = .lit (.int .i64 g)
theorem FnMap.of_block {w w' : World} {b n : Nat} {m : Int → Option Nat} (h : FnMap w b n m) (hb : w'.heap[b]? = w.heap[b]?) : FnMap w' b n m := by
  obtain ⟨D, ⟨es, clock, h1, h2⟩, h3⟩ := h
  exact ⟨D, ⟨es, clock, hb.trans h1, h2⟩, h3⟩
theorem FnMap.lt {w : World} {b n : Nat} {m : Int → Option Nat} (h : FnMap w b n m) : b < w.heap.size := by obtain ⟨D, h1, _⟩ := h; exact h1.lt
theorem FnMap.made (w : World) : FnMap (w.alloc (.map #[] 0)) w.heap.size 0 (fun _ => none) :=
  ⟨.map [], World.ownsMap_made _ _ _ _, fun _ _ h => by cases h⟩
set_option maxRecDepth 100000 in
theorem FnMap.look {w : World} {b n : Nat} {m : Int → Option Nat} (h : FnMap w b n m) {k : Int} {g : Nat} (hk : (Lit.int .i64 k).wf = true) (hm : m k = some g) : (Instr.lookup 117 (.map (some b)) (.int .i64 k) true).run Tryz.prog w = .ok (.tuple #[.func (.func g) #[] #[], .bool true]) w := by
  obtain ⟨D, h1, h2⟩ := h
  obtain ⟨v, ps, hrun, hv⟩ := h1.look_ok keyedP Tryz.underlying117 (zeroF _) (zd := .nil) (zp := []) rfl (keyP hk)
  obtain ⟨e1, e2⟩ := h2 k g hm
  rw [e2] at hv
  rw [hrun, e1, fnElem_at hv]
set_option maxRecDepth 100000 in
theorem FnMap.put {w : World} {b n : Nat} {m : Int → Option Nat} (h : FnMap w b n m) (hn : n < maxLen) {k : Int} (hk : (Lit.int .i64 k).wf = true) (g : Nat) : ∃ w', (Instr.mapUpdate 117 (.map (some b)) (.int .i64 k) (.func (.func g) #[] #[])).run Tryz.prog w = .ok () w' ∧ FnMap w' b (n + 1) (fun j => if j = k then some g else m j) ∧ w.grownBy w' (some b) := by
  obtain ⟨D, h1, h2⟩ := h
  obtain ⟨w', hrun, r1, r2⟩ := h1.update keyedP Tryz.underlying117 hn (keyP hk) (show fnElem (.func (.func g) #[] #[]) = some (.lit (.int .i64 g), []) from rfl)
  refine ⟨w', hrun, ⟨_, r1, fun j g' hg => ?_⟩, r2⟩
  by_cases e : j = k
  · subst e
    have hl : WideAt.IsKeyLit (Lit.int .i64 j) := trivial
    simp only [if_true, Option.some.injEq] at hg
    subst hg
    exact ⟨has_put_same h1.isMap hl _, atKey_put_same h1.isMap hl _ _⟩
  · have hne : (Lit.int .i64 j) ≠ (Lit.int .i64 k) := by intro h; injection h with _ h; exact e h
    replace hg : (if j = k then some g else m j) = some g' := hg
    rw [if_neg e] at hg
    rw [has_put_other hne, atKey_put_other hne]
    exact h2 j g' hg
set_option maxRecDepth 100000 in
set_option maxHeartbeats 2000000 in
theorem properties_any (w : World) :
    Calls Tryz.prog 49 #[] w fun e w' => ∃ M m, e = .returned (.map (some M)) ∧ FnMap w' M 8 m ∧ m 1 = some 88 ∧ Below w.heap.size w w' := by
  have hmm := @run_makeMap Tryz.prog
  have m0 := FnMap.made w
  obtain ⟨v1, r1, m1, g1⟩ := m0.put (by unfold maxLen; decide) (k := 1) (by decide) 88
  obtain ⟨v2, r2, m2, g2⟩ := m1.put (by unfold maxLen; decide) (k := 2) (by decide) 91
  obtain ⟨v3, r3, m3, g3⟩ := m2.put (by unfold maxLen; decide) (k := 3) (by decide) 92
  obtain ⟨v4, r4, m4, g4⟩ := m3.put (by unfold maxLen; decide) (k := 4) (by decide) 94
  obtain ⟨v5, r5, m5, g5⟩ := m4.put (by unfold maxLen; decide) (k := 5) (by decide) 95
  obtain ⟨v6, r6, m6, g6⟩ := m5.put (by unfold maxLen; decide) (k := 6) (by decide) 96
  obtain ⟨v7, r7, m7, g7⟩ := m6.put (by unfold maxLen; decide) (k := 7) (by decide) 98
  obtain ⟨v8, r8, m8, g8⟩ := m7.put (by unfold maxLen; decide) (k := 8) (by decide) 99
  have hg := Lib.hid ((((((((g1).trans g2).trans g3).trans g4).trans g5).trans g6).trans g7).trans g8)
  replace m8 := Lib.hid m8
  go_enter Tryz.func49, Tryz.ntmps49
  go_wp2_with fail
  go_ret
  refine ⟨_, _, rfl, m8.out, by simp, ((Below.refl _ w).alloc (Nat.le_refl _) _).grown hg.out (by simp) (fun k hk => ?_)⟩
  injection hk with hk
  omega
end Go.Proofs.YtocpnlifmeffkaaGreatDoor
namespace Go.Proofs.YtocpnlifmeffkaaGreatDoor
open Go.RowKit Go.Shelf Go.Maps

attribute [local go_sem] Oper.semAt_some

theorem isW_new (w : World) : IsW w.heap.size [] (w.alloc (.cells #[.pointer none, .slice none 0 0] 121)) :=
  .inl ⟨Nat.le_refl _, _, World.alloc_heap_new w _, ⟨rfl, .inl ⟨rfl, rfl⟩⟩, by simp [Value.ownBlock]⟩
theorem putZ_ne (n : Int) : putZ n ≠ [] := by
  unfold putZ lebF
  split <;> simp
set_option maxRecDepth 100000 in
set_option maxHeartbeats 4000000 in
theorem Property1_any (lv cv : Value) (ls : List Lin) (cs : List Cel) (w : World) (hl : ls.length ≤ 64) (hc : cs.length ≤ 64) (hup : celsUp cs = true) (hlo : ls.all linOk = true) (hco : cs.all celOk = true) (hlv : SliceAt w w.heap.size lv ls.length (linCells ls)) (hcv : SliceAt w w.heap.size cv cs.length (cellCells cs)) :
    Calls Tryz.prog 17 #[docV lv cv 0 [], .int .i64 1] w fun e w' => e = .returned (.tuple #[.string (str (putZ ls.length ++ ls.flatMap fun l => putSb l.text)), .int .i64 0]) ∧ Below w.heap.size w w' := by
  have hV := Lib.hid fun W (h : Below w.heap.size w W) => Valid0_any lv cv ls cs W hl hc hup hlo hco (hlv.later h) (hcv.later h)
  have hlv' := Lib.hid fun W (h : Below w.heap.size w W) => hlv.later h
  have hP := Lib.hid properties_any
  have hne : (putZ ls.length ++ ls.flatMap fun l => putSb l.text) ≠ [] := fun e => putZ_ne _ (List.append_eq_nil_iff.1 e).1
  obtain ⟨al, cl, rfl, _, _, _⟩ := hlv
  obtain ⟨ac, cc, rfl, _, _, _⟩ := hcv
  have h1 := Lib.hid fun b W hI hL => prop1_any b (.slice al ls.length cl) (.slice ac cs.length cc) 0 [] ls cs.length ac cc W hI rfl hl hlo hL
  unfold docV at *
  have hA : Arr (w.alloc (.cells #[.slice al ls.length cl, .slice ac cs.length cc, .int .i64 0, .string (str [])] 50)) w.heap.size 50 [.slice al ls.length cl, .slice ac cs.length cc, .int .i64 0, .string (str [])] := Arr.new rfl rfl
  have hB : Below w.heap.size w (w.alloc (.cells #[.slice al ls.length cl, .slice ac cs.length cc, .int .i64 0, .string (str [])] 50)) := (Below.refl _ w).alloc (Nat.le_refl _) _
  have hAc : ∀ W, Arr W w.heap.size 50 [.slice al ls.length cl, .slice ac cs.length cc, .int .i64 0, .string (str [])] → W.cell? ⟨w.heap.size, 0, none⟩ = some (.slice al ls.length cl) ∧ W.cell? ⟨w.heap.size, 1, none⟩ = some (.slice ac cs.length cc) ∧ W.cell? ⟨w.heap.size, 2, none⟩ = some (.int .i64 0) ∧ W.cell? ⟨w.heap.size, 3, none⟩ = some (.string (str [])) := fun W h => ⟨h.cell rfl, h.cell rfl, h.cell rfl, h.cell rfl⟩
  replace hAc := Lib.hid hAc
  go_enter Tryz.func17, Tryz.ntmps17
  go_wp2_with (first
    | (go_at_call 49; refine (hP.out _).mono ?_; rintro e w1 ⟨M, m, rfl, hM, hm1, hb1⟩; have hlk := hM.look (k := 1) (by decide) hm1; have hA1 := hA.below hb1; have hB1 := hB.trans (hb1.mono hB.size); obtain ⟨a0, a1, a2, a3⟩ := hAc.out _ hA1)
    | (go_at_call 47; refine (hV.out _ hB1).mono ?_; rintro e w2 ⟨rfl, hb2⟩; have hA2 := hA1.below hb2; have hB2 := hB1.trans (hb2.mono hB1.size); obtain ⟨e0, e1, e2, e3⟩ := hAc.out _ hA2; have lt2 : w.heap.size < w2.heap.size := hA2.lt)
    | (go_at_call 88; refine (h1.out w2.heap.size _ (isW_new w2) ((hlv'.out w2 hB2).keep fun k hk => Below.heap_alloc w2 _ k hk)).mono ?_; rintro e w3 ⟨rfl, hW3, hb3⟩)
    | (go_at_call 28; refine (Wr.String_some w2.heap.size w2.heap.size _ _ hW3 hne).mono ?_; rintro e w4 ⟨rfl, hk4, hb4⟩))
  go_ret2
  exact ⟨rfl, (hB2.alloc hB2.size _).trans ((hb3.trans hb4).mono hB2.size)⟩
end Go.Proofs.YtocpnlifmeffkaaGreatDoor
namespace Go.Proofs.YtocpnlifmeffkaaGreatDoor
open Go.RowKit Go.Shelf Go.Maps

attribute [local go_sem] Oper.semAt_some

set_option maxHeartbeats 1000000 in
theorem value1_any (b1 b2 : Nat) (r k : Int) (c : Cel) (w : World) (h1 : w.cell? ⟨b1, 0, none⟩ = some (.int .i64 r)) (h2 : w.cell? ⟨b2, 0, none⟩ = some (.int .i64 k)) (l1 : b1 < w.heap.size) (l2 : b2 < w.heap.size) :
    Calls Tryz.prog 46 #[celV c, .pointer (some ⟨b1, 0, none⟩), .pointer (some ⟨b2, 0, none⟩)] w fun e w' => e = .returned (.bool (c.row == r && c.col == k)) ∧ Below w.heap.size w w' := by
  unfold celV encCel at *
  have hB : Below w.heap.size w (w.alloc (.cells #[.int .i64 c.row, .int .i64 c.col, .bool c.sum, .int .i64 c.val, .int .i64 c.top, .int .i64 c.left] 47)) := (Below.refl _ w).alloc (Nat.le_refl _) _
  have h1' := (hB.cell (p := ⟨b1, 0, none⟩) l1).trans h1
  have h2' := (hB.cell (p := ⟨b2, 0, none⟩) l2).trans h2
  clear h1 h2
  cases hr : (c.row == r) with
  | false =>
    go_enter Tryz.func46, Tryz.ntmps46
    go_wp2
    go_ret
    exact ⟨rfl, hB⟩
  | true =>
    go_enter Tryz.func46, Tryz.ntmps46
    go_wp2
    go_ret
    exact ⟨rfl, hB⟩
theorem indexV_any (b1 b2 b o c : Nat) (r k : Int) (l : List Cel) (w : World) (h1 : w.cell? ⟨b1, 0, none⟩ = some (.int .i64 r)) (h2 : w.cell? ⟨b2, 0, none⟩ = some (.int .i64 k)) (l1 : b1 < w.heap.size) (l2 : b2 < w.heap.size) (hl : l.length ≤ 64) (hb : b < w.heap.size) (hc : ∀ j u, (cellCells l)[j]? = some u → w.cell? ⟨b, o + j, none⟩ = some u) :
    Calls Tryz.prog 45 #[.slice (some ⟨b, o, none⟩) l.length c, .func (.func 46) #[] #[.pointer (some ⟨b1, 0, none⟩), .pointer (some ⟨b2, 0, none⟩)]] w fun e w' => e = .returned (.int .i64 (Lib.idxBy (fun _ y => y.row == r && y.col == k) l default)) ∧ Below w.heap.size w w' := by
  have hp : PredBelow Tryz.prog 46 #[.pointer (some ⟨b1, 0, none⟩), .pointer (some ⟨b2, 0, none⟩)] (fun x => .agg (encCel x).toArray) (fun y => y.row == r && y.col == k) w := fun W x hW =>
    (value1_any b1 b2 r k x W ((hW.cell (p := ⟨b1, 0, none⟩) l1).trans h1) ((hW.cell (p := ⟨b2, 0, none⟩) l2).trans h2) (Nat.lt_of_lt_of_le l1 hW.size) (Nat.lt_of_lt_of_le l2 hW.size)).mono fun _ _ h => ⟨h.1, hW.trans (h.2.mono hW.size)⟩
  have h := AnyQ.slices_IndexFunc Tryz.laysF6c 6 Tryz.isAgg47 Tryz.sizeOf47 encCel (fun _ => rfl) (fun y => y.row == r && y.col == k) 46 #[.pointer (some ⟨b1, 0, none⟩), .pointer (some ⟨b2, 0, none⟩)] (enters_of Tryz.func46 (by kernel_rfl) rfl) b o l.length c l w hp (Nat.le_refl _) (by omega) hb
    (fun j hj i v hv => by
      have hi : i < 6 := (List.getElem?_eq_some_iff.1 hv).1
      have := hc (j * 6 + i) v ((flat_at encCel 6 (fun _ => rfl) l j i hj hi).trans hv)
      rwa [← Nat.add_assoc] at this)
  rwa [List.take_length] at h
end Go.Proofs.YtocpnlifmeffkaaGreatDoor
