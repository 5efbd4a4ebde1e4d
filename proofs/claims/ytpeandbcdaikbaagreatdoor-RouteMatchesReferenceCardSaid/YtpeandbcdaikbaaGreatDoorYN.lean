/-
 Routes of chapter 11: slices.SortFunc at routes, by route.compare.
 Routes of chapter 11: slices.Collect, slices.SortedFunc at routes.
-/
import Derived.Test.YtpeandbcdaikbaaGreatDoorYM
import Derived.Test.YtpeandbcdaikbaaGreatDoorShelfS
import Derived.Shelf.SlSortCmp.NoneTotal
namespace Go.Proofs.YtpeandbcdaikbaaGreatDoor
open Go.RowKit Go.Shelf Go.Lib Go.Sort

abbrev RIn (w : World) := { z : RouM // OkR z w }
def zeroRou : Rou := ⟨[], 0, 0, []⟩
def zeroM : RouM := ⟨zeroRou, .slice none 0 0, .slice none 0 0⟩
theorem zeroM_ok (w : World) : OkR zeroM w :=
 ⟨⟨none, 0, rfl, Nat.le_refl _, Nat.zero_le _, fun h => absurd h (Nat.lt_irrefl 0)⟩, [], rfl, ⟨none, 0, rfl, Nat.le_refl _, Nat.zero_le _, fun h => absurd h (Nat.lt_irrefl 0)⟩, fun i hi => absurd hi (Nat.not_lt_zero i)⟩
instance : Inhabited RouM := ⟨zeroM⟩
instance (w : World) : Inhabited (RIn w) := ⟨⟨zeroM, zeroM_ok w⟩⟩
def encRI {w : World} (z : RIn w) : List Value := z.1.cells
def cfR {w : World} (x y : RIn w) : Int := compareP x.1.r y.1.r
theorem lt_cfR {w : World} (x y : RIn w) : ltOf cfR x y = aheadP x.1.r y.1.r := rfl
theorem swo_cfR (w : World) : SWO (ltOf (cfR (w := w))) where
 irrefl _ := ahead_irr _
 trans _ _ _ h1 h2 := ahead_trans h1 h2
 ntrans x y z h1 h2 := notAhead_trans (a := z.1.r) (b := y.1.r) (c := x.1.r) h2 h1
theorem rouCells_at : ∀ (l : List RouM) (i j : Nat), i < l.length → j < 4 → (rouCells l)[i * 4 + j]? = (l[i]!).cells[j]?
 | [], i, _, h, _ => by simp at h
 | x :: l, 0, j, _, hj => by
  simp only [rouCells, List.flatMap_cons, Nat.zero_mul, Nat.zero_add, List.getElem!_cons_zero]
  rw [List.getElem?_append_left (by simp [RouM.cells]; omega)]
 | x :: l, i + 1, j, h, hj => by
  have ih := rouCells_at l i j (by simpa using h) hj
  rw [List.getElem!_cons_succ, ← ih]
  simp only [rouCells, List.flatMap_cons]
  rw [List.getElem?_append_right (by simp [RouM.cells]; omega)]
  congr 1
  simp [RouM.cells]; omega
theorem rouCells_len (l : List RouM) : (rouCells l).length = l.length * 4 := by
 induction l with
 | nil => rfl
 | cons x l ih => simp [rouCells, RouM.cells] at ih ⊢; omega
section
variable {α : Type} [Inhabited α] {enc : α → List Value} {k : Nat} {w : World} {blk off m : Nat} {dk : Array α} {os : Array Obj} {cur : Array Value} {fz : Nat × Nat}
theorem sort_other (j : Nat) (hj : j < w.heap.size) (hne : j ≠ blk) : (sortWorldK enc k w blk off m dk os).heap[j]? = w.heap[j]? := by
 unfold sortWorldK
 rw [Go.Sort.heap_grow_old _ _ (by simpa [size_putRowK, Sort.ahead] using hj)]
 have hne' : ¬ blk = j := fun e => hne e.symm
 simp only [putRowK, putRow, mapBlock, Array.getElem?_modify, if_neg hne']
 rfl
theorem sort_block (hb : w.heap[blk]? = some (.cells cur 33 fz)) : ∃ cur', (sortWorldK enc k w blk off m dk os).heap[blk]? = some (.cells cur' 33 fz) := by
 have hlt := (Array.getElem?_eq_some_iff.1 hb).1
 unfold sortWorldK
 rw [Go.Sort.heap_grow_old _ _ (by simpa [size_putRowK, Sort.ahead] using hlt)]
 refine ⟨putCells id off (flatK enc k dk) cur, ?_⟩
 simp only [putRowK, putRow, mapBlock, Array.getElem?_modify, if_pos]
 rw [show (Sort.ahead w m).heap[blk]? = _ from hb]
 rfl
theorem sort_keep (hb : w.heap[blk]? = some (.cells cur 33 fz)) : KeepTy RX w (sortWorldK enc k w blk off m dk os) := by
 intro j c t f ht hj
 refine (sort_other j (Array.getElem?_eq_some_iff.1 hj).1 ?_).trans hj
 rintro rfl
 rw [hb] at hj
 injection hj with hj
 injection hj with _ hT
 exact ht (hT ▸ by decide)
theorem sort_below {B : Nat} (hB : B ≤ blk) (hlt : blk < w.heap.size) : Below B w (sortWorldK enc k w blk off m dk os) :=
 ⟨rfl, rfl, rfl, size_sortWorldK_c enc k w blk off m dk os, fun j hj => sort_other j (by omega) (by omega)⟩
end
theorem sort_lays {w : World} (blk off size : Nat) {cur : Array Value} {fz : Nat × Nat} (hb : w.heap[blk]? = some (.cells cur 33 fz)) :
  CmpLays Tryz.prog 50 #[] (encRI (w := w)) 4 cfR blk off size w := by
 intro m os dk _ x y
 have hk : KeepTy RX w (sortWorldK encRI 4 w blk off m dk os) := sort_keep hb
 have hx := x.2.keepTy hk
 have hy := y.2.keepTy hk
 obtain ⟨_, _, ⟨a1, c1, h1, _⟩, _⟩ := hx.2
 obtain ⟨_, _, ⟨a2, c2, h2, _⟩, _⟩ := hy.2
 exact compare_any x.1.r y.1.r x.1.ev x.1.cv y.1.ev y.1.cv _ hx.1.at hy.1.at ⟨_, _, _, h1⟩ ⟨_, _, _, h2⟩
set_option maxHeartbeats 1000000 in
theorem SortR_any (B : Nat) (v : Value) (zs : List RouM) (w : World) (hrow : w.ownsRow B 33 4 v zs.length (rouCells zs)) (hall : ∀ z ∈ zs, OkR z w) (hn : zs.length ≤ 5000000000) :
  Calls Tryz.prog 77 #[v, .func (.func 50) #[] #[]] w fun e w' =>
   e = .returned (.tuple #[]) ∧ ∃ zs', zs'.Perm zs ∧ SortedR (zs'.map RouM.r) ∧ RowT w' 33 v zs'.length (rouCells zs') ∧ (∀ z ∈ zs', OkR z w') ∧ (B ≤ w.heap.size → Below B w w') := by
 obtain ⟨hxl, hrow⟩ := hrow
 rcases hrow with ⟨rfl, h0⟩ | ⟨g, cap, cur, rfl, hB, hg, h1, h2, h3, h4⟩
 ·
  obtain rfl : zs = [] := List.length_eq_zero_iff.1 h0
  have hS := AnyF.slices_SortFunc_none (P := Tryz.prog) (ρ := Tryz.laysSort_ren) { Tryz.laysSort with } none 0 (.func (.func 50) #[] #[]) w
  change Calls Tryz.prog 77 _ _ _ at hS
  exact hS.mono fun e w' ⟨he, hw⟩ => by
   subst hw
   exact ⟨he, [], List.Perm.refl _, List.Pairwise.nil, ⟨none, 0, rfl, Nat.le_refl _, Nat.zero_le _, fun h => absurd h (Nat.lt_irrefl 0)⟩, fun z hz => absurd hz (by simp), fun _ => Below.refl _ _⟩
 ·
  obtain ⟨dl, hdl⟩ : ∃ dl : List (RIn w), dl.map (·.1) = zs := ⟨zs.attach.map fun z => ⟨z.1, hall z.1 z.2⟩, by simp [List.map_map, Function.comp_def]⟩
  have hlen : dl.length = zs.length := by rw [← hdl, List.length_map]
  have hlt := (Array.getElem?_eq_some_iff.1 hg).1
  have hH : HoldsK (encRI (w := w)) 4 w g 0 dl.toArray := by
   intro j hj
   have hj' : j < zs.length * 4 := by simpa [hlen] using hj
   have hq : j / 4 < zs.length := by omega
   have hz : (dl[j / 4]!).1 = zs[j / 4]! := by
    rw [getElem!_pos dl _ (by omega), getElem!_pos zs _ hq]
    have : (dl.map (·.1))[j / 4]? = zs[j / 4]? := by rw [hdl]
    rw [List.getElem?_map, List.getElem?_eq_getElem (by omega), List.getElem?_eq_getElem hq] at this
    simpa using this
   have hc : (rouCells zs)[j]? = some ((zs[j / 4]!).cells[j % 4]!) := by
    have := rouCells_at zs (j / 4) (j % 4) hq (by omega)
    rw [show j / 4 * 4 + j % 4 = j from by omega] at this
    rw [this, getElem!_pos (zs[j / 4]!).cells (j % 4) (by simp [RouM.cells]; omega), List.getElem?_eq_getElem]
   rw [get_flatK _ _ _ _ (by simpa [hlen] using hj')]
   have hcur : cur[j]? = some ((zs[j / 4]!).cells[j % 4]!) := by
    rw [← hc, ← h4, List.getElem?_take, if_pos (by omega)]
    simp
   rw [Nat.zero_add]
   refine ⟨?_, by simp [World.frozen?, hg]⟩
   have e : dl.toArray[j / 4]! = dl[j / 4]! := by simp
   rw [e]
   have e2 : (encRI dl[j / 4]!)[j % 4]! = (zs[j / 4]!).cells[j % 4]! := by
    show (dl[j / 4]!).1.cells[j % 4]! = _
    rw [hz]
   rw [e2]
   simp only [World.cell?, hg, hcur, id]
   simp
  have eg : ∀ args w, (callFunc 50 args).run Tryz.prog w = .ok (.enter 50 args) w := enters_of Tryz.func50 (by kernel_rfl) rfl
  have hS := AnyQ.slices_SortFunc (P := Tryz.prog) (ρ := Tryz.laysSort_ren) Tryz.laysSort 4 Tryz.isAgg33 Tryz.sizeOf33 (encRI (w := w)) (fun _ => rfl) (fun x => x.2.one) cfR (swo_cfR w) 50 #[] g 0 cap dl.toArray w eg (sort_lays g 0 _ hg) hH hlt (by simp; omega)
  change Calls Tryz.prog 77 _ _ _ at hS
  rw [List.size_toArray, hlen] at hS
  refine hS.mono ?_
  rintro e w' ⟨he, d', n, os, hp, hs, rfl⟩
  obtain ⟨p1, _, p3⟩ := hp
  have hd : d'.size = zs.length := by rw [p1]; simp [hlen]
  have p4 : d'.toList.Perm dl := by
   have e1 : d'.extract 0 zs.length = d' := by rw [← hd]; simp
   have e2 : dl.toArray.extract 0 zs.length = dl.toArray := by rw [← hlen, ← List.size_toArray]; simp
   rw [e1, e2] at p3
   exact p3
  have hk : KeepTy RX w (sortWorldK encRI 4 w g 0 n d' os) := sort_keep hg
  obtain ⟨cur', hcur'⟩ := sort_block (enc := encRI) (k := 4) (off := 0) (m := n) (dk := d') (os := os) hg
  have hh := holdsK_sortWorldK_c (encRI (w := w)) 4 w g 0 dl.toArray d' n os hH hlt (by rw [p1])
  refine ⟨he, d'.toList.map (·.1), by rw [← hdl]; exact p4.map _, ?_, ?_, ?_, fun _ => sort_below hB hlt⟩
  ·
   unfold SortedR
   rw [List.pairwise_map, List.pairwise_map, List.pairwise_iff_getElem]
   intro i j hi hj hij
   have := hs i j (Nat.zero_le _) hij (by simpa [hd] using hj)
   rw [lt_cfR, getElem!_pos d' j (by simpa using hj), getElem!_pos d' i (by simpa using hi)] at this
   simpa using this
  ·
   have e5 : (List.map (fun x => x.val) d'.toList).length = zs.length := by rw [List.length_map, Array.length_toList, hd]
   rw [e5]
   show RowT _ _ (Value.slice (some ⟨g, 0, none⟩) zs.length cap) _ _
   refine ⟨_, cap, rfl, h1, h2, fun _ => ⟨g, 0, cur', _, rfl, hcur', fun j u hu => ?_⟩⟩
   have hj4 : j < zs.length * 4 := by
    have := (List.getElem?_eq_some_iff.1 hu).1
    rw [rouCells_len, List.length_map, Array.length_toList, hd] at this
    exact this
   have h5 := (hh j (by rw [size_flatK, hd]; exact hj4)).1
   rw [Nat.zero_add] at h5 ⊢
   simp only [World.cell?, hcur', id] at h5
   rw [get_flatK _ _ _ _ (by rw [hd]; exact hj4)] at h5
   have hq : j / 4 < d'.size := by omega
   have h6 := rouCells_at (d'.toList.map (·.1)) (j / 4) (j % 4) (by simpa using hq) (by omega)
   rw [show j / 4 * 4 + j % 4 = j from by omega, hu] at h6
   rw [getElem!_pos (d'.toList.map (·.1)) (j / 4) (by simpa using hq)] at h6
   have h7 : cur'[j]? = some ((encRI d'[j / 4]!)[j % 4]!) := by simpa using h5
   rw [h7, getElem!_pos d' _ hq]
   have e4 : (encRI d'[j / 4])[j % 4]? = some u := by rw [h6]; simp [encRI]
   rw [List.getElem!_eq_getElem?_getD, e4]
   rfl
  ·
   intro z hz
   obtain ⟨y, hy, rfl⟩ := List.mem_map.1 hz
   exact y.2.keepTy hk
end Go.Proofs.YtpeandbcdaikbaaGreatDoor
namespace Go.Proofs.YtpeandbcdaikbaaGreatDoor
open Go.RowKit Go.Shelf Go.Maps

attribute [local go_sem] Oper.semAt_some

set_option maxHeartbeats 1000000 in
theorem CollectR_any (g : Nat) (lb : Array Value) (eg : ∀ args w, (callFunc g args).run Tryz.prog w = .ok (.enter g args) w) (R : List Rou) (hR : R.length ≤ 5000000000) (w : World)
  (hS : SeqAllR Fence.wide 3 Tryz.prog g lb encR (KpR w.heap.size) (fun xs => xs.map RouM.r = R) R.length OkR w) :
  Calls Tryz.prog 76 #[.func (.func g) #[] lb] w fun e W' =>
   ∃ v zs, e = .returned v ∧ zs.map RouM.r = R ∧ W'.ownsRow w.heap.size 33 4 v zs.length (rouCells zs) ∧ (∀ z ∈ zs, OkR z W') ∧ Below w.heap.size w W' := by
 have hA := Lib.hid (callsIn_wide.1 (AppendSeqR_in g lb eg R hR w hS))
 clear hS
 go_enter Tryz.func76, Tryz.ntmps76
 go_wp2_with fail
 refine hA.out.mono ?_
 rintro e w' ⟨v, zs, rfl, h1, h2, h3, h4⟩
 replace h2 := Lib.hid h2
 go_wp2_with fail
 go_ret
 exact ⟨v, zs, rfl, h1, h2.out, h3, h4⟩
/-- Routes in memory. -/
def RoutesT (w : World) (v : Value) (zs : List RouM) : Prop := RowT w 33 v zs.length (rouCells zs) ∧ ∀ z ∈ zs, OkR z w
set_option maxHeartbeats 1000000 in
theorem SortedR_any (g : Nat) (lb : Array Value) (eg : ∀ args w, (callFunc g args).run Tryz.prog w = .ok (.enter g args) w) (R : List Rou) (hR : R.length ≤ 5000000000) (w : World)
  (hS : SeqAllR Fence.wide 3 Tryz.prog g lb encR (KpR w.heap.size) (fun xs => xs.map RouM.r = R) R.length OkR w) :
  Calls Tryz.prog 48 #[.func (.func g) #[] lb, .func (.func 50) #[] #[]] w fun e W' =>
   ∃ v zs, e = .returned v ∧ (zs.map RouM.r).Perm R ∧ SortedR (zs.map RouM.r) ∧ RoutesT W' v zs ∧ Below w.heap.size w W' := by
 have hA := Lib.hid (CollectR_any g lb eg R hR w hS)
 clear hS
 go_enter Tryz.func48, Tryz.ntmps48
 go_wp2_with fail
 refine hA.out.mono ?_
 rintro e w1 ⟨v, zs, rfl, h1, h2, h3, h4⟩
 have hlen : zs.length ≤ 5000000000 := by rw [← h1, List.length_map] at hR; exact hR
 have hSo := Lib.hid (SortR_any w.heap.size v zs w1 h2 h3 hlen)
 have hsh : ∃ a n c, v = .slice a n c := by
  obtain ⟨a, c, h, _⟩ := (RowT.of_own h2).len
  exact ⟨_, _, _, h⟩
 obtain ⟨va, vn, vc, rfl⟩ := hsh
 replace h2 := Lib.hid h2
 replace h1 := Lib.hid h1
 go_wp2_with fail
 refine hSo.out.mono ?_
 rintro e w2 ⟨rfl, zs', p1, p2, p3, p4, p5⟩
 replace p1 := Lib.hid p1
 go_wp2_with fail
 go_ret
 exact ⟨_, zs', rfl, by rw [← h1.out]; exact p1.out.map _, p2, ⟨p3, fun z hz => p4 z hz⟩, h4.trans (p5 h4.size)⟩
end Go.Proofs.YtpeandbcdaikbaaGreatDoor
