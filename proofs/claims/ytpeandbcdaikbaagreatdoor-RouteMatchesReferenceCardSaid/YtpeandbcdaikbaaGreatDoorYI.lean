/-
 Routes of chapter 11: route.Valid.
 Routes of chapter 11: route.steps, Better, Keeps.
 Routes of chapter 11: route.Better.
 Routes of chapter 11: route.Keeps.
 Routes of chapter 11: ways in memory; route.begin, last.
-/
import Derived.Test.YtpeandbcdaikbaaGreatDoorYH
open List (setIfInBounds_toArray set_cons_zero set_cons_succ)
namespace Go.Proofs.YtpeandbcdaikbaaGreatDoor
open Go.RowKit Go.Shelf Go.Maps

attribute [local go_sem] Oper.semAt_some

def edgC (e : Edg) (v : Value) : List Value := [.int .i64 e.cost, .int .i64 e.until_, .int .i64 e.does.id, .int .i64 e.does.frm, .int .i64 e.does.to, .bool e.does.back, v]
def okE (e : Edg) : Bool := decide (0 ≤ e.cost ∧ e.cost ≤ 1000000) && decide (0 ≤ e.until_ ∧ e.until_ ≤ 100000) && validM e.does
set_option maxRecDepth 100000 in
set_option maxHeartbeats 4000000 in
theorem rvalid1_any (e : Edg) (v : Value) (w : World) (hm : MigIn e.does) (hv : ClaimsAt w w.heap.size v e.does.keep) :
  Calls Tryz.prog 36 #[.agg #[.int .i64 e.cost, .int .i64 e.until_, .int .i64 e.does.id, .int .i64 e.does.frm, .int .i64 e.does.to, .bool e.does.back, v]] w fun r w' => r = .returned (.bool (!okE e)) ∧ Below w.heap.size w w' := by
 obtain ⟨W, hW⟩ : ∃ W, W = w.alloc (.cells #[.int .i64 e.cost, .int .i64 e.until_, .int .i64 e.does.id, .int .i64 e.does.frm, .int .i64 e.does.to, .bool e.does.back, v] 30) := ⟨_, rfl⟩
 have hA : Arr W w.heap.size 30 [.int .i64 e.cost, .int .i64 e.until_, .int .i64 e.does.id, .int .i64 e.does.frm, .int .i64 e.does.to, .bool e.does.back, v] := by rw [hW]; exact Arr.new rfl rfl
 have hbW : Below w.heap.size w W := by rw [hW]; exact (Below.refl _ _).alloc (Nat.le_refl _) _
 have hva := Lib.hid (mValid_any e.does v W hm (hv.later hbW))
 unfold migV at hva
 obtain ⟨vs, _, ⟨a, c, rfl, _, _, _⟩, _⟩ := hv
 obtain ⟨R, hR⟩ : ∃ R, R = okE e := ⟨_, rfl⟩
 rw [← hR]
 unfold okE at hR
 generalize validM e.does = vb at *
 obtain ⟨cost, until_, ⟨id, frm, to, back, l⟩⟩ := e
 dsimp only at hA hW hva hR ⊢
 have c0 := hA.cell (j := 0) rfl
 have c1 := hA.cell (j := 1) rfl
 have c2 := hA.cell (j := 2) rfl
 have c3 := hA.cell (j := 3) rfl
 have c4 := hA.cell (j := 4) rfl
 have c5 := hA.cell (j := 5) rfl
 have c6 := hA.cell (j := 6) rfl
 replace hbW := Lib.hid hbW
 replace hR := Lib.hid hR
 clear hA
 by_cases h1 : cost < 0
 ·
  have hd : decide (cost < 0) = true := by simpa using h1
  have hres : Hid (R = false) := by show _ = _; rw [hR.out, decide_eq_false (show ¬(0 ≤ cost ∧ cost ≤ 1000000) by omega)]; rfl
  go_enter Tryz.func36, Tryz.ntmps36
  go_wp2_with (rw [← hW])
  go_ret
  exact ⟨by rw [hres.out]; rfl, hbW.out⟩
 ·
  have hd : decide (cost < 0) = false := by simpa using h1
  by_cases h2 : 1000000 < cost
  ·
   have hd2 : decide (cost > 1000000) = true := by simpa using h2
   have hres : Hid (R = false) := by show _ = _; rw [hR.out, decide_eq_false (show ¬(0 ≤ cost ∧ cost ≤ 1000000) by omega)]; rfl
   go_enter Tryz.func36, Tryz.ntmps36
   go_wp2_with (rw [← hW])
   go_ret
   exact ⟨by rw [hres.out]; rfl, hbW.out⟩
  ·
   have hd2 : decide (cost > 1000000) = false := by simpa using h2
   by_cases h3 : until_ < 0
   ·
    have hd3 : decide (until_ < 0) = true := by simpa using h3
    have hres : Hid (R = false) := by show _ = _; rw [hR.out, decide_eq_false (show ¬(0 ≤ until_ ∧ until_ ≤ 100000) by omega)]; simp
    go_enter Tryz.func36, Tryz.ntmps36
    go_wp2_with (rw [← hW])
    go_ret
    exact ⟨by rw [hres.out]; rfl, hbW.out⟩
   ·
    have hd3 : decide (until_ < 0) = false := by simpa using h3
    by_cases h4 : 100000 < until_
    ·
     have hd4 : decide (until_ > 100000) = true := by simpa using h4
     have hres : Hid (R = false) := by show _ = _; rw [hR.out, decide_eq_false (show ¬(0 ≤ until_ ∧ until_ ≤ 100000) by omega)]; simp
     go_enter Tryz.func36, Tryz.ntmps36
     go_wp2_with (rw [← hW])
     go_ret
     exact ⟨by rw [hres.out]; rfl, hbW.out⟩
    ·
     have hd4 : decide (until_ > 100000) = false := by simpa using h4
     have hres : Hid (R = vb) := by show _ = _; rw [hR.out, decide_eq_true (show 0 ≤ cost ∧ cost ≤ 1000000 by omega), decide_eq_true (show 0 ≤ until_ ∧ until_ ≤ 100000 by omega)]; rfl
     go_enter Tryz.func36, Tryz.ntmps36
     go_wp2_with (rw [← hW])
     refine hva.out.mono ?_
     rintro e w2 ⟨rfl, hb2⟩
     go_wp2_with fail
     go_ret
     exact ⟨by rw [hres.out]; rfl, hbW.out.trans (hb2.mono hbW.out.size)⟩
/-- An edge whose migration's elements lie in w. -/
abbrev EdIn (w : World) := { z : Edg × Value // MigIn z.1.does ∧ ClaimsAt w w.heap.size z.2 z.1.does.keep }
theorem zeroI64 : I64 0 := ⟨by omega, by omega⟩
theorem zeroMig : MigIn (⟨0, 0, 0, false, []⟩ : Mig) := ⟨zeroI64, zeroI64, zeroI64, by simp⟩
instance (w : World) : Inhabited (EdIn w) := ⟨⟨(⟨0, 0, ⟨0, 0, 0, false, []⟩⟩, .slice none 0 0), zeroMig, [], rfl, ⟨_, _, rfl, Nat.le_refl _, Nat.zero_le _, fun h => absurd h (Nat.lt_irrefl 0)⟩, fun i hi => absurd hi (Nat.not_lt_zero _)⟩⟩
def encE {w : World} (z : EdIn w) : List Value := edgC z.1.1 z.1.2
theorem edges_in {w : World} {v : Value} {l : List Edg} (h : EdgesAt w w.heap.size v l) (hI : ∀ e ∈ l, MigIn e.does) :
  ∃ lz : List (EdIn w), lz.map (fun z => z.1.1) = l ∧ ∃ a cap, v = .slice a l.length cap ∧ l.length ≤ cap ∧ cap ≤ maxLen ∧ (0 < l.length → ∃ b o, a = some ⟨b, o, none⟩ ∧ b < w.heap.size ∧ ∀ j, j < lz.length → ∀ i u, (encE lz[j]!)[i]? = some u → w.cell? ⟨b, o + j * 7 + i, none⟩ = some u) := by
 obtain ⟨vs, h1, ⟨a, cap, hv, c1, c2, hc⟩, h3⟩ := h
 have hall : ∀ i : Fin l.length, MigIn l[i.1].does ∧ ClaimsAt w w.heap.size vs[i.1]! l[i.1].does.keep := fun i => ⟨hI _ (List.getElem_mem i.2), by have := h3 i.1 i.2; rwa [getElem!_pos l i.1 i.2] at this⟩
 refine ⟨List.ofFn fun i : Fin l.length => ⟨(l[i.1], vs[i.1]!), hall i⟩, ?_, a, cap, hv, c1, c2, fun hn => ?_⟩
 ·
  apply List.ext_getElem
  ·
   simp
  ·
   intro i q1 q2
   simp
 ·
  obtain ⟨b, o, ha, hb, hx⟩ := hc hn
  refine ⟨b, o, ha, hb, fun j hj i u hu => ?_⟩
  have hj' : j < l.length := by simpa using hj
  rw [getElem!_pos _ j hj, List.getElem_ofFn] at hu
  have := edC_at l vs h1 j hj' i u (by rw [getElem!_pos l j hj']; exact hu)
  rw [Nat.add_assoc]
  exact hx _ _ this
set_option maxHeartbeats 1000000 in
theorem containsE_nil (a : Option Addr) (c : Nat) (w : World) :
  Calls Tryz.prog 38 #[.slice a 0 c, .func (.func 36) #[] #[]] w fun e w' => e = .returned (.bool false) ∧ Below w.heap.size w w' := by
 go_enter Tryz.func38, Tryz.ntmps38
 go_wp2
 go_loop [8] (fun i => i = .int .i64 0) (fun _ => 0)
 case atStart => rfl
 case round =>
  subst hrel
  go_wp2
  go_ret
  exact ⟨rfl, Below.refl _ w⟩
theorem any_edge (l : List Edg) : (l.any fun e => !okE e) = !l.all okE := by
 induction l with
 | nil => rfl
 | cons s l ih => rw [List.any_cons, List.all_cons, ih, Bool.not_and]
theorem containsE_any (v : Value) (l : List Edg) (w : World) (hv : EdgesAt w w.heap.size v l) (hI : ∀ e ∈ l, MigIn e.does) :
  Calls Tryz.prog 38 #[v, .func (.func 36) #[] #[]] w fun e w' => e = .returned (.bool (!l.all okE)) ∧ Below w.heap.size w w' := by
 obtain ⟨lz, hlz, a, c, rfl, hn1, hn2, hc⟩ := edges_in hv hI
 have hlen : lz.length = l.length := by rw [← hlz, List.length_map]
 by_cases h0 : l.length = 0
 ·
  obtain rfl : l = [] := List.eq_nil_of_length_eq_zero h0
  exact containsE_nil a c w
 ·
  obtain ⟨b, o, rfl, hb, hcell⟩ := hc (by omega)
  have h := AnyQ.slices_ContainsFunc Tryz.laysF8e 7 Tryz.isAgg30 Tryz.sizeOf30 (encE (w := w)) (fun _ => rfl) (fun z => !okE z.1.1) 36 #[] (enters_of Tryz.func36 (by kernel_rfl) rfl) b o lz.length c lz w
   (fun W x hb' => (rvalid1_any x.1.1 x.1.2 W x.2.1 (x.2.2.later hb')).mono fun _ _ h => ⟨h.1, hb'.trans (h.2.mono hb'.size)⟩) (Nat.le_refl _) (by unfold maxLen at hn2; omega) hb hcell
  rw [List.take_length] at h
  rw [← hlen]
  have hany : (l.any fun e => !okE e) = lz.any fun z => !okE z.1.1 := by rw [← hlz, List.any_map]; rfl
  rw [← any_edge, hany]
  exact h
set_option maxHeartbeats 2000000 in
theorem rValid_any (v : Value) (l : List Edg) (w : World) (hv : EdgesAt w w.heap.size v l) (hI : ∀ e ∈ l, MigIn e.does) :
  Calls Tryz.prog 15 #[v] w fun e w' => e = .returned (.bool (validE l)) ∧ Below w.heap.size w w' := by
 have hc := Lib.hid (containsE_any v l w hv hI)
 obtain ⟨vs, _, ⟨a, c, rfl, _, _, _⟩, _⟩ := hv
 have hvd : validE l = (decide ((l.length : Int) ≤ 40) && l.all okE) := by
  have h2 : decide (l.length ≤ 40) = decide ((l.length : Int) ≤ 40) := by rw [Bool.eq_iff_iff, decide_eq_true_eq, decide_eq_true_eq]; omega
  unfold validE
  rw [h2]
  rfl
 rw [hvd]
 clear hvd
 generalize l.all okE = r at *
 by_cases hl : (l.length : Int) ≤ 40
 ·
  have hd : decide ((l.length : Int) ≤ 40) = true := decide_eq_true hl
  have hres : Hid ((decide ((l.length : Int) ≤ 40) && r) = r) := by show _ = _; rw [hd, Bool.true_and]
  go_enter Tryz.func15, Tryz.ntmps15
  go_wp2_with fail
  refine hc.out.mono ?_
  rintro e w2 ⟨rfl, hb2⟩
  go_wp2_with fail
  go_ret
  exact ⟨by first | rfl | (rw [hres.out]; simp) | simp, hb2⟩
 ·
  have hd : decide ((l.length : Int) ≤ 40) = false := decide_eq_false hl
  have hres : Hid ((decide ((l.length : Int) ≤ 40) && r) = false) := by show _ = _; rw [hd, Bool.false_and]
  go_enter Tryz.func15, Tryz.ntmps15
  go_wp2_with fail
  go_ret
  exact ⟨by first | rfl | (rw [hres.out]; rfl), Below.refl _ _⟩
end Go.Proofs.YtpeandbcdaikbaaGreatDoor
namespace Go.Proofs.YtpeandbcdaikbaaGreatDoor
open Go.RowKit Go.Shelf Go.Maps

attribute [local go_sem] Oper.semAt_some

def encC (z : (Int × List Stp) × Value) : List Value := [.int .i64 z.1.1, z.2]
set_option maxHeartbeats 1000000 in
theorem rsteps1_any (x p : Int) (v : Value) (B : Nat) (w : World) (hB : w.cell? ⟨B, 0, none⟩ = some (.int .i64 p)) (hlt : B < w.heap.size) :
  Calls Tryz.prog 86 #[.agg #[.int .i64 x, v], .pointer (some ⟨B, 0, none⟩)] w fun e w' => e = .returned (.bool (x == p)) ∧ Below w.heap.size w w' := by
 have hal : Below w.heap.size w (w.alloc (.cells #[.int .i64 x, v] 59)) := (Below.refl _ _).alloc (Nat.le_refl _) _
 have c0 := (hal.cell (p := ⟨B, 0, none⟩) hlt).trans hB
 replace hal := Lib.hid hal
 go_enter Tryz.func86, Tryz.ntmps86
 go_wp2_with fail
 go_ret
 exact ⟨rfl, hal.out⟩
set_option maxHeartbeats 1000000 in
theorem indexC_nil (a : Option Addr) (c b : Nat) (w : World) :
  Calls Tryz.prog 85 #[.slice a 0 c, .func (.func 86) #[] #[.pointer (some ⟨b, 0, none⟩)]] w fun e w' => e = .returned (.int .i64 (-1)) ∧ Below w.heap.size w w' := by
 go_enter Tryz.func85, Tryz.ntmps85
 go_wp2
 go_loop [8] (fun i => i = .int .i64 0) (fun _ => 0)
 case atStart => rfl
 case round =>
  subst hrel
  go_wp2
  go_ret
  exact ⟨rfl, Below.refl _ w⟩
theorem idxC_from (p : Int) (x : (Int × List Stp) × Value) : ∀ (l : Clms) (vs : List Value), vs.length = l.length → ∀ i : Nat,
  (Lib.idxByFrom (fun _ (z : (Int × List Stp) × Value) => z.1.1 == p) x (l.zip vs) i = -1 ∧ stepsC l p = []) ∨ ∃ k, k < l.length ∧ Lib.idxByFrom (fun _ (z : (Int × List Stp) × Value) => z.1.1 == p) x (l.zip vs) i = ((i + k : Nat) : Int) ∧ stepsC l p = l[k]!.2
 | [], [], _, i => .inl ⟨rfl, rfl⟩
 | c :: l, v :: vs, h, i => by
  rw [List.zip_cons_cons, Lib.idxByFrom]
  unfold stepsC
  rw [List.find?_cons]
  dsimp only
  cases hf : c.1 == p with
  | true => exact .inr ⟨0, by simp, by simp, by simp⟩
  | false =>
   rcases idxC_from p x l vs (by simpa using h) (i + 1) with ⟨h1, h2⟩ | ⟨k, h1, h2, h3⟩
   ·
    refine .inl ⟨by simpa using h1, ?_⟩
    unfold stepsC at h2
    simpa using h2
   ·
    refine .inr ⟨k + 1, by simp; omega, by simp only [Bool.false_eq_true, if_false]; rw [h2]; congr 1; omega, ?_⟩
    unfold stepsC at h3
    simpa using h3
theorem zipC_at (l : Clms) (vs : List Value) (h : vs.length = l.length) {j : Nat} (hj : j < l.length) : (l.zip vs)[j]! = (l[j]!, vs[j]!) := by
 rw [getElem!_pos (l.zip vs) j (by simp; omega), getElem!_pos l j hj, getElem!_pos vs j (by omega), List.getElem_zip]
theorem indexC_any (v : Value) (l : Clms) (p : Int) (B : Nat) (w : World) (hv : ClaimsAt w w.heap.size v l) (h : w.cell? ⟨B, 0, none⟩ = some (.int .i64 p)) (hB : B < w.heap.size) :
  Calls Tryz.prog 85 #[v, .func (.func 86) #[] #[.pointer (some ⟨B, 0, none⟩)]] w fun e w' => ∃ r : Int, e = .returned (.int .i64 r) ∧ Below w.heap.size w w' ∧ ((r = -1 ∧ stepsC l p = []) ∨ ∃ k : Nat, k < l.length ∧ r = (k : Int) ∧ stepsC l p = l[k]!.2) := by
 obtain ⟨vs, hvl, ⟨a, c, rfl, hn1, hn2, hat⟩, _⟩ := hv
 by_cases h0 : l.length = 0
 ·
  obtain rfl : l = [] := List.eq_nil_of_length_eq_zero h0
  exact (indexC_nil a c B w).mono fun e w' hh => ⟨-1, hh.1, hh.2, .inl ⟨rfl, rfl⟩⟩
 ·
  obtain ⟨b, o, rfl, hb, hcell⟩ := hat (by omega)
  have hzl : (l.zip vs).length = l.length := by simp; omega
  have hh := AnyQ.slices_IndexFunc Tryz.laysF6c 2 Tryz.isAgg59 Tryz.sizeOf59 encC (fun _ => rfl) (fun z => z.1.1 == p) 86 #[.pointer (some ⟨B, 0, none⟩)] (enters_of Tryz.func86 (by kernel_rfl) rfl) b o l.length c (l.zip vs) w
   (fun W y hb' => (rsteps1_any y.1.1 p y.2 B W ((hb'.cell (p := ⟨B, 0, none⟩) hB).trans h) (Nat.lt_of_lt_of_le hB hb'.size)).mono fun _ _ h => ⟨h.1, hb'.trans (h.2.mono hb'.size)⟩) (by omega) (by unfold maxLen at hn2; omega) hb
   (fun j hj i u hu => by
    rw [hzl] at hj
    rw [zipC_at l vs hvl hj] at hu
    obtain ⟨p1, p2⟩ := clC_at l vs hvl j hj
    match i, hu with
    | 0, hu => injection hu with hu; rw [← hu]; exact hcell _ _ p1
    | 1, hu => injection hu with hu; rw [← hu, Nat.add_assoc]; exact hcell _ _ p2)
  rw [List.take_of_length_le (by omega)] at hh
  refine hh.mono fun e w' hh => ⟨_, hh.1, hh.2, ?_⟩
  rcases idxC_from p default l vs hvl 0 with ⟨h1, h2⟩ | ⟨k, h1, h2, h3⟩
  ·
   exact .inl ⟨h1, h2⟩
  ·
   exact .inr ⟨k, h1, by rw [Lib.idxBy, h2, Nat.zero_add], h3⟩
theorem StepsAt.nil (w : World) (B : Nat) (a : Option Addr) (c : Nat) (hc : c ≤ maxLen) : StepsAt w B (.slice a 0 c) [] := ⟨a, c, rfl, Nat.zero_le _, hc, fun h => absurd h (Nat.lt_irrefl 0)⟩
set_option maxRecDepth 100000 in
set_option maxHeartbeats 2000000 in
theorem rsteps_any (v : Value) (l : Clms) (p : Int) (w : World) (hv : ClaimsAt w w.heap.size v l) :
  Calls Tryz.prog 55 #[v, .int .i64 p] w fun e w' => ∃ v', e = .returned v' ∧ StepsAt w' w'.heap.size v' (stepsC l p) ∧ Below w.heap.size w w' := by
 have hmf : ∀ (fn : Fn) (first cap : Array Value) (w : World), (Instr.makeFunc fn first cap).run Tryz.prog w = .ok (.func fn first cap) w := fun _ _ _ _ => rfl
 obtain ⟨W, hW⟩ : ∃ W, W = w.alloc (.cells #[.int .i64 p] 3) := ⟨_, rfl⟩
 have hA : Arr W w.heap.size 3 [.int .i64 p] := by rw [hW]; exact Arr.new rfl rfl
 have hbW : Below w.heap.size w W := by rw [hW]; exact (Below.refl _ _).alloc (Nat.le_refl _) _
 have hix := Lib.hid (indexC_any v l p w.heap.size W (hv.later hbW) (hA.cell rfl) hA.lt)
 have hcell := Lib.hid fun i (hi : i < l.length) => ClaimsAt.cells hv hi
 obtain ⟨vs, _, ⟨a, c, rfl, hn1, hn2, _⟩, _⟩ := hv
 replace hbW := Lib.hid hbW
 clear hA
 generalize hX : stepsC l p = X at *
 clear hX
 go_enter Tryz.func55, Tryz.ntmps55
 go_wp2_with (rw [← hW])
 refine hix.out.mono ?_
 rintro e w2 ⟨r, rfl, hb2, ⟨rfl, hX⟩ | ⟨k, hk, rfl, hX⟩⟩
 ·
  have hb12 := hbW.out.trans (hb2.mono hbW.out.size)
  replace hX := Lib.hid hX
  go_wp2_with fail
  go_ret
  exact ⟨_, rfl, by rw [hX.out]; exact StepsAt.nil _ _ _ _ (Nat.zero_le _), hb12⟩
 ·
  have hb12 := hbW.out.trans (hb2.mono hbW.out.size)
  obtain ⟨b, o, cp, u, hv1, hb, _, x1, hs⟩ := hcell.out k hk
  injection hv1 with hv1 _ hv3
  subst hv1 hv3
  have y1 := (hb12.cell (p := ⟨b, o + k * 2 + 1, none⟩) hb).trans x1
  have hs2 := hs.later hb12
  rw [← hX] at hs2
  have hres := Lib.hid hX
  obtain ⟨ua, uc, rfl, _, _, _⟩ := id hs2
  have hs2h := Lib.hid hs2
  clear hcell x1 hX hs hs2
  have k0 : (0 : Int) ≤ (k : Int) := by omega
  have k1 : (k : Int) < (l.length : Int) := by omega
  have hge : decide ((k : Int) ≥ 0) = true := by simp
  go_wp2_with fail
  go_ret
  exact ⟨_, rfl, hs2h.out, hb12⟩
end Go.Proofs.YtpeandbcdaikbaaGreatDoor
namespace Go.Proofs.YtpeandbcdaikbaaGreatDoor
open Go.RowKit Go.Shelf Go.Maps

attribute [local go_sem] Oper.semAt_some

theorem all8 (f : Int → Bool) : props8.all f = true ↔ ∀ k : Nat, k < 8 → f ((k : Int) + 1) = true := by
 rw [List.all_eq_true]
 constructor
 ·
  intro h k hk
  exact h _ (mem_props.2 ⟨by omega, by omega⟩)
 ·
  intro h p hp
  have := mem_props.1 hp
  have := h (p - 1).toNat (by omega)
  rwa [show (((p - 1).toNat : Nat) : Int) + 1 = p by omega] at this
set_option maxRecDepth 100000 in
set_option maxHeartbeats 8000000 in
theorem Better_any (a b : Rou) (ea eb : Option Addr) (na nb ma mb : Nat) (ca cb : Value) (w : World) (hca : ClaimsAt w w.heap.size ca a.claims) (hcb : ClaimsAt w w.heap.size cb b.claims) :
  Calls Tryz.prog 24 #[.agg #[.slice ea na ma, .int .i64 a.cost, .int .i64 a.life, ca], .agg #[.slice eb nb mb, .int .i64 b.cost, .int .i64 b.life, cb]] w fun e w' => e = .returned (.bool (betterP a b)) ∧ Below w.heap.size w w' := by
 have hsa := Lib.hid fun p w1 (hb : Below w.heap.size w w1) => rsteps_any ca a.claims p w1 (hca.later hb)
 have hsb := Lib.hid fun p w1 (hb : Below w.heap.size w w1) => rsteps_any cb b.claims p w1 (hcb.later hb)
 obtain ⟨R, hR⟩ : ∃ R, R = betterP a b := ⟨_, rfl⟩
 rw [← hR]
 unfold betterP at hR
 obtain ⟨_, _, ⟨xa, xc, rfl, _, _, _⟩, _⟩ := hca
 obtain ⟨_, _, ⟨ya, yc, rfl, _, _, _⟩, _⟩ := hcb
 obtain ⟨ae, acost, alife, al⟩ := a
 obtain ⟨be, bcost, blife, bl⟩ := b
 dsimp only at hsa hsb hR ⊢
 obtain ⟨F, hF⟩ : ∃ F : Int → Bool, F = fun p => coarserA p (stepsC bl p) (stepsC al p) := ⟨_, rfl⟩
 have hFp : Hid (∀ p, coarserA p (stepsC bl p) (stepsC al p) = F p) := fun p => by rw [hF]
 rw [← hF] at hR
 have h8 := Lib.hid (all8 F)
 replace hR := Lib.hid hR
 clear hF
 obtain ⟨W, hW⟩ : ∃ W, W = (w.alloc (.cells #[.slice ea na ma, .int .i64 acost, .int .i64 alife, .slice xa al.length xc] 33)).alloc (.cells #[.slice eb nb mb, .int .i64 bcost, .int .i64 blife, .slice ya bl.length yc] 33) := ⟨_, rfl⟩
 have hA : Arr W w.heap.size 33 [.slice ea na ma, .int .i64 acost, .int .i64 alife, .slice xa al.length xc] := by rw [hW]; exact (Arr.new rfl rfl).alloc _
 have hB : Arr W (w.heap.size + 1) 33 [.slice eb nb mb, .int .i64 bcost, .int .i64 blife, .slice ya bl.length yc] := by rw [hW]; exact Arr.new rfl (by simp)
 have hbW : Below w.heap.size w W := by rw [hW]; exact ((Below.refl _ _).alloc (Nat.le_refl _) _).alloc (by simp) _
 replace hA := Lib.hid hA
 replace hB := Lib.hid hB
 replace hbW := Lib.hid hbW
 go_enter Tryz.func24, Tryz.ntmps24
 go_wp2_with (rw [← hW])
 clear hW
 go_loopw [5] (fun iv wr => ∃ i : Nat, i ≤ 8 ∧ iv = .int .i64 ((i : Int) + 1) ∧ Hid ((∀ j : Nat, j < i → F ((j : Int) + 1) = true) ∧ Arr wr w.heap.size 33 [.slice ea na ma, .int .i64 acost, .int .i64 alife, .slice xa al.length xc] ∧ Arr wr (w.heap.size + 1) 33 [.slice eb nb mb, .int .i64 bcost, .int .i64 blife, .slice ya bl.length yc] ∧ Below w.heap.size w wr)) (fun iv _ => 9 - (intOf iv).toNat)
 case atStart => exact ⟨0, by omega, rfl, (show Hid _ from ⟨fun j hj => by omega, hA.out, hB.out, hbW.out⟩)⟩
 case round =>
  obtain ⟨i, hi8, rfl, hall⟩ := hrel
  obtain ⟨hF1, hA1, hB1, hb1⟩ := hall.out
  clear hall hA hB hbW
  by_cases hlt : i < 8
  ·
   have d3 : wr.drew.cell? ⟨w.heap.size, 3, none⟩ = some (.slice xa al.length xc) := hA1.cell rfl
   have e3 : wr.drew.cell? ⟨w.heap.size + 1, 3, none⟩ = some (.slice ya bl.length yc) := hB1.cell rfl
   have hle : decide ((i : Int) + 1 ≤ 8) = true := decide_eq_true (by omega)
   have hw1 : IntKind.i64.wrap ((i : Int) + 1 + 1) = (i : Int) + 1 + 1 := IntWalk.i64_in _ (by omega)
   replace hF1 := Lib.hid hF1
   go_wp2_with fail
   refine wp_region_held_drew (S := fun w' => w'.cell? ⟨w.heap.size, 3, none⟩ = some (.slice xa al.length xc) ∧ w'.cell? ⟨w.heap.size + 1, 3, none⟩ = some (.slice ya bl.length yc)) (by kernel_rfl) (by exact ⟨d3, e3⟩) (fun hHeld => ?_)
   refine tk 0 ?_ rfl ?_ ?_
   rotate_left
   ·
    intro w hSw; (try dsimp only at hSw); go_simp; (try with_reducible rfl)
   (try simp only [Act.put, setIfInBounds_toArray, set_cons_zero, set_cons_succ])
   refine tk 1 ?_ rfl ?_ ?_
   rotate_left
   ·
    intro w hSw; (try dsimp only at hSw); go_simp; (try with_reducible rfl)
   (try simp only [Act.put, setIfInBounds_toArray, set_cons_zero, set_cons_succ])
   refine tk 2 ?_ rfl ?_ ?_
   rotate_left
   ·
    intro w hSw; (try dsimp only at hSw); go_simp; (try with_reducible rfl)
   (try simp only [Act.put, setIfInBounds_toArray, set_cons_zero, set_cons_succ])
   refine tk 3 ?_ rfl ?_ ?_
   rotate_left
   ·
    intro w hSw; (try dsimp only at hSw); go_simp; (try with_reducible rfl)
   (try simp only [Act.put, setIfInBounds_toArray, set_cons_zero, set_cons_succ])
   refine tk 5 ?_ rfl ?_ ?_
   rotate_left
   ·
    intro w hSw; (try dsimp only at hSw); go_simp; (try with_reducible rfl)
   (try simp only [Act.put, setIfInBounds_toArray, set_cons_zero, set_cons_succ])
   refine tk 6 ?_ rfl ?_ ?_
   rotate_left
   ·
    intro w hSw; (try dsimp only at hSw); go_simp; (try with_reducible rfl)
   (try simp only [Act.put, setIfInBounds_toArray, set_cons_zero, set_cons_succ])
   refine tk 7 ?_ rfl ?_ ?_
   rotate_left
   ·
    intro w hSw; (try dsimp only at hSw); go_simp; (try with_reducible rfl)
   (try simp only [Act.put, setIfInBounds_toArray, set_cons_zero, set_cons_succ])
   have hbd := hb1.drew
   refine wpAnyH_ready (rs := [4]) (by kernel_rfl) (by simp) ?_
   refine ready_l rfl (fun K hK => ?_) AllReadyH.nil
   go_simp
   go_at_call 55
   refine (hsb.out ((i : Int) + 1) wr.drew hbd).mono ?_
   rintro e w2 ⟨sv, rfl, hS, hb2⟩
   have hA2 : Arr w2 w.heap.size 33 [.slice ea na ma, .int .i64 acost, .int .i64 alife, .slice xa al.length xc] := hA1.drew.below hb2
   have hB2 : Arr w2 (w.heap.size + 1) 33 [.slice eb nb mb, .int .i64 bcost, .int .i64 blife, .slice ya bl.length yc] := hB1.drew.below hb2
   have hb12 := hbd.trans (hb2.mono hbd.size)
   refine hK.out _ _ (by exact ⟨hA2.cell rfl, hB2.cell rfl⟩) (fun hHeld2 => ?_)
   clear hK K hHeld
   (try simp only [Act.put, setIfInBounds_toArray, set_cons_zero, set_cons_succ])
   refine wpAnyH_ready (rs := [8]) (by kernel_rfl) (by simp) ?_
   refine ready_l rfl (fun K hK => ?_) AllReadyH.nil
   go_simp
   go_at_call 55
   refine (hsa.out ((i : Int) + 1) w2 hb12).mono ?_
   rintro e w3 ⟨su, rfl, hS2, hb3⟩
   have hA3 := hA2.below hb3
   have hB3 := hB2.below hb3
   have hb13 := hb12.trans (hb3.mono hb12.size)
   refine hK.out _ _ (by exact ⟨hA3.cell rfl, hB3.cell rfl⟩) (fun hHeld3 => ?_)
   clear hK K hHeld2
   (try simp only [Act.put, setIfInBounds_toArray, set_cons_zero, set_cons_succ])
   have hco := Lib.hid (Coarser_any ((i : Int) + 1) sv su _ _ w3 (hS.later hb3) hS2)
   rw [hFp.out] at hco
   refine wpAnyH_ready (rs := [9]) (by kernel_rfl) (by simp) ?_
   refine ready_l rfl (fun K hK => ?_) AllReadyH.nil
   go_simp
   go_at_call 54
   refine hco.out.mono ?_
   rintro e w4 ⟨rfl, hb4⟩
   have hA4 := hA3.below hb4
   have hB4 := hB3.below hb4
   have hb14 := hb13.trans (hb4.mono hb13.size)
   refine hK.out _ _ (by exact ⟨hA4.cell rfl, hB4.cell rfl⟩) (fun hHeld => ?_)
   clear hK K hHeld3
   (try simp only [Act.put, setIfInBounds_toArray, set_cons_zero, set_cons_succ])
   clear hco hS hS2 hb2 hb3 hb4 hA2 hA3 hB2 hB3 hb12 hb13 d3 e3 hbd
   replace hA4 := Lib.hid hA4
   replace hB4 := Lib.hid hB4
   replace hb14 := Lib.hid hb14
   cases hFi : F ((i : Int) + 1) with
   | false =>
    have hres : Hid (R = false) := by
     show _ = _
     rw [hR.out, Bool.and_eq_false_iff]
     refine .inl (Bool.eq_false_iff.2 fun h => ?_)
     rw [h8.out.1 h i hlt] at hFi
     cases hFi
    rw [hFi] at *
    refine tk 10 ?_ rfl ?_ ?_
    rotate_left
    ·
     intro w hSw; (try dsimp only at hSw); go_simp; (try with_reducible rfl)
    (try simp only [Act.put, setIfInBounds_toArray, set_cons_zero, set_cons_succ])
    refine wpAnyH_done (by kernel_rfl) ?_ _
    go_wp2_with fail
    go_ret
    exact ⟨by rw [hres.out]; rfl, hb14.out⟩
   | true =>
    have hkk : Hid ((∀ j : Nat, j < i + 1 → F ((j : Int) + 1) = true) ∧ Arr w4 w.heap.size 33 [.slice ea na ma, .int .i64 acost, .int .i64 alife, .slice xa al.length xc] ∧ Arr w4 (w.heap.size + 1) 33 [.slice eb nb mb, .int .i64 bcost, .int .i64 blife, .slice ya bl.length yc] ∧ Below w.heap.size w w4) := ⟨fun j hj => by
     by_cases e : j = i
     ·
      rw [e]; exact hFi
     ·
      exact hF1.out j (by omega), hA4.out, hB4.out, hb14.out⟩
    refine tk 10 ?_ rfl ?_ ?_
    rotate_left
    ·
     intro w hSw; (try dsimp only at hSw); go_simp; (try with_reducible rfl)
    (try simp only [Act.put, setIfInBounds_toArray, set_cons_zero, set_cons_succ])
    refine wpAnyH_done (by kernel_rfl) ?_ _
    go_wp2_with fail
    exact ⟨⟨i + 1, by omega, by first | rfl | go_num, hkk⟩, by simp [intOf]; omega⟩
  ·
   obtain rfl : i = 8 := by omega
   have hno : decide (((8 : Nat) : Int) + 1 ≤ 8) = false := by decide
   have hall8 : props8.all F = true := h8.out.2 hF1
   have c1 := hA1.cell (j := 1) rfl
   have c2 := hA1.cell (j := 2) rfl
   have e1 := hB1.cell (j := 1) rfl
   have e2 := hB1.cell (j := 2) rfl
   have hres : Hid (R = (decide (acost ≤ bcost) && decide (blife ≤ alife))) := by show _ = _; rw [hR.out, hall8, Bool.true_and]
   clear hF1
   by_cases hc : acost ≤ bcost
   ·
    have hd : decide (acost ≤ bcost) = true := decide_eq_true hc
    go_wp2_with fail
    go_ret
    exact ⟨by rw [hres.out, hd]; rfl, hb1⟩
   ·
    have hd : decide (acost ≤ bcost) = false := decide_eq_false hc
    go_wp2_with fail
    go_ret
    exact ⟨by rw [hres.out, hd]; rfl, hb1⟩
end Go.Proofs.YtpeandbcdaikbaaGreatDoor
namespace Go.Proofs.YtpeandbcdaikbaaGreatDoor
open Go.RowKit Go.Shelf Go.Maps

attribute [local go_sem] Oper.semAt_some

set_option maxRecDepth 100000 in
set_option maxHeartbeats 4000000 in
theorem keeps1_any (p : Int) (s : List Stp) (v : Value) (l : Clms) (cv : Value) (B : Nat) (w : World) (hv : StepsAt w w.heap.size v s) (hcv : ClaimsAt w w.heap.size cv l) (hB : w.cell? ⟨B, 3, none⟩ = some cv) (hlt : B < w.heap.size) :
  Calls Tryz.prog 53 #[.agg #[.int .i64 p, v], .pointer (some ⟨B, 0, none⟩)] w fun e w' => e = .returned (.bool (!coarserA p s (stepsC l p))) ∧ Below w.heap.size w w' := by
 have hst := Lib.hid fun w1 (hb : Below w.heap.size w w1) => rsteps_any cv l p w1 (hcv.later hb)
 have hco := Lib.hid fun (w1 : World) (u : Value) (hb : Below w.heap.size w w1) (hu : StepsAt w1 w1.heap.size u (stepsC l p)) => Coarser_any p v u s (stepsC l p) w1 (hv.later hb) hu
 generalize coarserA p s (stepsC l p) = R at *
 obtain ⟨a, c, rfl, _, _, _⟩ := hv
 obtain ⟨_, _, ⟨xa, xc, rfl, _, _, _⟩, _⟩ := hcv
 obtain ⟨W, hW⟩ : ∃ W, W = w.alloc (.cells #[.int .i64 p, .slice a s.length c] 59) := ⟨_, rfl⟩
 have hA : Arr W w.heap.size 59 [.int .i64 p, .slice a s.length c] := by rw [hW]; exact Arr.new rfl rfl
 have hbW : Below w.heap.size w W := by rw [hW]; exact (Below.refl _ _).alloc (Nat.le_refl _) _
 have hbd : Below w.heap.size w W.drew := hbW.drew
 have d0 : W.drew.cell? ⟨w.heap.size, 0, none⟩ = some (.int .i64 p) := hA.cell rfl
 have d1 : W.drew.cell? ⟨w.heap.size, 1, none⟩ = some (.slice a s.length c) := hA.cell rfl
 have d3 : W.drew.cell? ⟨B, 3, none⟩ = some (.slice xa l.length xc) := (hbd.cell (p := ⟨B, 3, none⟩) hlt).trans hB
 replace hA := Lib.hid hA
 replace hbd := Lib.hid hbd
 clear hbW
 go_enter Tryz.func53, Tryz.ntmps53
 go_wp2_with fail
 rw [← hW]
 clear hW
 refine wp_region_held_drew (S := fun w' => w'.cell? ⟨w.heap.size, 0, none⟩ = some (.int .i64 p) ∧ w'.cell? ⟨w.heap.size, 1, none⟩ = some (.slice a s.length c) ∧ w'.cell? ⟨B, 3, none⟩ = some (.slice xa l.length xc)) (by kernel_rfl) (by exact ⟨d0, d1, d3⟩) (fun hHeld => ?_)
 refine tk 0 ?_ rfl ?_ ?_
 rotate_left
 ·
  intro w hSw; (try dsimp only at hSw); go_simp; (try with_reducible rfl)
 (try simp only [Act.put, setIfInBounds_toArray, set_cons_zero, set_cons_succ])
 refine tk 1 ?_ rfl ?_ ?_
 rotate_left
 ·
  intro w hSw; (try dsimp only at hSw); go_simp; (try with_reducible rfl)
 (try simp only [Act.put, setIfInBounds_toArray, set_cons_zero, set_cons_succ])
 refine tk 2 ?_ rfl ?_ ?_
 rotate_left
 ·
  intro w hSw; (try dsimp only at hSw); go_simp; (try with_reducible rfl)
 (try simp only [Act.put, setIfInBounds_toArray, set_cons_zero, set_cons_succ])
 refine tk 3 ?_ rfl ?_ ?_
 rotate_left
 ·
  intro w hSw; (try dsimp only at hSw); go_simp; (try with_reducible rfl)
 (try simp only [Act.put, setIfInBounds_toArray, set_cons_zero, set_cons_succ])
 refine tk 4 ?_ rfl ?_ ?_
 rotate_left
 ·
  intro w hSw; (try dsimp only at hSw); go_simp; (try with_reducible rfl)
 (try simp only [Act.put, setIfInBounds_toArray, set_cons_zero, set_cons_succ])
 refine tk 5 ?_ rfl ?_ ?_
 rotate_left
 ·
  intro w hSw; (try dsimp only at hSw); go_simp; (try with_reducible rfl)
 (try simp only [Act.put, setIfInBounds_toArray, set_cons_zero, set_cons_succ])
 refine tk 6 ?_ rfl ?_ ?_
 rotate_left
 ·
  intro w hSw; (try dsimp only at hSw); go_simp; (try with_reducible rfl)
 (try simp only [Act.put, setIfInBounds_toArray, set_cons_zero, set_cons_succ])
 refine tk 7 ?_ rfl ?_ ?_
 rotate_left
 ·
  intro w hSw; (try dsimp only at hSw); go_simp; (try with_reducible rfl)
 (try simp only [Act.put, setIfInBounds_toArray, set_cons_zero, set_cons_succ])
 refine wpAnyH_ready (rs := [8]) (by kernel_rfl) (by simp) ?_
 refine ready_l rfl (fun K hK => ?_) AllReadyH.nil
 go_simp
 go_at_call 55
 refine (hst.out W.drew hbd.out).mono ?_
 rintro e w2 ⟨sv, rfl, hS, hb2⟩
 have hA2 : Arr w2 w.heap.size 59 [.int .i64 p, .slice a s.length c] := hA.out.drew.below hb2
 have hb12 := hbd.out.trans (hb2.mono hbd.out.size)
 refine hK.out _ _ (by exact ⟨hA2.cell rfl, hA2.cell rfl, (hb12.cell (p := ⟨B, 3, none⟩) hlt).trans hB⟩) (fun hHeld2 => ?_)
 clear hK K hHeld
 (try simp only [Act.put, setIfInBounds_toArray, set_cons_zero, set_cons_succ])
 have hcq := Lib.hid (hco.out w2 sv hb12 hS)
 refine wpAnyH_ready (rs := [9]) (by kernel_rfl) (by simp) ?_
 refine ready_l rfl (fun K hK => ?_) AllReadyH.nil
 go_simp
 go_at_call 54
 refine hcq.out.mono ?_
 rintro e w3 ⟨rfl, hb3⟩
 have hA3 := hA2.below hb3
 have hb13 := hb12.trans (hb3.mono hb12.size)
 refine hK.out _ _ (by exact ⟨hA3.cell rfl, hA3.cell rfl, (hb13.cell (p := ⟨B, 3, none⟩) hlt).trans hB⟩) (fun hHeld => ?_)
 clear hK K hHeld2
 (try simp only [Act.put, setIfInBounds_toArray, set_cons_zero, set_cons_succ])
 replace hb13 := Lib.hid hb13
 clear hcq hS hb2 hb3 hA2 hA3 hb12 d0 d1 d3
 refine tk 10 ?_ rfl ?_ ?_
 rotate_left
 ·
  intro w hSw; (try dsimp only at hSw); go_simp; (try with_reducible rfl)
 (try simp only [Act.put, setIfInBounds_toArray, set_cons_zero, set_cons_succ])
 refine tk 11 ?_ rfl ?_ ?_
 rotate_left
 ·
  intro w hSw; (try dsimp only at hSw); go_simp; (try with_reducible rfl)
 (try simp only [Act.put, setIfInBounds_toArray, set_cons_zero, set_cons_succ])
 refine wpAnyH_done (by kernel_rfl) ?_ _
 go_wp2_with fail
 go_ret
 exact ⟨rfl, hb13.out⟩
set_option maxHeartbeats 1000000 in
theorem containsC_nil (a : Option Addr) (c B : Nat) (w : World) :
  Calls Tryz.prog 56 #[.slice a 0 c, .func (.func 53) #[] #[.pointer (some ⟨B, 0, none⟩)]] w fun e w' => e = .returned (.bool false) ∧ Below w.heap.size w w' := by
 go_enter Tryz.func56, Tryz.ntmps56
 go_wp2
 go_loop [8] (fun i => i = .int .i64 0) (fun _ => 0)
 case atStart => rfl
 case round =>
  subst hrel
  go_wp2
  go_ret
  exact ⟨rfl, Below.refl _ w⟩
theorem any_lost (l m : Clms) : (m.any fun c => !coarserA c.1 c.2 (stepsC l c.1)) = !m.all fun c => coarserA c.1 c.2 (stepsC l c.1) := by
 induction m with
 | nil => rfl
 | cons s m ih => rw [List.any_cons, List.all_cons, ih, Bool.not_and]
theorem containsC_any (v : Value) (m : Clms) (l : Clms) (cv : Value) (B : Nat) (w : World) (hv : ClaimsAt w w.heap.size v m) (hI : ∀ c ∈ m, I64 c.1) (hcv : ClaimsAt w w.heap.size cv l) (hB : w.cell? ⟨B, 3, none⟩ = some cv) (hlt : B < w.heap.size) :
  Calls Tryz.prog 56 #[v, .func (.func 53) #[] #[.pointer (some ⟨B, 0, none⟩)]] w fun e w' => e = .returned (.bool (!m.all fun c => coarserA c.1 c.2 (stepsC l c.1))) ∧ Below w.heap.size w w' := by
 obtain ⟨lz, hlz, a, c, rfl, hn1, hn2, hc⟩ := claims_in hv hI
 have hlen : lz.length = m.length := by rw [← hlz, List.length_map]
 by_cases h0 : m.length = 0
 ·
  obtain rfl : m = [] := List.eq_nil_of_length_eq_zero h0
  exact containsC_nil a c B w
 ·
  obtain ⟨b, o, rfl, hb, hcell⟩ := hc (by omega)
  have h := AnyQ.slices_ContainsFunc Tryz.laysF8c 2 Tryz.isAgg59 Tryz.sizeOf59 (encK (w := w)) (fun _ => rfl) (fun z => !coarserA z.1.1.1 z.1.1.2 (stepsC l z.1.1.1)) 53 #[.pointer (some ⟨B, 0, none⟩)] (enters_of Tryz.func53 (by kernel_rfl) rfl) b o lz.length c lz w
   (fun W x hb' => (keeps1_any x.1.1.1 x.1.1.2 x.1.2 l cv B W (x.2.2.later hb') (hcv.later hb') ((hb'.cell (p := ⟨B, 3, none⟩) hlt).trans hB) (Nat.lt_of_lt_of_le hlt hb'.size)).mono fun _ _ h => ⟨h.1, hb'.trans (h.2.mono hb'.size)⟩) (Nat.le_refl _) (by unfold maxLen at hn2; omega) hb hcell
  rw [List.take_length] at h
  rw [← hlen, ← any_lost]
  have hany : (m.any fun c => !coarserA c.1 c.2 (stepsC l c.1)) = lz.any fun z => !coarserA z.1.1.1 z.1.1.2 (stepsC l z.1.1.1) := by rw [← hlz, List.any_map]; rfl
  rw [hany]
  exact h
set_option maxRecDepth 100000 in
set_option maxHeartbeats 2000000 in
theorem Keeps_any (r : Rou) (ea : Option Addr) (na ma : Nat) (cv pv : Value) (policy : Clms) (w : World) (hcv : ClaimsAt w w.heap.size cv r.claims) (hp : ClaimsAt w w.heap.size pv policy) (hI : ∀ c ∈ policy, I64 c.1) :
  Calls Tryz.prog 22 #[.agg #[.slice ea na ma, .int .i64 r.cost, .int .i64 r.life, cv], pv] w fun e w' => e = .returned (.bool (keepsP r policy)) ∧ Below w.heap.size w w' := by
 have hmf : ∀ (fn : Fn) (first cap : Array Value) (w : World), (Instr.makeFunc fn first cap).run Tryz.prog w = .ok (.func fn first cap) w := fun _ _ _ _ => rfl
 obtain ⟨W, hW⟩ : ∃ W, W = w.alloc (.cells #[.slice ea na ma, .int .i64 r.cost, .int .i64 r.life, cv] 33) := ⟨_, rfl⟩
 have hA : Arr W w.heap.size 33 [.slice ea na ma, .int .i64 r.cost, .int .i64 r.life, cv] := by rw [hW]; exact Arr.new rfl rfl
 have hbW : Below w.heap.size w W := by rw [hW]; exact (Below.refl _ _).alloc (Nat.le_refl _) _
 have hc := Lib.hid (containsC_any pv policy r.claims cv w.heap.size W (hp.later hbW) hI (hcv.later hbW) (hA.cell rfl) hA.lt)
 obtain ⟨_, _, ⟨xa, xc, rfl, _, _, _⟩, _⟩ := hcv
 obtain ⟨_, _, ⟨ya, yc, rfl, _, _, _⟩, _⟩ := hp
 have hk : keepsP r policy = policy.all fun c => coarserA c.1 c.2 (stepsC r.claims c.1) := rfl
 rw [hk]
 clear hk
 generalize (policy.all fun c => coarserA c.1 c.2 (stepsC r.claims c.1)) = R at *
 obtain ⟨ae, acost, alife, al⟩ := r
 dsimp only at hW hc ⊢
 replace hbW := Lib.hid hbW
 clear hA
 go_enter Tryz.func22, Tryz.ntmps22
 go_wp2_with (rw [← hW])
 refine hc.out.mono ?_
 rintro e w2 ⟨rfl, hb2⟩
 go_wp2_with fail
 go_ret
 exact ⟨by simp, hbW.out.trans (hb2.mono hbW.out.size)⟩
end Go.Proofs.YtpeandbcdaikbaaGreatDoor
namespace Go.Proofs.YtpeandbcdaikbaaGreatDoor
open Go.RowKit Go.Shelf Go.Maps

attribute [local go_sem] Oper.semAt_some

/-- A way's parts in memory, in rows whose type is known. -/
structure WayT (w : World) (fv ev cv : Value) (x : Way) : Prop where
 formats : NumsT w fv x.formats
 edges : NumsT w ev x.rou.edges
 claims : ClaimsT 59 w cv x.rou.claims
 ne : x.formats ≠ []
 feq : x.formats.length = x.rou.edges.length + 1
 elen : x.rou.edges.length ≤ 6
 cost : 0 ≤ x.rou.cost ∧ x.rou.cost ≤ 1000000 * (x.rou.edges.length : Int)
 clen : x.rou.claims.length = 8
theorem WayT.flen {w : World} {fv ev cv : Value} {x : Way} (h : WayT w fv ev cv x) : x.formats.length ≤ 7 := by have := h.feq; have := h.elen; omega
def wayV (fv ev cv : Value) (x : Way) : Value := .agg #[fv, ev, .int .i64 x.rou.cost, .int .i64 x.rou.life, cv]
theorem WayT.below {w w' : World} {fv ev cv : Value} {x : Way} (h : WayT w fv ev cv x) (hb : Below w.heap.size w w') : WayT w' fv ev cv x :=
 ⟨h.formats.below hb, h.edges.below hb, h.claims.below hb, h.ne, h.feq, h.elen, h.cost, h.clen⟩
theorem WayT.keepTy {X : List TypeId} {w w' : World} {fv ev cv : Value} {x : Way} (h : WayT w fv ev cv x) (h1 : 3 ∉ X) (h2 : 59 ∉ X) (h3 : 73 ∉ X) (hk : KeepTy X w w') : WayT w' fv ev cv x :=
 ⟨h.formats.keepTy h1 hk, h.edges.keepTy h1 hk, h.claims.keepTy h2 h3 hk, h.ne, h.feq, h.elen, h.cost, h.clen⟩
theorem last_at {x : Way} (h : x.formats ≠ []) : x.last = x.formats[x.formats.length - 1]! := by
 have : 0 < x.formats.length := List.length_pos_iff.2 h
 unfold Way.last
 rw [List.getLastD_eq_getLast?, List.getLast?_eq_getElem?, List.getElem?_eq_getElem (by omega), getElem!_pos x.formats _ (by omega)]
 rfl
set_option maxRecDepth 100000 in
set_option maxHeartbeats 2000000 in
theorem last_any (fv ev cv : Value) (x : Way) (w : World) (h : WayT w fv ev cv x) :
  Calls Tryz.prog 70 #[.agg #[fv, ev, .int .i64 x.rou.cost, .int .i64 x.rou.life, cv]] w fun e w' => e = .returned (.int .i64 x.last) ∧ Below w.heap.size w w' := by
 have hpos : 0 < x.formats.length := List.length_pos_iff.2 h.ne
 have hfl := h.flen
 rw [last_at h.ne]
 obtain ⟨b, o, cap, rfl, hb, x0⟩ := NumsAt.cells h.formats.at (i := x.formats.length - 1) (by omega)
 obtain ⟨ea, ec, rfl, _⟩ := h.edges.len
 obtain ⟨_, _, ⟨ca, cc, rfl, _, _, _⟩, _⟩ := h.claims
 obtain ⟨W, hW⟩ : ∃ W, W = w.alloc (.cells #[.slice (some ⟨b, o, none⟩) x.formats.length cap, .slice ea x.rou.edges.length ec, .int .i64 x.rou.cost, .int .i64 x.rou.life, .slice ca x.rou.claims.length cc] 82) := ⟨_, rfl⟩
 have hA : Arr W w.heap.size 82 [.slice (some ⟨b, o, none⟩) x.formats.length cap, .slice ea x.rou.edges.length ec, .int .i64 x.rou.cost, .int .i64 x.rou.life, .slice ca x.rou.claims.length cc] := by rw [hW]; exact Arr.new rfl rfl
 have hbW : Below w.heap.size w W := by rw [hW]; exact (Below.refl _ _).alloc (Nat.le_refl _) _
 have y0 := (hbW.cell (p := ⟨b, o + (x.formats.length - 1), none⟩) hb).trans x0
 have c0 := hA.cell (j := 0) rfl
 clear h hA
 obtain ⟨fm, ⟨es, cost, life, cl⟩⟩ := x
 dsimp only at *
 obtain ⟨k, hk⟩ : ∃ k, fm.length = k + 1 := ⟨fm.length - 1, by omega⟩
 rw [hk] at hfl
 simp only [hk, Nat.add_sub_cancel] at x0 y0 c0 hW ⊢
 generalize fm[k]! = f at x0 y0 ⊢
 have k0 : (0 : Int) ≤ (k : Int) := by omega
 have k1 : (k : Int) < ((k + 1 : Nat) : Int) := by omega
 have hw0 : IntKind.i64.wrap (((k + 1 : Nat) : Int) - 1) = (k : Int) := by rw [show ((k + 1 : Nat) : Int) - 1 = (k : Int) by omega]; exact IntWalk.i64_in _ (by omega)
 clear hk hpos
 replace hbW := Lib.hid hbW
 go_enter Tryz.func70, Tryz.ntmps70
 go_wp2_with (rw [← hW])
 go_ret
 exact ⟨rfl, hbW.out⟩
theorem zeroC_at {i : Nat} (hi : i < 8) : zeroC.take (i + 1) = zeroC.take i ++ [((i : Int) + 1, [])] := by
 obtain rfl | rfl | rfl | rfl | rfl | rfl | rfl | rfl : i = 0 ∨ i = 1 ∨ i = 2 ∨ i = 3 ∨ i = 4 ∨ i = 5 ∨ i = 6 ∨ i = 7 := by omega
 all_goals rfl
theorem begin_way (w : World) (fv cv : Value) (frm : Int) (h1 : NumsT w fv [frm]) (h2 : ClaimsT 59 w cv zeroC) : WayT w fv (.slice none 0 0) cv (beginP frm) :=
 ⟨h1, ⟨_, _, rfl, Nat.le_refl _, Nat.zero_le _, fun h => absurd h (Nat.lt_irrefl 0)⟩, h2, by simp [beginP], by simp [beginP], by simp [beginP], by simp [beginP], rfl⟩
set_option maxRecDepth 100000 in
set_option maxHeartbeats 4000000 in
theorem begin_any (frm : Int) (w : World) :
  Calls Tryz.prog 41 #[.int .i64 frm] w fun e w' => ∃ fv cv, e = .returned (.agg #[fv, .slice none 0 0, .int .i64 0, .int .i64 0, cv]) ∧ WayT w' fv (.slice none 0 0) cv (beginP frm) ∧ Below w.heap.size w w' := by
 obtain ⟨i0, hi, hz0, hz1, hz2⟩ := info_parts Tryz.info_claim
 obtain ⟨W, hW⟩ : ∃ W, W = ((w.alloc (.cells #[.slice none 0 0, .slice none 0 0, .int .i64 0, .int .i64 0, .slice none 0 0] 82)).alloc (.cells #[.int .i64 frm] 3)).alloc (.cells #[.slice (some ⟨w.heap.size + 1, 0, none⟩) 1 1, .slice none 0 0, .int .i64 0, .int .i64 0, .slice none 0 0] 82) := ⟨_, rfl⟩
 have hA : Arr W w.heap.size 82 [.slice none 0 0, .slice none 0 0, .int .i64 0, .int .i64 0, .slice none 0 0] := by rw [hW]; exact ((Arr.new rfl rfl).alloc _).alloc _
 have hF : Arr W (w.heap.size + 1) 3 [.int .i64 frm] := by rw [hW]; exact (Arr.new rfl (by simp)).alloc _
 have hC : Arr W (w.heap.size + 1 + 1) 82 [.slice (some ⟨w.heap.size + 1, 0, none⟩) 1 1, .slice none 0 0, .int .i64 0, .int .i64 0, .slice none 0 0] := by rw [hW]; exact Arr.new rfl (by simp)
 have hbW : Below w.heap.size w W := by rw [hW]; exact (((Below.refl _ _).alloc (Nat.le_refl _) _).alloc (by simp) _).alloc (by simp; omega) _
 have hsW : w.heap.size + 1 + 1 + 1 ≤ W.heap.size := by have := hC.lt; omega
 have hstart : Hid (Arr W w.heap.size 82 [.slice none 0 0, .slice none 0 0, .int .i64 0, .int .i64 0, .slice none 0 0] ∧ Arr W (w.heap.size + 1) 3 [.int .i64 frm] ∧ Below w.heap.size w W ∧ w.heap.size + 1 + 1 + 1 ≤ W.heap.size ∧ ∃ ov us, Arr W (w.heap.size + 1 + 1) 82 [.slice (some ⟨w.heap.size + 1, 0, none⟩) 1 1, .slice none 0 0, .int .i64 0, .int .i64 0, ov] ∧ ClOwn (w.heap.size + 1 + 1 + 1) W ov (zeroC.take 0) us) :=
  ⟨hA, hF, hbW, hsW, _, [], hC, ⟨rfl, World.ownsRow_nil _ _ _ _, fun i hi => absurd hi (by simp)⟩⟩
 clear hA hF hC hbW hsW
 go_enter Tryz.func41, Tryz.ntmps41
 go_wp2_with fail
 rw [← hW]
 clear hW
 go_loopw [4] (fun iv wr => ∃ i : Nat, i ≤ 8 ∧ iv = .int .i64 ((i : Int) + 1) ∧ Hid (Arr wr w.heap.size 82 [.slice none 0 0, .slice none 0 0, .int .i64 0, .int .i64 0, .slice none 0 0] ∧ Arr wr (w.heap.size + 1) 3 [.int .i64 frm] ∧ Below w.heap.size w wr ∧ w.heap.size + 1 + 1 + 1 ≤ wr.heap.size ∧ ∃ ov us, Arr wr (w.heap.size + 1 + 1) 82 [.slice (some ⟨w.heap.size + 1, 0, none⟩) 1 1, .slice none 0 0, .int .i64 0, .int .i64 0, ov] ∧ ClOwn (w.heap.size + 1 + 1 + 1) wr ov (zeroC.take i) us)) (fun iv _ => 9 - (intOf iv).toNat)
 case atStart => exact ⟨0, by omega, rfl, hstart⟩
 case round =>
  obtain ⟨i, hi8, rfl, hall⟩ := hrel
  obtain ⟨hA, hF, hb, hsz, ov, us, hC, hO⟩ := hall.out
  clear hall hstart
  by_cases hlt : i < 8
  ·
   have htk := zeroC_at hlt
   have hlen : (zeroC.take i).length = i := by rw [List.length_take]; show min i 8 = i; omega
   have c4 := hC.cell (j := 4) rfl
   have hw1 : IntKind.i64.wrap ((i : Int) + 1 + 1) = (i : Int) + 1 + 1 := IntWalk.i64_in _ (by omega)
   have hle : decide ((i : Int) + 1 ≤ 8) = true := decide_eq_true (by omega)
   have hbA : Below wr.heap.size wr (wr.alloc (.cells #[.int .i64 ((i : Int) + 1), .slice none 0 0] 59)) := (Below.refl _ _).alloc (Nat.le_refl _) _
   have hO3 := hO.below hbA
   have hA3 := hA.below hbA
   have hF3 := hF.below hbA
   have hC3 := hC.below hbA
   have hb3 := hb.alloc (by omega : w.heap.size ≤ wr.heap.size) (.cells #[.int .i64 ((i : Int) + 1), .slice none 0 0] 59)
   have hown3 := Lib.hid hO3.own
   rw [hlen] at hown3
   have hnews : ∀ j x, [Value.int .i64 ((i : Int) + 1), .slice none 0 0][j]? = some x → (wr.alloc (.cells #[.int .i64 ((i : Int) + 1), .slice none 0 0] 59)).cell? ((⟨wr.heap.size, 0, none⟩ : Addr).add j) = some x := fun j x hx => cells_new wr [.int .i64 ((i : Int) + 1), .slice none 0 0] 59 j x hx
   clear hO hA hF hC hb
   go_wp2_with (at_builtin; refine wpList_append_own _ rfl _ _ 31 rfl (w.heap.size + 1 + 1 + 1) 59 i0 (.agg #[.int .i64 0, .slice none 0 0]) 2 32 Tryz.underlying31 hi hz0 hz1 hz2 rfl (by decide) _ i _ rfl hown3.out ⟨wr.heap.size, 0, none⟩ 1 1 [.int .i64 ((i : Int) + 1), .slice none 0 0] rfl rfl hnews (by simp [Value.oneCell']) ?qa ?qb ?qc ?_)
   case qa => unfold maxLen; omega
   case qb => omega
   case qc => simp only [World.size_alloc]; omega
   intro v' w3 hown4 hgrow hnil
   have hOn := hO3.snoc ((i : Int) + 1) [] _ (StepsT.nil _ none 0 (Nat.zero_le _)) (by rw [hlen]; exact hown4) hgrow
   rw [← htk] at hOn
   obtain ⟨g', cap', rfl⟩ := ownsRow_succ hown4
   have hneg : ∀ g, ov.ownBlock = some g → w.heap.size + 1 + 1 + 1 ≤ g := fun g hg => (own_block hO3.own hg).2.1
   have hA4 : Arr w3 w.heap.size 82 _ := (hgrow.block _ hA3.lt (fun e => by have := hneg _ e.symm; omega)).trans hA3
   have hF4 : Arr w3 (w.heap.size + 1) 3 _ := (hgrow.block _ hF3.lt (fun e => by have := hneg _ e.symm; omega)).trans hF3
   have hC4 : Arr w3 (w.heap.size + 1 + 1) 82 _ := (hgrow.block _ hC3.lt (fun e => by have := hneg _ e.symm; omega)).trans hC3
   have hb4 : Below w.heap.size w w3 := hb3.grown hgrow (by simp only [World.size_alloc]; omega) (fun g hg => by have := hneg g hg; omega)
   have hsz4 : w.heap.size + 1 + 1 + 1 ≤ w3.heap.size := by have := hgrow.size; simp only [World.size_alloc] at this; omega
   have c4' := hC4.cell (j := 4) rfl
   have f4' := hC4.free 4
   have hkk : Hid (Arr (w3.setCell ⟨w.heap.size + 1 + 1, 4, none⟩ (.slice (some ⟨g', 0, none⟩) (i + 1) cap')) w.heap.size 82 [.slice none 0 0, .slice none 0 0, .int .i64 0, .int .i64 0, .slice none 0 0] ∧ Arr (w3.setCell ⟨w.heap.size + 1 + 1, 4, none⟩ (.slice (some ⟨g', 0, none⟩) (i + 1) cap')) (w.heap.size + 1) 3 [.int .i64 frm] ∧ Below w.heap.size w (w3.setCell ⟨w.heap.size + 1 + 1, 4, none⟩ (.slice (some ⟨g', 0, none⟩) (i + 1) cap')) ∧ w.heap.size + 1 + 1 + 1 ≤ (w3.setCell ⟨w.heap.size + 1 + 1, 4, none⟩ (.slice (some ⟨g', 0, none⟩) (i + 1) cap')).heap.size ∧ ∃ ov us, Arr (w3.setCell ⟨w.heap.size + 1 + 1, 4, none⟩ (.slice (some ⟨g', 0, none⟩) (i + 1) cap')) (w.heap.size + 1 + 1) 82 [.slice (some ⟨w.heap.size + 1, 0, none⟩) 1 1, .slice none 0 0, .int .i64 0, .int .i64 0, ov] ∧ ClOwn (w.heap.size + 1 + 1 + 1) (w3.setCell ⟨w.heap.size + 1 + 1, 4, none⟩ (.slice (some ⟨g', 0, none⟩) (i + 1) cap')) ov (zeroC.take (i + 1)) us) := by
    refine ⟨hA4.other _ (by omega), hF4.other _ (by omega), hb4.setCell (p := ⟨w.heap.size + 1 + 1, 4, none⟩) (by show w.heap.size ≤ w.heap.size + 1 + 1; omega) _, by simpa [World.setCell] using hsz4, _, us ++ [.slice none 0 0], hC4.set 4 _, ?_⟩
    have hks : KeepTy [82] w3 (w3.setCell ⟨w.heap.size + 1 + 1, 4, none⟩ (.slice (some ⟨g', 0, none⟩) (i + 1) cap')) := KeepTy.setArr hC4 (by decide)
    refine ⟨hOn.len, own_stay hOn.own fun g hg => Below.heap_setCell w3 ⟨w.heap.size + 1 + 1, 4, none⟩ _ g (fun e => ?_), fun j hj => (hOn.steps j hj).keepTy (by decide) hks⟩
    have := (own_block hOn.own hg).2.1
    rw [e] at this
    dsimp only at this
    omega
   clear hOn hgrow hnil hown4 hown3 hO3 hnews hA3 hF3 hC3 hb3 hA4 hF4 hC4 hb4 hneg hbA
   go_wp2_with fail
   exact ⟨⟨i + 1, by omega, by first | rfl | go_num, hkk⟩, by simp [intOf]; omega⟩
  ·
   obtain rfl : i = 8 := by omega
   have hno : decide (((8 : Nat) : Int) + 1 ≤ 8) = false := by decide
   have h8 : zeroC.take 8 = zeroC := rfl
   rw [h8] at hO
   have hcl := hO.claims
   obtain ⟨_, _, ⟨oa, oc, rfl, _, _, _⟩, _⟩ := id hcl
   have c0 := hC.cell (j := 0) rfl
   have c1 := hC.cell (j := 1) rfl
   have c2 := hC.cell (j := 2) rfl
   have c3 := hC.cell (j := 3) rfl
   have c4 := hC.cell (j := 4) rfl
   have hfv : NumsT wr (.slice (some ⟨w.heap.size + 1, 0, none⟩) 1 1) [frm] := ⟨_, _, rfl, Nat.le_refl _, by unfold maxLen; omega, fun _ => ⟨w.heap.size + 1, 0, _, _, rfl, hF, fun j u hu => by rw [Nat.zero_add]; simpa using hu⟩⟩
   have hway := begin_way wr _ _ frm hfv hcl
   replace hA := Lib.hid hA
   replace hb := Lib.hid hb
   replace hway := Lib.hid hway
   clear hO hC hcl hfv
   go_wp2_with (refine arr_store rfl 82 _ _ rfl w.heap.size rfl (vs := [.slice (some ⟨w.heap.size + 1, 0, none⟩) 1 1, .slice none 0 0, .int .i64 0, .int .i64 0, .slice oa zeroC.length oc]) rfl hA.out (n := 5) (by kernel_rfl) rfl rfl rfl ?_)
   refine bodyPost_ret (arr_result (p := 2) (ty := 82) (n := 5) (by kernel_rfl) _ (hA.out.setAll (vs := [.slice (some ⟨w.heap.size + 1, 0, none⟩) 1 1, .slice none 0 0, .int .i64 0, .int .i64 0, .slice oa zeroC.length oc]) rfl) rfl Tryz.underlying82 rfl (by kernel_rfl) rfl) rfl ?_
   exact ⟨_, _, rfl, hway.out.keepTy (X := [82]) (by decide) (by decide) (by decide) (KeepTy.setArrs hA.out (by decide) _ _), Below.setCells _ _ _ _ hb.out (Nat.le_refl _)⟩
end Go.Proofs.YtpeandbcdaikbaaGreatDoor
