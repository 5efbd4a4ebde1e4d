/-
  The contract of computer.read.
-/
import Derived.Test.YtkgbknjpnhoadaaGreatDoorCqJ
import Derived.Test.YtkgbknjpnhoadaaGreatDoorCqU
namespace Go.Proofs.YtkgbknjpnhoadaaGreatDoor
open Go.RowKit Go.Shelf

theorem parse8_any (l : List UInt8) (w : World) (hl : l.length ≤ 10000) (hE : Env w) :
    Calls Tryz.prog 55 #[.string (str l), .int .i64 10, .int .i64 8] w fun e w' => (∃ x, e = .returned (.tuple #[.int .u64 (numB l : Nat), x])) ∧ Below w.heap.size w w' := by
  have hs : (str l).size = l.length := str_size l
  obtain ⟨ts, ps, hsyn⟩ := hE.syn
  obtain ⟨tr, pr, hrng⟩ := hE.rng
  unfold numB
  cases h : Lib.parseUintB 8 l with
  | ok u =>
    refine (Any.strconv_ParseUint_10_at8_ok Tryz.laysPu14 (str l) (by omega) u h w).mono ?_
    rintro e w' ⟨rfl, hw⟩
    refine ⟨⟨_, rfl⟩, ?_⟩
    rcases hw with rfl | rfl
    · exact Below.refl _ _
    · exact ⟨rfl, rfl, rfl, by rw [Lib.bytesWorld_size]; omega, fun k hk => Lib.bytesWorld_at_old _ _ _ k hk⟩
  | range =>
    refine (Any.strconv_ParseUint_10_at8_range Tryz.laysPu14 (str l) (by omega) h (.iface tr pr) w hrng (Or.inr ⟨tr, pr, rfl⟩)).mono ?_
    rintro e w' ⟨N, rfl, _, _, hb⟩
    exact ⟨⟨_, rfl⟩, hb⟩
  | _ =>
    refine (Any.strconv_ParseUint_10_at8_syntax Tryz.laysPu14 (str l) (by omega) h (.iface ts ps) w hsyn (Or.inr ⟨ts, ps, rfl⟩)).mono ?_
    rintro e w' ⟨N, rfl, _, _, hb⟩
    exact ⟨⟨_, rfl⟩, hb⟩
def wordCells (ws : List (List UInt8)) : List Value := ws.map fun l => .string (str l)
theorem wordCell {ws : List (List UInt8)} {j : Nat} (h : j < ws.length) : (wordCells ws)[j]? = some (.string (str (ws.getD j []))) := by
  unfold wordCells
  rw [List.getElem?_map, List.getD_eq_getElem?_getD, List.getElem?_eq_getElem h]
  rfl

set_option maxRecDepth 100000 in
set_option maxHeartbeats 2000000 in
theorem number_any (i box g : Nat) (ws : List (List UInt8)) (w : World) (hi : i ≤ 2) (hne : ws.length ≠ 0) (hn : ws.length ≤ 10000) (hl : ∀ p ∈ ws, p.length ≤ 10000)
    (hbox : Arr w box 45 [.slice (some ⟨g, 0, none⟩) ws.length ws.length]) (hg : Arr w g 9 (wordCells ws)) (hE : Env w) :
    Calls Tryz.prog 54 #[.int .i64 i, .pointer (some ⟨box, 0, none⟩)] w fun e w' => e = .returned (.int .u8 (numB (ws.getD (min i (ws.length - 1)) []) : Nat)) ∧ Below w.heap.size w w' := by
  obtain ⟨n, hnn⟩ : ∃ n, n = ws.length := ⟨_, rfl⟩
  obtain ⟨j, hj⟩ : ∃ j, j = min i (n - 1) := ⟨_, rfl⟩
  have hjn : j < n := by omega
  have hc := hg.cell (wordCell (by rw [← hnn]; exact hjn))
  have c0 := hbox.cell (j := 0) rfl
  rw [← hnn] at hne hn c0 ⊢
  rw [← hj]
  have hmem : (ws.getD j []).length ≤ 10000 := by
    rw [List.getD_eq_getElem?_getD, List.getElem?_eq_getElem (by omega)]
    exact hl _ (List.getElem_mem _)
  have hw1 : IntKind.i64.wrap ((n : Int) - 1) = (n : Int) - 1 := IntWalk.i64_in _ (by omega)
  have hm : min (i : Int) ((n : Int) - 1) = (j : Int) := by omega
  have i1 : (0 : Int) ≤ (j : Int) := by omega
  have i2 : (j : Int) < (n : Int) := by omega
  have i3 : j < n := hjn
  generalize ws.getD j [] = wd at *
  have hP := parse8_any wd w hmem hE
  have hlt := numB_lt wd
  have hwr : IntKind.u8.wrap ((numB wd : Nat) : Int) = (numB wd : Nat) := by simp [IntKind.wrap, IntKind.bits, IntKind.signed]; omega
  generalize numB wd = nb at *
  replace hP := Lib.hid hP
  clear hg hbox hl hnn hj hmem hE
  go_enter Tryz.func54, Tryz.ntmps54
  go_wp2_with fail
  refine hP.out.mono ?_
  rintro e w1 ⟨⟨x, rfl⟩, hb1⟩
  go_wp2_with fail
  go_ret
  exact ⟨rfl, hb1⟩
theorem wordCells_of (l : List ByteArray) : l.map Value.string = wordCells (l.map (·.data.toList)) := by
  unfold wordCells
  rw [List.map_map]
  exact List.map_congr_left fun x _ => by show _ = Value.string (str x.data.toList); rw [str_of]
theorem Split_any (s : ByteArray) (c : UInt8) (w : World) (hs : s.size ≤ 100000) (hE : Env w) :
    Calls Tryz.prog 33 #[.string s, .string ⟨#[c]⟩] w fun e w' =>
      ∃ g, e = .returned (.slice (some ⟨g, 0, none⟩) (cutAll c s.data.toList).length (cutAll c s.data.toList).length) ∧ w.heap.size ≤ g ∧ Arr w' g 9 (wordCells (cutAll c s.data.toList)) ∧ Below w.heap.size w w' := by
  obtain ⟨m, hm⟩ := hE.max
  have h := Any.strings_Split { Tryz.laysM146 with } Tryz.laysM146.i9 s ⟨#[c]⟩ m w (by omega) hm (Nat.le_refl 1)
  have hd := Lib.splitB_data ⟨#[c]⟩ 0 (Lib.countB s ⟨#[c]⟩) s
  have hk : Lib.splitK (⟨#[c]⟩ : ByteArray).data.toList 0 (Lib.countB s ⟨#[c]⟩) s.data.toList = cutAll c s.data.toList := splitK_one c s.data.toList
  rw [hk] at hd
  have hall := Lib.splitB_all ⟨#[c]⟩ (Nat.le_refl 1) 0 (Lib.countB s ⟨#[c]⟩) s rfl
  have hlen : Lib.countB s ⟨#[c]⟩ + 1 = (cutAll c s.data.toList).length := by rw [← hall, ← hd, List.length_map]
  rw [hlen, wordCells_of, hd] at h
  refine Calls.mono h ?_
  rintro e w' ⟨rfl, rfl⟩
  exact ⟨_, rfl, Nat.le_refl _, Arr.new rfl rfl, (Below.refl _ _).alloc (Nat.le_refl _) _⟩
theorem nameCells_of (w : World) (g : Nat) (h : Arr w g 9 nameCells) : ∀ j, j < namesB.length → w.cell? ⟨g, 0 + j, none⟩ = some (.string namesB[j]!) := fun j hj => by
  rw [Nat.zero_add]
  refine h.cell ?_
  rw [namesB_len] at hj
  rw [nameCell hj, namesB_at hj]
  rfl
theorem Index_any (g : Nat) (l : List UInt8) (w : World) (h : Arr w g 9 nameCells) :
    Calls Tryz.prog 56 #[.slice (some ⟨g, 0, none⟩) 17 17, .string (str l)] w fun e w' => e = .returned (.int .i64 (opIdx l)) ∧ w' = w :=
  AnyE.slices_Index Tryz.laysE29 Value.string eqBytes (EqlAt.string _ _) g 0 17 17 namesB (str l) w (Nat.le_of_eq namesB_len.symm) (by decide) (nameCells_of w g h)

theorem Index_b (g : Nat) (l : List UInt8) (w : World) (h : Arr w g 9 nameCells) :
    Calls Tryz.prog 56 #[.slice (some ⟨g, 0, none⟩) 17 17, .string (str l)] w fun e w' => e = .returned (.int .i64 (opIdx l)) ∧ Below w.heap.size w w' :=
  (Index_any g l w h).mono fun _ _ ⟨h1, h2⟩ => ⟨h1, h2 ▸ Below.refl _ _⟩

set_option maxRecDepth 100000 in
set_option maxHeartbeats 4000000 in
theorem read_any (s : ByteArray) (w : World) (hs : s.size ≤ 5000) (hE : Env w) :
    Calls Tryz.prog 34 #[.string s] w fun e w' => e = .returned (.tuple #[.int .u8 (readOp s.data.toList : Nat), .int .u8 (readNum s.data.toList : Nat), .bool (readOk s.data.toList)]) ∧ Below w.heap.size w w' := by
  have hB : Below w.heap.size w w := Below.refl _ _
  have hsl : s.data.toList.length = s.size := by simp
  have hS := Split_any s 32 w (by omega) hE
  have hF := Lib.hid (fun w hE => Fields_names w hE)
  have hmf : ∀ (fn : Fn) (first cap : Array Value) (w : World), (Instr.makeFunc fn first cap).run Tryz.prog w = .ok (.func fn first cap) w := fun _ _ _ _ => rfl
  have hwl : ∀ p ∈ cutAll 32 s.data.toList, p.length ≤ 10000 := fun p hp => by have := cutAll_le 32 s.data.toList p hp; omega
  have hwn := cutAll_len 32 s.data.toList
  have hne := cutAll_ne 32 s.data.toList
  have hop := readOp_lt s.data.toList
  have hnm := readNum_lt s.data.toList
  have e1 : readOp s.data.toList = if 0 ≤ opIdx (wordAt s.data.toList 0) then (opIdx (wordAt s.data.toList 0)).toNat else numB (wordAt s.data.toList 1) := rfl
  have e2 : readNum s.data.toList = if 0 ≤ opIdx (wordAt s.data.toList 0) then numB (wordAt s.data.toList 1) else numB (wordAt s.data.toList 2) := rfl
  have e3 : readOk s.data.toList = (lineB (readOp s.data.toList) (readNum s.data.toList) == s.data.toList) := rfl
  have ew0 : wordAt s.data.toList 0 = (cutAll 32 s.data.toList).getD 0 [] := by unfold wordAt; rw [Nat.zero_min]
  have ew1 : wordAt s.data.toList 1 = (cutAll 32 s.data.toList).getD (min 1 ((cutAll 32 s.data.toList).length - 1)) [] := rfl
  have ew2 : wordAt s.data.toList 2 = (cutAll 32 s.data.toList).getD (min 2 ((cutAll 32 s.data.toList).length - 1)) [] := rfl
  have hneq : (lineB (readOp s.data.toList) (readNum s.data.toList) == s.data.toList) = ((str (lineB (readOp s.data.toList) (readNum s.data.toList))).toList == s.toList) := by rw [Lib.toList_data, Lib.toList_data]; rfl
  have hL := fun w hE => line_any (readOp s.data.toList) (readNum s.data.toList) hop hnm w hE
  generalize lineB (readOp s.data.toList) (readNum s.data.toList) = ln at *
  generalize readOk s.data.toList = ok at *
  generalize readOp s.data.toList = o at *
  generalize readNum s.data.toList = n at *
  generalize wordAt s.data.toList 0 = w0 at *
  generalize wordAt s.data.toList 1 = w1 at *
  generalize wordAt s.data.toList 2 = w2 at *
  generalize cutAll 32 s.data.toList = ws at *
  have hN := fun (i : Nat) (box g : Nat) (W : World) h1 h2 h3 h4 => number_any i box g ws W h1 (fun e => hne (List.length_eq_zero_iff.1 e)) (by omega) hwl h2 h3 h4
  have hw0 : (wordCells ws)[0]? = some (.string (str w0)) := by rw [ew0]; exact wordCell (by have : ws.length ≠ 0 := fun e => hne (List.length_eq_zero_iff.1 e); omega)
  have hn0 : 0 < ws.length := by have : ws.length ≠ 0 := fun e => hne (List.length_eq_zero_iff.1 e); omega
  have hid := opIdx_cases w0
  replace hS := Lib.hid hS
  replace hL := Lib.hid hL
  replace hN := Lib.hid hN
  replace e1 := Lib.hid e1
  replace e2 := Lib.hid e2
  replace e3 := Lib.hid e3
  replace ew0 := Lib.hid ew0
  replace ew1 := Lib.hid ew1
  replace ew2 := Lib.hid ew2
  replace hsl := Lib.hid hsl
  replace hw0 := Lib.hid hw0
  clear hwl hne
  go_enter Tryz.func34, Tryz.ntmps34
  go_wp2_with fail
  refine hS.out.mono ?_
  rintro e v1 ⟨g, rfl, hg, hA, hb1⟩
  have hE1 := hE.below hb1
  replace hB := hB.trans (hb1.mono hB.size)
  clear hS hb1 hE
  go_wp2_with fail
  refine name_wp ?_
  intro v2 hv2
  have hbx : Arr v2 v1.heap.size 45 [.slice (some ⟨g, 0, none⟩) ws.length ws.length] := by rw [hv2]; exact Arr.new rfl rfl
  have hA2 : Arr v2 g 9 (wordCells ws) := by rw [hv2]; exact hA.alloc _
  have hb2 : Below v1.heap.size v1 v2 := by rw [hv2]; exact (Below.refl _ _).alloc (Nat.le_refl _) _
  have hE2 := hE1.below hb2
  replace hB := hB.trans (hb2.mono hB.size)
  clear hv2 hb2 hA hE1
  replace hg := Lib.hid hg
  generalize v1.heap.size = bx at *
  have m1 := hbx.mine (j := 0) rfl
  have m2 := hA2.mine hw0.out
  have hsz : w.heap.size ≤ v2.drew.heap.size := hB.size
  have c1 := m1.cell
  have f1 := m1.free
  have l1 := m1.lt
  have c2 := m2.cell
  have f2 := m2.free
  have l2 := m2.lt
  refine wp_region_held_drew (S := fun w' => w'.cell? ⟨bx, 0, none⟩ = some (.slice (some ⟨g, 0, none⟩) ws.length ws.length) ∧ w'.cell? ⟨g, 0, none⟩ = some (.string (str w0))) (by kernel_rfl) (by first | (dsimp only; go_keep) | go_keep) (fun hHeld => ?_)
  refine take_l (i := 1) (v := ?_) rfl (by kernel_rfl) (by kernel_rfl) (by kernel_rfl) (fun _ _ _ h => h) (Or.inl ⟨by kernel_rfl, ?_⟩) (by assumption) ?_
  rotate_left
  · intro w hSw; (try dsimp only at hSw); go_simp; (try with_reducible rfl)
  (try dsimp only [Act.put, List.setIfInBounds_toArray, List.set_cons_zero, List.set_cons_succ])
  refine take_l (i := 2) (v := ?_) rfl (by kernel_rfl) (by kernel_rfl) (by kernel_rfl) (fun _ _ _ h => h) (Or.inl ⟨by kernel_rfl, ?_⟩) (by assumption) ?_
  rotate_left
  · intro w hSw; (try dsimp only at hSw); go_simp; (try with_reducible rfl)
  (try dsimp only [Act.put, List.setIfInBounds_toArray, List.set_cons_zero, List.set_cons_succ])
  refine take_l (i := 3) (v := ?_) rfl (by kernel_rfl) (by kernel_rfl) (by kernel_rfl) (fun _ _ _ h => h) (Or.inl ⟨by kernel_rfl, ?_⟩) (by assumption) ?_
  rotate_left
  · intro w hSw; (try dsimp only at hSw); go_simp; (try with_reducible rfl)
  (try dsimp only [Act.put, List.setIfInBounds_toArray, List.set_cons_zero, List.set_cons_succ])
  refine wpAnyH_ready (rs := [0]) (by kernel_rfl) (by simp) ?_
  refine ready_l rfl (fun K hK => ?_) AllReadyH.nil
  go_simp
  first | (go_at_call 49; refine (hF.out _ (hE2.below (Below.drew (Below.refl _ _)))).mono ?_; rintro e vF ⟨gF, rfl, hgF, hAF, hbvF⟩; have n1vF : Mine vF bx 0 (.slice (some ⟨g, 0, none⟩) ws.length ws.length) := Mine.below (by (repeat first | with_reducible assumption | with_reducible refine Mine.drew ?_ | with_reducible refine Mine.drewN ?_ _ | ((with_reducible refine Mine.new ?_); rfl) | ((with_reducible refine Mine.newAt ?_ ?_) <;> first | rfl | (simp; done) | (simp only [World.size_alloc]; rfl)) | ((with_reducible refine Mine.set ?_ _); repeat first | exact Mine.slot (by with_reducible assumption) | with_reducible refine MineS.drew ?_ | with_reducible refine MineS.drewN ?_ _ | ((with_reducible refine MineS.new ?_); decide) | ((with_reducible refine MineS.newAt ?_ ?_) <;> first | decide | (simp; done)) | with_reducible refine MineS.set ?_ _ _ _ | with_reducible refine MineS.alloc ?_ _) | with_reducible refine Mine.other ?_ _ (by first | (left; omega) | (right; omega) | (simp; done) | (simp; omega)) | with_reducible refine Mine.alloc ?_ _)) hbvF; have g1vF := n1vF.cell; have gf1vF := n1vF.free; have n2vF : Mine vF g 0 (.string (str w0)) := Mine.below (by (repeat first | with_reducible assumption | with_reducible refine Mine.drew ?_ | with_reducible refine Mine.drewN ?_ _ | ((with_reducible refine Mine.new ?_); rfl) | ((with_reducible refine Mine.newAt ?_ ?_) <;> first | rfl | (simp; done) | (simp only [World.size_alloc]; rfl)) | ((with_reducible refine Mine.set ?_ _); repeat first | exact Mine.slot (by with_reducible assumption) | with_reducible refine MineS.drew ?_ | with_reducible refine MineS.drewN ?_ _ | ((with_reducible refine MineS.new ?_); decide) | ((with_reducible refine MineS.newAt ?_ ?_) <;> first | decide | (simp; done)) | with_reducible refine MineS.set ?_ _ _ _ | with_reducible refine MineS.alloc ?_ _) | with_reducible refine Mine.other ?_ _ (by first | (left; omega) | (right; omega) | (simp; done) | (simp; omega)) | with_reducible refine Mine.alloc ?_ _)) hbvF; have g2vF := n2vF.cell; have gf2vF := n2vF.free; have hBvF : Below w.heap.size w vF := Below.trans (by repeat first | with_reducible exact Below.refl _ _ | with_reducible assumption | with_reducible refine below_drewN ?_ _ | with_reducible refine Below.drew ?_ | with_reducible refine Below.setCell ?_ (by first | exact Nat.le_refl _ | (simp; done) | (simp; omega) | omega) _ | with_reducible refine Below.alloc ?_ (by first | exact Nat.le_refl _ | (simp; done) | (simp; omega) | omega) _ | exact Below.refl _ _ | assumption) (hbvF.mono (by first | exact Nat.le_refl _ | assumption | (simp; done) | (simp; omega) | omega)); have hzvF := hbvF.size; ) | (go_at_call 56; refine (Index_b gF w0 _ hAF).mono ?_; rintro e vI ⟨rfl, hbvI⟩; have n1vI : Mine vI bx 0 (.slice (some ⟨g, 0, none⟩) ws.length ws.length) := Mine.below (by (repeat first | with_reducible assumption | with_reducible refine Mine.drew ?_ | with_reducible refine Mine.drewN ?_ _ | ((with_reducible refine Mine.new ?_); rfl) | ((with_reducible refine Mine.newAt ?_ ?_) <;> first | rfl | (simp; done) | (simp only [World.size_alloc]; rfl)) | ((with_reducible refine Mine.set ?_ _); repeat first | exact Mine.slot (by with_reducible assumption) | with_reducible refine MineS.drew ?_ | with_reducible refine MineS.drewN ?_ _ | ((with_reducible refine MineS.new ?_); decide) | ((with_reducible refine MineS.newAt ?_ ?_) <;> first | decide | (simp; done)) | with_reducible refine MineS.set ?_ _ _ _ | with_reducible refine MineS.alloc ?_ _) | with_reducible refine Mine.other ?_ _ (by first | (left; omega) | (right; omega) | (simp; done) | (simp; omega)) | with_reducible refine Mine.alloc ?_ _)) hbvI; have g1vI := n1vI.cell; have gf1vI := n1vI.free; have n2vI : Mine vI g 0 (.string (str w0)) := Mine.below (by (repeat first | with_reducible assumption | with_reducible refine Mine.drew ?_ | with_reducible refine Mine.drewN ?_ _ | ((with_reducible refine Mine.new ?_); rfl) | ((with_reducible refine Mine.newAt ?_ ?_) <;> first | rfl | (simp; done) | (simp only [World.size_alloc]; rfl)) | ((with_reducible refine Mine.set ?_ _); repeat first | exact Mine.slot (by with_reducible assumption) | with_reducible refine MineS.drew ?_ | with_reducible refine MineS.drewN ?_ _ | ((with_reducible refine MineS.new ?_); decide) | ((with_reducible refine MineS.newAt ?_ ?_) <;> first | decide | (simp; done)) | with_reducible refine MineS.set ?_ _ _ _ | with_reducible refine MineS.alloc ?_ _) | with_reducible refine Mine.other ?_ _ (by first | (left; omega) | (right; omega) | (simp; done) | (simp; omega)) | with_reducible refine Mine.alloc ?_ _)) hbvI; have g2vI := n2vI.cell; have gf2vI := n2vI.free; have hBvI : Below w.heap.size w vI := Below.trans (by repeat first | with_reducible exact Below.refl _ _ | with_reducible assumption | with_reducible refine below_drewN ?_ _ | with_reducible refine Below.drew ?_ | with_reducible refine Below.setCell ?_ (by first | exact Nat.le_refl _ | (simp; done) | (simp; omega) | omega) _ | with_reducible refine Below.alloc ?_ (by first | exact Nat.le_refl _ | (simp; done) | (simp; omega) | omega) _ | exact Below.refl _ _ | assumption) (hbvI.mono (by first | exact Nat.le_refl _ | assumption | (simp; done) | (simp; omega) | omega)); have hzvI := hbvI.size; )
  refine hK.out _ _ (by first | (dsimp only; go_keep) | go_keep) (fun hHeld => ?_)
  clear hK K
  (try dsimp only [Act.put, List.setIfInBounds_toArray, List.set_cons_zero, List.set_cons_succ])
  refine wpAnyH_ready (rs := [4]) (by kernel_rfl) (by simp) ?_
  refine ready_l rfl (fun K hK => ?_) AllReadyH.nil
  go_simp
  first | (go_at_call 49; refine (hF.out _ (hE2.below (Below.drew (Below.refl _ _)))).mono ?_; rintro e vF ⟨gF, rfl, hgF, hAF, hbvF⟩; have n1vF : Mine vF bx 0 (.slice (some ⟨g, 0, none⟩) ws.length ws.length) := Mine.below (by (repeat first | with_reducible assumption | with_reducible refine Mine.drew ?_ | with_reducible refine Mine.drewN ?_ _ | ((with_reducible refine Mine.new ?_); rfl) | ((with_reducible refine Mine.newAt ?_ ?_) <;> first | rfl | (simp; done) | (simp only [World.size_alloc]; rfl)) | ((with_reducible refine Mine.set ?_ _); repeat first | exact Mine.slot (by with_reducible assumption) | with_reducible refine MineS.drew ?_ | with_reducible refine MineS.drewN ?_ _ | ((with_reducible refine MineS.new ?_); decide) | ((with_reducible refine MineS.newAt ?_ ?_) <;> first | decide | (simp; done)) | with_reducible refine MineS.set ?_ _ _ _ | with_reducible refine MineS.alloc ?_ _) | with_reducible refine Mine.other ?_ _ (by first | (left; omega) | (right; omega) | (simp; done) | (simp; omega)) | with_reducible refine Mine.alloc ?_ _)) hbvF; have g1vF := n1vF.cell; have gf1vF := n1vF.free; have n2vF : Mine vF g 0 (.string (str w0)) := Mine.below (by (repeat first | with_reducible assumption | with_reducible refine Mine.drew ?_ | with_reducible refine Mine.drewN ?_ _ | ((with_reducible refine Mine.new ?_); rfl) | ((with_reducible refine Mine.newAt ?_ ?_) <;> first | rfl | (simp; done) | (simp only [World.size_alloc]; rfl)) | ((with_reducible refine Mine.set ?_ _); repeat first | exact Mine.slot (by with_reducible assumption) | with_reducible refine MineS.drew ?_ | with_reducible refine MineS.drewN ?_ _ | ((with_reducible refine MineS.new ?_); decide) | ((with_reducible refine MineS.newAt ?_ ?_) <;> first | decide | (simp; done)) | with_reducible refine MineS.set ?_ _ _ _ | with_reducible refine MineS.alloc ?_ _) | with_reducible refine Mine.other ?_ _ (by first | (left; omega) | (right; omega) | (simp; done) | (simp; omega)) | with_reducible refine Mine.alloc ?_ _)) hbvF; have g2vF := n2vF.cell; have gf2vF := n2vF.free; have hBvF : Below w.heap.size w vF := Below.trans (by repeat first | with_reducible exact Below.refl _ _ | with_reducible assumption | with_reducible refine below_drewN ?_ _ | with_reducible refine Below.drew ?_ | with_reducible refine Below.setCell ?_ (by first | exact Nat.le_refl _ | (simp; done) | (simp; omega) | omega) _ | with_reducible refine Below.alloc ?_ (by first | exact Nat.le_refl _ | (simp; done) | (simp; omega) | omega) _ | exact Below.refl _ _ | assumption) (hbvF.mono (by first | exact Nat.le_refl _ | assumption | (simp; done) | (simp; omega) | omega)); have hzvF := hbvF.size; ) | (go_at_call 56; refine (Index_b gF w0 _ hAF).mono ?_; rintro e vI ⟨rfl, hbvI⟩; have n1vI : Mine vI bx 0 (.slice (some ⟨g, 0, none⟩) ws.length ws.length) := Mine.below (by (repeat first | with_reducible assumption | with_reducible refine Mine.drew ?_ | with_reducible refine Mine.drewN ?_ _ | ((with_reducible refine Mine.new ?_); rfl) | ((with_reducible refine Mine.newAt ?_ ?_) <;> first | rfl | (simp; done) | (simp only [World.size_alloc]; rfl)) | ((with_reducible refine Mine.set ?_ _); repeat first | exact Mine.slot (by with_reducible assumption) | with_reducible refine MineS.drew ?_ | with_reducible refine MineS.drewN ?_ _ | ((with_reducible refine MineS.new ?_); decide) | ((with_reducible refine MineS.newAt ?_ ?_) <;> first | decide | (simp; done)) | with_reducible refine MineS.set ?_ _ _ _ | with_reducible refine MineS.alloc ?_ _) | with_reducible refine Mine.other ?_ _ (by first | (left; omega) | (right; omega) | (simp; done) | (simp; omega)) | with_reducible refine Mine.alloc ?_ _)) hbvI; have g1vI := n1vI.cell; have gf1vI := n1vI.free; have n2vI : Mine vI g 0 (.string (str w0)) := Mine.below (by (repeat first | with_reducible assumption | with_reducible refine Mine.drew ?_ | with_reducible refine Mine.drewN ?_ _ | ((with_reducible refine Mine.new ?_); rfl) | ((with_reducible refine Mine.newAt ?_ ?_) <;> first | rfl | (simp; done) | (simp only [World.size_alloc]; rfl)) | ((with_reducible refine Mine.set ?_ _); repeat first | exact Mine.slot (by with_reducible assumption) | with_reducible refine MineS.drew ?_ | with_reducible refine MineS.drewN ?_ _ | ((with_reducible refine MineS.new ?_); decide) | ((with_reducible refine MineS.newAt ?_ ?_) <;> first | decide | (simp; done)) | with_reducible refine MineS.set ?_ _ _ _ | with_reducible refine MineS.alloc ?_ _) | with_reducible refine Mine.other ?_ _ (by first | (left; omega) | (right; omega) | (simp; done) | (simp; omega)) | with_reducible refine Mine.alloc ?_ _)) hbvI; have g2vI := n2vI.cell; have gf2vI := n2vI.free; have hBvI : Below w.heap.size w vI := Below.trans (by repeat first | with_reducible exact Below.refl _ _ | with_reducible assumption | with_reducible refine below_drewN ?_ _ | with_reducible refine Below.drew ?_ | with_reducible refine Below.setCell ?_ (by first | exact Nat.le_refl _ | (simp; done) | (simp; omega) | omega) _ | with_reducible refine Below.alloc ?_ (by first | exact Nat.le_refl _ | (simp; done) | (simp; omega) | omega) _ | exact Below.refl _ _ | assumption) (hbvI.mono (by first | exact Nat.le_refl _ | assumption | (simp; done) | (simp; omega) | omega)); have hzvI := hbvI.size; )
  refine hK.out _ _ (by first | (dsimp only; go_keep) | go_keep) (fun hHeld => ?_)
  clear hK K
  (try dsimp only [Act.put, List.setIfInBounds_toArray, List.set_cons_zero, List.set_cons_succ])
  refine take_l (i := 5) (v := ?_) rfl (by kernel_rfl) (by kernel_rfl) (by kernel_rfl) (fun _ _ _ h => h) (Or.inl ⟨by kernel_rfl, ?_⟩) (by assumption) ?_
  rotate_left
  · intro w hSw; (try dsimp only at hSw); go_simp; (try with_reducible rfl)
  (try dsimp only [Act.put, List.setIfInBounds_toArray, List.set_cons_zero, List.set_cons_succ])
  refine wpAnyH_done (by kernel_rfl) ?_ _
  have hE3 : Env vI := ((hE2.below (Below.drew (Below.refl _ _))).below hbvF).below hbvI
  have hbx3 : Arr vI bx 45 [.slice (some ⟨g, 0, none⟩) ws.length ws.length] := ((hbx.drew).below hbvF).below hbvI
  have hA3 : Arr vI g 9 (wordCells ws) := ((hA2.drew).below hbvF).below hbvI
  have hBx : Below w.heap.size w vI := hBvI
  clear m1 m2 c1 f1 l1 c2 f2 l2 n1vF g1vF gf1vF n2vF g2vF gf2vF hBvF hzvF n1vI g1vI gf1vI n2vI g2vI gf2vI hzvI hAF hbvF hbvI hsz hE2 hbx hA2 hBvI hB
  have hlast : ∀ (W : World), ((str ln).toList == s.toList) = ok := fun _ => by rw [← hneq]; exact e3.out.symm
  have i1 : (0 : Int) ≤ (o : Int) := by omega
  rcases hid with hid | ⟨k, hk, hid⟩
  · have ho : o = numB w1 := by have := e1.out; rw [hid] at this; simpa using this
    have hn : n = numB w2 := by have := e2.out; rw [hid] at this; simpa using this
    rw [hid]
    replace hid := Lib.hid hid
    have h1 := hN.out 1 bx g vI (by omega) hbx3 hA3 hE3
    rw [← ew1.out, ← ho] at h1
    have h2 := fun (W : World) (hb : Below vI.heap.size vI W) => hN.out 2 bx g W (by omega) (hbx3.below hb) (hA3.below hb) (hE3.below hb)
    rw [← ew2.out, ← hn] at h2
    replace h1 := Lib.hid h1
    replace h2 := Lib.hid h2
    replace ho := Lib.hid ho
    replace hn := Lib.hid hn
    have hl0 := hlast vI
    clear hbx3 hA3 hN hneq
    go_wp2_with fail
    refine h1.out.mono ?_
    rintro e v4 ⟨rfl, hb4⟩
    go_wp2_with fail
    refine (h2.out v4 hb4).mono ?_
    rintro e v5 ⟨rfl, hb5⟩
    have hb6 := hb4.trans (hb5.mono hb4.size)
    go_wp2_with fail
    refine (hL.out v5 (hE3.below hb6)).mono ?_
    rintro e v7 ⟨rfl, hb7⟩
    go_wp2_with fail
    exact bodyPost_ret (v := .tuple #[.int .u8 o, .int .u8 n, .bool ok]) (by simp [results, Tryz.f34, go_sem]) rfl ⟨rfl, (hBx.trans (hb6.mono hBx.size)).trans (hb7.mono (Nat.le_trans hBx.size hb6.size))⟩
  · have ho : o = k := by have := e1.out; rw [hid, if_pos (by omega)] at this; simpa using this
    have hn : n = numB w1 := by have := e2.out; rw [hid, if_pos (by omega)] at this; exact this
    rw [hid]
    replace hid := Lib.hid hid
    subst ho
    have h1 := hN.out 1 bx g vI (by omega) hbx3 hA3 hE3
    rw [← ew1.out, ← hn] at h1
    replace h1 := Lib.hid h1
    replace hn := Lib.hid hn
    have hl0 := hlast vI
    have hd : decide ((o : Int) ≥ 0) = true := by simp
    have hwr : IntKind.u8.wrap (o : Int) = (o : Int) := by simp [IntKind.wrap, IntKind.bits, IntKind.signed]; omega
    clear hbx3 hA3 hN hneq
    go_wp2_with fail
    refine h1.out.mono ?_
    rintro e v4 ⟨rfl, hb4⟩
    go_wp2_with fail
    refine (hL.out v4 (hE3.below hb4)).mono ?_
    rintro e v7 ⟨rfl, hb7⟩
    go_wp2_with fail
    exact bodyPost_ret (v := .tuple #[.int .u8 o, .int .u8 n, .bool ok]) (by simp [results, Tryz.f34, go_sem]) rfl ⟨rfl, (hBx.trans (hb4.mono hBx.size)).trans (hb7.mono (Nat.le_trans hBx.size hb4.size))⟩
end Go.Proofs.YtkgbknjpnhoadaaGreatDoor
