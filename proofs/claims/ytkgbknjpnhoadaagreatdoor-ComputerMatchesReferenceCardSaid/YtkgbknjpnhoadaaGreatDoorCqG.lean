/-
  The contract of computer.line.
-/
import Derived.Test.YtkgbknjpnhoadaaGreatDoorCqF
import Derived.Lib.AppendIntMem
namespace Go.Proofs.YtkgbknjpnhoadaaGreatDoor
open Go.RowKit Go.Shelf

/-- The library's variables that are read. -/
structure Env (w : World) : Prop where
  tab : Lib.TabIs Tryz.prog w "internal/strconv.uint64pow10" .u64 Lib.pow10Tab
  sp : Lib.TabIs Tryz.prog w "strings.asciiSpace" .u8 Lib.asciiSpaceTab
  max : ∃ m, w.cell? ⟨2, 0, none⟩ = some (.int .i64 m)
  syn : ∃ tp p, w.cell? ⟨3, 0, none⟩ = some (.iface tp p)
  rng : ∃ tp p, w.cell? ⟨4, 0, none⟩ = some (.iface tp p)
theorem tab_below {P : Program} {w w' : World} {name : String} {k : IntKind} {zs : List Int} (h : Lib.TabIs P w name k zs) (hb : Below w.heap.size w w') : Lib.TabIs P w' name k zs := by
  unfold Lib.TabIs World.var? at *
  cases hg : P.globalNamed name with
  | none => simp [hg] at h
  | some g =>
    simp only [hg, Option.bind_some] at h ⊢
    have hlt : g < w.heap.size := by
      rcases Nat.lt_or_ge g w.heap.size with h' | h'
      · exact h'
      · rw [Array.getElem?_eq_none h'] at h; simp at h
    rw [hb.block g hlt]
    exact h
theorem cell_below {w w' : World} {a : Addr} {v : Value} (h : w.cell? a = some v) (hb : Below w.heap.size w w') : w'.cell? a = some v := by
  have hl := World.block_lt_of_cell? w a h
  exact (hb.cell hl).trans h
theorem Env.below {w w' : World} (h : Env w) (hb : Below w.heap.size w w') : Env w' :=
  ⟨tab_below h.tab hb, tab_below h.sp hb, by obtain ⟨m, hm⟩ := h.max; exact ⟨m, cell_below hm hb⟩, by obtain ⟨t, p, hm⟩ := h.syn; exact ⟨t, p, cell_below hm hb⟩, by obtain ⟨t, p, hm⟩ := h.rng; exact ⟨t, p, cell_below hm hb⟩⟩

theorem add_str (a b : List UInt8) (h : a.length + b.length ≤ 9223372036854775807) (w : World) : (Op.stringOp .add (str a) (str b)).run Tryz.prog w = .ok (.string (str (a ++ b))) w := by
  rw [run_string_add_sum (P := Tryz.prog) w _ _ (by simpa [str, ByteArray.size] using h), str_append]
theorem itoa_nat (n : Nat) : Lib.itoa (n : Int) = Lib.decDigits n := by unfold Lib.itoa; rw [if_neg (by omega)]; simp
theorem itoa8_any (n : Nat) (w : World) (hn : n < 256) (hE : Env w) :
    Calls Tryz.prog 50 #[.int .i64 n] w fun e w' => e = .returned (.string (str (Lib.decDigits n))) ∧ Below w.heap.size w w' :=
  Calls.mono (Any.strconv_Itoa Tryz.laysM171 n (by omega) (by omega) w hE.tab) fun _ _ ⟨he, k, os, hw⟩ => ⟨by rw [← itoa_nat]; exact he, by rw [hw]; exact Lib.below_grow _ _ (Nat.le_refl _) _ _⟩
def namesL : List UInt8 := [72, 65, 76, 84, 32, 76, 68, 73, 32, 76, 68, 65, 32, 83, 84, 65, 32, 76, 68, 88, 32, 83, 84, 88, 32, 65, 68, 68, 32, 83, 85, 66, 32, 74, 77, 80, 32, 74, 90, 32, 74, 78, 32, 75, 69, 89, 32, 84, 88, 84, 32, 80, 73, 88, 32, 82, 68, 32, 87, 82, 32, 84, 73, 77]
theorem fields_names : Lib.fields namesL = opNames := by decide +kernel
def nameCells : List Value := opNames.map fun l => Value.string (str l)
theorem Fields_names (w : World) (hE : Env w) :
    Calls Tryz.prog 49 #[.string ⟨#[72, 65, 76, 84, 32, 76, 68, 73, 32, 76, 68, 65, 32, 83, 84, 65, 32, 76, 68, 88, 32, 83, 84, 88, 32, 65, 68, 68, 32, 83, 85, 66, 32, 74, 77, 80, 32, 74, 90, 32, 74, 78, 32, 75, 69, 89, 32, 84, 88, 84, 32, 80, 73, 88, 32, 82, 68, 32, 87, 82, 32, 84, 73, 77]⟩] w fun e w' =>
      ∃ g, e = .returned (.slice (some ⟨g, 0, none⟩) 17 17) ∧ w.heap.size ≤ g ∧ Arr w' g 9 nameCells ∧ Below w.heap.size w w' := by
  have h := Any.strings_Fields { Tryz.laysM157 with } Tryz.laysM157.i9 Tryz.laysM157.m0 (str namesL) w (by decide) (fun j b hb => by
    have := List.mem_of_getElem? hb
    have hall : ∀ b ∈ namesL, b.toNat < 128 := by decide
    exact hall b this) hE.sp
  rw [str_list, fields_names] at h
  refine Calls.mono h ?_
  rintro e w' ⟨rfl, rfl⟩
  exact ⟨_, rfl, Nat.le_refl _, Arr.new rfl rfl, (Below.refl _ _).alloc (Nat.le_refl _) _⟩
theorem nameCell {o : Nat} (h : o < 17) : nameCells[o]? = some (.string (str (opNames.getD o []))) := by
  unfold nameCells
  rw [List.getElem?_map, List.getD_eq_getElem?_getD, List.getElem?_eq_getElem (by rw [opNames_len]; exact h)]
  rfl
section
variable {P : Program} {Q : Exit → Act → World → Prop} {md : Region.Mode} {S : World → Prop}
end

set_option maxRecDepth 100000 in
set_option maxHeartbeats 4000000 in
theorem line_any (o n : Nat) (ho : o < 256) (hn : n < 256) (w : World) (hE : Env w) :
    Calls Tryz.prog 30 #[.int .u8 o, .int .u8 n] w fun e w' => e = .returned (.string (str (lineB o n))) ∧ Below w.heap.size w w' := by
  have hB : Below w.heap.size w w := Below.refl _ _
  have hF := Lib.hid (fun w hE => Fields_names w hE)
  have i0 : (0 : Int) ≤ (o : Int) := by omega
  have i1 : (o : Int) ≤ 255 := by omega
  have i2 : (0 : Int) ≤ (n : Int) := by omega
  have i3 : (n : Int) ≤ 255 := by omega
  have hI2 := Lib.hid (fun w hE => itoa8_any n w hn hE)
  have b1 := decDigits_byte ho
  have b2 := decDigits_byte hn
  by_cases h17 : o < 17
  · have hd : decide ((o : Int) < 17) = true := by simp; omega
    have i4 : (o : Int) < 17 := by omega
    have hw : IntKind.i64.wrap (n : Int) = (n : Int) := IntWalk.i64_in _ (by omega)
    have hl : lineB o n = opNames.getD o [] ++ 32 :: Lib.decDigits n := by rw [lineB, if_pos h17]
    have b3 := opName_len o
    have hadd1 := add_str (opNames.getD o []) [32] (by simp only [List.length_cons, List.length_nil]; omega)
    have hadd2 := add_str (opNames.getD o [] ++ [32]) (Lib.decDigits n) (by simp only [List.length_append, List.length_cons, List.length_nil]; omega)
    rw [List.append_assoc, show [(32 : UInt8)] ++ Lib.decDigits n = 32 :: Lib.decDigits n from rfl, ← hl] at hadd2
    rw [show str [32] = ⟨#[32]⟩ from rfl] at hadd1
    have hc := nameCell h17
    replace hc := Lib.hid hc
    replace hl := Lib.hid hl
    generalize opNames.getD o [] = nm at *
    go_enter Tryz.func30, Tryz.ntmps30
    go_wp2_with fail
    refine (hF.out _ hE).mono ?_
    rintro e w1 ⟨g, rfl, hg, hA, hB1⟩
    have m1 := hA.mine hc.out
    have hE1 := hE.below hB1
    replace hB := hB.trans (hB1.mono hB.size)
    clear hA hB1
    replace hg := Lib.hid hg
    have hsz : w.heap.size ≤ w1.drew.heap.size := hB.size
    go_wp2_with fail
    have c1 := m1.cell
    have f1 := m1.free
    have l1 := m1.lt
    refine wp_region_held_drew (S := fun w' => w'.cell? ⟨g, o, none⟩ = some (.string (str nm))) (by kernel_rfl) (by first | (dsimp only; go_keep) | go_keep) (fun hHeld => ?_)
    refine take_l (i := 0) (v := ?_) rfl (by kernel_rfl) (by kernel_rfl) (by kernel_rfl) (fun _ _ _ h => h) (Or.inl ⟨by kernel_rfl, ?_⟩) (by assumption) ?_
    rotate_left
    · intro w hSw; (try dsimp only at hSw); go_simp; (try with_reducible rfl)
    (try dsimp only [Act.put, List.setIfInBounds_toArray, List.set_cons_zero, List.set_cons_succ])
    refine take_l (i := 1) (v := ?_) rfl (by kernel_rfl) (by kernel_rfl) (by kernel_rfl) (fun _ _ _ h => h) (Or.inl ⟨by kernel_rfl, ?_⟩) (by assumption) ?_
    rotate_left
    · intro w hSw; (try dsimp only at hSw); go_simp; (try with_reducible rfl)
    (try dsimp only [Act.put, List.setIfInBounds_toArray, List.set_cons_zero, List.set_cons_succ])
    refine take_l (i := 2) (v := ?_) rfl (by kernel_rfl) (by kernel_rfl) (by kernel_rfl) (fun _ _ _ h => h) (Or.inl ⟨by kernel_rfl, ?_⟩) (by assumption) ?_
    rotate_left
    · intro w hSw; (try dsimp only at hSw); go_simp; (try with_reducible rfl)
    (try dsimp only [Act.put, List.setIfInBounds_toArray, List.set_cons_zero, List.set_cons_succ])
    refine take_l (i := 3) (v := ?_) rfl (by kernel_rfl) (by kernel_rfl) (by kernel_rfl) (fun _ _ _ h => h) (Or.inl ⟨by kernel_rfl, ?_⟩) (by assumption) ?_
    rotate_left
    · intro w hSw; (try dsimp only at hSw); go_simp; (try with_reducible rfl)
    (try dsimp only [Act.put, List.setIfInBounds_toArray, List.set_cons_zero, List.set_cons_succ])
    refine take_l (i := 4) (v := ?_) rfl (by kernel_rfl) (by kernel_rfl) (by kernel_rfl) (fun _ _ _ h => h) (Or.inl ⟨by kernel_rfl, ?_⟩) (by assumption) ?_
    rotate_left
    · intro w hSw; (try dsimp only at hSw); go_simp; (try with_reducible rfl)
    (try dsimp only [Act.put, List.setIfInBounds_toArray, List.set_cons_zero, List.set_cons_succ])
    refine take_l (i := 5) (v := ?_) rfl (by kernel_rfl) (by kernel_rfl) (by kernel_rfl) (fun _ _ _ h => h) (Or.inl ⟨by kernel_rfl, ?_⟩) (by assumption) ?_
    rotate_left
    · intro w hSw; (try dsimp only at hSw); go_simp; (try with_reducible rfl)
    (try dsimp only [Act.put, List.setIfInBounds_toArray, List.set_cons_zero, List.set_cons_succ])
    refine take_l (i := 6) (v := ?_) rfl (by kernel_rfl) (by kernel_rfl) (by kernel_rfl) (fun _ _ _ h => h) (Or.inl ⟨by kernel_rfl, ?_⟩) (by assumption) ?_
    rotate_left
    · intro w hSw; (try dsimp only at hSw); go_simp; (try with_reducible rfl)
    (try dsimp only [Act.put, List.setIfInBounds_toArray, List.set_cons_zero, List.set_cons_succ])
    refine wpAnyH_ready (rs := [7]) (by kernel_rfl) (by simp) ?_
    refine ready_l rfl (fun K hK => ?_) AllReadyH.nil
    go_simp
    (go_at_call 50; refine (hI2.out _ (hE1.below (Below.drew (Below.refl _ _)))).mono ?_; rintro e v1 ⟨rfl, hbv1⟩; have n1v1 : Mine v1 g o (.string (str nm)) := Mine.below (by (repeat first | with_reducible assumption | with_reducible refine Mine.drew ?_ | with_reducible refine Mine.drewN ?_ _ | ((with_reducible refine Mine.new ?_); rfl) | ((with_reducible refine Mine.newAt ?_ ?_) <;> first | rfl | (simp; done) | (simp only [World.size_alloc]; rfl)) | ((with_reducible refine Mine.set ?_ _); repeat first | exact Mine.slot (by with_reducible assumption) | with_reducible refine MineS.drew ?_ | with_reducible refine MineS.drewN ?_ _ | ((with_reducible refine MineS.new ?_); decide) | ((with_reducible refine MineS.newAt ?_ ?_) <;> first | decide | (simp; done)) | with_reducible refine MineS.set ?_ _ _ _ | with_reducible refine MineS.alloc ?_ _) | with_reducible refine Mine.other ?_ _ (by first | (left; omega) | (right; omega) | (simp; done) | (simp; omega)) | with_reducible refine Mine.alloc ?_ _)) hbv1; have g1v1 := n1v1.cell; have gf1v1 := n1v1.free; have hBv1 : Below w.heap.size w v1 := Below.trans (by repeat first | with_reducible exact Below.refl _ _ | with_reducible assumption | with_reducible refine below_drewN ?_ _ | with_reducible refine Below.drew ?_ | with_reducible refine Below.setCell ?_ (by first | exact Nat.le_refl _ | (simp; done) | (simp; omega) | omega) _ | with_reducible refine Below.alloc ?_ (by first | exact Nat.le_refl _ | (simp; done) | (simp; omega) | omega) _ | exact Below.refl _ _ | assumption) (hbv1.mono (by first | exact Nat.le_refl _ | assumption | (simp; done) | (simp; omega) | omega)); have hzv1 := hbv1.size; )
    refine hK.out _ _ (by first | (dsimp only; go_keep) | go_keep) (fun hHeld => ?_)
    clear hK K
    (try dsimp only [Act.put, List.setIfInBounds_toArray, List.set_cons_zero, List.set_cons_succ])
    refine take_l (i := 8) (v := ?_) rfl (by kernel_rfl) (by kernel_rfl) (by kernel_rfl) (fun _ _ _ h => h) (Or.inl ⟨by kernel_rfl, ?_⟩) (by assumption) ?_
    rotate_left
    · intro w hSw; (try dsimp only at hSw); go_simp; (try with_reducible rfl)
    (try dsimp only [Act.put, List.setIfInBounds_toArray, List.set_cons_zero, List.set_cons_succ])
    refine take_l (i := 9) (v := ?_) rfl (by kernel_rfl) (by kernel_rfl) (by kernel_rfl) (fun _ _ _ h => h) (Or.inl ⟨by kernel_rfl, ?_⟩) (by assumption) ?_
    rotate_left
    · intro w hSw; (try dsimp only at hSw); go_simp; (try with_reducible rfl)
    (try dsimp only [Act.put, List.setIfInBounds_toArray, List.set_cons_zero, List.set_cons_succ])
    refine wpAnyH_done (by kernel_rfl) ?_ _
    go_wp2_with fail
    go_ret
    exact ⟨rfl, hBv1⟩
  · have hd : decide ((o : Int) < 17) = false := by simp; omega
    have hl : lineB o n = [82, 65, 87, 32] ++ Lib.decDigits o ++ [32] ++ Lib.decDigits n := by rw [lineB, if_neg h17]; simp [rawB]
    have hadd1 := add_str [82, 65, 87, 32] (Lib.decDigits o) (by simp only [List.length_cons, List.length_nil]; omega)
    have hadd2 := add_str ([82, 65, 87, 32] ++ Lib.decDigits o) [32] (by simp only [List.length_append, List.length_cons, List.length_nil]; omega)
    have hadd3 := add_str ([82, 65, 87, 32] ++ Lib.decDigits o ++ [32]) (Lib.decDigits n) (by simp only [List.length_append, List.length_cons, List.length_nil]; omega)
    rw [show str [82, 65, 87, 32] = ⟨#[82, 65, 87, 32]⟩ from rfl] at hadd1
    rw [show str [32] = ⟨#[32]⟩ from rfl] at hadd2
    rw [← hl] at hadd3
    replace hl := Lib.hid hl
    have hI1 := Lib.hid (fun w hE => itoa8_any o w ho hE)
    generalize Lib.decDigits o = l1 at *
    generalize Lib.decDigits n = l2 at *
    generalize [82, 65, 87, 32] ++ l1 = s1 at *
    generalize s1 ++ [32] = s2 at *
    go_enter Tryz.func30, Tryz.ntmps30
    go_wp2_with fail
    refine (hF.out _ hE).mono ?_
    rintro e w1 ⟨g, rfl, hg, hA, hB1⟩
    have hE1 := hE.below hB1
    replace hB := hB.trans (hB1.mono hB.size)
    clear hA hB1 hg hE
    go_wp2_with fail
    refine (hI1.out _ hE1).mono ?_
    rintro e w2 ⟨rfl, hB2⟩
    have hE2 := hE1.below hB2
    replace hB := hB.trans (hB2.mono hB.size)
    clear hE1 hB2
    go_wp2_with fail
    refine (hI2.out _ hE2).mono ?_
    rintro e w3 ⟨rfl, hB3⟩
    replace hB := hB.trans (hB3.mono hB.size)
    clear hE2 hB3
    go_wp2_with fail
    go_ret
    exact ⟨rfl, hB⟩
end Go.Proofs.YtkgbknjpnhoadaaGreatDoor
