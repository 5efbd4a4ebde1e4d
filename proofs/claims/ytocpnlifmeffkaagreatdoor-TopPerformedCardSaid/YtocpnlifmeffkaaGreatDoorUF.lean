/-
  The contract of computer.line.
  The contracts of strings.Builder's methods as computer.Print calls them.
  A region that draws its order, inside a round of a loop over a function: the laws of plain regions serve there too.
  The contracts of slices.Chunk (pairs of bytes) and of computer.Print.
  The contract of computer.Print.
-/
import Derived.Test.YtocpnlifmeffkaaGreatDoorUE
import Derived.Lib.AppendIntMem
import Derived.Lib.AppendStr
import Derived.Lib.UnsafeStr
import Derived.BigRegion
import Derived.Test.YtocpnlifmeffkaaGreatDoorUA
import Derived.RangeFuncCalls
import Derived.OrdersIn
import Derived.StillTail
import Derived.StillTactics
import Derived.Deep.RegionHeld
import Derived.BigRegionIn
import Derived.RangeFuncFrom
import Derived.RangeFuncLeaves
import Derived.Lib.ConvBytes
namespace Go.Proofs.YtocpnlifmeffkaaGreatDoor
open Go.RowKit Go.Shelf

/-- The library's variables that are read. -/
structure Env (w : World) : Prop where
  tab : Lib.TabIs Tryz.prog w "internal/strconv.uint64pow10" .u64 Lib.pow10Tab
  sp : Lib.TabIs Tryz.prog w "strings.asciiSpace" .u8 Lib.asciiSpaceTab
  max : ∃ m, w.cell? ⟨2, 0, none⟩ = some (.int .i64 m)
  syn : ∃ tp p, w.cell? ⟨3, 0, none⟩ = some (.iface tp p)
  rng : ∃ tp p, w.cell? ⟨4, 0, none⟩ = some (.iface tp p)
theorem tab_below {P : Program} {w w' : World} {name : String} {k : IntKind} {zs : List Int} (h : Lib.TabIs P w name k zs) (hb : Below w.heap.size w w') : Lib.TabIs P w' name k zs := by
  unfold Lib.TabIs World.var? at *
  cases hg : P.globalNamed name with
  | none => simp [hg] at h
  | some g =>
    simp only [hg, Option.bind_some] at h ⊢
    have hlt : g < w.heap.size := by
      rcases Nat.lt_or_ge g w.heap.size with h' | h'
      · exact h'
      · rw [Array.getElem?_eq_none h'] at h; simp at h
    rw [hb.block g hlt]
    exact h
theorem cell_below {w w' : World} {a : Addr} {v : Value} (h : w.cell? a = some v) (hb : Below w.heap.size w w') : w'.cell? a = some v := by
  have hl := World.block_lt_of_cell? w a h
  exact (hb.cell hl).trans h
theorem Env.below {w w' : World} (h : Env w) (hb : Below w.heap.size w w') : Env w' :=
  ⟨tab_below h.tab hb, tab_below h.sp hb, by obtain ⟨m, hm⟩ := h.max; exact ⟨m, cell_below hm hb⟩, by obtain ⟨t, p, hm⟩ := h.syn; exact ⟨t, p, cell_below hm hb⟩, by obtain ⟨t, p, hm⟩ := h.rng; exact ⟨t, p, cell_below hm hb⟩⟩

theorem add_str (a b : List UInt8) (h : a.length + b.length ≤ 9223372036854775807) (w : World) : (Op.stringOp .add (str a) (str b)).run Tryz.prog w = .ok (.string (str (a ++ b))) w := by
  rw [run_string_add_sum (P := Tryz.prog) w _ _ (by simpa [str, ByteArray.size] using h), str_append]
theorem itoa_nat (n : Nat) : Lib.itoa (n : Int) = Lib.decDigits n := by unfold Lib.itoa; rw [if_neg (by omega)]; simp
theorem itoa8_any (n : Nat) (w : World) (hn : n < 256) (hE : Env w) :
    Calls Tryz.prog 67 #[.int .i64 n] w fun e w' => e = .returned (.string (str (Lib.decDigits n))) ∧ Below w.heap.size w w' :=
  Calls.mono (Any.strconv_Itoa Tryz.laysM171 n (by omega) (by omega) w hE.tab) fun _ _ ⟨he, k, os, hw⟩ => ⟨by rw [← itoa_nat]; exact he, by rw [hw]; exact Lib.below_grow _ _ (Nat.le_refl _) _ _⟩
def namesL : List UInt8 := [72, 65, 76, 84, 32, 76, 68, 73, 32, 76, 68, 65, 32, 83, 84, 65, 32, 76, 68, 88, 32, 83, 84, 88, 32, 65, 68, 68, 32, 83, 85, 66, 32, 74, 77, 80, 32, 74, 90, 32, 74, 78, 32, 75, 69, 89, 32, 84, 88, 84, 32, 80, 73, 88, 32, 82, 68, 32, 87, 82, 32, 84, 73, 77]
theorem fields_names : Lib.fields namesL = opNames := by decide +kernel
def nameCells : List Value := opNames.map fun l => Value.string (str l)
theorem Fields_names (w : World) (hE : Env w) :
    Calls Tryz.prog 66 #[.string ⟨#[72, 65, 76, 84, 32, 76, 68, 73, 32, 76, 68, 65, 32, 83, 84, 65, 32, 76, 68, 88, 32, 83, 84, 88, 32, 65, 68, 68, 32, 83, 85, 66, 32, 74, 77, 80, 32, 74, 90, 32, 74, 78, 32, 75, 69, 89, 32, 84, 88, 84, 32, 80, 73, 88, 32, 82, 68, 32, 87, 82, 32, 84, 73, 77]⟩] w fun e w' =>
      ∃ g, e = .returned (.slice (some ⟨g, 0, none⟩) 17 17) ∧ w.heap.size ≤ g ∧ Arr w' g 9 nameCells ∧ Below w.heap.size w w' := by
  have h := Any.strings_Fields { Tryz.laysM157 with } Tryz.laysM157.i9 Tryz.laysM157.m0 (str namesL) w (by decide) (fun j b hb => by
    have := List.mem_of_getElem? hb
    have hall : ∀ b ∈ namesL, b.toNat < 128 := by decide
    exact hall b this) hE.sp
  rw [str_list, fields_names] at h
  refine Calls.mono h ?_
  rintro e w' ⟨rfl, rfl⟩
  exact ⟨_, rfl, Nat.le_refl _, Arr.new rfl rfl, (Below.refl _ _).alloc (Nat.le_refl _) _⟩
theorem nameCell {o : Nat} (h : o < 17) : nameCells[o]? = some (.string (str (opNames.getD o []))) := by
  unfold nameCells
  rw [List.getElem?_map, List.getD_eq_getElem?_getD, List.getElem?_eq_getElem (by rw [opNames_len]; exact h)]
  rfl
section
variable {P : Program} {Q : Exit → Act → World → Prop} {md : Region.Mode} {S : World → Prop}
end

set_option maxRecDepth 100000 in
set_option maxHeartbeats 4000000 in
theorem line_any (o n : Nat) (ho : o < 256) (hn : n < 256) (w : World) (hE : Env w) :
    Calls Tryz.prog 27 #[.int .u8 o, .int .u8 n] w fun e w' => e = .returned (.string (str (lineB o n))) ∧ Below w.heap.size w w' := by
  have hB : Below w.heap.size w w := Below.refl _ _
  have hF := Lib.hid (fun w hE => Fields_names w hE)
  have i0 : (0 : Int) ≤ (o : Int) := by omega
  have i1 : (o : Int) ≤ 255 := by omega
  have i2 : (0 : Int) ≤ (n : Int) := by omega
  have i3 : (n : Int) ≤ 255 := by omega
  have hI2 := Lib.hid (fun w hE => itoa8_any n w hn hE)
  have b1 := decDigits_byte ho
  have b2 := decDigits_byte hn
  by_cases h17 : o < 17
  · have hd : decide ((o : Int) < 17) = true := by simp; omega
    have i4 : (o : Int) < 17 := by omega
    have hw : IntKind.i64.wrap (n : Int) = (n : Int) := IntWalk.i64_in _ (by omega)
    have hl : lineB o n = opNames.getD o [] ++ 32 :: Lib.decDigits n := by rw [lineB, if_pos h17]
    have b3 := opName_len o
    have hadd1 := add_str (opNames.getD o []) [32] (by simp only [List.length_cons, List.length_nil]; omega)
    have hadd2 := add_str (opNames.getD o [] ++ [32]) (Lib.decDigits n) (by simp only [List.length_append, List.length_cons, List.length_nil]; omega)
    rw [List.append_assoc, show [(32 : UInt8)] ++ Lib.decDigits n = 32 :: Lib.decDigits n from rfl, ← hl] at hadd2
    rw [show str [32] = ⟨#[32]⟩ from rfl] at hadd1
    have hc := nameCell h17
    replace hc := Lib.hid hc
    replace hl := Lib.hid hl
    generalize opNames.getD o [] = nm at *
    go_enter Tryz.func27, Tryz.ntmps27
    go_wp2_with fail
    refine (hF.out _ hE).mono ?_
    rintro e w1 ⟨g, rfl, hg, hA, hB1⟩
    have m1 := hA.mine hc.out
    have hE1 := hE.below hB1
    replace hB := hB.trans (hB1.mono hB.size)
    clear hA hB1
    replace hg := Lib.hid hg
    have hsz : w.heap.size ≤ w1.drew.heap.size := hB.size
    go_wp2_with fail
    have c1 := m1.cell
    have f1 := m1.free
    have l1 := m1.lt
    refine wp_region_held_drew (S := fun w' => w'.cell? ⟨g, o, none⟩ = some (.string (str nm))) (by kernel_rfl) (by first | (dsimp only; go_keep) | go_keep) (fun hHeld => ?_)
    refine take_l (i := 0) (v := ?_) rfl (by kernel_rfl) (by kernel_rfl) (by kernel_rfl) (fun _ _ _ h => h) (Or.inl ⟨by kernel_rfl, ?_⟩) (by assumption) ?_
    rotate_left
    · intro w hSw; (try dsimp only at hSw); go_simp; (try with_reducible rfl)
    (try simp only [Act.put, List.setIfInBounds_toArray, List.set_cons_zero, List.set_cons_succ])
    refine take_l (i := 1) (v := ?_) rfl (by kernel_rfl) (by kernel_rfl) (by kernel_rfl) (fun _ _ _ h => h) (Or.inl ⟨by kernel_rfl, ?_⟩) (by assumption) ?_
    rotate_left
    · intro w hSw; (try dsimp only at hSw); go_simp; (try with_reducible rfl)
    (try simp only [Act.put, List.setIfInBounds_toArray, List.set_cons_zero, List.set_cons_succ])
    refine take_l (i := 2) (v := ?_) rfl (by kernel_rfl) (by kernel_rfl) (by kernel_rfl) (fun _ _ _ h => h) (Or.inl ⟨by kernel_rfl, ?_⟩) (by assumption) ?_
    rotate_left
    · intro w hSw; (try dsimp only at hSw); go_simp; (try with_reducible rfl)
    (try simp only [Act.put, List.setIfInBounds_toArray, List.set_cons_zero, List.set_cons_succ])
    refine take_l (i := 3) (v := ?_) rfl (by kernel_rfl) (by kernel_rfl) (by kernel_rfl) (fun _ _ _ h => h) (Or.inl ⟨by kernel_rfl, ?_⟩) (by assumption) ?_
    rotate_left
    · intro w hSw; (try dsimp only at hSw); go_simp; (try with_reducible rfl)
    (try simp only [Act.put, List.setIfInBounds_toArray, List.set_cons_zero, List.set_cons_succ])
    refine take_l (i := 4) (v := ?_) rfl (by kernel_rfl) (by kernel_rfl) (by kernel_rfl) (fun _ _ _ h => h) (Or.inl ⟨by kernel_rfl, ?_⟩) (by assumption) ?_
    rotate_left
    · intro w hSw; (try dsimp only at hSw); go_simp; (try with_reducible rfl)
    (try simp only [Act.put, List.setIfInBounds_toArray, List.set_cons_zero, List.set_cons_succ])
    refine take_l (i := 5) (v := ?_) rfl (by kernel_rfl) (by kernel_rfl) (by kernel_rfl) (fun _ _ _ h => h) (Or.inl ⟨by kernel_rfl, ?_⟩) (by assumption) ?_
    rotate_left
    · intro w hSw; (try dsimp only at hSw); go_simp; (try with_reducible rfl)
    (try simp only [Act.put, List.setIfInBounds_toArray, List.set_cons_zero, List.set_cons_succ])
    refine take_l (i := 6) (v := ?_) rfl (by kernel_rfl) (by kernel_rfl) (by kernel_rfl) (fun _ _ _ h => h) (Or.inl ⟨by kernel_rfl, ?_⟩) (by assumption) ?_
    rotate_left
    · intro w hSw; (try dsimp only at hSw); go_simp; (try with_reducible rfl)
    (try simp only [Act.put, List.setIfInBounds_toArray, List.set_cons_zero, List.set_cons_succ])
    refine wpAnyH_ready (rs := [7]) (by kernel_rfl) (by simp) ?_
    refine ready_l rfl (fun K hK => ?_) AllReadyH.nil
    go_simp
    (go_at_call 67; refine (hI2.out _ (hE1.below (Below.drew (Below.refl _ _)))).mono ?_; rintro e v1 ⟨rfl, hbv1⟩; have n1v1 : Mine v1 g o (.string (str nm)) := Mine.below (by (repeat first | with_reducible assumption | with_reducible refine Mine.drew ?_ | with_reducible refine Mine.drewN ?_ _ | ((with_reducible refine Mine.new ?_); rfl) | ((with_reducible refine Mine.newAt ?_ ?_) <;> first | rfl | (simp; done) | (simp only [World.size_alloc]; rfl)) | ((with_reducible refine Mine.set ?_ _); repeat first | exact Mine.slot (by with_reducible assumption) | with_reducible refine MineS.drew ?_ | with_reducible refine MineS.drewN ?_ _ | ((with_reducible refine MineS.new ?_); decide) | ((with_reducible refine MineS.newAt ?_ ?_) <;> first | decide | (simp; done)) | with_reducible refine MineS.set ?_ _ _ _ | with_reducible refine MineS.alloc ?_ _) | with_reducible refine Mine.other ?_ _ (by first | (left; omega) | (right; omega) | (simp; done) | (simp; omega)) | with_reducible refine Mine.alloc ?_ _)) hbv1; have g1v1 := n1v1.cell; have gf1v1 := n1v1.free; have hBv1 : Below w.heap.size w v1 := Below.trans (by repeat first | with_reducible exact Below.refl _ _ | with_reducible assumption | with_reducible refine below_drewN ?_ _ | with_reducible refine Below.drew ?_ | with_reducible refine Below.setCell ?_ (by first | exact Nat.le_refl _ | (simp; done) | (simp; omega) | omega) _ | with_reducible refine Below.alloc ?_ (by first | exact Nat.le_refl _ | (simp; done) | (simp; omega) | omega) _ | exact Below.refl _ _ | assumption) (hbv1.mono (by first | exact Nat.le_refl _ | assumption | (simp; done) | (simp; omega) | omega)); have hzv1 := hbv1.size; )
    refine hK.out _ _ (by first | (dsimp only; go_keep) | go_keep) (fun hHeld => ?_)
    clear hK K
    (try simp only [Act.put, List.setIfInBounds_toArray, List.set_cons_zero, List.set_cons_succ])
    refine take_l (i := 8) (v := ?_) rfl (by kernel_rfl) (by kernel_rfl) (by kernel_rfl) (fun _ _ _ h => h) (Or.inl ⟨by kernel_rfl, ?_⟩) (by assumption) ?_
    rotate_left
    · intro w hSw; (try dsimp only at hSw); go_simp; (try with_reducible rfl)
    (try simp only [Act.put, List.setIfInBounds_toArray, List.set_cons_zero, List.set_cons_succ])
    refine take_l (i := 9) (v := ?_) rfl (by kernel_rfl) (by kernel_rfl) (by kernel_rfl) (fun _ _ _ h => h) (Or.inl ⟨by kernel_rfl, ?_⟩) (by assumption) ?_
    rotate_left
    · intro w hSw; (try dsimp only at hSw); go_simp; (try with_reducible rfl)
    (try simp only [Act.put, List.setIfInBounds_toArray, List.set_cons_zero, List.set_cons_succ])
    refine wpAnyH_done (by kernel_rfl) ?_ _
    go_wp2_with fail
    go_ret
    exact ⟨rfl, hBv1⟩
  · have hd : decide ((o : Int) < 17) = false := by simp; omega
    have hl : lineB o n = [82, 65, 87, 32] ++ Lib.decDigits o ++ [32] ++ Lib.decDigits n := by rw [lineB, if_neg h17]; simp [rawB]
    have hadd1 := add_str [82, 65, 87, 32] (Lib.decDigits o) (by simp only [List.length_cons, List.length_nil]; omega)
    have hadd2 := add_str ([82, 65, 87, 32] ++ Lib.decDigits o) [32] (by simp only [List.length_append, List.length_cons, List.length_nil]; omega)
    have hadd3 := add_str ([82, 65, 87, 32] ++ Lib.decDigits o ++ [32]) (Lib.decDigits n) (by simp only [List.length_append, List.length_cons, List.length_nil]; omega)
    rw [show str [82, 65, 87, 32] = ⟨#[82, 65, 87, 32]⟩ from rfl] at hadd1
    rw [show str [32] = ⟨#[32]⟩ from rfl] at hadd2
    rw [← hl] at hadd3
    replace hl := Lib.hid hl
    have hI1 := Lib.hid (fun w hE => itoa8_any o w ho hE)
    generalize Lib.decDigits o = l1 at *
    generalize Lib.decDigits n = l2 at *
    generalize [82, 65, 87, 32] ++ l1 = s1 at *
    generalize s1 ++ [32] = s2 at *
    go_enter Tryz.func27, Tryz.ntmps27
    go_wp2_with fail
    refine (hF.out _ hE).mono ?_
    rintro e w1 ⟨g, rfl, hg, hA, hB1⟩
    have hE1 := hE.below hB1
    replace hB := hB.trans (hB1.mono hB.size)
    clear hA hB1 hg hE
    go_wp2_with fail
    refine (hI1.out _ hE1).mono ?_
    rintro e w2 ⟨rfl, hB2⟩
    have hE2 := hE1.below hB2
    replace hB := hB.trans (hB2.mono hB.size)
    clear hE1 hB2
    go_wp2_with fail
    refine (hI2.out _ hE2).mono ?_
    rintro e w3 ⟨rfl, hB3⟩
    replace hB := hB.trans (hB3.mono hB.size)
    clear hE2 hB3
    go_wp2_with fail
    go_ret
    exact ⟨rfl, hB⟩
end Go.Proofs.YtocpnlifmeffkaaGreatDoor
namespace Go.Proofs.YtocpnlifmeffkaaGreatDoor
open Go.RowKit Go.Shelf

theorem Tryz.info_byte3 : (Tryz.prog.info? 5).map (fun i => (i.zero, i.size, i.bytes)) = some (some (.int .u8 0), 1, 1) := by kernel_rfl
theorem Tryz.sizeBuilder : (Tryz.prog.info? 75).map (·.size) = some 2 := by kernel_rfl
theorem Tryz.liesBuilder : liesAt Tryz.prog Tryz.prog.depth 75 (2 / Tryz.prog.cellsOf 75) 0 75 1 = true := by kernel_rfl
set_option maxHeartbeats 1000000 in
set_option maxRecDepth 100000 in
theorem copyCheck_used (b : Nat) (w : World) (h0 : w.cell? ⟨b, 0, none⟩ = some (.pointer (some ⟨b, 0, none⟩))) :
    Calls Tryz.prog 65 #[.pointer (some ⟨b, 0, none⟩)] w fun e w' => e = .returned (.tuple #[]) ∧ w' = w := by
  obtain ⟨j, hj, _⟩ := Option.map_eq_some_iff.1 Tryz.sizeBuilder
  go_enter Tryz.func65, Tryz.ntmps65
  go_wp2
  rw [Lib.run_neq_ptr_same w _ Tryz.underlying73 hj]
  go_wp2
  go_end0
  exact ⟨rfl, rfl⟩

set_option maxHeartbeats 1000000 in
set_option maxRecDepth 100000 in
theorem copyCheck_fresh (b : Nat) (w : World) (h0 : w.cell? ⟨b, 0, none⟩ = some (.pointer none)) (hsh : w.shape? b = some (75, 2)) (hfz : w.frozen? ⟨b, 0, none⟩ = false) :
    Calls Tryz.prog 65 #[.pointer (some ⟨b, 0, none⟩)] w fun e w' => e = .returned (.tuple #[]) ∧ w' = w.setCell ⟨b, 0, none⟩ (.pointer (some ⟨b, 0, none⟩)) := by
  obtain ⟨j, hj, hjs⟩ := Option.map_eq_some_iff.1 Tryz.sizeBuilder
  go_enter Tryz.func65, Tryz.ntmps65
  go_wp2
  rw [Lib.run_to_unsafe w ⟨b, 0, none⟩ Tryz.underlying73 Tryz.underlying192 hj (by rw [hjs]; decide) hsh (Nat.zero_lt_succ 1)]
  simp only [Result.andThen]
  rw [Oper.upon_value]
  go_wp2
  rw [run_callFunc_extern Tryz.func141 (by kernel_rfl) (by kernel_rfl) (by kernel_rfl) (e := Extern.AbiNoEscape.same) (by kernel_rfl)]
  rw [Lib.run_noEscape]
  simp only [Result.andThen]
  rw [Oper.upon_value]
  go_wp2
  rw [Lib.run_from_unsafe w ⟨b, 0, none⟩ Tryz.underlying192 Tryz.underlying73 hj hsh Tryz.liesBuilder]
  simp only [Result.andThen]
  rw [Oper.upon_value]
  go_wp2
  go_end0
  exact ⟨rfl, rfl⟩

/-- What the builder b's methods leave as it was: all but its own cells and rows of bytes without a mark. -/
def KeepW (b : Nat) (w w' : World) : Prop := w.heap.size ≤ w'.heap.size ∧ ∀ k o, k ≠ b → w.heap[k]? = some o → (∀ cs, o ≠ .cells cs 5 (0, 0)) → w'.heap[k]? = some o
theorem KeepW.of_below {b : Nat} {w w' : World} (h : Below w.heap.size w w') : KeepW b w w' := ⟨h.size, fun k _ _ hk _ => (h.block k (Array.getElem?_eq_some_iff.1 hk).1).trans hk⟩
theorem KeepW.trans {b : Nat} {w w' w'' : World} (h : KeepW b w w') (k : KeepW b w' w'') : KeepW b w w'' := ⟨Nat.le_trans h.1 k.1, fun j o hj ho hn => k.2 j o hj (h.2 j o hj ho hn) hn⟩
theorem KeepW.setCell {b : Nat} {w w' : World} (h : KeepW b w w') (o : Nat) (v : Value) : KeepW b w (w'.setCell ⟨b, o, none⟩ v) :=
  ⟨by simpa [World.setCell] using h.1, fun k x hk hx hn => (Below.heap_setCell w' ⟨b, o, none⟩ v k (by simpa using hk)).trans (h.2 k x hk hx hn)⟩
theorem KeepW.arr {b B : Nat} {w w' : World} {T : TypeId} {L : List Value} (h : KeepW b w w') (hA : Arr w B T L) (hB : B ≠ b) (hT : T ≠ 5) : Arr w' B T L :=
  h.2 B _ hB hA (fun cs e => by injection e with _ e; exact hT e)
theorem KeepW.others {b : Nat} {w w' : World} {T : TypeId} {cs : Array Value} {fr : Nat × Nat} (h : KeepW b w w') (hb : w.heap[b]? = some (.cells cs T fr)) : KeepsOthers w w' :=
  ⟨h.1, fun k o hk hc => h.2 k o (fun e => by subst e; rw [hb] at hk; injection hk with hk; subst hk; cases hc) hk (fun cs e => by subst e; cases hc)⟩
theorem copyCheck_any (B b : Nat) (bs : List Value) (w : World) (h : Lib.IsBuilder 75 5 B b bs w) :
    Calls Tryz.prog 65 #[.pointer (some ⟨b, 0, none⟩)] w fun e w' => e = .returned (.tuple #[]) ∧ (Lib.BuilderAt 75 5 B b (.pointer (some ⟨b, 0, none⟩)) bs w' ∧ Below B w w') ∧ KeepW b w w' := by
  rcases h with h | h
  · refine (copyCheck_fresh b w h.cell0 h.shape h.frozen0).mono ?_
    rintro e w' ⟨rfl, rfl⟩
    exact ⟨rfl, ⟨h.used _, (Below.refl B w).setCell (p := ⟨b, 0, none⟩) h.1 _⟩, (KeepW.of_below (Below.refl _ w)).setCell _ _⟩
  · refine (copyCheck_used b w h.cell0).mono ?_
    rintro e w' ⟨rfl, rfl⟩
    exact ⟨rfl, ⟨h, Below.refl B _⟩, KeepW.of_below (Below.refl _ _)⟩

set_option maxHeartbeats 2000000 in
set_option maxRecDepth 100000 in
theorem WriteString_any (B b : Nat) (bs : List Value) (s : ByteArray) (w : World) (h : Lib.IsBuilder 75 5 B b bs w) (hlen : bs.length + s.size ≤ 140737488355328) (hBw : B ≤ w.heap.size) :
    Calls Tryz.prog 26 #[.pointer (some ⟨b, 0, none⟩), .string s] w fun e w' => e = .returned (.tuple #[.int .i64 s.size, .nilIface]) ∧ (Lib.BuilderAt 75 5 B b (.pointer (some ⟨b, 0, none⟩)) (bs ++ Lib.strCells s) w' ∧ Below B w w') ∧ KeepW b w w' := by
  obtain ⟨i0, hi, hz0, hz1, hz2⟩ := info_parts Tryz.info_byte3
  go_enter Tryz.func26, Tryz.ntmps26
  go_wp2_with (go_at_call 65; refine (copyCheck_any B b bs _ h).mono ?_)
  rintro e w1 ⟨rfl, ⟨h1, hb1⟩, hk1⟩
  obtain ⟨hB, v, hbk, hown, hne⟩ := h1
  have c0 : w1.cell? ⟨b, 0, none⟩ = some (.pointer (some ⟨b, 0, none⟩)) := by rw [Lib.cell_of_heap hbk]; rfl
  have c1 : w1.cell? ⟨b, 1, none⟩ = some v := by rw [Lib.cell_of_heap hbk]; rfl
  go_wp2_with (at_builtin; refine Lib.wpList_append_own_string _ rfl _ _ 57 9 rfl B 5 i0 Tryz.underlying57 Tryz.underlying9 hi hz0 hz1 hz2 _ _ _ rfl hown s rfl ?c3 ?c4 ?c5 ?_)
  case c3 => unfold maxLen; omega
  case c4 => omega
  case c5 => have := hb1.size; omega
  intro v' w2 hown' hgrow _
  have hlt : b < w1.heap.size := by
    rcases Nat.lt_or_ge b w1.heap.size with h' | h'
    · exact h'
    · simp [Array.getElem?_eq_none h'] at hbk
  have hb2 : w2.heap[b]? = some (.cells #[.pointer (some ⟨b, 0, none⟩), v] 75 (0, 0)) := by
    rw [hgrow.block b hlt (fun e => hne e.symm)]
    exact hbk
  have d0 : w2.cell? ⟨b, 0, none⟩ = some (.pointer (some ⟨b, 0, none⟩)) := by rw [Lib.cell_of_heap hb2]; rfl
  have d1 : w2.cell? ⟨b, 1, none⟩ = some v := by rw [Lib.cell_of_heap hb2]; rfl
  have f1 : w2.frozen? ⟨b, 1, none⟩ = false := Lib.frozen_of_heap hb2 1
  obtain ⟨ao, n', cap, rfl⟩ : ∃ ao n' cap, v' = .slice ao n' cap := by
    rcases hown'.2 with ⟨hv, _⟩ | ⟨g, cap, cur, hv, _⟩
    · exact ⟨_, _, _, hv⟩
    · exact ⟨_, _, _, hv⟩
  have hk2 : KeepW b w w2 := hk1.trans ⟨hgrow.size, fun k o hk ho hn => by
    refine (hgrow.block k (Array.getElem?_eq_some_iff.1 ho).1 (fun e => ?_)).trans ho
    rcases hown.2 with ⟨hv, _⟩ | ⟨g, cap, cur, hv, _, hg, _⟩
    · rw [hv] at e; cases e
    · rw [hv] at e
      simp only [Value.ownBlock, Option.some.injEq] at e
      subst e
      rw [hg] at ho
      injection ho with ho
      exact hn _ ho.symm⟩
  replace hk2 := Lib.hid hk2
  go_wp2
  go_ret2
  refine ⟨rfl, ⟨?_, ?_⟩, hk2.out.setCell _ _⟩
  · exact Lib.BuilderAt.put (T := 75) (e := 5) hB hb2 (bs' := bs ++ Lib.strCells s) (by simpa [Lib.strCells_length] using hown') (by decide)
  · exact (hb1.grown hgrow (by have := hb1.size; omega) (fun k hk => (hown.lt k hk).1)).setCell (p := ⟨b, 1, none⟩) hB _

theorem keepW_freeze {b B g : Nat} {w : World} {cur : Array Value} (hg : w.heap[g]? = some (.cells cur 5 (0, 0))) (n : Nat) (hB : B ≤ g) : KeepW b w (w.freeze ⟨g, 0, none⟩ n) ∧ Below B w (w.freeze ⟨g, 0, none⟩ n) := by
  refine ⟨?_, Lib.below_freeze (Below.refl B w) (p := ⟨g, 0, none⟩) hB n⟩
  unfold World.freeze
  split
  · exact KeepW.of_below (Below.refl _ w)
  · refine ⟨by simp, fun k o _ ho hn => ?_⟩
    by_cases e : g = k
    · subst e
      rw [hg] at ho
      injection ho with ho
      exact absurd ho.symm (hn cur)
    · simp only [Array.getElem?_modify]
      rw [if_neg (by simpa using e)]
      exact ho
theorem KeepW.drew {b : Nat} {w w' : World} (h : KeepW b w.drew w') : KeepW b w w' := h

set_option maxHeartbeats 2000000 in
set_option maxRecDepth 100000 in
theorem String_nil (b : Nat) (p : Value) (w : World) (hbk : w.heap[b]? = some (.cells #[p, .slice none 0 0] 75 (0, 0))) :
    Calls Tryz.prog 28 #[.pointer (some ⟨b, 0, none⟩)] w fun e w' => e = .returned (.string (str [])) ∧ w' = w.drew := by
  have hUS : ∀ W : World, (Builtin.unsafeString_ #[152, 3] 9 #[.pointer none, .int .i64 0]).run Tryz.prog W = .ok (.string .empty) W := fun W => Lib.run_unsafeString_none W _ _ _ none
  have c1 : w.drew.cell? ⟨b, 1, none⟩ = some (.slice none 0 0) := by
    have : w.drew.heap[b]? = some (.cells #[p, .slice none 0 0] 75 (0, 0)) := hbk
    rw [Lib.cell_of_heap this]; rfl
  have hSD : (Builtin.unsafeSliceData_ #[57] 152 #[.slice none 0 0]).run Tryz.prog w.drew = .ok (.pointer none) w.drew := rfl
  go_enter Tryz.func28, Tryz.ntmps28
  go_wp2
  go_region
  all_goals (go_wp2; go_ret; exact ⟨rfl, rfl⟩)

set_option maxHeartbeats 2000000 in
set_option maxRecDepth 100000 in
theorem String_some (B b : Nat) (l : List UInt8) (w : World) (h : Lib.IsBuilder 75 5 B b (Lib.byteCells l) w) (h0 : l ≠ []) :
    Calls Tryz.prog 28 #[.pointer (some ⟨b, 0, none⟩)] w fun e w' => e = .returned (.string (str l)) ∧ KeepW b w w' ∧ Below B w w' := by
  obtain ⟨p, hB, v, hbk, hown, hne⟩ : ∃ p, Lib.BuilderAt 75 5 B b p (Lib.byteCells l) w := by
    rcases h with h | h
    · exact ⟨_, h⟩
    · exact ⟨_, h⟩
  have hl0 : l.length ≠ 0 := by simpa using h0
  rw [Lib.byteCells_length] at hown
  obtain ⟨g, cap, cur, rfl, hbg, hg, hnc, hcm, hcs, htake⟩ : ∃ g cap cur, v = .slice (some ⟨g, 0, none⟩) l.length cap ∧ B ≤ g ∧ w.heap[g]? = some (.cells cur 5 (0, 0)) ∧ l.length ≤ cap ∧ cap ≤ maxLen ∧ cur.size = cap * 1 ∧ cur.toList.take (l.length * 1) = Lib.byteCells l := by
    rcases hown.2 with ⟨_, hz⟩ | ⟨g, cap, cur, hv, r⟩
    · exact absurd hz hl0
    · exact ⟨g, cap, cur, hv, r⟩
  have c1 : w.drew.cell? ⟨b, 1, none⟩ = some (.slice (some ⟨g, 0, none⟩) l.length cap) := by
    have : w.drew.heap[b]? = some (.cells #[p, .slice (some ⟨g, 0, none⟩) l.length cap] 75 (0, 0)) := hbk
    rw [Lib.cell_of_heap this]; rfl
  have hSD : (Builtin.unsafeSliceData_ #[57] 152 #[.slice (some ⟨g, 0, none⟩) l.length cap]).run Tryz.prog w.drew = .ok (.pointer (some ⟨g, 0, none⟩)) w.drew :=
    Lib.run_unsafeSliceData_row _ _ _ _ _ _ (by omega)
  have hUS : (Builtin.unsafeString_ #[152, 3] 9 #[.pointer (some ⟨g, 0, none⟩), .int .i64 l.length]).run Tryz.prog w.drew = .ok (.string (str l)) (w.drew.freeze ⟨g, 0, none⟩ l.length) := by
    refine Lib.run_unsafeString_row w.drew 152 3 9 5 Tryz.underlying152 (by kernel_rfl) g cur.size (by have hg' : w.drew.heap[g]? = some (.cells cur 5 (0, 0)) := hg; simp [World.shape?, hg']) l h0 (by omega) (by unfold maxLen at hcm; omega) ?_
    intro j x hx
    have := hown.cells (g := g) rfl j (.int .u8 x.toNat) (by simp [Lib.byteCells, hx])
    exact this
  have hfz := keepW_freeze (b := b) (w := w.drew) hg l.length hbg
  replace hfz := Lib.hid hfz
  clear hown htake
  go_enter Tryz.func28, Tryz.ntmps28
  go_wp2
  go_region
  all_goals (go_wp2; go_ret; exact ⟨rfl, hfz.out.1.drew, (Below.drew (Below.refl B w)).trans hfz.out.2⟩)
end Go.Proofs.YtocpnlifmeffkaaGreatDoor
namespace Go.Proofs.YtocpnlifmeffkaaGreatDoor

section
variable {P : Program} {ops : Array Oper} {Q : Exit → Act → World → Prop} {md : Region.Mode} {lp n : Nat}

theorem upon_round {o : Oper} {a : Act} {K : Act → World → Prop} : ∀ r : Result Next, o.upon P a K Q r → o.uponIn (Fence.wide.inRound lp) n P a K Q r
  | .ok (.value _) _, h => h
  | .ok .skip _, h => h
  | .ok (.defer _) _, h => h
  | .ok (.enter _ _) _, h => ⟨fun e => by simp [Fence.wide] at e, CallsIn.inRound lp (callsIn_wide.2 h)⟩
  | .ok (.row _ _) _, h => ⟨fun e => by simp [Fence.wide] at e, fun c cs _ => by
      obtain ⟨v, w', r, s⟩ := h c cs
      exact ⟨v, w', r, stepsIn_wide.2 s⟩⟩
  | .ok (.round _ _ _ _ _) _, h => absurd h (by simp [Oper.upon])
  | .halt x _, h => by cases x <;> first | exact h | exact absurd h (by simp [Oper.upon])
theorem wp_round {o : Oper} {a : Act} {w : World} {K : Act → World → Prop} (hd : ∀ c, o.op ≠ .defer c) (h : o.wp P a w K Q) : o.wpIn (Fence.wide.inRound lp) n P a w K Q :=
  ⟨fun _ _ => trivial, by rw [Oper.semAt_eq _ _ _ hd]; exact upon_round _ h⟩
def noDefer (l : List Oper) : Bool := l.all fun o => match o.op with | .defer _ => false | _ => true
theorem noDefer_at {l : List Oper} (h : noDefer l = true) {i : Nat} {o : Oper} (hi : l.toArray[i]? = some o) : ∀ c, o.op ≠ .defer c := by
  intro c hc
  have hm : o ∈ l := by simpa using Array.mem_of_getElem? hi
  have := List.all_eq_true.1 h o hm
  rw [hc] at this
  exact absurd this (by simp)
theorem wpAny_round {l : List Oper} (hd : noDefer l = true) (hQ : ¬ LetsOut Q) : ∀ (fuel : Nat) (listed : Array Bool) (a : Act) (w : World),
    wpAny P md l.toArray Q fuel listed a w → wpAnyIn (Fence.wide.inRound lp) n P md l.toArray Q fuel listed a w
  | 0, _, _, _, h => h
  | fuel + 1, listed, a, w, h => ⟨h.1, fun i hi => by
      have h2 := h.2 i hi
      unfold wpOp at h2
      unfold wpOpIn
      cases ho : l.toArray[i]? with
      | none => rw [ho] at h2; exact wpAny_round hd hQ fuel _ _ _ h2
      | some o =>
        rw [ho] at h2
        dsimp only at h2 ⊢
        split
        · rename_i hw
          rw [if_pos hw] at h2
          rcases h2 with h2 | ⟨_, h2⟩
          · exact wp_round (noDefer_at hd ho) (Oper.wp_mono (fun a w h => wpAny_round hd hQ fuel _ a w h) h2)
          · exact absurd h2 hQ
        · rename_i hw
          rw [if_neg hw] at h2
          exact ⟨fun _ _ => trivial, wpAny_round hd hQ fuel _ _ _ h2⟩⟩
theorem wpIn_round_any {id : Nat} {l : List Oper} {a : Act} {w : World} (hm : P.follows .mixedOrders = true) (hd : noDefer l = true) (hQ : ¬ LetsOut Q)
    (h : wpAny P .any l.toArray Q l.toArray.size (Array.replicate l.toArray.size false) a { w with drawn := w.drawn + 1 }) : (Code.region id l.toArray true).wpIn (Fence.wide.inRound lp) n P Q a w :=
  wpIn_region_any hm (wpAny_round hd hQ _ _ _ _ h)
/-- Reads and quiet calls first, the rest in its order. -/
theorem wpIn_round_still_tail {id : Nat} {l : List Oper} {a : Act} {w : World} (k : Nat) (hm : P.follows .mixedOrders = true) (hB : Region.lexTailB .any l.toArray k = true) (hd : noDefer l = true) (hQ : ¬ LetsOut Q)
    (h : wpStill P l.toArray w.drew (fun a' => wpList P l.toArray Q (l.drop k) a' w.drew) (l.take k) a) : (Code.region id l.toArray true).wpIn (Fence.wide.inRound lp) n P Q a w := by
  simp only [Region.lexTailB, Bool.and_eq_true, decide_eq_true_eq] at hB
  obtain ⟨⟨⟨⟨hsel, hn⟩, hs⟩, hc⟩, hlex⟩ := hB
  have hn' : k < l.length := by simpa using hn
  have htl : (l.take k).length = k := by simp; omega
  have hdl : (l.drop k).length = l.toArray.size - k := by simp
  have inv0 : HeadInv .any l.toArray k (Array.replicate l.toArray.size false) :=
    ⟨by simp, fun j oj _ hl => (by rw [getD_replicate_false] at hl; cases hl), fun t _ ht => getD_in (by simpa using ht) (getD_replicate_false _ _)⟩
  have H := wpAnyL_lex (md := .any) (g := l.toArray.size - k) hsel hs hc hn (l.take k) 0 _ a (fun j hj => by
    have hj' : j < k := by rw [htl] at hj; exact hj
    simp [hj']) (by simpa using htl) inv0 (by rw [htl]; exact hlex) h
  refine wpIn_round_any hm hd hQ ?_
  have := wpAny_of_head (Q' := Q) (g := l.toArray.size - k) (fun listed a' hL => by
    have := wpAny_of_seq (md := .any) (Q' := Q) (l.drop k) k listed a' w.drew (fun j => by simp [List.getElem?_drop]) (by rw [hdl]; exact hL.1) hL.2
    rwa [hdl] at this) _ _ _ H
  rw [htl, show k + (l.toArray.size - k) = l.toArray.size by omega] at this
  exact this
/-- The region by hand, with what is held. -/
theorem wpIn_round_held_drew {id : Nat} {l : List Oper} {S : World → Prop} {a : Act} {w : World} (hm : P.follows .mixedOrders = true) (hd : noDefer l = true) (hQ : ¬ LetsOut Q) (hS : S w.drew)
    (h : S w.drew → wpAnyH P .any l.toArray Q S l.toArray.size (Array.replicate l.toArray.size false) a w.drew) : (Code.region id l.toArray true).wpIn (Fence.wide.inRound lp) n P Q a w :=
  wpIn_round_any hm hd hQ (wpAny_of_held _ _ _ _ (h hS))
end
end Go.Proofs.YtocpnlifmeffkaaGreatDoor
namespace Go.Proofs.YtocpnlifmeffkaaGreatDoor
open Go.RowKit Go.Shelf

attribute [local go_sem] Oper.semAt_some

/-- Two blocks lie as they lay. -/
def KeepB (b1 b2 : Nat) (W W' : World) : Prop := W'.heap[b1]? = W.heap[b1]? ∧ W'.heap[b2]? = W.heap[b2]?
theorem keepB_t {b1 b2 : Nat} {A B C : World} (h : KeepB b1 b2 A B) (k : KeepB b1 b2 B C) : KeepB b1 b2 A C := ⟨k.1.trans h.1, k.2.trans h.2⟩
theorem keepB_b {b1 b2 : Nat} {w : World} (h1 : b1 < w.heap.size) (h2 : b2 < w.heap.size) (W : World) (l : Nat) (o o' : Obj) (hl : w.heap.size ≤ l) (_ : W.heap[l]? = some o) (_ : o.isCells = false) (_ : o.isWalk = false) : KeepB b1 b2 W (W.putObj l o') :=
  ⟨World.putObj_heap_other (by omega), World.putObj_heap_other (by omega)⟩
theorem KeepB.cell1 {b1 b2 o : Nat} {W W' : World} (h : KeepB b1 b2 W W') : W'.cell? ⟨b1, o, none⟩ = W.cell? ⟨b1, o, none⟩ := World.cell?_of_block (a := ⟨b1, o, none⟩) h.1
theorem KeepB.cell2 {b1 b2 o : Nat} {W W' : World} (h : KeepB b1 b2 W W') : W'.cell? ⟨b2, o, none⟩ = W.cell? ⟨b2, o, none⟩ := World.cell?_of_block (a := ⟨b2, o, none⟩) h.2
/-- The first k of the numbers below K. -/
def upk (K k : Nat) : List (Fin K) := (List.finRange K).take k
theorem upk_succ (K k : Nat) (h : k < K) : upk K (k + 1) = upk K k ++ [⟨k, h⟩] := by
  unfold upk
  rw [List.take_succ_eq_append_getElem (by simpa using h)]
  simp
theorem upk_len (K k : Nat) (h : k ≤ K) : (upk K k).length = k := by simp [upk]; omega
theorem upk_prefix (K k : Nat) : upk K k <+: List.finRange K := List.take_prefix _ _
theorem upk_all (K : Nat) : upk K K = List.finRange K := by
  unfold upk; exact List.take_of_length_le (by simp)

set_option maxHeartbeats 1000000 in
theorem chunk1_stops (m b cap bs bn K : Nat) (w : World) (hK : K ≤ 10000) (hcap : 2 * K ≤ cap) (hcap2 : cap ≤ maxLen) (hbs : bs < w.heap.size) (hbn : bn < w.heap.size)
    (hs : w.cell? ⟨bs, 0, none⟩ = some (.slice (some ⟨b, 0, none⟩) (2 * K) cap)) (hn : w.cell? ⟨bn, 0, none⟩ = some (.int .i64 2)) :
    SeqStopsK Fence.wide m Tryz.prog 64 #[.pointer (some ⟨bs, 0, none⟩), .pointer (some ⟨bn, 0, none⟩)] (fun x : Fin K => #[.slice (some ⟨b, 2 * x.1, none⟩) 2 2]) (KeepB bs bn) (fun xs => xs = List.finRange K) (fun pre => pre <+: List.finRange K) K w := by
  intro l J Jx W hW hJa hJxa hY h0
  have hsW : W.cell? ⟨bs, 0, none⟩ = some (.slice (some ⟨b, 0, none⟩) (2 * K) cap) := (hW.cell (p := ⟨bs, 0, none⟩) hbs).trans hs
  have hnW : W.cell? ⟨bn, 0, none⟩ = some (.int .i64 2) := (hW.cell (p := ⟨bn, 0, none⟩) hbn).trans hn
  have hdr : ∀ pre (W1 : World), J pre W1 → J pre W1.drew := fun pre W1 h => hJa pre W1 _ none h ⟨rfl, rfl, rfl, Nat.le_refl _, fun _ _ _ => rfl⟩ (fun r e => by cases e)
  unfold maxLen at hcap2
  clear hW hs hn hbs hbn hJa hJxa
  refine callsIn_of_wp Tryz.func64 rfl trivial ?_ rfl
  simp only [Tryz.ntmps64, List.size_toArray, List.length_cons, List.length_nil, Nat.reduceAdd, Nat.reduceSub, Array.replicate_succ, Array.replicate_zero, List.push_toArray, List.append_toArray, List.nil_append, List.cons_append]
  gi_wp2
  gi_loopw [4] (fun i wr => ∃ k : Nat, k ≤ K ∧ i = .int .i64 ((2 * k : Nat) : Int) ∧ wr.cell? ⟨bs, 0, none⟩ = some (.slice (some ⟨b, 0, none⟩) (2 * K) cap) ∧ wr.cell? ⟨bn, 0, none⟩ = some (.int .i64 2) ∧ J (upk K k) wr) (fun i _ => 2 * K - (intOf i).toNat)
  case atStart => exact ⟨0, Nat.zero_le _, rfl, hsW, hnW, h0⟩
  case round =>
    obtain ⟨k, hk, rfl, hcs, hcn, hJ⟩ := hrel
    clear hsW hnW
    by_cases hlt : k < K
    · have hlt' : 2 * k < 2 * K := by omega
      have hd : decide (2 * k < 2 * K) = true := by simp; omega
      have hmin : min (2 : Int) ((2 * K - 2 * k : Nat) : Int) = 2 := by omega
      have htn : (2 * (k : Int) + 2).toNat - 2 * k = 2 := by omega
      obtain ⟨fn, tmps, assign, body, hy, hR⟩ := hY (upk K k) ⟨k, by omega⟩ wr.drew (hdr _ _ hJ) (by rw [upk_len _ _ hk]; omega)
      rw [← upk_succ K k (by omega)] at hR
      dsimp only at hy
      gi_wp2
      gi_region
      gi_wp2
      refine ⟨fun h => by simp [Fence.wide] at h, hR.mono ?_⟩
      clear hR hy hdr
      rintro e W3 (⟨rfl, hJ3, hk3⟩ | ⟨rfl, hJx3⟩)
      · have hcs3 : W3.cell? ⟨bs, 0, none⟩ = some (.slice (some ⟨b, 0, none⟩) (2 * K) cap) := hk3.cell1.trans hcs
        have hcn3 : W3.cell? ⟨bn, 0, none⟩ = some (.int .i64 2) := hk3.cell2.trans hcn
        gi_wp2
        go_roundw
        case rel => exact ⟨k + 1, by omega, by go_num, hcs3, hcn3, hJ3⟩
        case measure => simp [intOf]; omega
      · gi_wp2
        refine bodyPost_ret (results_none rfl _ _ _) rfl ?_
        exact ⟨⟨_, rfl⟩, .inr ⟨upk K (k + 1), upk_prefix _ _, hJx3⟩⟩
    · have hd : decide (2 * k < 2 * K) = false := by simp; omega
      obtain rfl : k = K := by omega
      gi_wp2
      go_end0
      exact ⟨⟨_, rfl⟩, .inl ⟨_, rfl, by rw [← upk_all]; exact hJ⟩⟩

set_option maxHeartbeats 400000 in
theorem Chunk_any (b n cap : Nat) (w : World) :
    Calls Tryz.prog 25 #[.slice (some ⟨b, 0, none⟩) n cap, .int .i64 2] w fun e w' => e = .returned (.func (.func 64) #[] #[.pointer (some ⟨w.heap.size, 0, none⟩), .pointer (some ⟨w.heap.size + 1, 0, none⟩)]) ∧ Arr w' w.heap.size 57 [.slice (some ⟨b, 0, none⟩) n cap] ∧ Arr w' (w.heap.size + 1) 3 [.int .i64 2] ∧ Below w.heap.size w w' := by
  have hmf : ∀ (fn : Fn) (first cap : Array Value) (w : World), (Instr.makeFunc fn first cap).run Tryz.prog w = .ok (.func fn first cap) w := fun _ _ _ _ => rfl
  go_enter Tryz.func25, Tryz.ntmps25
  go_wp2
  go_ret
  exact ⟨rfl, (Arr.new rfl rfl).alloc _, Arr.new rfl (by simp), (by repeat first | with_reducible exact Below.refl _ _ | with_reducible assumption | with_reducible refine below_drewN ?_ _ | with_reducible refine Below.drew ?_ | with_reducible refine Below.setCell ?_ (by first | exact Nat.le_refl _ | (simp; done) | (simp; omega) | omega) _ | with_reducible refine Below.alloc ?_ (by first | exact Nat.le_refl _ | (simp; done) | (simp; omega) | omega) _ | exact Below.refl _ _ | assumption)⟩
end Go.Proofs.YtocpnlifmeffkaaGreatDoor
namespace Go.Proofs.YtocpnlifmeffkaaGreatDoor
open Go.RowKit Go.Shelf

attribute [local go_sem] Oper.semAt_some

def byteAt (p : List UInt8) (j : Nat) : Nat := (p.getD j 0).toNat
/-- The lines of some pairs of bytes. -/
def linesOf (p : List UInt8) (xs : List Nat) : List UInt8 := xs.flatMap fun x => lineB (byteAt p (2 * x)) (byteAt p (2 * x + 1)) ++ [10]
theorem linesOf_snoc (p : List UInt8) (xs : List Nat) (x : Nat) : linesOf p (xs ++ [x]) = linesOf p xs ++ (lineB (byteAt p (2 * x)) (byteAt p (2 * x + 1)) ++ [10]) := by simp [linesOf]
theorem linesOf_range : ∀ (K : Nat) (p : List UInt8), p.length = 2 * K → linesOf p (List.range K) = printB p
  | 0, p, h => by
    have : p = [] := List.length_eq_zero_iff.1 (by omega)
    subst this; rfl
  | K + 1, p, h => by
    match p, h with
    | a :: b :: r, h =>
      have ih := linesOf_range K r (by simp at h; omega)
      rw [List.range_succ_eq_map, printB, ← ih]
      simp only [linesOf, List.flatMap_cons, List.flatMap_map, Nat.mul_zero, Nat.zero_add]
      have e : ∀ x, byteAt (a :: b :: r) (2 * (x + 1)) = byteAt r (2 * x) := fun x => by simp [byteAt, show 2 * (x + 1) = 2 * x + 2 from by omega]
      have e' : ∀ x, byteAt (a :: b :: r) (2 * (x + 1) + 1) = byteAt r (2 * x + 1) := fun x => by simp [byteAt, show 2 * (x + 1) + 1 = 2 * x + 1 + 2 from by omega]
      simp only [Nat.succ_eq_add_one, e, e']
      simp [byteAt]
theorem byteAt_lt (p : List UInt8) (j : Nat) : byteAt p j < 256 := (p.getD j 0).toNat_lt
theorem map_finRangeK (K : Nat) : (List.finRange K).map (·.1) = List.range K := by
  apply List.ext_getElem <;> simp
theorem linesOf_len (p : List UInt8) (xs : List Nat) : (linesOf p xs).length ≤ 12 * xs.length := by
  induction xs with
  | nil => simp [linesOf]
  | cons x xs ih =>
    have := lineB_len (byteAt_lt p (2 * x)) (byteAt_lt p (2 * x + 1))
    simp [linesOf] at ih ⊢; omega

theorem linesOf_ne (p : List UInt8) {K : Nat} (h : K ≠ 0) : linesOf p (List.range K) ≠ [] := by
  obtain ⟨k, rfl⟩ : ∃ k, K = k + 1 := ⟨K - 1, by omega⟩
  rw [List.range_succ, linesOf_snoc]
  simp
theorem isBuilder_kept {T e : TypeId} {B b : Nat} {bs : List Value} {W W' : World} {row : Option Nat} (h : Lib.IsBuilder T e B b bs W) (hg : W.grownBy W' row) (hr : ∀ r, row = some r → ∃ o : Obj, W.heap[r]? = some o ∧ o.isCells = false) : Lib.IsBuilder T e B b bs W' := by
  have key : ∀ p, Lib.BuilderAt T e B b p bs W → Lib.BuilderAt T e B b p bs W' := by
    rintro p ⟨hB, v, hb, hown, hne⟩
    refine ⟨hB, v, (hg.block b (Array.getElem?_eq_some_iff.1 hb).1 (fun e' => ?_)).trans hb, hown.kept hg ?_, hne⟩
    · obtain ⟨o, ho, hc⟩ := hr b e'.symm
      rw [hb] at ho; injection ho with ho; subst ho; cases hc
    · rcases hown.2 with ⟨rfl, _⟩ | ⟨g, cap, cur, rfl, _, hgg, _⟩
      · exact .inl rfl
      · refine .inr (fun e' => ?_)
        obtain ⟨o, ho, hc⟩ := hr g e'.symm
        rw [hgg] at ho; injection ho with ho; subst ho; cases hc
  exact h.imp (key _) (key _)
theorem isBuilder_below {T e : TypeId} {B b : Nat} {bs : List Value} {W W' : World} (h : Lib.IsBuilder T e B b bs W) (hb : Below W.heap.size W W') : Lib.IsBuilder T e B b bs W' :=
  isBuilder_kept (row := none) h ⟨hb.os, hb.tape, hb.output, hb.size, fun k hk _ => hb.block k hk⟩ (fun r e => by cases e)
theorem isBuilder_heap {T e : TypeId} {B b : Nat} {bs : List Value} {W : World} (h : Lib.IsBuilder T e B b bs W) : ∃ cs, W.heap[b]? = some (.cells cs T (0, 0)) := by
  rcases h with ⟨_, v, hb, _⟩ | ⟨_, v, hb, _⟩ <;> exact ⟨_, hb⟩

theorem arr_kept {W W' : World} {row : Option Nat} {B : Nat} {T : TypeId} {L : List Value} (h : Arr W B T L) (hg : W.grownBy W' row) (hr : ∀ r, row = some r → ∃ o : Obj, W.heap[r]? = some o ∧ o.isCells = false) : Arr W' B T L := by
  refine (hg.block B h.lt (fun e => ?_)).trans h
  obtain ⟨o, ho, hc⟩ := hr B e.symm
  rw [h] at ho; injection ho with ho; subst ho; cases hc

set_option maxRecDepth 100000 in
set_option maxHeartbeats 2000000 in
theorem Print_in (p : ByteArray) (K : Nat) (w : World) (hp : p.size = 2 * K) (hKm : K ≤ 128) (hE : Env w) :
    CallsIn Fence.wide 3 Tryz.prog 9 #[.string p] w fun e W' => e = .returned (.tuple #[.string (str (printB p.data.toList)), .int .i64 0]) ∧ Below w.heap.size w W' := by
  have hB : Below w.heap.size w w := Below.refl _ _
  have hcv := fun (W : World) => Lib.run_convert_string_bytes (P := Tryz.prog) W 9 57 5 p Tryz.underlying9 Tryz.underlying57 Tryz.underlying5
  have hV := Valid_any p ByteArray.empty
  rw [show progOk p.data.toList ByteArray.empty.data.toList = true by simp [progOk]; omega] at hV
  replace hV := Lib.hid hV
  refine callsIn_of_wp_marks Tryz.func9 rfl trivial ?_ rfl
  simp only [Tryz.ntmps9, List.size_toArray, List.length_cons, List.length_nil, Nat.reduceAdd, Nat.reduceSub, Array.replicate_succ, Array.replicate_zero, List.push_toArray, List.append_toArray, List.nil_append, List.cons_append]
  gi_wp2_with (fail)
  refine ⟨trivial, (callsIn_wide.2 (hV.out _)).mono ?_⟩
  rintro e w1 ⟨rfl, q1, rfl⟩
  gi_wp2_with (fail)
  obtain ⟨W1, hW1⟩ : ∃ W1, W1 = (w.drewN q1).alloc (.cells #[.pointer none, .slice none 0 0] 75) := ⟨_, rfl⟩
  have hs1 : W1.heap.size = w.heap.size + 1 := by rw [hW1]; simp
  have hb1 : W1.heap[w.heap.size]? = some (.cells #[.pointer none, .slice none 0 0] 75 (0, 0)) := by rw [hW1]; exact World.alloc_heap_new (w.drewN q1) _
  have hB1 : Below w.heap.size w W1 := by rw [hW1]; exact (below_drewN (Below.refl _ w) q1).alloc (Nat.le_refl _) _
  rw [← hW1]
  clear hW1
  have hbuf := buf_of_string W1 5 p (by omega)
  have hrow := Lib.bytesWorld_at_new W1 5 p
  have hb2 := (Lib.bytesWorld_at_old W1 5 p w.heap.size (by omega)).trans hb1
  have hB2 : Below w.heap.size w (Lib.bytesWorld W1 5 p) := hB1.trans ⟨rfl, rfl, rfl, by rw [Lib.bytesWorld_size]; omega, fun k hk => Lib.bytesWorld_at_old W1 5 p k (by omega)⟩
  have hcell := fun j (hj : j < 2 * K) => Lib.bytesWorld_cell W1 5 p j (by omega)
  obtain ⟨cap', hcap', hc1, hc2⟩ := hbuf.val
  rw [hs1] at hrow hcell
  rw [hp] at hcap'
  injection hcap' with ha hl hcap'
  clear ha hl
  rw [hcap']
  have hc1' : 2 * K ≤ cap' := by simpa [hp] using hc1
  obtain ⟨R, hR⟩ : ∃ R, R = Obj.cells (Lib.bytesCells W1 5 p) 5 ((Lib.bytesCells W1 5 p).size, (Lib.bytesCells W1 5 p).size + 1) := ⟨_, rfl⟩
  have hRn : ∀ cs, R ≠ .cells cs 5 (0, 0) := by
    intro cs e
    rw [hR] at e
    injection e with _ _ e
    injection e with _ e
    omega
  have hRc : R.isCells = true := by rw [hR]; rfl
  rw [← hR] at hrow
  clear hR
  generalize Lib.bytesWorld W1 5 p = W2 at *
  clear hbuf hb1 hB1 hs1 hcap' hc1 hcv
  refine ⟨trivial, (callsIn_wide.2 (Chunk_any (w.heap.size + 1) (2 * K) cap' W2)).mono ?_⟩
  rintro e w3 ⟨rfl, mA, mN, hb3⟩
  have hlt0 := (Array.getElem?_eq_some_iff.1 hb2).1
  have hlt0' := (Array.getElem?_eq_some_iff.1 hrow).1
  have hbk := (hb3.block _ hlt0).trans hb2
  have hrw := (hb3.block _ hlt0').trans hrow
  have hB3 := hB2.trans (hb3.mono hB2.size)
  have hc3 : ∀ (W : World), W.heap[w.heap.size + 1]? = some R → ∀ j, j < 2 * K → W.cell? ⟨w.heap.size + 1, j, none⟩ = some (.int .u8 (byteAt p.data.toList j : Nat)) := fun W hW j hj =>
    (World.cell?_of_block (a := ⟨w.heap.size + 1, j, none⟩) (hW.trans hrow.symm)).trans (hcell j hj)
  have hlt1 := mA.lt
  have hlt2 := mN.lt
  have hbig : w.heap.size + 1 < W2.heap.size := hlt0'
  have hIB : Lib.IsBuilder 75 5 w.heap.size w.heap.size (Lib.byteCells (linesOf p.data.toList [])) w3 := .inl ⟨Nat.le_refl _, _, hbk, World.ownsRow_nil _ _ _ _, by simp [Value.ownBlock]⟩
  have hpl : p.data.toList.length = 2 * K := by simpa using hp
  have hfin := linesOf_range K p.data.toList hpl
  generalize hpl0 : p.data.toList = pl at *
  replace hpl0 := Lib.hid hpl0
  replace hc3 := Lib.hid hc3
  replace hcell := Lib.hid hcell
  replace hfin := Lib.hid hfin
  replace hp := Lib.hid hp
  replace hpl := Lib.hid hpl
  clear hb2 hrow hB2 hb3
  gi_wp2_with (fail)
  refine wpIn_rangeFunc_ownF rfl (by omega) (gf := 64) (lb := #[.pointer (some ⟨W2.heap.size, 0, none⟩), .pointer (some ⟨W2.heap.size + 1, 0, none⟩)]) rfl trivial (enters_of Tryz.func64 (by kernel_rfl) rfl)
    (chunk1_stops _ (w.heap.size + 1) cap' W2.heap.size (W2.heap.size + 1) K w3 (by omega) hc1' hc2 hlt1 hlt2 (mA.cell rfl) (mN.cell rfl)) keepB_t (keepB_b hlt1 hlt2) (Below.refl _ _) (fun _ => rfl)
    (fun pre W => (Lib.IsBuilder 75 5 w.heap.size w.heap.size (Lib.byteCells (linesOf pl (pre.map (·.1)))) W ∧ W.heap[w.heap.size + 1]? = some R ∧ Arr W W2.heap.size 57 [.slice (some ⟨w.heap.size + 1, 0, none⟩) (2 * K) cap'] ∧ Arr W (W2.heap.size + 1) 3 [.int .i64 2] ∧ (pre = [] → Arr W w.heap.size 75 [.pointer none, .slice none 0 0])) ∧ Below w.heap.size w W)
    (fun _ _ _ => False)
    (OwnFrom.and (Own.from (fun _ _ _ _ ⟨h1, h2, h3, h4, h5⟩ hg hr => ⟨isBuilder_kept h1 hg hr, (hg.block _ (Array.getElem?_eq_some_iff.1 h2).1 (fun e => by
      obtain ⟨o, ho, hc⟩ := hr _ e.symm
      rw [h2] at ho; injection ho with ho; subst ho; rw [hRc] at hc; cases hc)).trans h2, arr_kept h3 hg hr, arr_kept h4 hg hr, fun e => arr_kept (h5 e) hg hr⟩) _) (ownFrom_below (Nat.le_refl _) (by omega)))
    (fun _ _ _ _ _ hs _ _ => hs)
    ⟨⟨hIB, hrw, mA, mN, fun _ => hbk⟩, hB3⟩
    ?a1 ?assign ?body ?done ?stop
  case assign =>
    intro l x W K hK
    gi_wp2
    exact hK
  case body =>
    rintro l pre x W ⟨⟨hI, hRW, mA, mN, _⟩, hB⟩ hlt
    have hx := x.2
    have cA := hc3.out W hRW (2 * x.1) (by omega)
    have cB := hc3.out W hRW (2 * x.1 + 1) (by omega)
    have hoA := byteAt_lt pl (2 * x.1)
    have hoB := byteAt_lt pl (2 * x.1 + 1)
    have hsn := linesOf_snoc pl (pre.map (·.1)) x.1
    have hllen := linesOf_len pl (pre.map (·.1))
    have hlnl := lineB_len hoA hoB
    rw [List.length_map] at hllen
    replace hE := hE.below hB
    gi_wp2
    refine wpIn_round_still_tail 6 (by kernel_rfl) (by kernel_rfl) (by kernel_rfl) ?hQ ?_
    case hQ => rintro ⟨a, w, h⟩; exact h
    simp only [List.take_succ_cons, List.take_zero, List.drop_succ_cons, List.drop_zero]
    repeat still_step
    refine wpStill_nil ?_
    have hd : Below W.heap.size W W.drew := (Below.refl _ _).drew
    have hkd : KeepW w.heap.size W W.drew := KeepW.of_below hd
    have hbk2 := isBuilder_heap hI
    replace hI := isBuilder_below hI hd
    replace hE := hE.below hd
    have hBd := hB.trans (hd.mono hB.size)
    have hadd := add_str (lineB (byteAt pl (2 * x.1)) (byteAt pl (2 * x.1 + 1))) [10] (by simp only [List.length_cons, List.length_nil]; omega)
    rw [show str [10] = ⟨#[10]⟩ from rfl] at hadd
    have hL := fun (W : World) hE => line_any (byteAt pl (2 * x.1)) (byteAt pl (2 * x.1 + 1)) hoA hoB W hE
    have hws : (Lib.byteCells (linesOf pl (pre.map (·.1)))).length + (str (lineB (byteAt pl (2 * x.1)) (byteAt pl (2 * x.1 + 1)) ++ [10])).size ≤ 140737488355328 := by
      rw [Lib.byteCells_length, str_size]
      simp only [List.length_append, List.length_cons, List.length_nil]
      omega
    have hcs : Lib.byteCells (linesOf pl (pre.map (·.1))) ++ Lib.strCells (str (lineB (byteAt pl (2 * x.1)) (byteAt pl (2 * x.1 + 1)) ++ [10])) = Lib.byteCells (linesOf pl ((pre ++ [x]).map (·.1))) := by
      rw [List.map_append, List.map_cons, List.map_nil, hsn]
      simp [Lib.byteCells, Lib.strCells, str]
    generalize lineB (byteAt pl (2 * x.1)) (byteAt pl (2 * x.1 + 1)) = ln at *
    generalize byteAt pl (2 * x.1) = oA at *
    generalize byteAt pl (2 * x.1 + 1) = oB at *
    replace hL := Lib.hid hL
    replace hcs := Lib.hid hcs
    clear hsn hllen hlnl cA cB
    change wpList _ _ _ _ _ W.drew
    generalize W.drew = Wd at *
    go_wp2_with (fail)
    refine (hL.out Wd hE).mono ?_
    rintro e W4 ⟨rfl, hb4⟩
    have hI4 := isBuilder_below hI hb4
    have hB4 := hBd.trans (hb4.mono hBd.size)
    have hk4 := hkd.trans (KeepW.of_below hb4)
    clear hI hE hBd hkd hd hb4
    go_wp2_with (fail)
    refine (WriteString_any w.heap.size w.heap.size _ (str (ln ++ [10])) W4 hI4 hws hB4.size).mono ?_
    rintro e W5 ⟨rfl, ⟨hI5, hb5⟩, hk5⟩
    rw [hcs.out] at hI5
    have hk6 := hk4.trans hk5
    obtain ⟨bcs, hbk2⟩ := hbk2
    go_wp2_with (fail)
    gi_wp2_with (fail)
    have nA : Arr W5 W2.heap.size 57 [.slice (some ⟨w.heap.size + 1, 0, none⟩) (2 * K) cap'] := hk6.arr mA (by omega) (by decide)
    have nN : Arr W5 (W2.heap.size + 1) 3 [.int .i64 2] := hk6.arr mN (by omega) (by decide)
    exact ⟨hk6.others hbk2, ⟨nA.trans mA.symm, nN.trans mN.symm⟩, ⟨.inr hI5, hk6.2 _ _ (by omega) hRW hRn, nA, nN, fun e => absurd e (by simp)⟩, hB4.trans hb5⟩
  case done =>
    rintro D ys W hD rfl ⟨⟨hI, hRW, mA, mN, hpn⟩, hB⟩ hK
    rw [map_finRangeK] at hI
    have hDW := (Array.getElem?_eq_some_iff.1 hK).1
    have hDs : w.heap.size ≤ D := by have := hB3.size; omega
    by_cases hK0 : K = 0
    · subst hK0
      have hn := hpn (by simp)
      have hS := String_nil w.heap.size (.pointer none) W hn
      have hp0 : printB p.data.toList = [] := by rw [hpl0.out, ← hfin.out]; rfl
      replace hS := Lib.hid hS
      replace hp0 := Lib.hid hp0
      clear hn hpn hI
      gi_wp2_with (fail)
      refine ⟨trivial, (callsIn_wide.2 hS.out).mono ?_⟩
      rintro e W2 ⟨rfl, rfl⟩
      have hK2 : W.drew.heap[D]? = some (.deferred (some [])) := hK
      have hB2 := hB.drew
      gi_wp2_with (fail)
      refine ⟨by simp, .inl ⟨_, _, rfl, run_takeDeferred hK2, ?_⟩⟩
      exact ⟨.tuple #[.string (str []), .int .i64 0], by simp [results, Tryz.f9, go_sem], by rw [hp0.out], hB2.trans (belowK_b (w := w) (Nat.le_refl _) W.drew D _ _ hDs hK2 rfl rfl)⟩
    · have hne := linesOf_ne pl hK0
      have hp0 : printB p.data.toList = linesOf pl (List.range K) := by rw [hpl0.out, ← hfin.out]
      obtain ⟨bcs, hbc⟩ := isBuilder_heap hI
      have hS := String_some w.heap.size w.heap.size (linesOf pl (List.range K)) W hI hne
      generalize linesOf pl (List.range K) = ls at *
      replace hS := Lib.hid hS
      replace hp0 := Lib.hid hp0
      clear hpn hI
      gi_wp2_with (fail)
      refine ⟨trivial, (callsIn_wide.2 hS.out).mono ?_⟩
      rintro e W2 ⟨rfl, hk2, hb2⟩
      have hK2 : W2.heap[D]? = some (.deferred (some [])) := hk2.2 D _ (fun e => by subst e; rw [hbc] at hK; cases hK) hK (fun cs e => by cases e)
      have hB2 := hB.trans hb2
      gi_wp2_with (fail)
      refine ⟨by simp, .inl ⟨_, _, rfl, run_takeDeferred hK2, ?_⟩⟩
      exact ⟨.tuple #[.string (str ls), .int .i64 0], by simp [results, Tryz.f9, go_sem], by rw [hp0.out], hB2.trans (belowK_b (w := w) (Nat.le_refl _) W2 D _ _ hDs hK2 rfl rfl)⟩
  case stop =>
    rintro D c pre W _ _ h _
    exact h.elim

def printL (p : ByteArray) : List UInt8 := if progOk p.data.toList [] then printB p.data.toList else []
def printE (p : ByteArray) : Int := if progOk p.data.toList [] then 0 else 120
set_option maxHeartbeats 1000000 in
/-- P12.5: computer.Print. -/
theorem Print_any (p : ByteArray) (w : World) (hE : Env w) :
    Calls Tryz.prog 9 #[.string p] w fun e W' => e = .returned (.tuple #[.string (str (printL p)), .int .i64 (printE p)]) ∧ Below w.heap.size w W' := by
  unfold printL printE
  cases hq : progOk p.data.toList [] with
  | true =>
    have h2 : p.size ≤ 256 ∧ p.size % 2 = 0 := by simpa [progOk] using hq
    exact callsIn_wide.1 (Print_in p (p.size / 2) w (by omega) (by omega) hE)
  | false =>
    have hV := Valid_any p ByteArray.empty
    rw [show progOk p.data.toList ByteArray.empty.data.toList = false from hq] at hV
    replace hV := Lib.hid hV
    clear hq
    go_enter Tryz.func9, Tryz.ntmps9
    go_wp2_with (go_at_call 20; refine (hV.out _).mono ?_; rintro e w1 ⟨rfl, q1, rfl⟩; have hb1 := below_drewN (Below.refl w.heap.size w) q1)
    go_ret2
    exact ⟨rfl, hb1⟩
end Go.Proofs.YtocpnlifmeffkaaGreatDoor
