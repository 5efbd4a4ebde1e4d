/-
  The contract of verified.
  The methods of a machine that runs: pop, push, next.
  The contract of calculate.
-/
import Derived.Test.YtainohbfcehpoaaDoorMzE
namespace Go.Proofs.YtainohbfcehpoaaDoor
open Go.RowKit Go.Shelf

/-- What verified returns. -/
def VerPost (code : List UInt8) (w : World) (e : Ending) (w' : World) : Prop :=
  ((∃ l m g cap, formed code = some l ∧ Good l ∧ MostOf l m ∧ e = .returned (.tuple #[.slice (some ⟨g, 0, none⟩) l.length cap, .int .i64 (m : Int), .bool true]) ∧ w.heap.size ≤ g ∧ g < w'.heap.size ∧ l.length ≤ cap ∧ cap ≤ maxLen ∧ InsRow w' g 0 l (fun i => toOf l l[i]!)) ∨
   ((∀ l, formed code = some l → ¬ Good l) ∧ e = .returned (.tuple #[.slice none 0 0, .int .i64 0, .bool false]))) ∧ Below w.heap.size w w'
def negV : Value → Bool | .int _ z => decide (z < 0) | _ => false
def measW (dB b10 : Nat) (W : World) : Nat := 2 * (match W.heap[dB]? with | some (.cells cs _ _) => cs.toList.countP negV | _ => 0) + (match W.cell? ⟨b10, 0, none⟩ with | some (.slice _ n _) => n | _ => 0)
theorem VS.meas {b5 b7 b10 g cap dB n : Nat} {ds : List Int} {td : List Nat} {W : World} (h : VS b5 b7 b10 g cap dB n ds td W) : measW dB b10 W = mu ds td := by
  obtain ⟨v, h1, h2⟩ := h.tod
  obtain ⟨a, c, rfl⟩ := own_val h2
  have hr := h.row
  unfold Arr at hr
  unfold measW mu negC
  rw [hr, h1.cell]
  dsimp only
  congr 2
  rw [intC, List.countP_map]
  rfl
set_option maxRecDepth 100000 in
theorem neq_ops (o p : Nat) (ho : o < 12) (hp : p = 7 ∨ p = 11) (w : World) : (binOp .neq 75 (.agg (opVals o).toArray) (.agg (opVals p).toArray)).run Tryd.prog w = .ok (.bool (decide (o ≠ p))) w := by
  have h12 : o = 0 ∨ o = 1 ∨ o = 2 ∨ o = 3 ∨ o = 4 ∨ o = 5 ∨ o = 6 ∨ o = 7 ∨ o = 8 ∨ o = 9 ∨ o = 10 ∨ o = 11 := by omega
  rcases hp with rfl | rfl <;> rcases h12 with rfl | rfl | rfl | rfl | rfl | rfl | rfl | rfl | rfl | rfl | rfl | rfl <;> first | kernel_rfl | rfl
theorem run_max3 (a b : Nat) (c : Int) (W : World) : (Builtin.max_ #[3, 3, 3] 3 #[.int .i64 (a : Int), .int .i64 (b : Int), .int .i64 c]).run Tryd.prog W = .ok (.int .i64 (max (max (a : Int) (b : Int)) c)) W := by
  have e1 : max (a : Int) (b : Int) = if (a : Int) < (b : Int) then (b : Int) else a := by split <;> omega
  have e2 : ∀ x : Int, max x c = if x < c then c else x := fun x => by split <;> omega
  rw [e1, e2]
  by_cases h1 : (a : Int) < (b : Int) <;> simp only [h1, if_true, if_false] <;> split <;> rename_i h2 <;> go_simp
theorem mu_start (n : Nat) : mu ((List.replicate (n + 1) (-1 : Int)).set 0 0) [0] ≤ 2 * n + 3 := by
  have : negC ((List.replicate (n + 1) (-1 : Int)).set 0 0) ≤ n + 1 := by
    have := List.countP_le_length (p := fun z : Int => decide (z < 0)) (l := (List.replicate (n + 1) (-1 : Int)).set 0 0)
    simpa [negC] using this
  simp only [mu, List.length_singleton]
  omega
theorem own_pop {W : World} {B : Nat} {e : TypeId} {g c : Nat} {td : List Nat} {i : Nat} (h : W.ownsRow B e 1 (.slice (some ⟨g, 0, none⟩) (td.length + 1) c) (td.length + 1) (natC (td ++ [i]))) : W.ownsRow B e 1 (.slice (some ⟨g, 0, none⟩) td.length c) td.length (natC td) := by
  obtain ⟨_, h⟩ := h
  refine ⟨by simp [natC], ?_⟩
  rcases h with ⟨h, _⟩ | ⟨g', cap, cur, hv, h1, h2, h3, h4, h5, h6⟩
  · cases h
  · injection hv with e1 e2 e3
    injection e1 with e1
    injection e1 with e1
    subst e1 e3
    refine .inr ⟨g, c, cur, rfl, h1, h2, by omega, h4, h5, ?_⟩
    have := congrArg (List.take (td.length * 1)) h6
    rw [List.take_take] at this
    rw [Nat.min_eq_left (by omega)] at this
    rw [this]
    simp [natC]
theorem boxed_set_other {W : World} {b c o : Nat} {t : TypeId} {v : Value} (h : Boxed W b t v) (hne : b ≠ c) (u : Value) : Boxed (W.setCell ⟨c, o, none⟩ u) b t v :=
  (heap_setCell_other _ _ _ _ (by simpa using hne)).trans h
theorem rep_set (n k : Nat) (h : k < n + 1) : (List.replicate k (-1 : Int) ++ List.replicate (n + 1 - k) 0).set k (-1) = List.replicate (k + 1) (-1) ++ List.replicate (n + 1 - (k + 1)) 0 := by
  rw [List.set_append_right _ _ (by simp)]
  simp only [List.length_replicate, Nat.sub_self]
  rw [show n + 1 - k = (n + 1 - (k + 1)) + 1 from by omega, List.replicate_succ, List.set_cons_zero, List.replicate_succ']
  simp
theorem make_ints (w : World) (m : Nat) (hm : m ≤ 3000) : (Instr.makeSlice 31 (.int .i64 (m : Int)) (.int .i64 (m : Int))).run Tryd.prog w = .ok (.slice (some ⟨w.heap.size, 0, none⟩) m m) (w.alloc (.cells (intC (List.replicate m 0)).toArray 3)) := by
  obtain ⟨i0, hi, hz0, hz1, hz2⟩ := info_parts info_int
  have h := run_makeSlice (P := Tryd.prog) w 31 3 i0 (.int .i64 0) Tryd.underlying31 hi hz0 .i64 .i64 m m (by omega) (by omega) (by rw [hz1]; omega) (by rw [hz2]; omega) (by omega)
  rw [Int.toNat_natCast] at h
  have e : madeCells (Value.int .i64 0).cells (m * i0.size) = (intC (List.replicate m 0)).toArray := by
    rw [hz1, Nat.mul_one]
    apply Array.ext'
    simp [madeCells, Value.cells, intC, Nat.mod_one]
    rw [List.map_const', List.length_range]
  rw [e] at h
  exact h
theorem make_depths (w : World) (n : Nat) (hn : n ≤ 2000) : (Instr.makeSlice 31 (.int .i64 ((n : Int) + 1)) (.int .i64 ((n : Int) + 1))).run Tryd.prog w = .ok (.slice (some ⟨w.heap.size, 0, none⟩) (n + 1) (n + 1)) (w.alloc (.cells (intC (List.replicate (n + 1) 0)).toArray 3)) := by
  have h := make_ints w (n + 1) (by omega)
  rw [Int.natCast_succ] at h
  exact h
set_option maxRecDepth 100000 in
set_option maxHeartbeats 4000000 in
theorem verified_any (code : List UInt8) (w : World) (hc : code.length ≤ 1000000) (hO : OpsIs w) :
    Calls Tryd.prog 27 #[.string (str code)] w fun e w' => VerPost code w e w' := by
  have hg := hO.lt
  have hP := Lib.hid (program_any code w hc hO)
  have hmf : ∀ (fn : Fn) (first cap : Array Value) (w : World), (Instr.makeFunc fn first cap).run Tryd.prog w = .ok (.func fn first cap) w := fun _ _ _ _ => rfl
  go_enter Tryd.func27, Tryd.ntmps27
  go_wp2_with fail
  refine hP.out.mono ?_
  rintro e w1 ⟨hyes, hno, hb1⟩
  cases hf : formed code with
  | none =>
    obtain rfl := hno hf
    have hfin : Hid (VerPost code w (.returned (.tuple #[.slice none 0 0, .int .i64 0, .bool false])) (w1.alloc (.cells #[.slice none 0 0] 56))) := ⟨.inr ⟨fun l h => (by rw [hf] at h; cases h), rfl⟩, hb1.alloc hb1.size _⟩
    clear hyes hno hf hP hmf
    go_wp2_with fail
    exact bodyPost_ret (v := .tuple #[.slice none 0 0, .int .i64 0, .bool false]) (by simp [results, Tryd.f27, go_sem]) rfl hfin.out
  | some L =>
    obtain ⟨g, cap, rfl, hwg, hg1, hLc, hcm, hrow⟩ := hyes L hf
    obtain ⟨hne, hlen, hdec, hLaid, hForm⟩ := formed_parts hf
    have hL1 : L.length ≤ 1024 := by
      have h1 := (evSeq_dec _ code (Nat.le_refl _) 0).1 L hdec
      have h2 := evSeq_len _ code (Nat.le_refl _) 0
      rw [h1, List.length_map] at h2
      omega
    have hL0 : 0 < L.length := by
      have h1 := (evSeq_dec _ code (Nat.le_refl _) 0).1 L hdec
      have h2 := evSeq_pos code hne
      rw [h1, List.length_map] at h2
      exact h2
    clear hyes hno hP
    have hmk := fun W => make_depths W L.length (by omega)
    go_wp2_with fail
    obtain ⟨W2, hW2⟩ : ∃ W2, W2 = ((w1.alloc (Obj.cells #[Value.slice (some ⟨g, 0, none⟩) L.length cap] 56)).alloc (Obj.cells (intC (List.replicate (L.length + 1) 0)).toArray 3)).alloc (Obj.cells #[Value.slice (some ⟨w1.heap.size + 1, 0, none⟩) (L.length + 1) (L.length + 1)] 31) := ⟨_, rfl⟩
    have hs2 : W2.heap.size = w1.heap.size + 3 := by rw [hW2]; simp
    have b5 : Boxed W2 w1.heap.size 56 (.slice (some ⟨g, 0, none⟩) L.length cap) := by rw [hW2]; exact ((Boxed.new w1 _ _).alloc _).alloc _
    have aD : Arr W2 (w1.heap.size + 1) 3 (intC (List.replicate (L.length + 1) 0)) := by
      rw [hW2]
      have := (Arr.new (w := w1.alloc (Obj.cells #[Value.slice (some ⟨g, 0, none⟩) L.length cap] 56)) (T := 3) (L := intC (List.replicate (L.length + 1) 0)) rfl rfl).alloc (Obj.cells #[Value.slice (some ⟨w1.heap.size + 1, 0, none⟩) (L.length + 1) (L.length + 1)] 31)
      simpa using this
    have b7 : Boxed W2 (w1.heap.size + 1 + 1) 31 (.slice (some ⟨w1.heap.size + 1, 0, none⟩) (L.length + 1) (L.length + 1)) := by
      rw [hW2]
      have := Boxed.new ((w1.alloc (Obj.cells #[Value.slice (some ⟨g, 0, none⟩) L.length cap] 56)).alloc (Obj.cells (intC (List.replicate (L.length + 1) 0)).toArray 3)) 31 (.slice (some ⟨w1.heap.size + 1, 0, none⟩) (L.length + 1) (L.length + 1))
      simpa using this
    have hB2 : Below w1.heap.size w1 W2 := by rw [hW2]; exact (((Below.refl _ _).alloc (Nat.le_refl _) _).alloc (by simp) _).alloc (by simp; omega) _
    rw [← hW2]
    clear hW2 hmk
    go_loopw [30] (fun i wr => ∃ k : Nat, k ≤ L.length + 1 ∧ i = .int .i64 (k : Int) ∧ Arr wr (w1.heap.size + 1) 3 (intC (List.replicate k (-1) ++ List.replicate (L.length + 1 - k) 0)) ∧ Boxed wr w1.heap.size 56 (.slice (some ⟨g, 0, none⟩) L.length cap) ∧ Boxed wr (w1.heap.size + 1 + 1) 31 (.slice (some ⟨w1.heap.size + 1, 0, none⟩) (L.length + 1) (L.length + 1)) ∧ Hid (Below w1.heap.size w1 wr) ∧ wr.heap.size = w1.heap.size + 3) (fun i _ => L.length + 1 - (intOf i).toNat)
    case atStart => exact ⟨0, Nat.zero_le _, rfl, by simpa using aD, b5, b7, (show Hid _ from hB2), hs2⟩
    case round =>
      obtain ⟨k, hk, rfl, hA, h5, h7, hB, hsz⟩ := hrel
      clear b5 aD b7 hB2
      by_cases hlt : k < L.length + 1
      · have hd : decide ((k : Int) < (L.length : Int) + 1) = true := by simp; omega
        have hd2 : (k : Int) < (L.length : Int) + 1 := by omega
        have c7 := h7.cell
        have cA : wr.cell? ⟨w1.heap.size + 1, k, none⟩ = some (.int .i64 0) := hA.cell (by
          rw [intC, List.getElem?_map, List.getElem?_append_right (by simp), List.length_replicate, Nat.sub_self, List.getElem?_replicate, if_pos (by omega)]
          rfl)
        have fA := hA.free k
        have hA2 := hA.set k (.int .i64 (-1))
        have e : (intC (List.replicate k (-1) ++ List.replicate (L.length + 1 - k) 0)).set k (.int .i64 (-1)) = intC (List.replicate (k + 1) (-1) ++ List.replicate (L.length + 1 - (k + 1)) 0) := by
          rw [← rep_set L.length k hlt, intC, intC, List.map_set]
        rw [e] at hA2
        replace hA2 := Lib.hid hA2
        clear e hA
        go_wp2_with fail
        refine ⟨⟨k + 1, by omega, by go_num, hA2.out, boxed_set_other h5 (by omega) _, boxed_set_other h7 (by omega) _, hB.out.setCell (p := ⟨w1.heap.size + 1, k, none⟩) (by simp) _, by simpa [World.setCell] using hsz⟩, by simp [intOf]; omega⟩
      · have hd : decide ((k : Int) < (L.length : Int) + 1) = false := by simp; omega
        have hke : k = L.length + 1 := by omega
        rw [hke] at hA
        clear hke
        simp only [Nat.sub_self, List.replicate_zero, List.append_nil] at hA
        have c7 := h7.cell
        have cA : wr.cell? ⟨w1.heap.size + 1, 0, none⟩ = some (.int .i64 (-1)) := hA.cell (by simp [intC])
        have fA := hA.free 0
        have hA2 := hA.set 0 (.int .i64 0)
        go_wp2_with fail
        obtain ⟨W3, hW3⟩ : ∃ W3, W3 = ((wr.setCell ⟨w1.heap.size + 1, 0, none⟩ (.int .i64 0)).alloc (Obj.cells #[Value.int IntKind.i64 0] 3)).alloc (Obj.cells #[Value.slice (some ⟨w1.heap.size + 3, 0, none⟩) 1 1] 31) := ⟨_, rfl⟩
        have hss : (wr.setCell ⟨w1.heap.size + 1, 0, none⟩ (.int .i64 0)).heap.size = w1.heap.size + 3 := by simpa [World.setCell] using hsz
        have hV : VS w1.heap.size (w1.heap.size + 1 + 1) (w1.heap.size + 3 + 1) g cap (w1.heap.size + 1) L.length ((List.replicate (L.length + 1) (-1 : Int)).set 0 0) [0] W3 := by
          rw [hW3]
          refine ⟨((boxed_set_other h5 (by omega) _).alloc _).alloc _, ((boxed_set_other h7 (by omega) _).alloc _).alloc _, ?_, ⟨.slice (some ⟨w1.heap.size + 3, 0, none⟩) 1 1, ?_, rfl, .inr ⟨w1.heap.size + 3, 1, #[.int .i64 0], rfl, by omega, ?_, Nat.le_refl _, by unfold maxLen; omega, rfl, rfl⟩⟩, by simp⟩
          · rw [intC, List.map_set]
            exact (hA2.alloc _).alloc _
          · have := Boxed.new ((wr.setCell ⟨w1.heap.size + 1, 0, none⟩ (.int .i64 0)).alloc (Obj.cells #[Value.int IntKind.i64 0] 3)) 31 (.slice (some ⟨w1.heap.size + 3, 0, none⟩) 1 1)
            rw [World.size_alloc, hss] at this
            exact this
          · have := (Boxed.new (wr.setCell ⟨w1.heap.size + 1, 0, none⟩ (.int .i64 0)) 3 (.int .i64 0)).alloc (Obj.cells #[Value.slice (some ⟨w1.heap.size + 3, 0, none⟩) 1 1] 31)
            rw [hss] at this
            exact this
        have hB3 : Below w1.heap.size w1 W3 := by rw [hW3]; exact ((hB.out.setCell (p := ⟨w1.heap.size + 1, 0, none⟩) (by simp) _).alloc (by omega) _).alloc (by simp; omega) _
        have hVM := VM.start L L.length hL0
        rw [← hW3]
        clear hW3 hss hA hA2 h5 h7 hB hsz c7 cA fA
        go_loopw [9] (fun i wr => ∃ ds td m, i = .int .i64 ((m : Nat) : Int) ∧ Hid (VS w1.heap.size (w1.heap.size + 1 + 1) (w1.heap.size + 3 + 1) g cap (w1.heap.size + 1) L.length ds td wr ∧ VM L ds td m ∧ Below w1.heap.size w1 wr ∧ mu ds td ≤ 5000)) (fun _ wr => measW (w1.heap.size + 1) (w1.heap.size + 3 + 1) wr)
        case atStart => exact ⟨_, _, 0, rfl, (show Hid _ from ⟨hV, hVM, hB3, by have := mu_start L.length; omega⟩)⟩
        case round =>
          obtain ⟨ds, td, m, rfl, hall⟩ := hrel
          obtain ⟨hV, hVM, hB, hmu5⟩ := hall.out
          clear hall
          rename_i hV0 hVM0
          clear hV0 hVM0 hB3
          obtain ⟨v, hv, hown⟩ := hV.tod
          rcases List.eq_nil_or_concat td with rfl | ⟨td0, i, rfl⟩
          · obtain ⟨vo, vc, rfl⟩ := own_val hown
            have c10 := hv.cell
            have c5 := hV.lst.cell
            have hmost := hVM.marks.most hVM.got
            have hgood := hVM.marks.good
            have hfin : Hid (VerPost code w (.returned (.tuple #[.slice (some ⟨g, 0, none⟩) L.length cap, .int .i64 (m : Int), .bool true])) wr) :=
              ⟨.inl ⟨L, m, g, cap, hf, hgood, hmost, rfl, hwg, Nat.lt_of_lt_of_le hg1 hB.size, hLc, hcm, hrow.keep (hB.block g hg1)⟩, hb1.trans (hB.mono hb1.size)⟩
            clear hmost hgood hVM hf hown
            go_wp2_with fail
            exact bodyPost_ret (v := .tuple #[.slice (some ⟨g, 0, none⟩) L.length cap, .int .i64 (m : Int), .bool true]) (by simp [results, Tryd.f27, go_sem]) rfl hfin.out
          · rw [List.concat_eq_append] at *
            have hi := hVM.ins i (by simp)
            obtain ⟨d, hd⟩ := hVM.marks.known i (by simp)
            have hd16 := hVM.le i d hd
            have hR := hVM.marks.reach i d hd
            obtain ⟨hil, hdi⟩ := depOf_some hd
            have hln : td0.length ≤ 5000 := by simp [mu] at hmu5; omega
            have hcl := congrArg List.length (rfl : td0 ++ [i] = td0 ++ [i])
            rw [List.length_append, List.length_singleton] at hown hcl
            obtain ⟨gT, cT, rfl, hgT, hcT, hcTm, hgTl, hcells⟩ := own_cells hown
            have cI := (hcells td0.length (.int .i64 (i : Int)) (by simp [natC])).1
            have hV1 := hV.setTod (show w1.heap.size + 3 + 1 ≠ w1.heap.size + 1 + 1 by omega) (own_pop hown)
            have hB1 := hB.setCell (p := ⟨w1.heap.size + 3 + 1, 0, none⟩) (show w1.heap.size ≤ w1.heap.size + 3 + 1 by omega) (.slice (some ⟨gT, 0, none⟩) td0.length cT)
            have c10 := hv.cell
            have f10 := hv.frozen
            have hmu := hV.meas
            obtain ⟨W1, hW1⟩ : ∃ W1, W1 = wr.setCell ⟨w1.heap.size + 3 + 1, 0, none⟩ (.slice (some ⟨gT, 0, none⟩) td0.length cT) := ⟨_, rfl⟩
            rw [← hW1] at hV1 hB1
            have x5 := hV1.lst.cell
            have x7 := hV1.dep.cell
            have xD := hV1.row.cell (intC_at hil)
            rw [hdi] at xD
            have hrow1 := hrow.keep (hB1.block g hg1)
            obtain ⟨n0, n1, n2, n3⟩ := hrow1 i hi
            simp only [Nat.zero_add] at n0 n1 n2 n3
            have ho12 := hLaid.ops i hi
            have hn16 := hV1.len
            clear hV hv hcells hB hown
            have i1 : (0 : Int) ≤ (td0.length : Int) := by omega
            have i2 : (i : Int) < (L.length : Int) := by omega
            have i3 : (i : Int) < (L.length : Int) + 1 := by omega
            have hw1 : IntKind.i64.wrap (td0.length : Int) = (td0.length : Int) := IntWalk.i64_in _ (by omega)
            have hdt : decide (0 < td0.length + 1) = true := by simp
            replace hdi := Lib.hid hdi
            replace hd := Lib.hid hd
            replace hcl := Lib.hid hcl
            replace hmu := Lib.hid hmu
            replace hn16 := Lib.hid hn16
            replace hil := Lib.hid hil
            obtain ⟨z, hz⟩ : ∃ z, z = L[i]! := ⟨_, rfl⟩
            rw [← hz] at n0 n1 n2 n3 ho12
            replace hz := Lib.hid hz
            obtain ⟨tz, htz⟩ : ∃ tz, tz = toOf L z := ⟨_, rfl⟩
            rw [← htz] at n3
            replace htz := Lib.hid htz
            have hKc : Hid (∀ W : World, Below W1.heap.size W1 W → W.cell? ⟨w1.heap.size, 0, none⟩ = some (.slice (some ⟨g, 0, none⟩) L.length cap) ∧ W.cell? ⟨w1.heap.size + 1 + 1, 0, none⟩ = some (.slice (some ⟨w1.heap.size + 1, 0, none⟩) (L.length + 1) (L.length + 1)) ∧ W.cell? ⟨w1.heap.size + 1, i, none⟩ = some (.int .i64 (d : Int)) ∧
                W.cell? ⟨g, i * 4, none⟩ = some (.int .i64 (z.off : Int)) ∧ W.cell? ⟨g, i * 4 + 1, none⟩ = some (.int .i64 (z.op : Int)) ∧ W.cell? ⟨g, i * 4 + 2, none⟩ = some (.int .i64 (z.opd : Int)) ∧ W.cell? ⟨g, i * 4 + 3, none⟩ = some (.int .i64 (tz : Int))) := fun W hW => by
              have h := hV1.below hW
              have hr := hrow1.keep (hW.block g (Nat.lt_of_lt_of_le hg1 hB1.size))
              obtain ⟨k0, k1, k2, k3⟩ := hr i hi
              simp only [Nat.zero_add] at k0 k1 k2 k3
              rw [← hz.out] at k0 k1 k2 k3
              rw [← htz.out] at k3
              have kD := h.row.cell (intC_at hil.out)
              rw [hdi.out] at kD
              exact ⟨h.lst.cell, h.dep.cell, kD, k0, k1, k2, k3⟩
            clear n0 n1 n2 n3 x5 x7 xD
            go_wp2_with fail
            rw [← hW1]
            clear hW1
            refine wp_region_held_drew (S := fun w' => w'.cell? ⟨w1.heap.size, 0, none⟩ = some (.slice (some ⟨g, 0, none⟩) L.length cap) ∧ w'.cell? ⟨w1.heap.size + 1 + 1, 0, none⟩ = some (.slice (some ⟨w1.heap.size + 1, 0, none⟩) (L.length + 1) (L.length + 1)) ∧ w'.cell? ⟨w1.heap.size + 1, i, none⟩ = some (.int .i64 (d : Int)) ∧ w'.cell? ⟨g, i * 4, none⟩ = some (.int .i64 (z.off : Int)) ∧ w'.cell? ⟨g, i * 4 + 1, none⟩ = some (.int .i64 (z.op : Int)) ∧ w'.cell? ⟨g, i * 4 + 2, none⟩ = some (.int .i64 (z.opd : Int)) ∧ w'.cell? ⟨g, i * 4 + 3, none⟩ = some (.int .i64 (tz : Int))) (by kernel_rfl) (by exact hKc.out _ (Below.refl _ _).drew) (fun hHeld => ?_)
            refine take_l (i := 0) (v := ?_) rfl (by kernel_rfl) (by kernel_rfl) (by kernel_rfl) (fun _ _ _ h => h) (Or.inl ⟨by kernel_rfl, ?_⟩) (by assumption) ?_
            rotate_left
            · intro w hSw; (try dsimp only at hSw); go_simp; (try with_reducible rfl)
            (try simp only [Act.put, List.setIfInBounds_toArray, List.set_cons_zero, List.set_cons_succ])
            refine take_l (i := 1) (v := ?_) rfl (by kernel_rfl) (by kernel_rfl) (by kernel_rfl) (fun _ _ _ h => h) (Or.inl ⟨by kernel_rfl, ?_⟩) (by assumption) ?_
            rotate_left
            · intro w hSw; (try dsimp only at hSw); go_simp; (try with_reducible rfl)
            (try simp only [Act.put, List.setIfInBounds_toArray, List.set_cons_zero, List.set_cons_succ])
            refine take_l (i := 2) (v := ?_) rfl (by kernel_rfl) (by kernel_rfl) (by kernel_rfl) (fun _ _ _ h => h) (Or.inl ⟨by kernel_rfl, ?_⟩) (by assumption) ?_
            rotate_left
            · intro w hSw; (try dsimp only at hSw); go_simp; (try with_reducible rfl)
            (try simp only [Act.put, List.setIfInBounds_toArray, List.set_cons_zero, List.set_cons_succ])
            refine take_l (i := 3) (v := ?_) rfl (by kernel_rfl) (by kernel_rfl) (by kernel_rfl) (fun _ _ _ h => h) (Or.inl ⟨by kernel_rfl, ?_⟩) (by assumption) ?_
            rotate_left
            · intro w hSw; (try dsimp only at hSw); go_simp; (try with_reducible rfl)
            (try simp only [Act.put, List.setIfInBounds_toArray, List.set_cons_zero, List.set_cons_succ])
            refine take_l (i := 4) (v := ?_) rfl (by kernel_rfl) (by kernel_rfl) (by kernel_rfl) (fun _ _ _ h => h) (Or.inl ⟨by kernel_rfl, ?_⟩) (by assumption) ?_
            rotate_left
            · intro w hSw; (try dsimp only at hSw); go_simp; (try with_reducible rfl)
            (try simp only [Act.put, List.setIfInBounds_toArray, List.set_cons_zero, List.set_cons_succ])
            refine take_l (i := 5) (v := ?_) rfl (by kernel_rfl) (by kernel_rfl) (by kernel_rfl) (fun _ _ _ h => h) (Or.inl ⟨by kernel_rfl, ?_⟩) (by assumption) ?_
            rotate_left
            · intro w hSw; (try dsimp only at hSw); go_simp; (try with_reducible rfl)
            (try simp only [Act.put, List.setIfInBounds_toArray, List.set_cons_zero, List.set_cons_succ])
            refine take_l (i := 6) (v := ?_) rfl (by kernel_rfl) (by kernel_rfl) (by kernel_rfl) (fun _ _ _ h => h) (Or.inl ⟨by kernel_rfl, ?_⟩) (by assumption) ?_
            rotate_left
            · intro w hSw; (try dsimp only at hSw); go_simp; (try with_reducible rfl)
            (try simp only [Act.put, List.setIfInBounds_toArray, List.set_cons_zero, List.set_cons_succ])
            refine take_l (i := 7) (v := ?_) rfl (by kernel_rfl) (by kernel_rfl) (by kernel_rfl) (fun _ _ _ h => h) (Or.inl ⟨by kernel_rfl, ?_⟩) (by assumption) ?_
            rotate_left
            · intro w hSw; (try dsimp only at hSw); go_simp; (try with_reducible rfl)
            (try simp only [Act.put, List.setIfInBounds_toArray, List.set_cons_zero, List.set_cons_succ])
            refine wpAnyH_ready (rs := [8]) (by kernel_rfl) (by simp) ?_
            refine ready_l rfl (fun K hK => ?_) AllReadyH.nil
            go_simp
            refine hK.out _ _ (by exact hKc.out _ (by repeat first | with_reducible exact Below.refl _ _ | with_reducible assumption | with_reducible refine below_drewN ?_ _ | with_reducible refine Below.drew ?_ | with_reducible refine Below.setCell ?_ (by first | exact Nat.le_refl _ | (simp; done) | (simp; omega) | omega) _ | with_reducible refine Below.alloc ?_ (by first | exact Nat.le_refl _ | (simp; done) | (simp; omega) | omega) _ | exact Below.refl _ _ | assumption)) (fun hHeld => ?_)
            clear hK K
            (try simp only [Act.put, List.setIfInBounds_toArray, List.set_cons_zero, List.set_cons_succ])
            refine wpAnyH_ready (rs := [9]) (by kernel_rfl) (by simp) ?_
            refine ready_l rfl (fun K hK => ?_) AllReadyH.nil
            go_simp
            refine hK.out _ _ (by exact hKc.out _ (by repeat first | with_reducible exact Below.refl _ _ | with_reducible assumption | with_reducible refine below_drewN ?_ _ | with_reducible refine Below.drew ?_ | with_reducible refine Below.setCell ?_ (by first | exact Nat.le_refl _ | (simp; done) | (simp; omega) | omega) _ | with_reducible refine Below.alloc ?_ (by first | exact Nat.le_refl _ | (simp; done) | (simp; omega) | omega) _ | exact Below.refl _ _ | assumption)) (fun hHeld => ?_)
            clear hK K
            (try simp only [Act.put, List.setIfInBounds_toArray, List.set_cons_zero, List.set_cons_succ])
            refine take_l (i := 10) (v := ?_) rfl (by kernel_rfl) (by kernel_rfl) (by kernel_rfl) (fun _ _ _ h => h) (Or.inl ⟨by kernel_rfl, ?_⟩) (by assumption) ?_
            rotate_left
            · intro w hSw; (try dsimp only at hSw); go_simp; (try with_reducible rfl)
            (try simp only [Act.put, List.setIfInBounds_toArray, List.set_cons_zero, List.set_cons_succ])
            refine wpAnyH_done (by kernel_rfl) ?_ _
            obtain ⟨W2, hW2⟩ : ∃ W2, W2 = (W1.alloc (Obj.cells #[.int .i64 (z.off : Int), .int .i64 (z.op : Int), .int .i64 (z.opd : Int), .int .i64 (tz : Int)] 66)).drew := ⟨_, rfl⟩
            have hb12 : Below W1.heap.size W1 W2 := by rw [hW2]; exact ((Below.refl _ _).alloc (Nat.le_refl _) _).drew
            have hA13 : Arr W2 W1.heap.size 66 [.int .i64 (z.off : Int), .int .i64 (z.op : Int), .int .i64 (z.opd : Int), .int .i64 (tz : Int)] := by rw [hW2]; exact (Arr.new (w := W1) rfl rfl).drew
            rw [← hW2]
            clear hW2 hHeld hKc
            have hV2 := hV1.below hb12
            have hO2 := hO.below (hb1.trans ((hB1.trans (hb12.mono hB1.size)).mono hb1.size)) hg
            have hkd := kind_any z.off z.op z.opd tz W2 ho12 hO2 hO2.lt
            unfold insAgg opVals at hkd
            replace hkd := Lib.hid hkd
            have q0 := hA13.cell (j := 0) rfl
            have q1 := hA13.cell (j := 1) rfl
            have q2 := hA13.cell (j := 2) rfl
            have q3 := hA13.cell (j := 3) rfl
            have hcur : ∀ o, o < 12 → takesOp o ≤ 2 ∧ putsOp o ≤ 2 := fun o ho => by
              have h12 : o = 0 ∨ o = 1 ∨ o = 2 ∨ o = 3 ∨ o = 4 ∨ o = 5 ∨ o = 6 ∨ o = 7 ∨ o = 8 ∨ o = 9 ∨ o = 10 ∨ o = 11 := by omega
              rcases h12 with rfl | rfl | rfl | rfl | rfl | rfl | rfl | rfl | rfl | rfl | rfl | rfl <;> decide
            obtain ⟨ht2, hp2⟩ := hcur z.op ho12
            have hw2 : IntKind.i64.wrap ((d : Int) - (takesOp z.op : Nat)) = (d : Int) - (takesOp z.op : Nat) := IntWalk.i64_in _ (by omega)
            have hB2 := hB1.trans (hb12.mono hB1.size)
            by_cases hbad : d < takesOp z.op ∨ 16 < afterOp z.op d
            · have hng : ¬ Good L := by
                rcases hbad with h | h
                · exact not_takes hR (by rw [← hz.out]; exact h)
                · exact not_room hR (by rw [← hz.out]; exact h)
              have hw3 : IntKind.i64.wrap ((d : Int) - (takesOp z.op : Nat) + (putsOp z.op : Nat)) = (d : Int) - (takesOp z.op : Nat) + (putsOp z.op : Nat) := IntWalk.i64_in _ (by omega)
              have hmx := fun W => run_max3 m d ((d : Int) - (takesOp z.op : Nat) + (putsOp z.op : Nat)) W
              generalize max (max (m : Int) (d : Int)) ((d : Int) - (takesOp z.op : Nat) + (putsOp z.op : Nat)) = M at *
              by_cases hb1' : d < takesOp z.op
              · have hdd : decide (d < takesOp z.op) = true := by simpa using hb1'
                replace hbad := Lib.hid hbad
                go_wp2_with fail
                refine hkd.out.mono ?_
                rintro e W3 ⟨rfl, hb23⟩
                have hB4 : Below w1.heap.size w1 (W3.alloc (.cells #[.string (str (opName z.op)), .int .i64 (takesOp z.op : Nat), .int .i64 (putsOp z.op : Nat), .bool (longOp z.op), .bool (leadOp z.op)] 75)) := (hB2.trans (hb23.mono hB2.size)).alloc (Nat.le_trans hB2.size hb23.size) _
                have hbX := hb1.trans (hB4.mono hb1.size)
                have hfin : Hid (VerPost code w (.returned (.tuple #[.slice none 0 0, .int .i64 0, .bool false])) (W3.alloc (.cells #[.string (str (opName z.op)), .int .i64 (takesOp z.op : Nat), .int .i64 (putsOp z.op : Nat), .bool (longOp z.op), .bool (leadOp z.op)] 75))) := ⟨.inr ⟨fun l h => (by rw [hf] at h; injection h with h; subst h; exact hng), rfl⟩, hbX⟩
                clear hng hf
                go_wp2_with fail
                exact bodyPost_ret (v := .tuple #[.slice none 0 0, .int .i64 0, .bool false]) (by simp [results, Tryd.f27, go_sem]) rfl hfin.out
              · have hdd : decide (d < takesOp z.op) = false := by simpa using hb1'
                have hgt : 16 < (d : Int) - (takesOp z.op : Nat) + (putsOp z.op : Nat) := by
                  rcases hbad with h | h
                  · exact absurd h hb1'
                  · unfold afterOp at h; omega
                replace hbad := Lib.hid hbad
                go_wp2_with fail
                refine hkd.out.mono ?_
                rintro e W3 ⟨rfl, hb23⟩
                have hB4 : Below w1.heap.size w1 (W3.alloc (.cells #[.string (str (opName z.op)), .int .i64 (takesOp z.op : Nat), .int .i64 (putsOp z.op : Nat), .bool (longOp z.op), .bool (leadOp z.op)] 75)) := (hB2.trans (hb23.mono hB2.size)).alloc (Nat.le_trans hB2.size hb23.size) _
                have hbX := hb1.trans (hB4.mono hb1.size)
                have hfin : Hid (VerPost code w (.returned (.tuple #[.slice none 0 0, .int .i64 0, .bool false])) (W3.alloc (.cells #[.string (str (opName z.op)), .int .i64 (takesOp z.op : Nat), .int .i64 (putsOp z.op : Nat), .bool (longOp z.op), .bool (leadOp z.op)] 75))) := ⟨.inr ⟨fun l h => (by rw [hf] at h; injection h with h; subst h; exact hng), rfl⟩, hbX⟩
                clear hng hf
                go_wp2_with fail
                exact bodyPost_ret (v := .tuple #[.slice none 0 0, .int .i64 0, .bool false]) (by simp [results, Tryd.f27, go_sem]) rfl hfin.out
            · have hb1' : ¬ d < takesOp z.op := fun h => hbad (.inl h)
              have hb2' : afterOp z.op d ≤ 16 := Nat.le_of_not_lt fun h => hbad (.inr h)
              clear hbad
              have he : (d : Int) - (takesOp z.op : Nat) + (putsOp z.op : Nat) = ((afterOp z.op d : Nat) : Int) := by unfold afterOp; omega
              obtain ⟨af, haf⟩ : ∃ af, af = afterOp z.op d := ⟨_, rfl⟩
              rw [← haf] at he hb2'
              have hw3 : IntKind.i64.wrap ((d : Int) - (takesOp z.op : Nat) + (putsOp z.op : Nat)) = (af : Int) := by rw [he]; exact IntWalk.i64_in _ (by omega)
              have hmx := fun W => run_max3 m d (af : Int) W
              have hMx : max (max (m : Int) (d : Int)) (af : Int) = ((max (max m d) af : Nat) : Int) := by omega
              rw [hMx] at hmx
              obtain ⟨M, hM⟩ : ∃ M, M = max (max m d) af := ⟨_, rfl⟩
              rw [← hM] at hmx
              have hdd : decide (d < takesOp z.op) = false := by simpa using hb1'
              have hgt : ¬ 16 < (af : Int) := by omega
              have hgt2 : decide (16 < (af : Int)) = false := by simp; omega
              clear hMx
              replace he := Lib.hid he
              replace haf := Lib.hid haf
              replace hM := Lib.hid hM
              have hid12 : Hid (takesOp z.op ≤ d) := Nat.le_of_not_lt hb1'
              have hq7 := fun W => neq_ops z.op 7 ho12 (.inl rfl) W
              have hq11 := fun W => neq_ops z.op 11 ho12 (.inr rfl) W
              unfold opVals at hq7 hq11
              have hOps : Hid (∀ W : World, Below w1.heap.size w1 W → ∀ p, p = 7 ∨ p = 11 → (W.cell? ⟨3, p * 5, none⟩ = some (.string (str (opName p))) ∧ W.cell? ⟨3, p * 5 + 1, none⟩ = some (.int .i64 (takesOp p : Nat)) ∧ W.cell? ⟨3, p * 5 + 2, none⟩ = some (.int .i64 (putsOp p : Nat)) ∧ W.cell? ⟨3, p * 5 + 3, none⟩ = some (.bool (longOp p)) ∧ W.cell? ⟨3, p * 5 + 4, none⟩ = some (.bool (leadOp p)))) := fun W hW p hp => by
                have hOW := hO.below (hb1.trans (hW.mono hb1.size)) hg
                have h12 : p < 12 := by omega
                exact ⟨hOW p h12 0 (by omega), hOW p h12 1 (by omega), hOW p h12 2 (by omega), hOW p h12 3 (by omega), hOW p h12 4 (by omega)⟩
              have hto : leadOp z.op = true → tz < L.length ∧ leadO L i = some tz ∧ idxOf L L[i]!.opd = some tz := fun hl => by
                have hl2 : leadOp L[i]!.op = true := by rw [← hz.out]; exact hl
                have h1 := hForm.to hi hl2
                have e : toOf L L[i]! = tz := by rw [htz.out, hz.out]
                rw [e] at h1
                exact ⟨(idxOf_some h1).1, by rw [leadO, if_pos hl2, e], h1⟩
              have hlz : ∀ b, leadOp z.op = b → leadOp L[i]!.op = b := fun b h => by rw [← hz.out]; exact h
              have hround := fun ds1 ds2 td1 td2 (h1 : ExtO ds td0 ds1 td1 (leadO L i) af) (h2 : ExtO ds1 td1 ds2 td2 (nextO L i) af) (hn : ∀ j, nextO L i = some j → j < L.length) => by
                have := VM.round hForm hVM hd.out (by rw [← hz.out]; exact hid12.out) (by rw [← hz.out, ← haf.out]; exact hb2') (ds1 := ds1) (ds2 := ds2) (td1 := td1) (td2 := td2) (by rw [← hz.out, ← haf.out]; exact h1) (by rw [← hz.out, ← haf.out]; exact h2) hn
                rw [← hz.out, ← haf.out, ← hM.out] at this
                exact this
              replace hround := Lib.hid hround
              replace hto := Lib.hid hto
              replace hlz := Lib.hid hlz
              have hoc : z.op = 11 ∨ z.op = 7 ∨ z.op = 8 ∨ (z.op ≠ 11 ∧ z.op ≠ 7 ∧ z.op ≠ 8) := by omega
              clear hO hn16
              rcases hoc with ho | ho | ho | ⟨ho1, ho2, ho3⟩
              · skip
                have hl : leadOp z.op = false := by rw [ho]; rfl
                have e7 : decide (z.op ≠ 7) = true := by rw [ho]; rfl
                have e11 : decide (z.op ≠ 11) = false := by rw [ho]; rfl
                rw [hl] at hkd
                rw [hl, e7] at hq7
                rw [hl, e11] at hq11
                replace ho := Lib.hid ho
                replace hl := Lib.hid hl
                clear e7 e11
                go_wp2_with fail
                refine hkd.out.mono ?_
                rintro e W3 ⟨rfl, hb23⟩
                obtain ⟨W4, hW4⟩ : ∃ W4, W4 = (W3.alloc (.cells #[.string (str (opName z.op)), .int .i64 (takesOp z.op : Nat), .int .i64 (putsOp z.op : Nat), .bool (longOp z.op), .bool false] 75)) := ⟨_, rfl⟩
                have hb24 : Below W2.heap.size W2 W4 := by rw [hW4]; exact hb23.alloc hb23.size _
                have hA15 : Arr W4 W3.heap.size 75 [.string (str (opName z.op)), .int .i64 (takesOp z.op : Nat), .int .i64 (putsOp z.op : Nat), .bool (longOp z.op), .bool false] := by rw [hW4]; exact Arr.new rfl rfl
                have hA4 := hA13.below hb24
                have hV4 := hV2.below hb24
                have hB4 := hB2.trans (hb24.mono hB2.size)
                obtain ⟨p0, p1, p2, p3, p4⟩ := hOps.out W4 hB4 7 (.inl rfl)
                obtain ⟨p5, p6, p7, p8, p9⟩ := hOps.out W4 hB4 11 (.inr rfl)
                simp only [Nat.reduceMul, Nat.reduceAdd] at p0 p1 p2 p3 p4 p5 p6 p7 p8 p9
                skip
                have r0 := hA15.cell (j := 0) rfl
                have r1 := hA15.cell (j := 1) rfl
                have r2 := hA15.cell (j := 2) rfl
                have r3 := hA15.cell (j := 3) rfl
                have r4 := hA15.cell (j := 4) rfl
                have hn0 : nextO L i = none := by rw [nextO, if_neg]; rw [← hz.out, ho.out]; simp
                have hl0 : leadO L i = none := by rw [leadO, hlz.out _ hl.out]; rfl
                subst hW4
                obtain ⟨hVM2, hmu2⟩ := hround.out _ _ _ _ (by rw [hl0]; exact ⟨rfl, rfl⟩) (by rw [hn0]; exact ⟨rfl, rfl⟩) (fun j hj => by rw [hn0] at hj; cases hj)
                replace hVM2 := Lib.hid hVM2
                replace hmu2 := Lib.hid hmu2
                go_wp2_with fail
                refine ⟨⟨_, _, M, rfl, (show Hid _ from ⟨hV4, hVM2.out, hB4, by have := hmu2.out; omega⟩)⟩, ?_⟩
                rw [hV4.meas, hmu.out]
                exact hmu2.out
              · skip
                have hl : leadOp z.op = true := by rw [ho]; rfl
                have e7 : decide (z.op ≠ 7) = false := by rw [ho]; rfl
                have e11 : decide (z.op ≠ 11) = true := by rw [ho]; rfl
                rw [hl] at hkd
                rw [hl, e7] at hq7
                rw [hl, e11] at hq11
                replace ho := Lib.hid ho
                replace hl := Lib.hid hl
                clear e7 e11
                go_wp2_with fail
                refine hkd.out.mono ?_
                rintro e W3 ⟨rfl, hb23⟩
                obtain ⟨W4, hW4⟩ : ∃ W4, W4 = (W3.alloc (.cells #[.string (str (opName z.op)), .int .i64 (takesOp z.op : Nat), .int .i64 (putsOp z.op : Nat), .bool (longOp z.op), .bool true] 75)) := ⟨_, rfl⟩
                have hb24 : Below W2.heap.size W2 W4 := by rw [hW4]; exact hb23.alloc hb23.size _
                have hA15 : Arr W4 W3.heap.size 75 [.string (str (opName z.op)), .int .i64 (takesOp z.op : Nat), .int .i64 (putsOp z.op : Nat), .bool (longOp z.op), .bool true] := by rw [hW4]; exact Arr.new rfl rfl
                have hA4 := hA13.below hb24
                have hV4 := hV2.below hb24
                have hB4 := hB2.trans (hb24.mono hB2.size)
                obtain ⟨p0, p1, p2, p3, p4⟩ := hOps.out W4 hB4 7 (.inl rfl)
                obtain ⟨p5, p6, p7, p8, p9⟩ := hOps.out W4 hB4 11 (.inr rfl)
                simp only [Nat.reduceMul, Nat.reduceAdd] at p0 p1 p2 p3 p4 p5 p6 p7 p8 p9
                have hrc := Lib.hid (reach_any w1.heap.size (w1.heap.size + 1 + 1) (w1.heap.size + 3 + 1) g cap (w1.heap.size + 1) L.length ds td0 tz (af : Int) W4 hV4 (Nat.le_of_lt (hto.out hl.out).1) (by omega) (by omega) (by omega))
                have r3 := hA4.cell (j := 3) rfl
                subst hW4
                go_wp2_with fail
                refine hrc.out.mono ?_
                rintro e W5 hpost
                obtain ⟨ds1, td1, b, hV5, hK5, rfl, hb⟩ := reach_split hpost hV4.len (Nat.le_of_lt (hto.out hl.out).1)
                have hB5 := hB4.trans (hK5.bel.mono (by omega))
                clear hpost hrc
                rcases hb with ⟨rfl, hj, hE⟩ | ⟨rfl, hbd⟩
                · have hA15b := hK5.arr hA15 (by decide) (by decide)
                  have s0 := hA15b.cell (j := 0) rfl
                  have s1 := hA15b.cell (j := 1) rfl
                  have s2 := hA15b.cell (j := 2) rfl
                  have s3 := hA15b.cell (j := 3) rfl
                  have s4 := hA15b.cell (j := 4) rfl
                  obtain ⟨t0, t1, t2, t3, t4⟩ := hOps.out W5 hB5 7 (.inl rfl)
                  obtain ⟨t5, t6, t7, t8, t9⟩ := hOps.out W5 hB5 11 (.inr rfl)
                  simp only [Nat.reduceMul, Nat.reduceAdd] at t0 t1 t2 t3 t4 t5 t6 t7 t8 t9
                  have hn0 : nextO L i = none := by rw [nextO, if_neg]; rw [← hz.out, ho.out]; simp
                  obtain ⟨hVM2, hmu2⟩ := hround.out _ _ _ _ (by rw [(hto.out hl.out).2.1]; exact hE) (by rw [hn0]; exact ⟨rfl, rfl⟩) (fun j hj => by rw [hn0] at hj; cases hj)
                  replace hVM2 := Lib.hid hVM2
                  replace hmu2 := Lib.hid hmu2
                  go_wp2_with fail
                  refine ⟨⟨_, _, M, rfl, (show Hid _ from ⟨hV5, hVM2.out, hB5, by have := hmu2.out; omega⟩)⟩, ?_⟩
                  rw [hV5.meas, hmu.out]
                  exact hmu2.out
                · skip
                  have hng : ¬ Good L := by
                    rcases hbd with h | ⟨q, h1, h2⟩
                    · have := (hto.out hl.out).1; omega
                    · exact not_lead hR hi (hlz.out _ hl.out) (hto.out hl.out).2.2 (hVM.marks.reach _ _ h1) (by rw [← hz.out, ← haf.out]; exact h2)
                  have hbX := hb1.trans (hB5.mono hb1.size)
                  have hfin : Hid (VerPost code w (.returned (.tuple #[.slice none 0 0, .int .i64 0, .bool false])) W5) := ⟨.inr ⟨fun l h => (by rw [hf] at h; injection h with h; subst h; exact hng), rfl⟩, hbX⟩
                  clear hng hf
                  go_wp2_with fail
                  exact bodyPost_ret (v := .tuple #[.slice none 0 0, .int .i64 0, .bool false]) (by simp [results, Tryd.f27, go_sem]) rfl hfin.out
              · skip
                have hl : leadOp z.op = true := by rw [ho]; rfl
                have e7 : decide (z.op ≠ 7) = true := by rw [ho]; rfl
                have e11 : decide (z.op ≠ 11) = true := by rw [ho]; rfl
                rw [hl] at hkd
                rw [hl, e7] at hq7
                rw [hl, e11] at hq11
                replace ho := Lib.hid ho
                replace hl := Lib.hid hl
                clear e7 e11
                go_wp2_with fail
                refine hkd.out.mono ?_
                rintro e W3 ⟨rfl, hb23⟩
                obtain ⟨W4, hW4⟩ : ∃ W4, W4 = (W3.alloc (.cells #[.string (str (opName z.op)), .int .i64 (takesOp z.op : Nat), .int .i64 (putsOp z.op : Nat), .bool (longOp z.op), .bool true] 75)) := ⟨_, rfl⟩
                have hb24 : Below W2.heap.size W2 W4 := by rw [hW4]; exact hb23.alloc hb23.size _
                have hA15 : Arr W4 W3.heap.size 75 [.string (str (opName z.op)), .int .i64 (takesOp z.op : Nat), .int .i64 (putsOp z.op : Nat), .bool (longOp z.op), .bool true] := by rw [hW4]; exact Arr.new rfl rfl
                have hA4 := hA13.below hb24
                have hV4 := hV2.below hb24
                have hB4 := hB2.trans (hb24.mono hB2.size)
                obtain ⟨p0, p1, p2, p3, p4⟩ := hOps.out W4 hB4 7 (.inl rfl)
                obtain ⟨p5, p6, p7, p8, p9⟩ := hOps.out W4 hB4 11 (.inr rfl)
                simp only [Nat.reduceMul, Nat.reduceAdd] at p0 p1 p2 p3 p4 p5 p6 p7 p8 p9
                have hrc := Lib.hid (reach_any w1.heap.size (w1.heap.size + 1 + 1) (w1.heap.size + 3 + 1) g cap (w1.heap.size + 1) L.length ds td0 tz (af : Int) W4 hV4 (Nat.le_of_lt (hto.out hl.out).1) (by omega) (by omega) (by omega))
                have r3 := hA4.cell (j := 3) rfl
                subst hW4
                go_wp2_with fail
                refine hrc.out.mono ?_
                rintro e W5 hpost
                obtain ⟨ds1, td1, b, hV5, hK5, rfl, hb⟩ := reach_split hpost hV4.len (Nat.le_of_lt (hto.out hl.out).1)
                have hB5 := hB4.trans (hK5.bel.mono (by omega))
                clear hpost hrc
                rcases hb with ⟨rfl, hj, hE⟩ | ⟨rfl, hbd⟩
                · have hA15b := hK5.arr hA15 (by decide) (by decide)
                  have s0 := hA15b.cell (j := 0) rfl
                  have s1 := hA15b.cell (j := 1) rfl
                  have s2 := hA15b.cell (j := 2) rfl
                  have s3 := hA15b.cell (j := 3) rfl
                  have s4 := hA15b.cell (j := 4) rfl
                  obtain ⟨t0, t1, t2, t3, t4⟩ := hOps.out W5 hB5 7 (.inl rfl)
                  obtain ⟨t5, t6, t7, t8, t9⟩ := hOps.out W5 hB5 11 (.inr rfl)
                  simp only [Nat.reduceMul, Nat.reduceAdd] at t0 t1 t2 t3 t4 t5 t6 t7 t8 t9
                  have hln1 : td1.length ≤ 100000 := by have := hE.mu; simp only [mu, List.length_append, List.length_singleton] at this hmu5; omega
                  have hnx : nextO L i = some (i + 1) := by rw [nextO, if_pos]; rw [← hz.out]; rw [ho.out]; simp
                  have hnxb : L[i]!.op ≠ 7 ∧ L[i]!.op ≠ 11 := by rw [← hz.out]; rw [ho.out]; simp
                  have hwi : IntKind.i64.wrap ((i : Int) + 1) = ((i + 1 : Nat) : Int) := by rw [Int.natCast_succ]; exact IntWalk.i64_in _ (by omega)
                  have hrc2 := Lib.hid (reach_any w1.heap.size (w1.heap.size + 1 + 1) (w1.heap.size + 3 + 1) g cap (w1.heap.size + 1) L.length ds1 td1 (i + 1) (af : Int) W5 hV5 (by omega) hln1 (by omega) (by omega))
                  go_wp2_with fail
                  refine hrc2.out.mono ?_
                  rintro e W6 hpost
                  obtain ⟨ds2, td2, b, hV6, hK6, rfl, hb⟩ := reach_split hpost hV5.len (by omega)
                  have hB6 := hB5.trans (hK6.bel.mono (by omega))
                  clear hpost hrc2
                  rcases hb with ⟨rfl, hj2, hE2⟩ | ⟨rfl, hbd⟩
                  · skip
                    obtain ⟨hVM2, hmu2⟩ := hround.out _ _ _ _ (by rw [(hto.out hl.out).2.1]; exact hE) (by rw [hnx]; exact hE2) (fun j hj => by rw [hnx] at hj; injection hj with hj; subst hj; exact hj2)
                    replace hVM2 := Lib.hid hVM2
                    replace hmu2 := Lib.hid hmu2
                    go_wp2_with fail
                    refine ⟨⟨_, _, M, rfl, (show Hid _ from ⟨hV6, hVM2.out, hB6, by have := hmu2.out; omega⟩)⟩, ?_⟩
                    rw [hV6.meas, hmu.out]
                    exact hmu2.out
                  · skip
                    have hng : ¬ Good L := by
                      rcases hbd with h | ⟨q, h1, h2⟩
                      · exact not_end hR hi hnxb.1 hnxb.2 h
                      · have hq : Reach L (i + 1) q := by
                          rcases hE.new _ _ h1 with h1 | ⟨h3, h4, _⟩
                          · exact hVM.marks.reach _ _ h1
                          · rw [h3, h4]
                            have := Reach.lead hR hi (hlz.out _ hl.out) (hto.out hl.out).2.2
                            rw [← hz.out, ← haf.out] at this
                            exact this
                        exact not_next hR hi hnxb.1 hnxb.2 hq (by rw [← hz.out, ← haf.out]; exact h2)
                    have hbX := hb1.trans (hB6.mono hb1.size)
                    have hfin : Hid (VerPost code w (.returned (.tuple #[.slice none 0 0, .int .i64 0, .bool false])) W6) := ⟨.inr ⟨fun l h => (by rw [hf] at h; injection h with h; subst h; exact hng), rfl⟩, hbX⟩
                    clear hng hf
                    go_wp2_with fail
                    exact bodyPost_ret (v := .tuple #[.slice none 0 0, .int .i64 0, .bool false]) (by simp [results, Tryd.f27, go_sem]) rfl hfin.out
                · skip
                  have hng : ¬ Good L := by
                    rcases hbd with h | ⟨q, h1, h2⟩
                    · have := (hto.out hl.out).1; omega
                    · exact not_lead hR hi (hlz.out _ hl.out) (hto.out hl.out).2.2 (hVM.marks.reach _ _ h1) (by rw [← hz.out, ← haf.out]; exact h2)
                  have hbX := hb1.trans (hB5.mono hb1.size)
                  have hfin : Hid (VerPost code w (.returned (.tuple #[.slice none 0 0, .int .i64 0, .bool false])) W5) := ⟨.inr ⟨fun l h => (by rw [hf] at h; injection h with h; subst h; exact hng), rfl⟩, hbX⟩
                  clear hng hf
                  go_wp2_with fail
                  exact bodyPost_ret (v := .tuple #[.slice none 0 0, .int .i64 0, .bool false]) (by simp [results, Tryd.f27, go_sem]) rfl hfin.out
              · skip
                have hl : leadOp z.op = false := by simp [leadOp]; omega
                have e7 : decide (z.op ≠ 7) = true := by simp; omega
                have e11 : decide (z.op ≠ 11) = true := by simp; omega
                rw [hl] at hkd
                rw [hl, e7] at hq7
                rw [hl, e11] at hq11
                replace ho1 := Lib.hid ho1
                replace ho2 := Lib.hid ho2
                replace ho3 := Lib.hid ho3
                replace hl := Lib.hid hl
                clear e7 e11
                go_wp2_with fail
                refine hkd.out.mono ?_
                rintro e W3 ⟨rfl, hb23⟩
                obtain ⟨W4, hW4⟩ : ∃ W4, W4 = (W3.alloc (.cells #[.string (str (opName z.op)), .int .i64 (takesOp z.op : Nat), .int .i64 (putsOp z.op : Nat), .bool (longOp z.op), .bool false] 75)) := ⟨_, rfl⟩
                have hb24 : Below W2.heap.size W2 W4 := by rw [hW4]; exact hb23.alloc hb23.size _
                have hA15 : Arr W4 W3.heap.size 75 [.string (str (opName z.op)), .int .i64 (takesOp z.op : Nat), .int .i64 (putsOp z.op : Nat), .bool (longOp z.op), .bool false] := by rw [hW4]; exact Arr.new rfl rfl
                have hA4 := hA13.below hb24
                have hV4 := hV2.below hb24
                have hB4 := hB2.trans (hb24.mono hB2.size)
                obtain ⟨p0, p1, p2, p3, p4⟩ := hOps.out W4 hB4 7 (.inl rfl)
                obtain ⟨p5, p6, p7, p8, p9⟩ := hOps.out W4 hB4 11 (.inr rfl)
                simp only [Nat.reduceMul, Nat.reduceAdd] at p0 p1 p2 p3 p4 p5 p6 p7 p8 p9
                have hnx : nextO L i = some (i + 1) := by rw [nextO, if_pos]; rw [← hz.out]; exact ⟨ho2.out, ho1.out⟩
                have hnxb : L[i]!.op ≠ 7 ∧ L[i]!.op ≠ 11 := by rw [← hz.out]; exact ⟨ho2.out, ho1.out⟩
                have hwi : IntKind.i64.wrap ((i : Int) + 1) = ((i + 1 : Nat) : Int) := by rw [Int.natCast_succ]; exact IntWalk.i64_in _ (by omega)
                have hl0 : leadO L i = none := by rw [leadO, hlz.out _ hl.out]; rfl
                have hrc := Lib.hid (reach_any w1.heap.size (w1.heap.size + 1 + 1) (w1.heap.size + 3 + 1) g cap (w1.heap.size + 1) L.length ds td0 (i + 1) (af : Int) W4 hV4 (by omega) (by omega) (by omega) (by omega))
                subst hW4
                go_wp2_with fail
                refine hrc.out.mono ?_
                rintro e W5 hpost
                obtain ⟨ds1, td1, b, hV5, hK5, rfl, hb⟩ := reach_split hpost hV4.len (by omega)
                have hB5 := hB4.trans (hK5.bel.mono (by omega))
                clear hpost hrc
                rcases hb with ⟨rfl, hj, hE⟩ | ⟨rfl, hbd⟩
                · skip
                  obtain ⟨hVM2, hmu2⟩ := hround.out _ _ _ _ (by rw [hl0]; exact ⟨rfl, rfl⟩) (by rw [hnx]; exact hE) (fun j hj => by rw [hnx] at hj; injection hj with hj; subst hj; assumption)
                  replace hVM2 := Lib.hid hVM2
                  replace hmu2 := Lib.hid hmu2
                  go_wp2_with fail
                  refine ⟨⟨_, _, M, rfl, (show Hid _ from ⟨hV5, hVM2.out, hB5, by have := hmu2.out; omega⟩)⟩, ?_⟩
                  rw [hV5.meas, hmu.out]
                  exact hmu2.out
                · skip
                  have hng : ¬ Good L := by
                    rcases hbd with h | ⟨q, h1, h2⟩
                    · exact not_end hR hi hnxb.1 hnxb.2 h
                    · exact not_next hR hi hnxb.1 hnxb.2 (hVM.marks.reach _ _ h1) (by rw [← hz.out, ← haf.out]; exact h2)
                  have hbX := hb1.trans (hB5.mono hb1.size)
                  have hfin : Hid (VerPost code w (.returned (.tuple #[.slice none 0 0, .int .i64 0, .bool false])) W5) := ⟨.inr ⟨fun l h => (by rw [hf] at h; injection h with h; subst h; exact hng), rfl⟩, hbX⟩
                  clear hng hf
                  go_wp2_with fail
                  exact bodyPost_ret (v := .tuple #[.slice none 0 0, .int .i64 0, .bool false]) (by simp [results, Tryd.f27, go_sem]) rfl hfin.out
end Go.Proofs.YtainohbfcehpoaaDoor
namespace Go.Proofs.YtainohbfcehpoaaDoor
open Go.RowKit Go.Shelf

def u8C (l : List UInt8) : List Value := l.map fun b => Value.int .u8 (b.toNat : Int)
/-- A machine lies in block mB: its stack (top first), what is left of its input, its output. -/
structure MAt (mB : Nat) (st : List Int) (inp out : List UInt8) (W : World) : Prop where
  blk : ∃ sv ov, Arr W mB 63 [sv, .string (str inp), ov] ∧ W.ownsRow (mB + 1) 3 1 sv st.length (intC st.reverse) ∧ W.ownsRow (mB + 1) 5 1 ov out.length (u8C out)
theorem MAt.below {mB : Nat} {st : List Int} {inp out : List UInt8} {W W' : World} (h : MAt mB st inp out W) (hb : Below W.heap.size W W') : MAt mB st inp out W' := by
  obtain ⟨sv, ov, h1, h2, h3⟩ := h.blk
  exact ⟨sv, ov, h1.below hb, own_below h2 hb, own_below h3 hb⟩
theorem MAt.lt {mB : Nat} {st : List Int} {inp out : List UInt8} {W : World} (h : MAt mB st inp out W) : mB < W.heap.size := by
  obtain ⟨_, _, h1, _⟩ := h.blk
  exact h1.lt
theorem own_set {W : World} {B b o : Nat} {e : TypeId} {v u : Value} {n s : Nat} {xs : List Value} (h : W.ownsRow B e s v n xs) (hb : b < B) : (W.setCell ⟨b, o, none⟩ u).ownsRow B e s v n xs := by
  obtain ⟨hl, h⟩ := h
  refine ⟨hl, ?_⟩
  rcases h with h | ⟨g, cap, cur, hv, h1, h2, r⟩
  · exact .inl h
  · exact .inr ⟨g, cap, cur, hv, h1, (heap_setCell_other _ _ _ _ (by simp; omega)).trans h2, r⟩
/-- The stack, the input, the output are turned. -/
theorem MAt.set0 {mB : Nat} {st st' : List Int} {inp out : List UInt8} {W : World} (h : MAt mB st inp out W) {v : Value} (hv : W.ownsRow (mB + 1) 3 1 v st'.length (intC st'.reverse)) : MAt mB st' inp out (W.setCell ⟨mB, 0, none⟩ v) := by
  obtain ⟨sv, ov, h1, h2, h3⟩ := h.blk
  exact ⟨v, ov, h1.set 0 v, own_set hv (by omega), own_set h3 (by omega)⟩
theorem MAt.set1 {mB : Nat} {st : List Int} {inp inp' out : List UInt8} {W : World} (h : MAt mB st inp out W) : MAt mB st inp' out (W.setCell ⟨mB, 1, none⟩ (.string (str inp'))) := by
  obtain ⟨sv, ov, h1, h2, h3⟩ := h.blk
  exact ⟨sv, ov, h1.set 1 (.string (str inp')), own_set h2 (by omega), own_set h3 (by omega)⟩
theorem MAt.set2 {mB : Nat} {st : List Int} {inp out out' : List UInt8} {W : World} (h : MAt mB st inp out W) {v : Value} (hv : W.ownsRow (mB + 1) 5 1 v out'.length (u8C out')) : MAt mB st inp out' (W.setCell ⟨mB, 2, none⟩ v) := by
  obtain ⟨sv, ov, h1, h2, h3⟩ := h.blk
  exact ⟨sv, v, h1.set 2 v, own_set h2 (by omega), own_set hv (by omega)⟩
theorem own_popI {W : World} {B : Nat} {e : TypeId} {g c : Nat} {st : List Int} {a : Int} (h : W.ownsRow B e 1 (.slice (some ⟨g, 0, none⟩) (st.length + 1) c) (st.length + 1) (intC (a :: st).reverse)) : W.ownsRow B e 1 (.slice (some ⟨g, 0, none⟩) st.length c) st.length (intC st.reverse) := by
  obtain ⟨_, h⟩ := h
  refine ⟨by simp [intC], ?_⟩
  rcases h with ⟨h, _⟩ | ⟨g', cap, cur, hv, h1, h2, h3, h4, h5, h6⟩
  · cases h
  · injection hv with e1 e2 e3
    injection e1 with e1
    injection e1 with e1
    subst e1 e3
    refine .inr ⟨g, c, cur, rfl, h1, h2, by omega, h4, h5, ?_⟩
    have := congrArg (List.take (st.length * 1)) h6
    rw [List.take_take] at this
    rw [Nat.min_eq_left (by omega)] at this
    rw [this]
    simp [intC]
set_option maxRecDepth 100000 in
set_option maxHeartbeats 4000000 in
theorem pop_any (mB : Nat) (a : Int) (st : List Int) (inp out : List UInt8) (W : World) (h : MAt mB (a :: st) inp out W) (hl : st.length ≤ 100000) :
    Calls Tryd.prog 30 #[.pointer (some ⟨mB, 0, none⟩)] W fun e W' => e = .returned (.int .i64 a) ∧ MAt mB st inp out W' ∧ BelowBut W.heap.size mB W W' ∧ W'.cell? ⟨mB, 2, none⟩ = W.cell? ⟨mB, 2, none⟩ := by
  obtain ⟨sv, ov, hA, h2, h3⟩ := h.blk
  rw [List.length_cons] at h2
  obtain ⟨g, c, rfl, hg, hc, hcm, hgl, hcells⟩ := own_cells h2
  have c0 := hA.cell (j := 0) rfl
  have f0 := hA.free 0
  have cT := (hcells st.length (.int .i64 a) (by simp [intC])).1
  have hM : Hid (∀ W' : World, Below W.heap.size W W' → MAt mB st inp out (W'.setCell ⟨mB, 0, none⟩ (.slice (some ⟨g, 0, none⟩) st.length c))) := fun W' hb => (h.below hb).set0 (own_popI (own_below h2 hb))
  have hw1 : IntKind.i64.wrap (st.length : Int) = (st.length : Int) := IntWalk.i64_in _ (by omega)
  have i1 : (0 : Int) ≤ (st.length : Int) := by omega
  have hle : st.length ≤ c := by omega
  have hlt := hA.lt
  clear hA h2 h3 hcells h
  go_enter Tryd.func30, Tryd.ntmps30
  go_wp2_with fail
  go_quiet (fail)
  go_wp2_with fail
  refine name_wp ?_
  intro w2 hw2
  have hb2 : Below W.heap.size W w2 := by rw [hw2]; exact below_drewN (Below.refl _ _) _
  have c0' : w2.cell? ⟨mB, 0, none⟩ = some (.slice (some ⟨g, 0, none⟩) (st.length + 1) c) := by rw [hw2]; exact c0
  have f0' : w2.frozen? ⟨mB, 0, none⟩ = false := by rw [hw2]; exact f0
  clear hw2 c0 f0
  go_still_tail 12, (by kernel_rfl)
  go_wp2_with fail
  go_ret
  refine ⟨rfl, hM.out w2.drew hb2.drew, ((BelowBut.of hb2).setCell 0 _).drew, ?_⟩
  exact (World.cell?_setCell_other w2 _ _ _ (by intro e; injection e with _ e; omega)).trans (World.cell?_of_block (a := ⟨mB, 2, none⟩) (hb2.block mB hlt))
theorem push_run (mB : Nat) (st vs : List Int) (inp out : List UInt8) (W : World) (b : Nat) (h : MAt mB st inp out W) (hb : Arr W b 3 (intC vs)) (hl : st.length ≤ 100000) (hv : vs.length ≤ 10) :
    ∃ sv ov v' w', Arr W mB 63 [sv, .string (str inp), ov] ∧ (Builtin.append_ #[31, 31] 31 #[sv, .slice (some ⟨b, 0, none⟩) vs.length vs.length]).run Tryd.prog W = .ok v' w' ∧
      (∃ a c, v' = .slice a (st.length + vs.length) c) ∧ Arr w' mB 63 [sv, .string (str inp), ov] ∧ MAt mB (vs.reverse ++ st) inp out (w'.setCell ⟨mB, 0, none⟩ v') ∧ Below mB W (w'.setCell ⟨mB, 0, none⟩ v') := by
  obtain ⟨sv, ov, hA, h2, h3⟩ := h.blk
  have hlt := hA.lt
  obtain ⟨i0, hi, hz0, hz1, hz2⟩ := info_parts info_int
  obtain ⟨v', w', hrun, r1, r2, r3, _⟩ := run_append_own_at (P := Tryd.prog) W (mB + 1) 31 31 3 i0 (.int .i64 0) 1 8 Tryd.underlying31 hi hz0 hz1 hz2 rfl (by decide) sv st.length (intC st.reverse) h2 ⟨b, 0, none⟩ vs.length vs.length (intC vs) (by simp [intC]) (fun j u hu => by rw [Addr.add_mid, Nat.zero_add]; exact hb.cell hu) (fun u hu => by
      obtain ⟨z, _, rfl⟩ := List.mem_map.1 hu
      rfl) (by unfold maxLen; omega) (by omega) (by omega)
  have hA' : Arr w' mB 63 [sv, .string (str inp), ov] := (r2.block mB hlt (fun e => by have := (h2.lt mB e.symm).1; omega)).trans hA
  have h3' : w'.ownsRow (mB + 1) 5 1 ov out.length (u8C out) := by
    refine h3.kept r2 ?_
    rcases h3.2 with ⟨rfl, _⟩ | ⟨g3, c3, cur3, rfl, _, hg3, _⟩
    · exact .inl rfl
    · refine .inr fun e => ?_
      rcases h2.2 with ⟨rfl, _⟩ | ⟨g2, c2, cur2, rfl, _, hg2, _⟩
      · cases e
      · injection e with e
        have e' : g3 = g2 := e
        rw [e', hg2] at hg3
        injection hg3 with hg3
        injection hg3 with _ hg3 _
        exact absurd hg3 (by decide)
  have hN : MAt mB st inp out w' ∨ True := .inr trivial
  refine ⟨sv, ov, v', w', hA, hrun, own_val r1, hA', ⟨v', ov, hA'.set 0 v', ?_, own_set h3' (by omega)⟩, ?_⟩
  · have e : intC (vs.reverse ++ st).reverse = intC st.reverse ++ intC vs := by simp [intC]
    have e2 : (vs.reverse ++ st).length = st.length + vs.length := by simp; omega
    rw [e, e2]
    exact own_set r1 (by omega)
  · refine Below.setCell (B := mB) (p := ⟨mB, 0, none⟩) ⟨r2.os, r2.tape, r2.output, r2.size, fun k hk => r2.block k (by omega) (fun e => by have := (h2.lt k e.symm).1; omega)⟩ (Nat.le_refl _) _
set_option maxRecDepth 100000 in
set_option maxHeartbeats 4000000 in
theorem push_any (mB : Nat) (st vs : List Int) (inp out : List UInt8) (W : World) (b n : Nat) (hn : n = vs.length) (h : MAt mB st inp out W) (hb : Arr W b 3 (intC vs)) (hl : st.length ≤ 100000) (hv : vs.length ≤ 10) :
    Calls Tryd.prog 31 #[.pointer (some ⟨mB, 0, none⟩), .slice (some ⟨b, 0, none⟩) n n] W fun e W' => e = .returned (.tuple #[]) ∧ MAt mB (vs.reverse ++ st) inp out W' ∧ Below mB W W' := by
  subst hn
  obtain ⟨sv, ov, v', w', hA, hrun, ⟨a, c, rfl⟩, hA', hM, hB⟩ := push_run mB st vs inp out W b h hb hl hv
  have c0 := hA.cell (j := 0) rfl
  have d0 := hA'.cell (j := 0) rfl
  have f0 := hA'.free 0
  have hfin := Lib.hid (And.intro hM hB)
  replace hrun := Lib.hid hrun
  clear hA hA' h hb hM hB
  go_enter Tryd.func31, Tryd.ntmps31
  go_wp2_with (at_builtin; go_loud (refine wpList_append_known rfl _ _ _ _ rfl _ _ rfl rfl hrun.out ?_))
  go_end0
  exact ⟨rfl, hfin.out⟩
theorem extract_mid (s : List UInt8) (f k : Nat) : (str s).extract f k = str ((s.drop f).take (k - f)) := by
  apply ByteArray.ext
  apply Array.ext'
  show ((str s).extract f k).data.toList = (s.drop f).take (k - f)
  rw [ByteArray.data_extract]
  simp [str, List.extract_eq_take_drop]
def headZ : List UInt8 → Int | [] => -1 | c :: _ => (c.toNat : Int)
theorem str_tail (c : UInt8) (r : List UInt8) : (str (c :: r)).extract 1 (str (c :: r)).size = str r := by
  have h := extract_mid (c :: r) 1 (str (c :: r)).size
  rw [h, str_size]
  congr 1
  simp
set_option maxRecDepth 100000 in
set_option maxHeartbeats 4000000 in
theorem next_any (mB : Nat) (st : List Int) (inp out : List UInt8) (W : World) (h : MAt mB st inp out W) (hi : inp.length ≤ 1000000) :
    Calls Tryd.prog 32 #[.pointer (some ⟨mB, 0, none⟩)] W fun e W' => e = .returned (.int .i64 (headZ inp)) ∧ MAt mB st inp.tail out W' ∧ BelowBut W.heap.size mB W W' := by
  obtain ⟨sv, ov, hA, h2, h3⟩ := h.blk
  have c1 := hA.cell (j := 1) rfl
  have f1 := hA.free 1
  cases inp with
  | nil =>
    have he : (str []).toList.isEmpty = true := by rw [ByteArray.toList_eq]; rfl
    have hfin : Hid (MAt mB st [] out W) := h
    clear h h2 h3 hA
    go_enter Tryd.func32, Tryd.ntmps32
    go_wp2_with fail
    go_ret
    exact ⟨rfl, hfin.out, BelowBut.refl _ _ _⟩
  | cons x r =>
    have he : (str (x :: r)).toList.isEmpty = false := by rw [ByteArray.toList_eq, str_list]; rfl
    have hsz : (str (x :: r)).size = r.length + 1 := by rw [str_size]; rfl
    have hex := str_tail x r
    rw [hsz] at hex
    have hg : ∀ (hh : 0 < (str (x :: r)).size), (str (x :: r))[0]'hh = x := fun _ => rfl
    have hfin : Hid (MAt mB st r out (W.setCell ⟨mB, 1, none⟩ (.string (str r)))) := h.set1
    have hx := x.toNat_lt
    clear h h2 h3 hA
    go_enter Tryd.func32, Tryd.ntmps32
    go_wp2_with fail
    go_ret
    exact ⟨rfl, hfin.out, (BelowBut.refl _ _ _).setCell 1 _⟩
end Go.Proofs.YtainohbfcehpoaaDoor
namespace Go.Proofs.YtainohbfcehpoaaDoor
open Go.RowKit Go.Shelf

theorem own_top {W : World} {B g c : Nat} {st : List Int} {a u : Int} (h : W.ownsRow B 3 1 (.slice (some ⟨g, 0, none⟩) (st.length + 1) c) (st.length + 1) (intC (a :: st).reverse)) :
    (W.setCell ⟨g, st.length, none⟩ (.int .i64 u)).ownsRow B 3 1 (.slice (some ⟨g, 0, none⟩) (st.length + 1) c) (st.length + 1) (intC (u :: st).reverse) := by
  obtain ⟨_, h⟩ := h
  refine ⟨by simp [intC], ?_⟩
  rcases h with ⟨h, _⟩ | ⟨g', cap, cur, hv, h1, h2, h3, h4, h5, h6⟩
  · cases h
  · injection hv with e1 e2 e3
    injection e1 with e1
    injection e1 with e1
    subst e1 e3
    refine .inr ⟨g, c, cur.setIfInBounds st.length (.int .i64 u), rfl, h1, cell_setRow_ok h2 _, h3, h4, by simpa using h5, ?_⟩
    rw [Array.toList_setIfInBounds, List.take_set, h6]
    simp only [intC, List.reverse_cons, List.map_append, List.map_cons, List.map_nil]
    rw [List.set_append_right _ _ (by simp)]
    simp
theorem MAt.top {mB g c : Nat} {a u : Int} {st : List Int} {inp out : List UInt8} {W : World} {ov : Value} (hA : Arr W mB 63 [.slice (some ⟨g, 0, none⟩) (st.length + 1) c, .string (str inp), ov]) (h2 : W.ownsRow (mB + 1) 3 1 (.slice (some ⟨g, 0, none⟩) (st.length + 1) c) (st.length + 1) (intC (a :: st).reverse)) (h3 : W.ownsRow (mB + 1) 5 1 ov out.length (u8C out)) :
    MAt mB (u :: st) inp out (W.setCell ⟨g, st.length, none⟩ (.int .i64 u)) := by
  have hg := (h2.lt g rfl).1
  refine ⟨_, ov, hA.other _ (by omega), own_top h2, h3.1, ?_⟩
  rcases h3.2 with hh | ⟨g3, c3, cur3, hv, q1, q2, r⟩
  · exact .inl hh
  · refine .inr ⟨g3, c3, cur3, hv, q1, (heap_setCell_other _ _ _ _ ?_).trans q2, r⟩
    intro e
    simp only at e
    rcases h2.2 with ⟨h, _⟩ | ⟨g2, c2, cur2, hv2, _, hg2, _⟩
    · cases h
    · injection hv2 with e1
      injection e1 with e1
      injection e1 with e1
      rw [← e1, ← e, q2] at hg2
      injection hg2 with hg2
      injection hg2 with _ hg2 _
      exact absurd hg2 (by decide)
theorem w64_wrap (n : Int) : w64 n = wrap64 n := IntWalk.i64_left n
theorem belowBut_of {C B x : Nat} {w w' : World} (h : BelowBut B x w w') (hx : C ≤ x) (hC : C ≤ B) : Below C w w' := h.below hx hC
set_option maxRecDepth 100000 in
set_option maxHeartbeats 4000000 in
theorem calc0 (mB : Nat) (off opd to : Nat) (st : List Int) (inp out : List UInt8) (W : World) (h : MAt mB st inp out W) (hl : st.length ≤ 50000) :
    Calls Tryd.prog 29 #[.pointer (some ⟨mB, 0, none⟩), insAgg off 0 opd to] W fun e W' => e = .returned (.tuple #[]) ∧ MAt mB ((opd : Int) :: st) inp out W' ∧ Below mB W W' := by
  have hmB := h.lt
  have h1 : MAt mB st inp out (W.alloc (.cells #[.int .i64 (off : Int), .int .i64 0, .int .i64 (opd : Int), .int .i64 (to : Int)] 66)) := h.below ((Below.refl _ _).alloc (Nat.le_refl _) _)
  have hB1 : Below mB W (W.alloc (.cells #[.int .i64 (off : Int), .int .i64 0, .int .i64 (opd : Int), .int .i64 (to : Int)] 66)) := (Below.refl mB W).alloc (Nat.le_of_lt hmB) _
  have hs1 : W.heap.size < (W.alloc (.cells #[.int .i64 (off : Int), .int .i64 0, .int .i64 (opd : Int), .int .i64 (to : Int)] 66)).heap.size := by simp
  clear h
  unfold insAgg
  go_enter Tryd.func29, Tryd.ntmps29
  have hA1 : Arr ((W.alloc (.cells #[.int .i64 (off : Int), .int .i64 0, .int .i64 (opd : Int), .int .i64 (to : Int)] 66)).alloc (.cells #[.int .i64 (opd : Int)] 3)) (W.alloc (.cells #[.int .i64 (off : Int), .int .i64 0, .int .i64 (opd : Int), .int .i64 (to : Int)] 66)).heap.size 3 (intC [(opd : Int)]) := Arr.new rfl rfl
  have hp1 := Lib.hid (push_any mB st [(opd : Int)] inp out ((W.alloc (.cells #[.int .i64 (off : Int), .int .i64 0, .int .i64 (opd : Int), .int .i64 (to : Int)] 66)).alloc (.cells #[.int .i64 (opd : Int)] 3)) (W.alloc (.cells #[.int .i64 (off : Int), .int .i64 0, .int .i64 (opd : Int), .int .i64 (to : Int)] 66)).heap.size 1 rfl (h1.below ((Below.refl _ _).alloc (Nat.le_refl _) _)) hA1 (by first | omega | (simp; omega)) (by simp))
  have hB2 := hB1.alloc (Nat.le_of_lt h1.lt) (.cells #[.int .i64 (opd : Int)] 3)
  simp only [World.size_alloc] at hp1
  go_wp2_with fail
  refine hp1.out.mono ?_
  rintro e W2 ⟨rfl, h2, hbp2⟩
  replace hB2 := hB2.trans hbp2
  go_wp2_with fail
  go_end0
  exact ⟨rfl, h2, hB2⟩

set_option maxRecDepth 100000 in
set_option maxHeartbeats 4000000 in
theorem calc1 (mB : Nat) (off opd to : Nat) (a : Int) (st : List Int) (inp out : List UInt8) (W : World) (h : MAt mB (a :: st) inp out W) (hl : st.length ≤ 50000) :
    Calls Tryd.prog 29 #[.pointer (some ⟨mB, 0, none⟩), insAgg off 1 opd to] W fun e W' => e = .returned (.tuple #[]) ∧ MAt mB (a :: a :: st) inp out W' ∧ Below mB W W' := by
  have hmB := h.lt
  have h1 : MAt mB (a :: st) inp out (W.alloc (.cells #[.int .i64 (off : Int), .int .i64 1, .int .i64 (opd : Int), .int .i64 (to : Int)] 66)) := h.below ((Below.refl _ _).alloc (Nat.le_refl _) _)
  have hB1 : Below mB W (W.alloc (.cells #[.int .i64 (off : Int), .int .i64 1, .int .i64 (opd : Int), .int .i64 (to : Int)] 66)) := (Below.refl mB W).alloc (Nat.le_of_lt hmB) _
  have hs1 : W.heap.size < (W.alloc (.cells #[.int .i64 (off : Int), .int .i64 1, .int .i64 (opd : Int), .int .i64 (to : Int)] 66)).heap.size := by simp
  clear h
  unfold insAgg
  go_enter Tryd.func29, Tryd.ntmps29
  go_wp2_with fail
  obtain ⟨W1, hW1⟩ : ∃ W1, W1 = W.alloc (.cells #[.int .i64 (off : Int), .int .i64 1, .int .i64 (opd : Int), .int .i64 (to : Int)] 66) := ⟨_, rfl⟩
  rw [← hW1] at h1 hB1 hs1
  rw [← hW1]
  clear hW1
  refine (pop_any mB a st inp out W1 h1 (by first | omega | (simp; omega))).mono ?_
  rintro e W2 ⟨rfl, h2, hbb2, _⟩
  have hB2 := hB1.trans (hbb2.below (Nat.le_refl mB) (Nat.le_of_lt h1.lt))
  have hA2 : Arr (W2.alloc (.cells #[.int .i64 a, .int .i64 a] 3)) W2.heap.size 3 (intC [a, a]) := Arr.new rfl rfl
  have hp2 := Lib.hid (push_any mB st [a, a] inp out (W2.alloc (.cells #[.int .i64 a, .int .i64 a] 3)) W2.heap.size 2 rfl (h2.below ((Below.refl _ _).alloc (Nat.le_refl _) _)) hA2 (by first | omega | (simp; omega)) (by simp))
  have hB3 := hB2.alloc (Nat.le_of_lt h2.lt) (.cells #[.int .i64 a, .int .i64 a] 3)
  go_wp2_with fail
  refine hp2.out.mono ?_
  rintro e W3 ⟨rfl, h3, hbp3⟩
  replace hB3 := hB3.trans hbp3
  go_wp2_with fail
  go_end0
  exact ⟨rfl, h3, hB3⟩

set_option maxRecDepth 100000 in
set_option maxHeartbeats 4000000 in
theorem calc2 (mB : Nat) (off opd to : Nat) (b a : Int) (st : List Int) (inp out : List UInt8) (W : World) (h : MAt mB (b :: a :: st) inp out W) (hl : st.length ≤ 50000) :
    Calls Tryd.prog 29 #[.pointer (some ⟨mB, 0, none⟩), insAgg off 2 opd to] W fun e W' => e = .returned (.tuple #[]) ∧ MAt mB (a :: b :: st) inp out W' ∧ Below mB W W' := by
  have hmB := h.lt
  have h1 : MAt mB (b :: a :: st) inp out (W.alloc (.cells #[.int .i64 (off : Int), .int .i64 2, .int .i64 (opd : Int), .int .i64 (to : Int)] 66)) := h.below ((Below.refl _ _).alloc (Nat.le_refl _) _)
  have hB1 : Below mB W (W.alloc (.cells #[.int .i64 (off : Int), .int .i64 2, .int .i64 (opd : Int), .int .i64 (to : Int)] 66)) := (Below.refl mB W).alloc (Nat.le_of_lt hmB) _
  have hs1 : W.heap.size < (W.alloc (.cells #[.int .i64 (off : Int), .int .i64 2, .int .i64 (opd : Int), .int .i64 (to : Int)] 66)).heap.size := by simp
  clear h
  unfold insAgg
  go_enter Tryd.func29, Tryd.ntmps29
  go_wp2_with fail
  obtain ⟨W1, hW1⟩ : ∃ W1, W1 = W.alloc (.cells #[.int .i64 (off : Int), .int .i64 2, .int .i64 (opd : Int), .int .i64 (to : Int)] 66) := ⟨_, rfl⟩
  rw [← hW1] at h1 hB1 hs1
  rw [← hW1]
  clear hW1
  refine (pop_any mB b (a :: st) inp out W1 h1 (by first | omega | (simp; omega))).mono ?_
  rintro e W2 ⟨rfl, h2, hbb2, _⟩
  have hB2 := hB1.trans (hbb2.below (Nat.le_refl mB) (Nat.le_of_lt h1.lt))
  go_wp2_with fail
  refine (pop_any mB a st inp out W2 h2 (by first | omega | (simp; omega))).mono ?_
  rintro e W3 ⟨rfl, h3, hbb3, _⟩
  have hB3 := hB2.trans (hbb3.below (Nat.le_refl mB) (Nat.le_of_lt h2.lt))
  have hA3 : Arr (W3.alloc (.cells #[.int .i64 b, .int .i64 a] 3)) W3.heap.size 3 (intC [b, a]) := Arr.new rfl rfl
  have hp3 := Lib.hid (push_any mB st [b, a] inp out (W3.alloc (.cells #[.int .i64 b, .int .i64 a] 3)) W3.heap.size 2 rfl (h3.below ((Below.refl _ _).alloc (Nat.le_refl _) _)) hA3 (by first | omega | (simp; omega)) (by simp))
  have hB4 := hB3.alloc (Nat.le_of_lt h3.lt) (.cells #[.int .i64 b, .int .i64 a] 3)
  go_wp2_with fail
  refine hp3.out.mono ?_
  rintro e W4 ⟨rfl, h4, hbp4⟩
  replace hB4 := hB4.trans hbp4
  go_wp2_with fail
  go_end0
  exact ⟨rfl, h4, hB4⟩

set_option maxRecDepth 100000 in
set_option maxHeartbeats 4000000 in
theorem calc3 (mB : Nat) (off opd to : Nat) (a : Int) (st : List Int) (inp out : List UInt8) (W : World) (h : MAt mB (a :: st) inp out W) (hl : st.length ≤ 50000) :
    Calls Tryd.prog 29 #[.pointer (some ⟨mB, 0, none⟩), insAgg off 3 opd to] W fun e W' => e = .returned (.tuple #[]) ∧ MAt mB st inp out W' ∧ Below mB W W' := by
  have hmB := h.lt
  have h1 : MAt mB (a :: st) inp out (W.alloc (.cells #[.int .i64 (off : Int), .int .i64 3, .int .i64 (opd : Int), .int .i64 (to : Int)] 66)) := h.below ((Below.refl _ _).alloc (Nat.le_refl _) _)
  have hB1 : Below mB W (W.alloc (.cells #[.int .i64 (off : Int), .int .i64 3, .int .i64 (opd : Int), .int .i64 (to : Int)] 66)) := (Below.refl mB W).alloc (Nat.le_of_lt hmB) _
  have hs1 : W.heap.size < (W.alloc (.cells #[.int .i64 (off : Int), .int .i64 3, .int .i64 (opd : Int), .int .i64 (to : Int)] 66)).heap.size := by simp
  clear h
  unfold insAgg
  go_enter Tryd.func29, Tryd.ntmps29
  go_wp2_with fail
  obtain ⟨W1, hW1⟩ : ∃ W1, W1 = W.alloc (.cells #[.int .i64 (off : Int), .int .i64 3, .int .i64 (opd : Int), .int .i64 (to : Int)] 66) := ⟨_, rfl⟩
  rw [← hW1] at h1 hB1 hs1
  rw [← hW1]
  clear hW1
  refine (pop_any mB a st inp out W1 h1 (by first | omega | (simp; omega))).mono ?_
  rintro e W2 ⟨rfl, h2, hbb2, _⟩
  have hB2 := hB1.trans (hbb2.below (Nat.le_refl mB) (Nat.le_of_lt h1.lt))
  go_wp2_with fail
  go_end0
  exact ⟨rfl, h2, hB2⟩

set_option maxRecDepth 100000 in
set_option maxHeartbeats 4000000 in
theorem calc4 (mB : Nat) (off opd to : Nat) (b a : Int) (st : List Int) (inp out : List UInt8) (W : World) (h : MAt mB (b :: a :: st) inp out W) (hl : st.length ≤ 50000) :
    Calls Tryd.prog 29 #[.pointer (some ⟨mB, 0, none⟩), insAgg off 4 opd to] W fun e W' => e = .returned (.tuple #[]) ∧ MAt mB (w64 (a + b) :: st) inp out W' ∧ Below mB W W' := by
  have hmB := h.lt
  have h1 : MAt mB (b :: a :: st) inp out (W.alloc (.cells #[.int .i64 (off : Int), .int .i64 4, .int .i64 (opd : Int), .int .i64 (to : Int)] 66)) := h.below ((Below.refl _ _).alloc (Nat.le_refl _) _)
  have hB1 : Below mB W (W.alloc (.cells #[.int .i64 (off : Int), .int .i64 4, .int .i64 (opd : Int), .int .i64 (to : Int)] 66)) := (Below.refl mB W).alloc (Nat.le_of_lt hmB) _
  have hs1 : W.heap.size < (W.alloc (.cells #[.int .i64 (off : Int), .int .i64 4, .int .i64 (opd : Int), .int .i64 (to : Int)] 66)).heap.size := by simp
  clear h
  unfold insAgg
  go_enter Tryd.func29, Tryd.ntmps29
  go_wp2_with fail
  obtain ⟨W1, hW1⟩ : ∃ W1, W1 = W.alloc (.cells #[.int .i64 (off : Int), .int .i64 4, .int .i64 (opd : Int), .int .i64 (to : Int)] 66) := ⟨_, rfl⟩
  rw [← hW1] at h1 hB1 hs1
  rw [← hW1]
  clear hW1
  refine (pop_any mB b (a :: st) inp out W1 h1 (by first | omega | (simp; omega))).mono ?_
  rintro e W2 ⟨rfl, h2, hbb2, _⟩
  have hB2 := hB1.trans (hbb2.below (Nat.le_refl mB) (Nat.le_of_lt h1.lt))
  go_wp2_with fail
  refine (pop_any mB a st inp out W2 h2 (by first | omega | (simp; omega))).mono ?_
  rintro e W3 ⟨rfl, h3, hbb3, _⟩
  have hB3 := hB2.trans (hbb3.below (Nat.le_refl mB) (Nat.le_of_lt h2.lt))
  have hA3 : Arr (W3.alloc (.cells #[.int .i64 (w64 (a + b))] 3)) W3.heap.size 3 (intC [w64 (a + b)]) := Arr.new rfl rfl
  have hp3 := Lib.hid (push_any mB st [w64 (a + b)] inp out (W3.alloc (.cells #[.int .i64 (w64 (a + b))] 3)) W3.heap.size 1 rfl (h3.below ((Below.refl _ _).alloc (Nat.le_refl _) _)) hA3 (by first | omega | (simp; omega)) (by simp))
  have hB4 := hB3.alloc (Nat.le_of_lt h3.lt) (.cells #[.int .i64 (w64 (a + b))] 3)
  simp only [w64_wrap] at hp3 hB4
  go_wp2_with fail
  refine hp3.out.mono ?_
  rintro e W4 ⟨rfl, h4, hbp4⟩
  replace hB4 := hB4.trans hbp4
  go_wp2_with fail
  go_end0
  rw [w64_wrap]
  exact ⟨rfl, h4, hB4⟩

set_option maxRecDepth 100000 in
set_option maxHeartbeats 4000000 in
theorem calc5 (mB : Nat) (off opd to : Nat) (b a : Int) (st : List Int) (inp out : List UInt8) (W : World) (h : MAt mB (b :: a :: st) inp out W) (hl : st.length ≤ 50000) :
    Calls Tryd.prog 29 #[.pointer (some ⟨mB, 0, none⟩), insAgg off 5 opd to] W fun e W' => e = .returned (.tuple #[]) ∧ MAt mB (w64 (a - b) :: st) inp out W' ∧ Below mB W W' := by
  have hmB := h.lt
  have h1 : MAt mB (b :: a :: st) inp out (W.alloc (.cells #[.int .i64 (off : Int), .int .i64 5, .int .i64 (opd : Int), .int .i64 (to : Int)] 66)) := h.below ((Below.refl _ _).alloc (Nat.le_refl _) _)
  have hB1 : Below mB W (W.alloc (.cells #[.int .i64 (off : Int), .int .i64 5, .int .i64 (opd : Int), .int .i64 (to : Int)] 66)) := (Below.refl mB W).alloc (Nat.le_of_lt hmB) _
  have hs1 : W.heap.size < (W.alloc (.cells #[.int .i64 (off : Int), .int .i64 5, .int .i64 (opd : Int), .int .i64 (to : Int)] 66)).heap.size := by simp
  clear h
  unfold insAgg
  go_enter Tryd.func29, Tryd.ntmps29
  go_wp2_with fail
  obtain ⟨W1, hW1⟩ : ∃ W1, W1 = W.alloc (.cells #[.int .i64 (off : Int), .int .i64 5, .int .i64 (opd : Int), .int .i64 (to : Int)] 66) := ⟨_, rfl⟩
  rw [← hW1] at h1 hB1 hs1
  rw [← hW1]
  clear hW1
  refine (pop_any mB b (a :: st) inp out W1 h1 (by first | omega | (simp; omega))).mono ?_
  rintro e W2 ⟨rfl, h2, hbb2, _⟩
  have hB2 := hB1.trans (hbb2.below (Nat.le_refl mB) (Nat.le_of_lt h1.lt))
  go_wp2_with fail
  refine (pop_any mB a st inp out W2 h2 (by first | omega | (simp; omega))).mono ?_
  rintro e W3 ⟨rfl, h3, hbb3, _⟩
  have hB3 := hB2.trans (hbb3.below (Nat.le_refl mB) (Nat.le_of_lt h2.lt))
  have hA3 : Arr (W3.alloc (.cells #[.int .i64 (w64 (a - b))] 3)) W3.heap.size 3 (intC [w64 (a - b)]) := Arr.new rfl rfl
  have hp3 := Lib.hid (push_any mB st [w64 (a - b)] inp out (W3.alloc (.cells #[.int .i64 (w64 (a - b))] 3)) W3.heap.size 1 rfl (h3.below ((Below.refl _ _).alloc (Nat.le_refl _) _)) hA3 (by first | omega | (simp; omega)) (by simp))
  have hB4 := hB3.alloc (Nat.le_of_lt h3.lt) (.cells #[.int .i64 (w64 (a - b))] 3)
  simp only [w64_wrap] at hp3 hB4
  go_wp2_with fail
  refine hp3.out.mono ?_
  rintro e W4 ⟨rfl, h4, hbp4⟩
  replace hB4 := hB4.trans hbp4
  go_wp2_with fail
  go_end0
  rw [w64_wrap]
  exact ⟨rfl, h4, hB4⟩

set_option maxRecDepth 100000 in
set_option maxHeartbeats 4000000 in
theorem calc6 (mB : Nat) (off opd to : Nat) (b a : Int) (st : List Int) (inp out : List UInt8) (W : World) (h : MAt mB (b :: a :: st) inp out W) (hl : st.length ≤ 50000) :
    Calls Tryd.prog 29 #[.pointer (some ⟨mB, 0, none⟩), insAgg off 6 opd to] W fun e W' => e = .returned (.tuple #[]) ∧ MAt mB ((if a < b then 1 else 0) :: st) inp out W' ∧ Below mB W W' := by
  have hmB := h.lt
  have h1 : MAt mB (b :: a :: st) inp out (W.alloc (.cells #[.int .i64 (off : Int), .int .i64 6, .int .i64 (opd : Int), .int .i64 (to : Int)] 66)) := h.below ((Below.refl _ _).alloc (Nat.le_refl _) _)
  have hB1 : Below mB W (W.alloc (.cells #[.int .i64 (off : Int), .int .i64 6, .int .i64 (opd : Int), .int .i64 (to : Int)] 66)) := (Below.refl mB W).alloc (Nat.le_of_lt hmB) _
  have hs1 : W.heap.size < (W.alloc (.cells #[.int .i64 (off : Int), .int .i64 6, .int .i64 (opd : Int), .int .i64 (to : Int)] 66)).heap.size := by simp
  clear h
  unfold insAgg
  go_enter Tryd.func29, Tryd.ntmps29
  go_wp2_with fail
  obtain ⟨W1, hW1⟩ : ∃ W1, W1 = W.alloc (.cells #[.int .i64 (off : Int), .int .i64 6, .int .i64 (opd : Int), .int .i64 (to : Int)] 66) := ⟨_, rfl⟩
  rw [← hW1] at h1 hB1 hs1
  rw [← hW1]
  clear hW1
  refine (pop_any mB b (a :: st) inp out W1 h1 (by first | omega | (simp; omega))).mono ?_
  rintro e W2 ⟨rfl, h2, hbb2, _⟩
  have hB2 := hB1.trans (hbb2.below (Nat.le_refl mB) (Nat.le_of_lt h1.lt))
  go_wp2_with fail
  refine (pop_any mB a st inp out W2 h2 (by first | omega | (simp; omega))).mono ?_
  rintro e W3 ⟨rfl, h3, hbb3, _⟩
  have hB3 := hB2.trans (hbb3.below (Nat.le_refl mB) (Nat.le_of_lt h2.lt))
  have hA3 : Arr (W3.alloc (.cells #[.int .i64 0] 3)) W3.heap.size 3 (intC [0]) := Arr.new rfl rfl
  have hp3 := Lib.hid (push_any mB st [0] inp out (W3.alloc (.cells #[.int .i64 0] 3)) W3.heap.size 1 rfl (h3.below ((Below.refl _ _).alloc (Nat.le_refl _) _)) hA3 (by first | omega | (simp; omega)) (by simp))
  have hB4 := hB3.alloc (Nat.le_of_lt h3.lt) (.cells #[.int .i64 0] 3)
  go_wp2_with fail
  refine hp3.out.mono ?_
  rintro e W4 ⟨rfl, h4, hbp4⟩
  replace hB4 := hB4.trans hbp4
  by_cases hab : a < b
  · have hd : decide (a < b) = true := by simpa using hab
    obtain ⟨sv, ov, hA, q2, q3⟩ := h4.blk
    change W4.ownsRow (mB + 1) 3 1 sv (st.length + 1) (intC (0 :: st).reverse) at q2
    obtain ⟨g, c, rfl, hg, hc, hcm, hgl, hcells⟩ := own_cells q2
    have hT := Lib.hid (MAt.top (u := 1) hA q2 q3)
    have c0 := hA.cell (j := 0) rfl
    obtain ⟨cT, fT⟩ := hcells st.length (.int .i64 0) (by simp [intC])
    have d0 : (W4.setCell ⟨g, st.length, none⟩ (.int .i64 1)).cell? ⟨mB, 0, none⟩ = some (.slice (some ⟨g, 0, none⟩) (st.length + 1) c) := (World.cell?_setCell_other _ _ _ _ (by intro e; injection e with e _; omega)).trans c0
    have hw1 : IntKind.i64.wrap (st.length : Int) = (st.length : Int) := IntWalk.i64_in _ (by omega)
    have i1 : (0 : Int) ≤ (st.length : Int) := by omega
    have i2 : (st.length : Int) < (st.length : Int) + 1 := by omega
    clear hA q2 q3 hcells h1 h2 h3 h4 hp3 hA3
    go_wp2_with fail
    refine wp_region_held_drew (S := fun w' => w'.cell? ⟨mB, 0, none⟩ = some (.slice (some ⟨g, 0, none⟩) (st.length + 1) c)) (by kernel_rfl) (by exact c0) (fun hHeld => ?_)
    refine take_l (i := 0) (v := ?_) rfl (by kernel_rfl) (by kernel_rfl) (by kernel_rfl) (fun _ _ _ h => h) (Or.inl ⟨by kernel_rfl, ?_⟩) (by assumption) ?_
    rotate_left
    · intro w hSw; (try dsimp only at hSw); go_simp; (try with_reducible rfl)
    (try simp only [Act.put, List.setIfInBounds_toArray, List.set_cons_zero, List.set_cons_succ])
    refine take_l (i := 1) (v := ?_) rfl (by kernel_rfl) (by kernel_rfl) (by kernel_rfl) (fun _ _ _ h => h) (Or.inl ⟨by kernel_rfl, ?_⟩) (by assumption) ?_
    rotate_left
    · intro w hSw; (try dsimp only at hSw); go_simp; (try with_reducible rfl)
    (try simp only [Act.put, List.setIfInBounds_toArray, List.set_cons_zero, List.set_cons_succ])
    refine take_l (i := 2) (v := ?_) rfl (by kernel_rfl) (by kernel_rfl) (by kernel_rfl) (fun _ _ _ h => h) (Or.inl ⟨by kernel_rfl, ?_⟩) (by assumption) ?_
    rotate_left
    · intro w hSw; (try dsimp only at hSw); go_simp; (try with_reducible rfl)
    (try simp only [Act.put, List.setIfInBounds_toArray, List.set_cons_zero, List.set_cons_succ])
    refine take_l (i := 3) (v := ?_) rfl (by kernel_rfl) (by kernel_rfl) (by kernel_rfl) (fun _ _ _ h => h) (Or.inl ⟨by kernel_rfl, ?_⟩) (by assumption) ?_
    rotate_left
    · intro w hSw; (try dsimp only at hSw); go_simp; (try with_reducible rfl)
    (try simp only [Act.put, List.setIfInBounds_toArray, List.set_cons_zero, List.set_cons_succ])
    refine take_l (i := 4) (v := ?_) rfl (by kernel_rfl) (by kernel_rfl) (by kernel_rfl) (fun _ _ _ h => h) (Or.inl ⟨by kernel_rfl, ?_⟩) (by assumption) ?_
    rotate_left
    · intro w hSw; (try dsimp only at hSw); go_simp; (try with_reducible rfl)
    (try simp only [Act.put, List.setIfInBounds_toArray, List.set_cons_zero, List.set_cons_succ])
    refine take_l (i := 5) (v := ?_) rfl (by kernel_rfl) (by kernel_rfl) (by kernel_rfl) (fun _ _ _ h => h) (Or.inl ⟨by kernel_rfl, ?_⟩) (by assumption) ?_
    rotate_left
    · intro w hSw; (try dsimp only at hSw); go_simp; (try with_reducible rfl)
    (try simp only [Act.put, List.setIfInBounds_toArray, List.set_cons_zero, List.set_cons_succ])
    refine take_l (i := 6) (v := ?_) rfl (by kernel_rfl) (by kernel_rfl) (by kernel_rfl) (fun _ _ _ h => h) (Or.inl ⟨by kernel_rfl, ?_⟩) (by assumption) ?_
    rotate_left
    · intro w hSw; (try dsimp only at hSw); go_simp; (try with_reducible rfl)
    (try simp only [Act.put, List.setIfInBounds_toArray, List.set_cons_zero, List.set_cons_succ])
    refine take_l (i := 7) (v := ?_) rfl (by kernel_rfl) (by kernel_rfl) (by kernel_rfl) (fun _ _ _ h => h) (Or.inl ⟨by kernel_rfl, ?_⟩) (by assumption) ?_
    rotate_left
    · intro w hSw; (try dsimp only at hSw); go_simp; (try with_reducible rfl)
    (try simp only [Act.put, List.setIfInBounds_toArray, List.set_cons_zero, List.set_cons_succ])
    refine take_l (i := 8) (v := ?_) rfl (by kernel_rfl) (by kernel_rfl) (by kernel_rfl) (fun _ _ _ h => h) (Or.inl ⟨by kernel_rfl, ?_⟩) (by assumption) ?_
    rotate_left
    · intro w hSw; (try dsimp only at hSw); go_simp; (try with_reducible rfl)
    (try simp only [Act.put, List.setIfInBounds_toArray, List.set_cons_zero, List.set_cons_succ])
    refine take_l (i := 9) (v := ?_) rfl (by kernel_rfl) (by kernel_rfl) (by kernel_rfl) (fun _ _ _ h => h) (Or.inl ⟨by kernel_rfl, ?_⟩) (by assumption) ?_
    rotate_left
    · intro w hSw; (try dsimp only at hSw); go_simp; (try with_reducible rfl)
    (try simp only [Act.put, List.setIfInBounds_toArray, List.set_cons_zero, List.set_cons_succ])
    refine take_l (i := 10) (v := ?_) rfl (by kernel_rfl) (by kernel_rfl) (by kernel_rfl) (fun _ _ _ h => h) (Or.inl ⟨by kernel_rfl, ?_⟩) (by assumption) ?_
    rotate_left
    · intro w hSw; (try dsimp only at hSw); go_simp; (try with_reducible rfl)
    (try simp only [Act.put, List.setIfInBounds_toArray, List.set_cons_zero, List.set_cons_succ])
    refine wpAnyH_ready (rs := [11]) (by kernel_rfl) (by simp) ?_
    refine ready_l rfl (fun K hK => ?_) AllReadyH.nil
    go_simp
    refine hK.out _ _ (by exact d0) (fun hHeld => ?_)
    clear hK K
    (try simp only [Act.put, List.setIfInBounds_toArray, List.set_cons_zero, List.set_cons_succ])
    refine wpAnyH_done (by kernel_rfl) ?_ _
    go_wp2_with fail
    go_end0
    exact ⟨rfl, hT.out.below (Below.refl _ _).drew, (hB4.setCell (p := ⟨g, st.length, none⟩) (by show mB ≤ g; omega) _).drew⟩
  · have hd : decide (a < b) = false := by simpa using hab
    go_wp2_with fail
    go_end0
    exact ⟨rfl, h4, hB4⟩

theorem calculate_any (mB : Nat) (off op opd to : Nat) (st : List Int) (inp out : List UInt8) (W : World) (h : MAt mB st inp out W) (hl : st.length ≤ 50000) (ho : op < 7) (ht : takesOp op ≤ st.length) :
    Calls Tryd.prog 29 #[.pointer (some ⟨mB, 0, none⟩), insAgg off op opd to] W fun e W' => e = .returned (.tuple #[]) ∧ MAt mB (calcOp op opd st) inp out W' ∧ Below mB W W' := by
  have h7 : op = 0 ∨ op = 1 ∨ op = 2 ∨ op = 3 ∨ op = 4 ∨ op = 5 ∨ op = 6 := by omega
  rcases h7 with rfl | rfl | rfl | rfl | rfl | rfl | rfl
  · exact calc0 mB off opd to st inp out W h hl
  · match st, ht with
    | a :: r, _ => exact calc1 mB off opd to a r inp out W h (by simp at hl; omega)
  · match st, ht with
    | [a], ht => simp [takesOp] at ht
    | b :: a :: r, _ => exact calc2 mB off opd to b a r inp out W h (by simp at hl; omega)
  · match st, ht with
    | a :: r, _ => exact calc3 mB off opd to a r inp out W h (by simp at hl; omega)
  · match st, ht with
    | [a], ht => simp [takesOp] at ht
    | b :: a :: r, _ => exact calc4 mB off opd to b a r inp out W h (by simp at hl; omega)
  · match st, ht with
    | [a], ht => simp [takesOp] at ht
    | b :: a :: r, _ => exact calc5 mB off opd to b a r inp out W h (by simp at hl; omega)
  · match st, ht with
    | [a], ht => simp [takesOp] at ht
    | b :: a :: r, _ => exact calc6 mB off opd to b a r inp out W h (by simp at hl; omega)
end Go.Proofs.YtainohbfcehpoaaDoor
