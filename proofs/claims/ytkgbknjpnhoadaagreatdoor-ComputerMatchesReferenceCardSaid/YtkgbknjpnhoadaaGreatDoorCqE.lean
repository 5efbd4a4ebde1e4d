/-
  The contract of slices.Repeat over one byte.
-/
import Derived.Test.YtkgbknjpnhoadaaGreatDoorCqD
import Derived.Laws.CopyRow
import Derived.Laws.CopyOwn
import Derived.Laws.MakeOwn
namespace Go.Proofs.YtkgbknjpnhoadaaGreatDoor
open Go.RowKit Go.Shelf

set_option maxRecDepth 100000 in
set_option maxHeartbeats 4000000 in
theorem Mul1_any (N : Nat) (hN : N = 80 ∨ N = 256) (w : World) :
    Calls Tryz.prog 98 #[.int .u64 1, .int .u64 (N : Int)] w fun e w' => e = .returned (.tuple #[.int .u64 0, .int .u64 (N : Int)]) ∧ w' = w := by
  rcases hN with rfl | rfl
  · go_enter Tryz.func98, Tryz.ntmps98
    go_wp2
    go_ret2
    exact ⟨rfl, rfl⟩
  · go_enter Tryz.func98, Tryz.ntmps98
    go_wp2
    go_ret2
    exact ⟨rfl, rfl⟩

/-- A copy whose run is known, as one step of a region that draws. -/
theorem step_copy_known {P : Program} {ops : Array Oper} {o : Oper} {a : Act} {w : World} {K : Act → World → Prop} {Q : Exit → Act → World → Prop} {E : Prop} (hgd : o.guard = none) (d s : Operand) (t t' : TypeId)
    (ho : o.op = .call { callee := .builtin .copy, args := #[d, s], argTypes := #[t, t'] }) (v u : Value) (hd : a.eval d = v) (hs : a.eval s = u) {v' : Value} {w' : World}
    (hr : (Builtin.copy_ #[t, t'] o.type #[v, u]).run P w = .ok v' w') (h : K (a.put o.dst v') w') : if Region.wanted o (yielded ops a.tmps) = true then Oper.wp P o a w K Q else E := by
  have hw : Region.wanted o (yielded ops a.tmps) = true := by simp [Region.wanted, hgd]
  rw [if_pos hw]
  unfold Oper.wp execOp
  simp only [ho, resolve, invoke, builtin, Sem.run_bind, Sem.run_pure, Result.andThen_ok, List.map_toArray, List.map_cons, List.map_nil, hd, hs, hr]
  exact h
/-- A row of N bytes of which the first k are v, the others 0. -/
def rowAt (k N : Nat) (v : Int) : List Value := List.replicate k (.int .u8 v) ++ List.replicate (N - k) (.int .u8 0)
theorem rowAt_len {k N : Nat} {v : Int} (h : k ≤ N) : (rowAt k N v).length = N := by simp [rowAt]; omega
theorem rowAt_at {k N j : Nat} {v : Int} (h : j < k) : (rowAt k N v)[j]? = some (.int .u8 v) := by
  rw [rowAt, List.getElem?_append_left (by simpa using h)]
  simp [h]
theorem rowAt_full (N : Nat) (v : Int) : rowAt N N v = List.replicate N (.int .u8 v) := by simp [rowAt]
theorem rowAt_none (N : Nat) (v : Int) : rowAt 0 N v = List.replicate N (.int .u8 0) := by simp [rowAt]
theorem copy_rep (W : World) (g k m N : Nat) (v : Int) (src : Addr) (sLen sCap dLen dCap : Nat) (hA : Arr W g 5 (rowAt k N v)) (hm : m = Nat.min sLen dLen) (hk : k + m ≤ N)
    (hs : ∀ j, j < m → W.cell? (src.add j) = some (.int .u8 v)) :
    ∃ W', (Builtin.copy_ #[41, 41] 3 #[.slice (some ⟨g, k, none⟩) dLen dCap, .slice (some src) sLen sCap]).run Tryz.prog W = .ok (goInt m) W' ∧ Arr W' g 5 (rowAt (k + m) N v) ∧ ∀ (n : Nat) (a : World), Below n a W → n ≤ g → Below n a W' := by
  have h := run_copy_row (P := Tryz.prog) W 41 41 3 5 g k dLen dCap src sLen sCap (rowAt k N v).toArray 5 (List.replicate m (.int .u8 v)) Tryz.underlying41 (by kernel_rfl) hA (by simpa using hm)
    (fun j u hj => by
      have hj2 := List.getElem?_eq_some_iff.1 hj
      obtain ⟨h1, rfl⟩ := hj2
      rw [List.getElem_replicate]
      exact hs j (by simpa using h1)) (by simp only [List.length_replicate, List.size_toArray]; rw [rowAt_len (by omega)]; exact hk)
    (fun u hu => by rw [List.eq_of_mem_replicate hu]; rfl)
  rw [List.length_replicate] at h
  refine ⟨_, h, ?_, fun n a hb hn => below_setRow hb hn _⟩
  have e : (List.take k (rowAt k N v) ++ List.replicate m (.int .u8 v) ++ List.drop (k + m) (rowAt k N v)) = rowAt (k + m) N v := by
    unfold rowAt
    rw [List.take_append_of_le_length (by simp), List.take_of_length_le (by simp), List.drop_append, List.drop_of_length_le (by simp), List.length_replicate, List.nil_append, List.drop_replicate, show k + m - k = m from by omega, show N - k - m = N - (k + m) from by omega, List.replicate_append_replicate]
  rw [← e]
  exact setRow_heap W g _ _ _ _ hA

theorem Tryz.info_byte : (Tryz.prog.info? 5).map (fun i => (i.zero, i.size, i.bytes)) = some (some (.int .u8 0), 1, 1) := by kernel_rfl
set_option maxRecDepth 100000 in
set_option maxHeartbeats 4000000 in
theorem Repeat_any (g0 : Nat) (v : Int) (N : Nat) (hN : N = 80 ∨ N = 256) (w : World) (hA : Arr w g0 5 [.int .u8 v]) :
    Calls Tryz.prog 67 #[.slice (some ⟨g0, 0, none⟩) 1 1, .int .i64 (N : Int)] w fun e w' => ∃ g, e = .returned (.slice (some ⟨g, 0, none⟩) N N) ∧ w.heap.size ≤ g ∧ Arr w' g 5 (List.replicate N (.int .u8 v)) ∧ Below w.heap.size w w' := by
  have hM := Mul1_any N hN
  replace hM := Lib.hid hM
  obtain ⟨i0, hi, hz0, hz1, hz2⟩ := info_parts Tryz.info_byte
  have hmk : ∀ W : World, (Instr.makeSlice 41 (.int .i64 (N : Int)) (.int .i64 (N : Int))).run Tryz.prog W = .ok (.slice (some ⟨W.heap.size, 0, none⟩) N N) (W.alloc (.cells (rowAt 0 N v).toArray 5)) := fun W => by
    have := run_makeSlice (P := Tryz.prog) W 41 5 i0 (.int .u8 0) Tryz.underlying41 hi hz0 .i64 .i64 N N (by omega) (by omega) (by rw [hz1]; omega) (by rw [hz2]; omega) (by omega)
    rw [this, hz1, rowAt_none]
    congr 3
    apply Array.ext
    · simp [madeCells]
    · intro j h1 h2
      simp [madeCells, Nat.mod_one, Value.cells]
  have hN0 : decide ((N : Int) < 0) = false := by simp
  have hN1 : N ≤ 256 := by omega
  go_enter Tryz.func67, Tryz.ntmps67
  obtain ⟨W2, hcp1, hA2, hB2⟩ := copy_rep (w.alloc (.cells (rowAt 0 N v).toArray 5)) w.heap.size 0 1 N v ⟨g0, 0, none⟩ 1 1 N N (Arr.new rfl rfl) (by show 1 = min 1 N; omega) (by omega) (fun j hj => by
    obtain rfl : j = 0 := by omega
    exact (hA.alloc _).cell rfl)
  have hb2 := hB2 _ _ ((Below.refl _ w).alloc (Nat.le_refl _) _) (Nat.le_refl _)
  clear hB2
  go_wp2_with (go_at_call 98; refine (hM.out _).mono ?_; rintro e w1 ⟨rfl, h1⟩; rw [h1]; clear h1 w1)
  go_loopw [8] (fun i wr => ∃ k : Nat, 1 ≤ k ∧ k ≤ N ∧ i = .int .i64 k ∧ Aside (Below w.heap.size w wr) ∧ Aside (Arr wr w.heap.size 5 (rowAt k N v))) (fun i _ => N - (intOf i).toNat)
  case atStart => exact ⟨1, by omega, by omega, rfl, hb2, hA2⟩
  case round =>
    obtain ⟨k, hk1, hkN, rfl, BW, A⟩ := hrel
    clear hA2 hb2 hcp1 hA
    by_cases hlt : k < N
    · have hd : decide ((k : Int) < (N : Int)) = true := by simpa using hlt
      have hcell : ∀ j, j < k → wr.drew.cell? ((⟨w.heap.size, 0, none⟩ : Addr).add j) = some (.int .u8 v) := fun j hj => by
        rw [Addr.add_mid, Nat.zero_add]
        exact (A.out.drew).cell (rowAt_at hj)
      obtain ⟨W', hcp, hA', hB'⟩ := copy_rep wr.drew w.heap.size k (min k (N - k)) N v ⟨w.heap.size, 0, none⟩ k N (N - k) (N - k) A.out.drew rfl (by omega) (fun j hj => hcell j (by omega))
      have hb' := hB' _ _ BW.out.drew (Nat.le_refl _)
      clear hB' hcell
      have i1 : (0 : Int) ≤ (k : Int) := by omega
      have i2 : (k : Int) ≤ (N : Int) := by omega
      go_wp2
      have c1 := A.out.cell (rowAt_at (N := N) (v := v) (show 0 < k by omega))
      refine wp_region_held_drew (S := fun w' => w'.cell? ⟨w.heap.size, 0, none⟩ = some (.int .u8 v)) (by kernel_rfl) (by first | (dsimp only; go_keep) | go_keep) (fun hHeld => ?_)
      refine take_l (i := 0) (v := ?_) rfl (by kernel_rfl) (by kernel_rfl) (by kernel_rfl) (fun _ _ _ h => h) (Or.inl ⟨by kernel_rfl, ?_⟩) (by assumption) ?_
      rotate_left
      · intro w hSw; (try dsimp only at hSw); go_simp; (try with_reducible rfl)
      (try dsimp only [Act.put, List.setIfInBounds_toArray, List.set_cons_zero, List.set_cons_succ])
      refine take_l (i := 1) (v := ?_) rfl (by kernel_rfl) (by kernel_rfl) (by kernel_rfl) (fun _ _ _ h => h) (Or.inl ⟨by kernel_rfl, ?_⟩) (by assumption) ?_
      rotate_left
      · intro w hSw; (try dsimp only at hSw); go_simp; (try with_reducible rfl)
      (try dsimp only [Act.put, List.setIfInBounds_toArray, List.set_cons_zero, List.set_cons_succ])
      refine take_l (i := 2) (v := ?_) rfl (by kernel_rfl) (by kernel_rfl) (by kernel_rfl) (fun _ _ _ h => h) (Or.inl ⟨by kernel_rfl, ?_⟩) (by assumption) ?_
      rotate_left
      · intro w hSw; (try dsimp only at hSw); go_simp; (try with_reducible rfl)
      (try dsimp only [Act.put, List.setIfInBounds_toArray, List.set_cons_zero, List.set_cons_succ])
      refine take_l (i := 3) (v := ?_) rfl (by kernel_rfl) (by kernel_rfl) (by kernel_rfl) (fun _ _ _ h => h) (Or.inl ⟨by kernel_rfl, ?_⟩) (by assumption) ?_
      rotate_left
      · intro w hSw; (try dsimp only at hSw); go_simp; (try with_reducible rfl)
      (try dsimp only [Act.put, List.setIfInBounds_toArray, List.set_cons_zero, List.set_cons_succ])
      refine take_l (i := 4) (v := ?_) rfl (by kernel_rfl) (by kernel_rfl) (by kernel_rfl) (fun _ _ _ h => h) (Or.inl ⟨by kernel_rfl, ?_⟩) (by assumption) ?_
      rotate_left
      · intro w hSw; (try dsimp only at hSw); go_simp; (try with_reducible rfl)
      (try dsimp only [Act.put, List.setIfInBounds_toArray, List.set_cons_zero, List.set_cons_succ])
      refine take_l (i := 5) (v := ?_) rfl (by kernel_rfl) (by kernel_rfl) (by kernel_rfl) (fun _ _ _ h => h) (Or.inl ⟨by kernel_rfl, ?_⟩) (by assumption) ?_
      rotate_left
      · intro w hSw; (try dsimp only at hSw); go_simp; (try with_reducible rfl)
      (try dsimp only [Act.put, List.setIfInBounds_toArray, List.set_cons_zero, List.set_cons_succ])
      refine take_l (i := 6) (v := ?_) rfl (by kernel_rfl) (by kernel_rfl) (by kernel_rfl) (fun _ _ _ h => h) (Or.inl ⟨by kernel_rfl, ?_⟩) (by assumption) ?_
      rotate_left
      · intro w hSw; (try dsimp only at hSw); go_simp; (try with_reducible rfl)
      (try dsimp only [Act.put, List.setIfInBounds_toArray, List.set_cons_zero, List.set_cons_succ])
      refine wpAnyH_ready (rs := [7]) (by kernel_rfl) (by simp) ?_
      refine ready_l rfl (fun K hK => ?_) AllReadyH.nil
      refine step_copy_known (v := .slice (some ⟨w.heap.size, k, none⟩) (N - k) (N - k)) (u := .slice (some ⟨w.heap.size, 0, none⟩) k N) rfl (.tmp 41) (.tmp 44) 41 41 rfl ?ha ?hb hcp ?hc
      case ha => (go_simp; omega)
      case hb => go_simp
      (try dsimp only [Act.put, List.setIfInBounds_toArray, List.set_cons_zero, List.set_cons_succ])
      refine hK.out _ _ (by exact hA'.cell (rowAt_at (by omega))) (fun hHeld => ?_)
      clear hK K
      (try dsimp only [Act.put, List.setIfInBounds_toArray, List.set_cons_zero, List.set_cons_succ])
      refine take_l (i := 8) (v := ?_) rfl (by kernel_rfl) (by kernel_rfl) (by kernel_rfl) (fun _ _ _ h => h) (Or.inl ⟨by kernel_rfl, ?_⟩) (by assumption) ?_
      rotate_left
      · intro w hSw; (try dsimp only at hSw); go_simp; (try with_reducible rfl)
      (try dsimp only [Act.put, List.setIfInBounds_toArray, List.set_cons_zero, List.set_cons_succ])
      refine take_l (i := 9) (v := ?_) rfl (by kernel_rfl) (by kernel_rfl) (by kernel_rfl) (fun _ _ _ h => h) (Or.inl ⟨by kernel_rfl, ?_⟩) (by assumption) ?_
      rotate_left
      · intro w hSw; (try dsimp only at hSw); go_simp; (try with_reducible rfl)
      (try dsimp only [Act.put, List.setIfInBounds_toArray, List.set_cons_zero, List.set_cons_succ])
      refine wpAnyH_done (by kernel_rfl) ?_ _
      have hwr : IntKind.i64.wrap ((k : Int) + (min k (N - k) : Nat)) = ((k + min k (N - k) : Nat) : Int) := by rw [IntWalk.i64_in _ (by omega)]; omega
      go_wp2
      go_roundw
      case rel => exact ⟨k + min k (N - k), by omega, by omega, by omega, by first | exact hb' | exact trivial, by first | exact hA' | exact trivial⟩
      case measure => simp [intOf]; omega
    · obtain rfl : k = N := by omega
      have hd : decide ((k : Int) < (k : Int)) = false := by simp
      go_wp2
      go_ret
      refine ⟨_, rfl, Nat.le_refl _, by rw [← rowAt_full]; exact A.out, BW.out⟩
end Go.Proofs.YtkgbknjpnhoadaaGreatDoor
