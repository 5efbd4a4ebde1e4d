/-
  The contract of slices.Repeat over one byte.
  The texts of chapter 12: plain laws, no program in sight.
  The contracts of computer.shown, Screen, Bitmap.
-/
import Derived.Test.YtocpnlifmeffkaaGreatDoorUD
import Derived.Laws.CopyRow
import Derived.Laws.CopyOwn
import Derived.Laws.MakeOwn
import Derived.Test.YtocpnlifmeffkaaGreatDoorUA
import Derived.Lib.AtoiTie
import Derived.Lib.ItoaNum
import Derived.Lib.IndexMore
import Derived.Lib.SplitLaws
import Derived.Laws.Bits128
import Derived.Laws.BytesArg
namespace Go.Proofs.YtocpnlifmeffkaaGreatDoor
open Go.RowKit Go.Shelf

set_option maxRecDepth 100000 in
set_option maxHeartbeats 4000000 in
theorem Mul1_any (N : Nat) (hN : N = 80 ∨ N = 256) (w : World) :
    Calls Tryz.prog 153 #[.int .u64 1, .int .u64 (N : Int)] w fun e w' => e = .returned (.tuple #[.int .u64 0, .int .u64 (N : Int)]) ∧ w' = w := by
  rcases hN with rfl | rfl
  · go_enter Tryz.func153, Tryz.ntmps153
    go_wp2
    go_ret2
    exact ⟨rfl, rfl⟩
  · go_enter Tryz.func153, Tryz.ntmps153
    go_wp2
    go_ret2
    exact ⟨rfl, rfl⟩

/-- A copy whose run is known, as one step of a region that draws. -/
theorem step_copy_known {P : Program} {ops : Array Oper} {o : Oper} {a : Act} {w : World} {K : Act → World → Prop} {Q : Exit → Act → World → Prop} {E : Prop} (hgd : o.guard = none) (d s : Operand) (t t' : TypeId)
    (ho : o.op = .call { callee := .builtin .copy, args := #[d, s], argTypes := #[t, t'] }) (v u : Value) (hd : a.eval d = v) (hs : a.eval s = u) {v' : Value} {w' : World}
    (hr : (Builtin.copy_ #[t, t'] o.type #[v, u]).run P w = .ok v' w') (h : K (a.put o.dst v') w') : if Region.wanted o (yielded ops a.tmps) = true then Oper.wp P o a w K Q else E := by
  have hw : Region.wanted o (yielded ops a.tmps) = true := by simp [Region.wanted, hgd]
  rw [if_pos hw]
  unfold Oper.wp execOp
  simp only [ho, resolve, invoke, builtin, Sem.run_bind, Sem.run_pure, Result.andThen_ok, List.map_toArray, List.map_cons, List.map_nil, hd, hs, hr]
  exact h
/-- A row of N bytes of which the first k are v, the others 0. -/
def rowAt (k N : Nat) (v : Int) : List Value := List.replicate k (.int .u8 v) ++ List.replicate (N - k) (.int .u8 0)
theorem rowAt_len {k N : Nat} {v : Int} (h : k ≤ N) : (rowAt k N v).length = N := by simp [rowAt]; omega
theorem rowAt_at {k N j : Nat} {v : Int} (h : j < k) : (rowAt k N v)[j]? = some (.int .u8 v) := by
  rw [rowAt, List.getElem?_append_left (by simpa using h)]
  simp [h]
theorem rowAt_full (N : Nat) (v : Int) : rowAt N N v = List.replicate N (.int .u8 v) := by simp [rowAt]
theorem rowAt_none (N : Nat) (v : Int) : rowAt 0 N v = List.replicate N (.int .u8 0) := by simp [rowAt]
theorem copy_rep (W : World) (g k m N : Nat) (v : Int) (src : Addr) (sLen sCap dLen dCap : Nat) (hA : Arr W g 5 (rowAt k N v)) (hm : m = Nat.min sLen dLen) (hk : k + m ≤ N)
    (hs : ∀ j, j < m → W.cell? (src.add j) = some (.int .u8 v)) :
    ∃ W', (Builtin.copy_ #[57, 57] 3 #[.slice (some ⟨g, k, none⟩) dLen dCap, .slice (some src) sLen sCap]).run Tryz.prog W = .ok (goInt m) W' ∧ Arr W' g 5 (rowAt (k + m) N v) ∧ ∀ (n : Nat) (a : World), Below n a W → n ≤ g → Below n a W' := by
  have h := run_copy_row (P := Tryz.prog) W 57 57 3 5 g k dLen dCap src sLen sCap (rowAt k N v).toArray 5 (List.replicate m (.int .u8 v)) Tryz.underlying57 (by kernel_rfl) hA (by simpa using hm)
    (fun j u hj => by
      have hj2 := List.getElem?_eq_some_iff.1 hj
      obtain ⟨h1, rfl⟩ := hj2
      rw [List.getElem_replicate]
      exact hs j (by simpa using h1)) (by simp only [List.length_replicate, List.size_toArray]; rw [rowAt_len (by omega)]; exact hk)
    (fun u hu => by rw [List.eq_of_mem_replicate hu]; rfl)
  rw [List.length_replicate] at h
  refine ⟨_, h, ?_, fun n a hb hn => below_setRow hb hn _⟩
  have e : (List.take k (rowAt k N v) ++ List.replicate m (.int .u8 v) ++ List.drop (k + m) (rowAt k N v)) = rowAt (k + m) N v := by
    unfold rowAt
    rw [List.take_append_of_le_length (by simp), List.take_of_length_le (by simp), List.drop_append, List.drop_of_length_le (by simp), List.length_replicate, List.nil_append, List.drop_replicate, show k + m - k = m from by omega, show N - k - m = N - (k + m) from by omega, List.replicate_append_replicate]
  rw [← e]
  exact setRow_heap W g _ _ _ _ hA

theorem Tryz.info_byte : (Tryz.prog.info? 5).map (fun i => (i.zero, i.size, i.bytes)) = some (some (.int .u8 0), 1, 1) := by kernel_rfl
set_option maxRecDepth 100000 in
set_option maxHeartbeats 4000000 in
theorem Repeat_any (g0 : Nat) (v : Int) (N : Nat) (hN : N = 80 ∨ N = 256) (w : World) (hA : Arr w g0 5 [.int .u8 v]) :
    Calls Tryz.prog 81 #[.slice (some ⟨g0, 0, none⟩) 1 1, .int .i64 (N : Int)] w fun e w' => ∃ g, e = .returned (.slice (some ⟨g, 0, none⟩) N N) ∧ w.heap.size ≤ g ∧ Arr w' g 5 (List.replicate N (.int .u8 v)) ∧ Below w.heap.size w w' := by
  have hM := Mul1_any N hN
  replace hM := Lib.hid hM
  obtain ⟨i0, hi, hz0, hz1, hz2⟩ := info_parts Tryz.info_byte
  have hmk : ∀ W : World, (Instr.makeSlice 57 (.int .i64 (N : Int)) (.int .i64 (N : Int))).run Tryz.prog W = .ok (.slice (some ⟨W.heap.size, 0, none⟩) N N) (W.alloc (.cells (rowAt 0 N v).toArray 5)) := fun W => by
    have := run_makeSlice (P := Tryz.prog) W 57 5 i0 (.int .u8 0) Tryz.underlying57 hi hz0 .i64 .i64 N N (by omega) (by omega) (by rw [hz1]; omega) (by rw [hz2]; omega) (by omega)
    rw [this, hz1, rowAt_none]
    congr 3
    apply Array.ext
    · simp [madeCells]
    · intro j h1 h2
      simp [madeCells, Nat.mod_one, Value.cells]
  have hN0 : decide ((N : Int) < 0) = false := by simp
  have hN1 : N ≤ 256 := by omega
  go_enter Tryz.func81, Tryz.ntmps81
  obtain ⟨W2, hcp1, hA2, hB2⟩ := copy_rep (w.alloc (.cells (rowAt 0 N v).toArray 5)) w.heap.size 0 1 N v ⟨g0, 0, none⟩ 1 1 N N (Arr.new rfl rfl) (by show 1 = min 1 N; omega) (by omega) (fun j hj => by
    obtain rfl : j = 0 := by omega
    exact (hA.alloc _).cell rfl)
  have hb2 := hB2 _ _ ((Below.refl _ w).alloc (Nat.le_refl _) _) (Nat.le_refl _)
  clear hB2
  go_wp2_with (go_at_call 153; refine (hM.out _).mono ?_; rintro e w1 ⟨rfl, h1⟩; rw [h1]; clear h1 w1)
  go_loopw [8] (fun i wr => ∃ k : Nat, 1 ≤ k ∧ k ≤ N ∧ i = .int .i64 k ∧ Aside (Below w.heap.size w wr) ∧ Aside (Arr wr w.heap.size 5 (rowAt k N v))) (fun i _ => N - (intOf i).toNat)
  case atStart => exact ⟨1, by omega, by omega, rfl, hb2, hA2⟩
  case round =>
    obtain ⟨k, hk1, hkN, rfl, BW, A⟩ := hrel
    clear hA2 hb2 hcp1 hA
    by_cases hlt : k < N
    · have hd : decide ((k : Int) < (N : Int)) = true := by simpa using hlt
      have hcell : ∀ j, j < k → wr.drew.cell? ((⟨w.heap.size, 0, none⟩ : Addr).add j) = some (.int .u8 v) := fun j hj => by
        rw [Addr.add_mid, Nat.zero_add]
        exact (A.out.drew).cell (rowAt_at hj)
      obtain ⟨W', hcp, hA', hB'⟩ := copy_rep wr.drew w.heap.size k (min k (N - k)) N v ⟨w.heap.size, 0, none⟩ k N (N - k) (N - k) A.out.drew rfl (by omega) (fun j hj => hcell j (by omega))
      have hb' := hB' _ _ BW.out.drew (Nat.le_refl _)
      clear hB' hcell
      have i1 : (0 : Int) ≤ (k : Int) := by omega
      have i2 : (k : Int) ≤ (N : Int) := by omega
      go_wp2
      have c1 := A.out.cell (rowAt_at (N := N) (v := v) (show 0 < k by omega))
      refine wp_region_held_drew (S := fun w' => w'.cell? ⟨w.heap.size, 0, none⟩ = some (.int .u8 v)) (by kernel_rfl) (by first | (dsimp only; go_keep) | go_keep) (fun hHeld => ?_)
      refine take_l (i := 0) (v := ?_) rfl (by kernel_rfl) (by kernel_rfl) (by kernel_rfl) (fun _ _ _ h => h) (Or.inl ⟨by kernel_rfl, ?_⟩) (by assumption) ?_
      rotate_left
      · intro w hSw; (try dsimp only at hSw); go_simp; (try with_reducible rfl)
      (try simp only [Act.put, List.setIfInBounds_toArray, List.set_cons_zero, List.set_cons_succ])
      refine take_l (i := 1) (v := ?_) rfl (by kernel_rfl) (by kernel_rfl) (by kernel_rfl) (fun _ _ _ h => h) (Or.inl ⟨by kernel_rfl, ?_⟩) (by assumption) ?_
      rotate_left
      · intro w hSw; (try dsimp only at hSw); go_simp; (try with_reducible rfl)
      (try simp only [Act.put, List.setIfInBounds_toArray, List.set_cons_zero, List.set_cons_succ])
      refine take_l (i := 2) (v := ?_) rfl (by kernel_rfl) (by kernel_rfl) (by kernel_rfl) (fun _ _ _ h => h) (Or.inl ⟨by kernel_rfl, ?_⟩) (by assumption) ?_
      rotate_left
      · intro w hSw; (try dsimp only at hSw); go_simp; (try with_reducible rfl)
      (try simp only [Act.put, List.setIfInBounds_toArray, List.set_cons_zero, List.set_cons_succ])
      refine take_l (i := 3) (v := ?_) rfl (by kernel_rfl) (by kernel_rfl) (by kernel_rfl) (fun _ _ _ h => h) (Or.inl ⟨by kernel_rfl, ?_⟩) (by assumption) ?_
      rotate_left
      · intro w hSw; (try dsimp only at hSw); go_simp; (try with_reducible rfl)
      (try simp only [Act.put, List.setIfInBounds_toArray, List.set_cons_zero, List.set_cons_succ])
      refine take_l (i := 4) (v := ?_) rfl (by kernel_rfl) (by kernel_rfl) (by kernel_rfl) (fun _ _ _ h => h) (Or.inl ⟨by kernel_rfl, ?_⟩) (by assumption) ?_
      rotate_left
      · intro w hSw; (try dsimp only at hSw); go_simp; (try with_reducible rfl)
      (try simp only [Act.put, List.setIfInBounds_toArray, List.set_cons_zero, List.set_cons_succ])
      refine take_l (i := 5) (v := ?_) rfl (by kernel_rfl) (by kernel_rfl) (by kernel_rfl) (fun _ _ _ h => h) (Or.inl ⟨by kernel_rfl, ?_⟩) (by assumption) ?_
      rotate_left
      · intro w hSw; (try dsimp only at hSw); go_simp; (try with_reducible rfl)
      (try simp only [Act.put, List.setIfInBounds_toArray, List.set_cons_zero, List.set_cons_succ])
      refine take_l (i := 6) (v := ?_) rfl (by kernel_rfl) (by kernel_rfl) (by kernel_rfl) (fun _ _ _ h => h) (Or.inl ⟨by kernel_rfl, ?_⟩) (by assumption) ?_
      rotate_left
      · intro w hSw; (try dsimp only at hSw); go_simp; (try with_reducible rfl)
      (try simp only [Act.put, List.setIfInBounds_toArray, List.set_cons_zero, List.set_cons_succ])
      refine wpAnyH_ready (rs := [7]) (by kernel_rfl) (by simp) ?_
      refine ready_l rfl (fun K hK => ?_) AllReadyH.nil
      refine step_copy_known (v := .slice (some ⟨w.heap.size, k, none⟩) (N - k) (N - k)) (u := .slice (some ⟨w.heap.size, 0, none⟩) k N) rfl (.tmp 41) (.tmp 44) 57 57 rfl ?ha ?hb hcp ?hc
      case ha => (go_simp; omega)
      case hb => go_simp
      (try simp only [Act.put, List.setIfInBounds_toArray, List.set_cons_zero, List.set_cons_succ])
      refine hK.out _ _ (by exact hA'.cell (rowAt_at (by omega))) (fun hHeld => ?_)
      clear hK K
      (try simp only [Act.put, List.setIfInBounds_toArray, List.set_cons_zero, List.set_cons_succ])
      refine take_l (i := 8) (v := ?_) rfl (by kernel_rfl) (by kernel_rfl) (by kernel_rfl) (fun _ _ _ h => h) (Or.inl ⟨by kernel_rfl, ?_⟩) (by assumption) ?_
      rotate_left
      · intro w hSw; (try dsimp only at hSw); go_simp; (try with_reducible rfl)
      (try simp only [Act.put, List.setIfInBounds_toArray, List.set_cons_zero, List.set_cons_succ])
      refine take_l (i := 9) (v := ?_) rfl (by kernel_rfl) (by kernel_rfl) (by kernel_rfl) (fun _ _ _ h => h) (Or.inl ⟨by kernel_rfl, ?_⟩) (by assumption) ?_
      rotate_left
      · intro w hSw; (try dsimp only at hSw); go_simp; (try with_reducible rfl)
      (try simp only [Act.put, List.setIfInBounds_toArray, List.set_cons_zero, List.set_cons_succ])
      refine wpAnyH_done (by kernel_rfl) ?_ _
      have hwr : IntKind.i64.wrap ((k : Int) + (min k (N - k) : Nat)) = ((k + min k (N - k) : Nat) : Int) := by rw [IntWalk.i64_in _ (by omega)]; omega
      go_wp2
      go_roundw
      case rel => exact ⟨k + min k (N - k), by omega, by omega, by first | omega | rfl | (congr 1; omega) | (go_num; done), by first | exact hb' | exact trivial, by first | exact hA' | exact trivial⟩
      case measure => (simp only [intOf, Int.toNat_natCast]; omega)
    · obtain rfl : k = N := by omega
      have hd : decide ((k : Int) < (k : Int)) = false := by simp
      go_wp2
      go_ret
      refine ⟨_, rfl, Nat.le_refl _, by rw [← rowAt_full]; exact A.out, BW.out⟩
end Go.Proofs.YtocpnlifmeffkaaGreatDoor
namespace Go.Proofs.YtocpnlifmeffkaaGreatDoor
open Go.Lib

theorem decDigits_digit (u : Nat) : ∀ c ∈ decDigits u, 48 ≤ c.toNat ∧ c.toNat ≤ 57 := by
  induction u using Nat.strongRecOn with
  | _ u ih =>
    intro c hc
    by_cases h : u < 10
    · rw [decDigits, dif_pos h] at hc
      obtain rfl := List.mem_singleton.1 hc
      rw [UInt8.toNat_ofNat']
      omega
    · rw [decDigits, dif_neg h, List.mem_append] at hc
      rcases hc with hc | hc
      · exact ih _ (by omega) c hc
      · obtain rfl := List.mem_singleton.1 hc
        rw [UInt8.toNat_ofNat']
        omega
theorem decFrom_snoc (l : List UInt8) (b : UInt8) (acc n d : Nat) (h : decFrom acc l = some n) (hd : digitVal b = some d) : decFrom acc (l ++ [b]) = some (n * 10 + d) := by
  induction l generalizing acc with
  | nil =>
    simp only [decFrom, Option.some.injEq] at h
    subst h
    simp [decFrom, hd]
  | cons c r ih =>
    simp only [List.cons_append, decFrom] at h ⊢
    cases hc : digitVal c with
    | none => simp [hc] at h
    | some e =>
      simp only [hc] at h ⊢
      exact ih _ h
theorem digitVal_mk (k : Nat) (h : k < 10) : digitVal (UInt8.ofNat (48 + k)) = some k := by
  unfold digitVal
  rw [UInt8.toNat_ofNat', if_pos (by omega)]
  congr 1
  omega
theorem decFrom_decDigits (u : Nat) : decFrom 0 (decDigits u) = some u := by
  induction u using Nat.strongRecOn with
  | _ u ih =>
    by_cases h : u < 10
    · rw [decDigits, dif_pos h]
      simp only [decFrom, digitVal_mk u h, Nat.zero_mul, Nat.zero_add]
    · rw [decDigits, dif_neg h, decFrom_snoc _ _ _ (u / 10) (u % 10) (ih _ (by omega)) (digitVal_mk _ (by omega))]
      congr 1
      omega
theorem decDigits_ne (u : Nat) : decDigits u ≠ [] := by
  intro h
  by_cases h1 : u < 10
  · rw [decDigits, dif_pos h1] at h; cases h
  · rw [decDigits, dif_neg h1] at h; simp at h
theorem decDigits_inj {u v : Nat} (h : decDigits u = decDigits v) : u = v := by
  have h1 := decFrom_decDigits u
  rw [h, decFrom_decDigits] at h1
  injection h1 with h1
  exact h1.symm
theorem decDigits_no (c : UInt8) (hc : c.toNat < 48) (u : Nat) : ∀ x ∈ decDigits u, x ≠ c := by
  intro x hx h
  have := decDigits_digit u x hx
  rw [h] at this
  omega
theorem decDigits_byte {u : Nat} (h : u < 256) : (decDigits u).length ≤ 3 := by
  by_cases h1 : u < 10
  · rw [decDigits, dif_pos h1]; simp
  · rw [decDigits, dif_neg h1]
    by_cases h2 : u / 10 < 10
    · rw [decDigits, dif_pos h2]; simp
    · rw [decDigits, dif_neg h2, decDigits, dif_pos (by omega)]; simp

/-- A text divided at a byte. -/
def cutAll (c : UInt8) : List UInt8 → List (List UInt8)
  | [] => [[]]
  | b :: l => if b = c then [] :: cutAll c l else match cutAll c l with
    | [] => [[b]]
    | p :: r => (b :: p) :: r
theorem cutAll_ne (c : UInt8) (l : List UInt8) : cutAll c l ≠ [] := by
  cases l with
  | nil => simp [cutAll]
  | cons b l =>
    rw [cutAll]
    split
    · simp
    · cases cutAll c l <;> simp
theorem cutAll_hit (c : UInt8) (l r : List UInt8) (h : ∀ x ∈ l, x ≠ c) : cutAll c (l ++ c :: r) = l :: cutAll c r := by
  induction l with
  | nil => simp [cutAll]
  | cons b l ih =>
    rw [List.cons_append, cutAll, if_neg (h b (by simp)), ih (fun x hx => h x (by simp [hx]))]
theorem cutAll_miss (c : UInt8) (l : List UInt8) (h : ∀ x ∈ l, x ≠ c) : cutAll c l = [l] := by
  induction l with
  | nil => rfl
  | cons b l ih =>
    rw [cutAll, if_neg (h b (by simp)), ih (fun x hx => h x (by simp [hx]))]
theorem cutAll_no (c : UInt8) (l : List UInt8) : ∀ p ∈ cutAll c l, ∀ x ∈ p, x ≠ c := by
  induction l with
  | nil => simp [cutAll]
  | cons b l ih =>
    rw [cutAll]
    split
    · intro p hp
      rcases List.mem_cons.1 hp with rfl | hp
      · simp
      · exact ih p hp
    · rename_i hb
      cases h : cutAll c l with
      | nil => exact absurd h (cutAll_ne c l)
      | cons q r =>
        rw [h] at ih
        dsimp only
        intro p hp
        rcases List.mem_cons.1 hp with rfl | hp
        · intro x hx
          rcases List.mem_cons.1 hx with rfl | hx
          · exact hb
          · exact ih q (by simp) x hx
        · exact ih p (by simp [hp])
/-- The pieces put together again. -/
def glue (c : UInt8) : List (List UInt8) → List UInt8
  | [] => []
  | [p] => p
  | p :: q :: r => p ++ c :: glue c (q :: r)
theorem glue_cutAll (c : UInt8) (l : List UInt8) : glue c (cutAll c l) = l := by
  induction l with
  | nil => rfl
  | cons b l ih =>
    rw [cutAll]
    cases h : cutAll c l with
    | nil => exact absurd h (cutAll_ne c l)
    | cons q r =>
      rw [h] at ih
      split
      · rename_i hb
        rw [hb]
        show [] ++ c :: glue c (q :: r) = c :: l
        rw [ih]
        rfl
      · dsimp only
        cases r with
        | nil => simp only [glue] at ih ⊢; rw [ih]
        | cons q2 r => simp only [glue] at ih ⊢; rw [← ih]; simp
theorem cutAll_le (c : UInt8) (l : List UInt8) : ∀ p ∈ cutAll c l, p.length ≤ l.length := by
  induction l with
  | nil => simp [cutAll]
  | cons b l ih =>
    rw [cutAll]
    split
    · intro p hp
      rcases List.mem_cons.1 hp with rfl | hp
      · simp
      · have := ih p hp; simp; omega
    · cases h : cutAll c l with
      | nil => exact absurd h (cutAll_ne c l)
      | cons q r =>
        rw [h] at ih
        dsimp only
        intro p hp
        rcases List.mem_cons.1 hp with rfl | hp
        · have := ih q (by simp); simp; omega
        · have := ih p (by simp [hp]); simp; omega
theorem cutAll_len (c : UInt8) (l : List UInt8) : (cutAll c l).length ≤ l.length + 1 := by
  induction l with
  | nil => simp [cutAll]
  | cons b l ih =>
    rw [cutAll]
    split
    · simp; omega
    · cases h : cutAll c l with
      | nil => simp
      | cons q r => rw [h] at ih; simp at ih ⊢; omega
/-- What strings.Split gives at a separator of one byte. -/
theorem splitK_one (c : UInt8) : ∀ l : List UInt8, splitK [c] 0 (count l [c]) l = cutAll c l
  | [] => by rw [count_miss (by simp [index])]; rfl
  | b :: l => by
    have ih := splitK_one c l
    by_cases h : b = c
    · subst h
      have hix : index (b :: l) [b] = 0 := by rw [index]; simp [List.isPrefixOf]
      rw [count_cons_eq, Nat.add_comm, splitK, hix, cutAll, if_pos rfl]
      simpa using ih
    · have hp : ([c] : List UInt8).isPrefixOf (b :: l) = false := by simp [List.isPrefixOf, Ne.symm h]
      have hix : index (b :: l) [c] = if index l [c] == -1 then -1 else index l [c] + 1 := by rw [index, hp]; simp
      rw [count_cons_ne b c l h, cutAll, if_neg h]
      by_cases hm : index l [c] = -1
      · rw [count_miss hm, splitK] at ih ⊢
        rw [← ih]
      · have hge := index_ge l [c]
        obtain ⟨j, hj⟩ : ∃ j : Nat, index l [c] = j := ⟨(index l [c]).toNat, by omega⟩
        have hc : count l [c] = 1 + count (l.drop (j + 1)) [c] := by
          have := count_hit (s := l) (sub := [c]) (by simp) hj
          simpa using this
        have e1 : ((j : Int) + 1).toNat = j + 1 := by omega
        have hix2 : index (b :: l) [c] = (j : Int) + 1 := by rw [hix, if_neg (fun e => hm (beq_iff_eq.1 e)), hj]
        rw [hc, Nat.add_comm 1, splitK, hj, if_neg (by simp)] at ih
        rw [hc, Nat.add_comm 1, splitK, hix2, if_neg (by simp; omega), ← ih]
        simp [e1]

/-- The names of the operations. -/
def opNames : List (List UInt8) := [[72, 65, 76, 84], [76, 68, 73], [76, 68, 65], [83, 84, 65], [76, 68, 88], [83, 84, 88], [65, 68, 68], [83, 85, 66], [74, 77, 80], [74, 90], [74, 78], [75, 69, 89], [84, 88, 84], [80, 73, 88], [82, 68], [87, 82], [84, 73, 77]]
def rawB : List UInt8 := [82, 65, 87]
/-- The line of two bytes. -/
def lineB (o n : Nat) : List UInt8 := if o < 17 then opNames.getD o [] ++ 32 :: decDigits n else rawB ++ 32 :: (decDigits o ++ 32 :: decDigits n)
theorem opNames_len : opNames.length = 17 := rfl
theorem opNames_no (c : UInt8) (hc : c.toNat < 48) : ∀ p ∈ opNames, ∀ x ∈ p, x ≠ c := by
  have h : ∀ p ∈ opNames, ∀ x ∈ p, 48 ≤ x.toNat := by decide
  intro p hp x hx e
  have := h p hp x hx
  rw [e] at this
  omega
theorem opName_no (c : UInt8) (hc : c.toNat < 48) (o : Nat) : ∀ x ∈ opNames.getD o [], x ≠ c := by
  rw [List.getD_eq_getElem?_getD]
  cases h : opNames[o]? with
  | none => simp
  | some p => exact opNames_no c hc p (List.mem_of_getElem? h)
theorem rawB_no (c : UInt8) (hc : c.toNat < 48) : ∀ x ∈ rawB, x ≠ c := by
  have h : ∀ x ∈ rawB, 48 ≤ x.toNat := by decide
  intro x hx e
  have := h x hx
  rw [e] at this
  omega
/-- The words of a line. -/
theorem words_low {o n : Nat} (ho : o < 17) : cutAll 32 (lineB o n) = [opNames.getD o [], decDigits n] := by
  rw [lineB, if_pos ho, cutAll_hit _ _ _ (opName_no 32 (by decide) o), cutAll_miss _ _ (decDigits_no 32 (by decide) n)]
theorem words_high {o n : Nat} (ho : 17 ≤ o) : cutAll 32 (lineB o n) = [rawB, decDigits o, decDigits n] := by
  rw [lineB, if_neg (by omega), cutAll_hit _ _ _ (rawB_no 32 (by decide)), cutAll_hit _ _ _ (decDigits_no 32 (by decide) o), cutAll_miss _ _ (decDigits_no 32 (by decide) n)]
theorem opNames_inj : ∀ i, i < 17 → ∀ j, j < 17 → opNames.getD i [] = opNames.getD j [] → i = j := by decide
theorem opNames_raw : ∀ i, i < 17 → opNames.getD i [] ≠ rawB := by decide
theorem lineB_inj {o n p m : Nat} (h : lineB o n = lineB p m) : o = p ∧ n = m := by
  have h1 := congrArg (cutAll 32) h
  by_cases ho : o < 17
  · rw [words_low ho] at h1
    by_cases hp : p < 17
    · rw [words_low hp] at h1
      injection h1 with a b
      injection b with b _
      exact ⟨opNames_inj o ho p hp a, decDigits_inj b⟩
    · rw [words_high (by omega)] at h1
      simp at h1
  · rw [words_high (by omega)] at h1
    by_cases hp : p < 17
    · rw [words_low hp] at h1
      simp at h1
    · rw [words_high (by omega)] at h1
      injection h1 with _ b
      injection b with a b
      injection b with b _
      exact ⟨decDigits_inj a, decDigits_inj b⟩
theorem lineB_no (c : UInt8) (hc : c.toNat < 48) (h32 : c ≠ 32) (o n : Nat) : ∀ x ∈ lineB o n, x ≠ c := by
  have h := decDigits_no c hc
  intro x hx
  unfold lineB at hx
  split at hx
  · rcases List.mem_append.1 hx with hx | hx
    · exact opName_no c hc o x hx
    · rcases List.mem_cons.1 hx with rfl | hx
      · exact fun e => h32 e.symm
      · exact h n x hx
  · rcases List.mem_append.1 hx with hx | hx
    · exact rawB_no c hc x hx
    · rcases List.mem_cons.1 hx with rfl | hx
      · exact fun e => h32 e.symm
      · rcases List.mem_append.1 hx with hx | hx
        · exact h o x hx
        · rcases List.mem_cons.1 hx with rfl | hx
          · exact fun e => h32 e.symm
          · exact h n x hx
theorem lineB_ne (o n : Nat) : lineB o n ≠ [] := by
  unfold lineB
  split <;> simp
theorem opName_len (o : Nat) : (opNames.getD o []).length ≤ 4 := by
  have h : ∀ p ∈ opNames, p.length ≤ 4 := by decide
  rw [List.getD_eq_getElem?_getD]
  cases hq : opNames[o]? with
  | none => simp
  | some p => exact h p (List.mem_of_getElem? hq)
theorem lineB_len {o n : Nat} (ho : o < 256) (hn : n < 256) : (lineB o n).length ≤ 11 := by
  have h1 := decDigits_byte ho
  have h2 := decDigits_byte hn
  have h3 := opName_len o
  unfold lineB
  split <;> simp [rawB, -List.getD_eq_getElem?_getD] <;> omega

/-- The text of a program. -/
def printB : List UInt8 → List UInt8
  | a :: b :: r => lineB a.toNat b.toNat ++ 10 :: printB r
  | _ => []
theorem printB_len : ∀ l : List UInt8, (printB l).length ≤ 12 * l.length
  | [] => by simp [printB]
  | [_] => by simp [printB]
  | a :: b :: r => by
    have := printB_len r
    have := lineB_len a.toNat_lt b.toNat_lt
    simp [printB]; omega
/-- The two bytes with a line. -/
def findIn (N : Nat) (s : List UInt8) : Option (Nat × Nat) := ((List.range N).find? fun k => lineB (k / 256) (k % 256) == s).map fun k => (k / 256, k % 256)
def findB (s : List UInt8) : Option (Nat × Nat) := findIn 65536 s
theorem findB_some {s : List UInt8} {o n : Nat} : findB s = some (o, n) ↔ o < 256 ∧ n < 256 ∧ lineB o n = s := by
  unfold findB findIn
  constructor
  · intro h
    cases hf : (List.range 65536).find? fun k => lineB (k / 256) (k % 256) == s with
    | none => rw [hf] at h; cases h
    | some k =>
      rw [hf] at h
      simp only [Option.map_some, Option.some.injEq, Prod.mk.injEq] at h
      have h1 := List.find?_some hf
      have h2 := List.mem_of_find?_eq_some hf
      rw [List.mem_range] at h2
      obtain ⟨rfl, rfl⟩ := h
      exact ⟨by omega, by omega, by simpa using h1⟩
  · rintro ⟨ho, hn, hl⟩
    cases hf : (List.range 65536).find? fun k => lineB (k / 256) (k % 256) == s with
    | none =>
      have := List.find?_eq_none.1 hf (o * 256 + n) (by rw [List.mem_range]; omega)
      rw [show (o * 256 + n) / 256 = o from by omega, show (o * 256 + n) % 256 = n from by omega, hl] at this
      simp at this
    | some k =>
      have h1 := List.find?_some hf
      have h1 : lineB (k / 256) (k % 256) = s := by simpa using h1
      obtain ⟨e1, e2⟩ := lineB_inj (h1.trans hl.symm)
      simp only [Option.map_some, e1, e2]
theorem findB_none {s : List UInt8} (h : ∀ o n, o < 256 → n < 256 → lineB o n ≠ s) : findB s = none := by
  cases hf : findB s with
  | none => rfl
  | some x =>
    obtain ⟨o, n⟩ := x
    obtain ⟨h1, h2, h3⟩ := findB_some.1 hf
    exact absurd h3 (h o n h1 h2)
theorem findB_line {o n : Nat} (ho : o < 256) (hn : n < 256) : findB (lineB o n) = some (o, n) := findB_some.2 ⟨ho, hn, rfl⟩

/-- The program with some lines: the bytes, the wrong line, the error. -/
def stepP (f : Option (Nat × Nat)) (i : Nat) (out : List UInt8) (k : List UInt8 → List UInt8 × Nat × Int) : List UInt8 × Nat × Int := match f with
  | none => ([], i + 1, 120)
  | some (o, n) => if 256 ≤ out.length then ([], i + 1, 120) else k (out ++ [UInt8.ofNat o, UInt8.ofNat n])
def parseL : List (List UInt8) → Nat → List UInt8 → List UInt8 × Nat × Int
  | [], _, out => (out, 0, 0)
  | [t], i, out => if t = [] then (out, 0, 0) else ([], i + 1, 120)
  | t :: q :: r, i, out => stepP (findB t) i out fun out' => parseL (q :: r) (i + 1) out'
def parseB (s : List UInt8) : List UInt8 × Nat × Int := parseL (cutAll 10 s) 0 []

theorem parse_print : ∀ (l : List UInt8) (i : Nat) (out : List UInt8), l.length % 2 = 0 → out.length % 2 = 0 → out.length + l.length ≤ 256 → parseL (cutAll 10 (printB l)) i out = (out ++ l, 0, 0)
  | [], i, out, _, _, _ => by simp [printB, cutAll, parseL]
  | [_], _, _, h, _, _ => by simp at h
  | a :: b :: r, i, out, h1, h2, h3 => by
    have ih := parse_print r (i + 1) (out ++ [a, b]) (by simp at h1 ⊢; omega) (by simp; omega) (by simp at h3 ⊢; omega)
    rw [printB, cutAll_hit _ _ _ (lineB_no 10 (by decide) (by decide) _ _)]
    cases hc : cutAll 10 (printB r) with
    | nil => exact absurd hc (cutAll_ne _ _)
    | cons q rs =>
      rw [hc] at ih
      rw [parseL, findB_line a.toNat_lt b.toNat_lt, stepP]
      rw [if_neg (by simp at h3; omega)]
      simpa using ih
/-- What Parse accepts has this text; what it refuses has an error. -/
theorem print_parse : ∀ (ls : List (List UInt8)) (i : Nat) (out : List UInt8), ls ≠ [] → out.length % 2 = 0 → out.length ≤ 256 →
    ((parseL ls i out).2.2 = 120 ∧ (parseL ls i out).1 = [] ∧ 1 ≤ (parseL ls i out).2.1) ∨
    ∃ l, parseL ls i out = (out ++ l, 0, 0) ∧ glue 10 ls = printB l ∧ l.length % 2 = 0 ∧ out.length + l.length ≤ 256
  | [], _, _, h, _, _ => absurd rfl h
  | [t], i, out, _, h1, h2 => by
    rw [parseL]
    split
    · rename_i h
      subst h
      exact .inr ⟨[], by rw [List.append_nil], rfl, rfl, by simpa using h2⟩
    · exact .inl ⟨rfl, rfl, by simp⟩
  | t :: q :: r, i, out, _, h1, h2 => by
    rw [parseL]
    cases hf : findB t with
    | none => exact .inl ⟨rfl, rfl, by show 1 ≤ i + 1; omega⟩
    | some x =>
      obtain ⟨o, n⟩ := x
      obtain ⟨ho, hn, hl⟩ := findB_some.1 hf
      rw [stepP]
      split
      · exact .inl ⟨rfl, rfl, by simp⟩
      · rename_i hlt
        rcases print_parse (q :: r) (i + 1) (out ++ [UInt8.ofNat o, UInt8.ofNat n]) (by simp) (by simp; omega) (by simp; omega) with h | ⟨l, e1, e2, e3, e4⟩
        · exact .inl h
        · refine .inr ⟨UInt8.ofNat o :: UInt8.ofNat n :: l, by rw [e1]; simp, ?_, by simp; omega, by simp at e4 ⊢; omega⟩
          rw [glue, e2, printB, UInt8.toNat_ofNat', UInt8.toNat_ofNat', Nat.mod_eq_of_lt ho, Nat.mod_eq_of_lt hn, hl]
theorem print_parseB (s : List UInt8) : ((parseB s).2.2 = 120 ∧ (parseB s).1 = [] ∧ 1 ≤ (parseB s).2.1) ∨ ∃ l, parseB s = (l, 0, 0) ∧ s = printB l ∧ l.length % 2 = 0 ∧ l.length ≤ 256 := by
  rcases print_parse (cutAll 10 s) 0 [] (cutAll_ne _ _) (by simp) (by simp) with h | ⟨l, e1, e2, e3, e4⟩
  · exact .inl h
  · rw [glue_cutAll] at e2
    exact .inr ⟨l, by simpa [parseB] using e1, e2, e3, by simpa using e4⟩
theorem parse_printB {l : List UInt8} (h : l.length % 2 = 0) (h2 : l.length ≤ 256) : parseB (printB l) = (l, 0, 0) := by
  have := parse_print l 0 [] h (by simp) (by simpa using h2)
  simpa [parseB] using this
theorem parseL_len : ∀ (ls : List (List UInt8)) (i : Nat) (out : List UInt8), out.length ≤ 257 → (parseL ls i out).1.length ≤ 257
  | [], _, _, h => h
  | [t], i, out, h => by
    rw [parseL]
    split
    · exact h
    · simp
  | t :: q :: r, i, out, h => by
    rw [parseL]
    cases hf : findB t with
    | none => simp [stepP]
    | some x =>
      rw [stepP]
      split
      · simp
      · exact parseL_len (q :: r) (i + 1) _ (by simp; omega)
end Go.Proofs.YtocpnlifmeffkaaGreatDoor
namespace Go.Proofs.YtocpnlifmeffkaaGreatDoor
open Go.RowKit Go.Shelf

/-- What one event puts at its place. -/
def shownStep (kind : Int) (places : Nat) (of : Int → Nat) (out : List Nat) (e : Ev) : List Nat := if e.k = kind ∧ 0 ≤ e.a ∧ e.a < places then out.set e.a.toNat (of e.b) else out
def shownL (kind : Int) (empty places : Nat) (of : Int → Nat) (l : List Ev) : List Nat := l.foldl (shownStep kind places of) (List.replicate places empty)
def ofS (b : Int) : Nat := (b % 256).toNat
def ofP (b : Int) : Nat := if b % 2 = 0 then 48 else 49
def screenL (l : List Ev) : List Nat := shownL 1 32 80 ofS l
def bitmapL (l : List Ev) : List Nat := shownL 2 48 256 ofP l
/-- A string with some bytes. -/
def str (l : List UInt8) : ByteArray := ⟨l.toArray⟩
theorem str_list (l : List UInt8) : (str l).data.toList = l := rfl
theorem str_of (s : ByteArray) : str s.data.toList = s := rfl
theorem str_size (l : List UInt8) : (str l).size = l.length := by simp [str, ByteArray.size]
theorem str_append (a b : List UInt8) : str a ++ str b = str (a ++ b) := by
  apply ByteArray.ext
  simp [str, ByteArray.data_append]
theorem str_inj {a b : List UInt8} (h : str a = str b) : a = b := by
  have := congrArg (fun s => s.data.toList) h
  simpa [str] using this
def bytesOf (l : List Nat) : List UInt8 := l.map UInt8.ofNat
theorem strOfNums_nums (l : List Nat) : strOfNums (l.map fun n : Nat => (n : Int)) = str (bytesOf l) := by
  simp [strOfNums, str, bytesOf, Function.comp_def]

theorem shownStep_len (kind : Int) (places : Nat) (of : Int → Nat) (out : List Nat) (e : Ev) : (shownStep kind places of out e).length = out.length := by
  unfold shownStep; split <;> simp
theorem shownL_len (kind : Int) (empty places : Nat) (of : Int → Nat) (l : List Ev) : (shownL kind empty places of l).length = places := by
  unfold shownL
  have : ∀ (l : List Ev) (o : List Nat), (l.foldl (shownStep kind places of) o).length = o.length := by
    intro l
    induction l with
    | nil => simp
    | cons e l ih => intro o; rw [List.foldl_cons, ih, shownStep_len]
  rw [this]; simp
theorem shownL_snoc (kind : Int) (empty places : Nat) (of : Int → Nat) (l : List Ev) (e : Ev) : shownL kind empty places of (l ++ [e]) = shownStep kind places of (shownL kind empty places of l) e := by
  simp [shownL, List.foldl_append]
theorem take_snoc {α : Type} [Inhabited α] (l : List α) (k : Nat) (h : k < l.length) : l.take (k + 1) = l.take k ++ [l[k]!] := by
  rw [List.take_succ_eq_append_getElem h, getElem!_pos l k h]
theorem shownL_lt (kind : Int) (empty places : Nat) (of : Int → Nat) (he : empty < 256) (ho : ∀ b, of b < 256) (l : List Ev) : ∀ v ∈ shownL kind empty places of l, v < 256 := by
  unfold shownL
  have : ∀ (l : List Ev) (o : List Nat), (∀ v ∈ o, v < 256) → ∀ v ∈ l.foldl (shownStep kind places of) o, v < 256 := by
    intro l
    induction l with
    | nil => exact fun o h => h
    | cons e l ih =>
      intro o h
      rw [List.foldl_cons]
      refine ih _ ?_
      unfold shownStep
      split
      · exact set_lt h _ (ho _)
      · exact h
  exact this l _ (fun v hv => by have := (List.mem_replicate.1 hv).2; omega)
theorem i64_and1 (n : Int) : bits .and .i64 n 1 = n % 2 := by
  have h1 : (BitVec.ofInt 64 1).toNat = 2 ^ 1 - 1 := by decide
  have key : (BitVec.ofInt 64 n &&& BitVec.ofInt 64 1).toNat = (n % ((2 ^ 64 : Nat) : Int)).toNat % 2 ^ 1 := by
    rw [BitVec.toNat_and, BitVec.toNat_ofInt, h1, Nat.and_two_pow_sub_one_eq_mod]
  show IntKind.i64.wrap ((BitVec.ofInt 64 n &&& BitVec.ofInt 64 1).toNat : Nat) = n % 2
  rw [key, IntKind.wrap_i64]
  omega

set_option maxHeartbeats 1000000 in
theorem Screen1_any (b : Int) (w : World) : Calls Tryz.prog 43 #[.int .i64 b] w fun e w' => e = .returned (.int .u8 (ofS b : Nat)) ∧ w' = w := by
  have hc : ((ofS b : Nat) : Int) = IntKind.u8.wrap b := by simp [ofS, IntKind.wrap, IntKind.bits, IntKind.signed]; omega
  rw [hc]
  go_enter Tryz.func43, Tryz.ntmps43
  go_wp2
  go_ret
  exact ⟨rfl, rfl⟩
set_option maxHeartbeats 1000000 in
theorem Bitmap1_any (b : Int) (w : World) : Calls Tryz.prog 44 #[.int .i64 b] w fun e w' => e = .returned (.int .u8 (ofP b : Nat)) ∧ w' = w := by
  have hb := i64_and1 b
  rcases (show b % 2 = 0 ∨ b % 2 = 1 by omega) with h | h
  · rw [h] at hb
    have hc : ofP b = 48 := by simp [ofP, h]
    rw [hc]
    clear h hc
    go_enter Tryz.func44, Tryz.ntmps44
    go_wp2
    go_ret
    exact ⟨rfl, rfl⟩
  · rw [h] at hb
    have hc : ofP b = 49 := by simp [ofP, h]
    rw [hc]
    clear h hc
    go_enter Tryz.func44, Tryz.ntmps44
    go_wp2
    go_ret
    exact ⟨rfl, rfl⟩
theorem ofS_lt (b : Int) : ofS b < 256 := by unfold ofS; omega
theorem ofP_lt (b : Int) : ofP b < 256 := by unfold ofP; split <;> omega

set_option maxRecDepth 100000 in
set_option maxHeartbeats 4000000 in
theorem shownS_any (v : Value) (l : List Ev) (w : World) (hv : SliceAt w w.heap.size v l.length (evCells l)) :
    Calls Tryz.prog 42 #[v, .int .i64 1, .int .u8 32, .int .i64 80, .func (.func 43) #[] #[]] w fun e w' => e = .returned (.string (str (bytesOf (shownL 1 32 80 ofS l)))) ∧ Below w.heap.size w w' := by
  obtain ⟨a, c, rfl, h1, h2, hc⟩ := hv
  unfold maxLen at h2
  have hc' : ∀ k, k < l.length → ∃ b o, a = some ⟨b, o, none⟩ ∧ b < w.heap.size ∧ ∀ (wr : World), Below w.heap.size w wr → wr.cell? ⟨b, o + k * 4, none⟩ = some (.int .i64 l[k]!.t) ∧ wr.cell? ⟨b, o + k * 4 + 1, none⟩ = some (.int .i64 l[k]!.k) ∧ wr.cell? ⟨b, o + k * 4 + 2, none⟩ = some (.int .i64 l[k]!.a) ∧ wr.cell? ⟨b, o + k * 4 + 3, none⟩ = some (.int .i64 l[k]!.b) := fun k hk => by
    obtain ⟨b, o, ha, hb, hx⟩ := hc (by omega)
    refine ⟨b, o, ha, hb, fun wr hB => ?_⟩
    have hh : ∀ i v, (encEv l[k]!)[i]? = some v → wr.cell? ⟨b, o + k * 4 + i, none⟩ = some v := fun i v hi => by
      have hi4 : i < 4 := (List.getElem?_eq_some_iff.1 hi).1
      rw [hB.cell (p := ⟨b, o + k * 4 + i, none⟩) hb, Nat.add_assoc]
      exact hx _ v ((evCells_at l k i hk hi4).trans hi)
    exact ⟨hh 0 _ rfl, hh 1 _ rfl, hh 2 _ rfl, hh 3 _ rfl⟩
  have hA0 : Arr (w.alloc (.cells #[.int .u8 32] 5)) w.heap.size 5 [.int .u8 32] := Arr.new rfl rfl
  have hR := Repeat_any w.heap.size 32 80 (by omega) _ hA0
  have hB1 : Below w.heap.size w (w.alloc (.cells #[.int .u8 32] 5)) := (Below.refl _ w).alloc (Nat.le_refl _) _
  replace hc' := Lib.hid hc'
  replace hR := Lib.hid hR
  clear hc hA0
  go_enter Tryz.func42, Tryz.ntmps42
  go_wp2_with (go_at_call 81; refine hR.out.mono ?_; rintro e w1 ⟨g, rfl, hg, hA1, hb1⟩)
  have hB2 := hB1.trans (hb1.mono hB1.size)
  have hgw : w.heap.size ≤ g := by simp at hg; omega
  have hA2 : Arr w1 g 5 (nums (shownL 1 32 80 ofS (l.take 0))) := by
    have e : nums (shownL 1 32 80 ofS (l.take 0)) = List.replicate 80 (.int .u8 32) := by simp [shownL, nums]
    rw [e]; exact hA1
  clear hB1 hb1 hA1 hR hg
  replace hgw := Lib.hid hgw
  go_loopw [20] (fun i wr => ∃ k : Nat, k ≤ l.length ∧ i = .int .i64 k ∧ Aside (Below w.heap.size w wr) ∧ Aside (Arr wr g 5 (nums (shownL 1 32 80 ofS (l.take k))))) (fun i _ => l.length - (intOf i).toNat)
  case atStart => exact ⟨0, Nat.zero_le _, rfl, hB2, hA2⟩
  case round =>
    obtain ⟨k, hk, rfl, BW, A⟩ := hrel
    clear hA2 hB2
    have hgw := hgw.out
    have hgs := A.out.lt
    by_cases hlt : k < l.length
    · have hd : decide ((k : Int) < (l.length : Int)) = true := by simpa using hlt
      obtain ⟨b, o, rfl, hb, hcell⟩ := hc'.out k hlt
      obtain ⟨l0, l1, l2, l3⟩ := hcell wr BW.out
      have hbs := BW.out.size
      have hbr : b < wr.heap.size := Nat.lt_of_lt_of_le hb hbs
      have hst := take_snoc l k hlt
      have hsn := shownL_snoc 1 32 80 ofS (l.take k) l[k]!
      have hln := shownL_len 1 32 80 ofS (l.take k)
      rw [← hst] at hsn
      generalize shownL 1 32 80 ofS (l.take k) = out at *
      generalize l[k]! = x at *
      clear hst hcell
      obtain ⟨xt, xk, xa, xb⟩ := x
      dsimp only at l0 l1 l2 l3
      unfold shownStep at hsn
      dsimp only at hsn
      by_cases hif : xk = 1 ∧ 0 ≤ xa ∧ xa < 80
      · obtain ⟨rfl, ha0, ha1⟩ := hif
        obtain ⟨m, rfl⟩ : ∃ m : Nat, xa = m := ⟨xa.toNat, by omega⟩
        have hd1 : decide ((m : Int) ≥ 0) = true := by simp
        have hd2 : decide ((m : Int) < 80) = true := by simp; omega
        rw [if_pos (by omega)] at hsn
        have hof := fun w => Screen1_any xb w
        replace hof := Lib.hid hof
        replace hsn := Lib.hid hsn
        clear hc'
        go_wp2
        refine name_wp ?_
        intro w3 hw3
        have hA3 : Arr w3 g 5 (nums out) := by rw [hw3]; exact A.out.alloc _
        have hE3 : Arr w3 wr.heap.size 60 [.int .i64 xt, .int .i64 1, .int .i64 (m : Int), .int .i64 xb] := by rw [hw3]; exact Arr.new rfl rfl
        have hB3 : Below w.heap.size w w3 := by rw [hw3]; exact BW.out.alloc (by omega) _
        have e2 := hE3.cell (j := 2) rfl
        have e3 := hE3.cell (j := 3) rfl
        have hfree := hA3.free m
        have hex : w3.cell? ⟨g, m, none⟩ = some (.int .u8 (out.getD m 0 : Nat)) := hA3.cell (nums_at (by omega))
        replace hln := Lib.hid hln
        clear hw3 hE3
        generalize wr.heap.size = be at *
        go_still_tail 8, (by kernel_rfl)
        still_call (hof.out _)
        repeat still_step
        refine wpStill_nil ?_
        go_wp2_with (fail)
        go_roundw
        case measure => simp [intOf]; omega
        case rel =>
          refine ⟨k + 1, by omega, by go_num, ?_, ?_⟩
          · exact (hB3.drew).setCell (p := ⟨g, m, none⟩) hgw _
          · rw [hsn.out, ← nums_set]
            exact (hA3.drew).set m _
      · rw [if_neg (by omega)] at hsn
        clear hc'
        replace hsn := Lib.hid hsn
        have hcases : (xk == 1) = false ∨ ((xk == 1) = true ∧ decide (xa ≥ 0) = false) ∨ ((xk == 1) = true ∧ decide (xa ≥ 0) = true ∧ decide (xa < 80) = false) := by
          simp only [beq_eq_false_iff_ne, beq_iff_eq, decide_eq_false_iff_not, decide_eq_true_eq]; omega
        have hB3 : Below w.heap.size w (wr.alloc (.cells #[.int .i64 xt, .int .i64 xk, .int .i64 xa, .int .i64 xb] 60)) := BW.out.alloc (by omega) _
        have hA3 : Arr (wr.alloc (.cells #[.int .i64 xt, .int .i64 xk, .int .i64 xa, .int .i64 xb] 60)) g 5 (nums out) := A.out.alloc _
        replace hB3 := Lib.hid hB3
        replace hA3 := Lib.hid hA3
        clear hif
        rcases hcases with h1 | ⟨h1, h2⟩ | ⟨h1, h2, h3⟩
        all_goals
          go_wp2
          go_roundw
          case measure => simp [intOf]; omega
          case rel => exact ⟨k + 1, by omega, by go_num, hB3.out, (by rw [hsn.out]; exact hA3.out)⟩
    · obtain rfl : k = l.length := by omega
      have hd : decide ((l.length : Int) < (l.length : Int)) = false := by simp
      clear hc'
      rw [List.take_length] at A
      have hlen := shownL_len 1 32 80 ofS l
      have hlt256 : ∀ v ∈ shownL 1 32 80 ofS l, v < 256 := shownL_lt _ _ _ _ (by omega) ofS_lt l
      obtain ⟨out, hout⟩ : ∃ out, shownL 1 32 80 ofS l = out := ⟨_, rfl⟩
      rw [hout] at A hlen hlt256
      replace hout := Lib.hid hout
      have hcv := run_convert_bytes_arg (P := Tryz.prog) wr 57 5 Tryz.underlying57 Tryz.underlying5 g 0 80 80 (out.map fun n : Nat => (n : Int)) (by simp [hlen]) (fun j hj => by
        rw [Nat.zero_add]
        refine A.out.cell ?_
        rw [nums_at (by omega)]
        simp [List.getD_eq_getElem?_getD]
        cases out[j]? <;> rfl) 9 Tryz.underlying9
      rw [strOfNums_nums] at hcv
      have hB3 := BW.out
      replace hB3 := Lib.hid hB3
      replace hlen := Lib.hid hlen
      clear A BW
      go_wp2
      go_ret
      exact ⟨by rw [hout.out]; rfl, hB3.out⟩

set_option maxRecDepth 100000 in
set_option maxHeartbeats 4000000 in
theorem shownP_any (v : Value) (l : List Ev) (w : World) (hv : SliceAt w w.heap.size v l.length (evCells l)) :
    Calls Tryz.prog 42 #[v, .int .i64 2, .int .u8 48, .int .i64 256, .func (.func 44) #[] #[]] w fun e w' => e = .returned (.string (str (bytesOf (shownL 2 48 256 ofP l)))) ∧ Below w.heap.size w w' := by
  obtain ⟨a, c, rfl, h1, h2, hc⟩ := hv
  unfold maxLen at h2
  have hc' : ∀ k, k < l.length → ∃ b o, a = some ⟨b, o, none⟩ ∧ b < w.heap.size ∧ ∀ (wr : World), Below w.heap.size w wr → wr.cell? ⟨b, o + k * 4, none⟩ = some (.int .i64 l[k]!.t) ∧ wr.cell? ⟨b, o + k * 4 + 1, none⟩ = some (.int .i64 l[k]!.k) ∧ wr.cell? ⟨b, o + k * 4 + 2, none⟩ = some (.int .i64 l[k]!.a) ∧ wr.cell? ⟨b, o + k * 4 + 3, none⟩ = some (.int .i64 l[k]!.b) := fun k hk => by
    obtain ⟨b, o, ha, hb, hx⟩ := hc (by omega)
    refine ⟨b, o, ha, hb, fun wr hB => ?_⟩
    have hh : ∀ i v, (encEv l[k]!)[i]? = some v → wr.cell? ⟨b, o + k * 4 + i, none⟩ = some v := fun i v hi => by
      have hi4 : i < 4 := (List.getElem?_eq_some_iff.1 hi).1
      rw [hB.cell (p := ⟨b, o + k * 4 + i, none⟩) hb, Nat.add_assoc]
      exact hx _ v ((evCells_at l k i hk hi4).trans hi)
    exact ⟨hh 0 _ rfl, hh 1 _ rfl, hh 2 _ rfl, hh 3 _ rfl⟩
  have hA0 : Arr (w.alloc (.cells #[.int .u8 48] 5)) w.heap.size 5 [.int .u8 48] := Arr.new rfl rfl
  have hR := Repeat_any w.heap.size 48 256 (by omega) _ hA0
  have hB1 : Below w.heap.size w (w.alloc (.cells #[.int .u8 48] 5)) := (Below.refl _ w).alloc (Nat.le_refl _) _
  replace hc' := Lib.hid hc'
  replace hR := Lib.hid hR
  clear hc hA0
  go_enter Tryz.func42, Tryz.ntmps42
  go_wp2_with (go_at_call 81; refine hR.out.mono ?_; rintro e w1 ⟨g, rfl, hg, hA1, hb1⟩)
  have hB2 := hB1.trans (hb1.mono hB1.size)
  have hgw : w.heap.size ≤ g := by simp at hg; omega
  have hA2 : Arr w1 g 5 (nums (shownL 2 48 256 ofP (l.take 0))) := by
    have e : nums (shownL 2 48 256 ofP (l.take 0)) = List.replicate 256 (.int .u8 48) := by simp [shownL, nums]
    rw [e]; exact hA1
  clear hB1 hb1 hA1 hR hg
  replace hgw := Lib.hid hgw
  go_loopw [20] (fun i wr => ∃ k : Nat, k ≤ l.length ∧ i = .int .i64 k ∧ Aside (Below w.heap.size w wr) ∧ Aside (Arr wr g 5 (nums (shownL 2 48 256 ofP (l.take k))))) (fun i _ => l.length - (intOf i).toNat)
  case atStart => exact ⟨0, Nat.zero_le _, rfl, hB2, hA2⟩
  case round =>
    obtain ⟨k, hk, rfl, BW, A⟩ := hrel
    clear hA2 hB2
    have hgw := hgw.out
    have hgs := A.out.lt
    by_cases hlt : k < l.length
    · have hd : decide ((k : Int) < (l.length : Int)) = true := by simpa using hlt
      obtain ⟨b, o, rfl, hb, hcell⟩ := hc'.out k hlt
      obtain ⟨l0, l1, l2, l3⟩ := hcell wr BW.out
      have hbs := BW.out.size
      have hbr : b < wr.heap.size := Nat.lt_of_lt_of_le hb hbs
      have hst := take_snoc l k hlt
      have hsn := shownL_snoc 2 48 256 ofP (l.take k) l[k]!
      have hln := shownL_len 2 48 256 ofP (l.take k)
      rw [← hst] at hsn
      generalize shownL 2 48 256 ofP (l.take k) = out at *
      generalize l[k]! = x at *
      clear hst hcell
      obtain ⟨xt, xk, xa, xb⟩ := x
      dsimp only at l0 l1 l2 l3
      unfold shownStep at hsn
      dsimp only at hsn
      by_cases hif : xk = 2 ∧ 0 ≤ xa ∧ xa < 256
      · obtain ⟨rfl, ha0, ha1⟩ := hif
        obtain ⟨m, rfl⟩ : ∃ m : Nat, xa = m := ⟨xa.toNat, by omega⟩
        have hd1 : decide ((m : Int) ≥ 0) = true := by simp
        have hd2 : decide ((m : Int) < 256) = true := by simp; omega
        rw [if_pos (by omega)] at hsn
        have hof := fun w => Bitmap1_any xb w
        replace hof := Lib.hid hof
        replace hsn := Lib.hid hsn
        clear hc'
        go_wp2
        refine name_wp ?_
        intro w3 hw3
        have hA3 : Arr w3 g 5 (nums out) := by rw [hw3]; exact A.out.alloc _
        have hE3 : Arr w3 wr.heap.size 60 [.int .i64 xt, .int .i64 2, .int .i64 (m : Int), .int .i64 xb] := by rw [hw3]; exact Arr.new rfl rfl
        have hB3 : Below w.heap.size w w3 := by rw [hw3]; exact BW.out.alloc (by omega) _
        have e2 := hE3.cell (j := 2) rfl
        have e3 := hE3.cell (j := 3) rfl
        have hfree := hA3.free m
        have hex : w3.cell? ⟨g, m, none⟩ = some (.int .u8 (out.getD m 0 : Nat)) := hA3.cell (nums_at (by omega))
        replace hln := Lib.hid hln
        clear hw3 hE3
        generalize wr.heap.size = be at *
        go_still_tail 8, (by kernel_rfl)
        still_call (hof.out _)
        repeat still_step
        refine wpStill_nil ?_
        go_wp2_with (fail)
        go_roundw
        case measure => simp [intOf]; omega
        case rel =>
          refine ⟨k + 1, by omega, by go_num, ?_, ?_⟩
          · exact (hB3.drew).setCell (p := ⟨g, m, none⟩) hgw _
          · rw [hsn.out, ← nums_set]
            exact (hA3.drew).set m _
      · rw [if_neg (by omega)] at hsn
        clear hc'
        replace hsn := Lib.hid hsn
        have hcases : (xk == 2) = false ∨ ((xk == 2) = true ∧ decide (xa ≥ 0) = false) ∨ ((xk == 2) = true ∧ decide (xa ≥ 0) = true ∧ decide (xa < 256) = false) := by
          simp only [beq_eq_false_iff_ne, beq_iff_eq, decide_eq_false_iff_not, decide_eq_true_eq]; omega
        have hB3 : Below w.heap.size w (wr.alloc (.cells #[.int .i64 xt, .int .i64 xk, .int .i64 xa, .int .i64 xb] 60)) := BW.out.alloc (by omega) _
        have hA3 : Arr (wr.alloc (.cells #[.int .i64 xt, .int .i64 xk, .int .i64 xa, .int .i64 xb] 60)) g 5 (nums out) := A.out.alloc _
        replace hB3 := Lib.hid hB3
        replace hA3 := Lib.hid hA3
        clear hif
        rcases hcases with h1 | ⟨h1, h2⟩ | ⟨h1, h2, h3⟩
        all_goals
          go_wp2
          go_roundw
          case measure => simp [intOf]; omega
          case rel => exact ⟨k + 1, by omega, by go_num, hB3.out, (by rw [hsn.out]; exact hA3.out)⟩
    · obtain rfl : k = l.length := by omega
      have hd : decide ((l.length : Int) < (l.length : Int)) = false := by simp
      clear hc'
      rw [List.take_length] at A
      have hlen := shownL_len 2 48 256 ofP l
      have hlt256 : ∀ v ∈ shownL 2 48 256 ofP l, v < 256 := shownL_lt _ _ _ _ (by omega) ofP_lt l
      obtain ⟨out, hout⟩ : ∃ out, shownL 2 48 256 ofP l = out := ⟨_, rfl⟩
      rw [hout] at A hlen hlt256
      replace hout := Lib.hid hout
      have hcv := run_convert_bytes_arg (P := Tryz.prog) wr 57 5 Tryz.underlying57 Tryz.underlying5 g 0 256 256 (out.map fun n : Nat => (n : Int)) (by simp [hlen]) (fun j hj => by
        rw [Nat.zero_add]
        refine A.out.cell ?_
        rw [nums_at (by omega)]
        simp [List.getD_eq_getElem?_getD]
        cases out[j]? <;> rfl) 9 Tryz.underlying9
      rw [strOfNums_nums] at hcv
      have hB3 := BW.out
      replace hB3 := Lib.hid hB3
      replace hlen := Lib.hid hlen
      clear A BW
      go_wp2
      go_ret
      exact ⟨by rw [hout.out]; rfl, hB3.out⟩

set_option maxHeartbeats 1000000 in
theorem Screen_any (v : Value) (l : List Ev) (w : World) (hv : SliceAt w w.heap.size v l.length (evCells l)) :
    Calls Tryz.prog 14 #[v] w fun e w' => e = .returned (.string (str (bytesOf (screenL l)))) ∧ Below w.heap.size w w' := by
  have h := shownS_any v l w hv
  rw [show shownL 1 32 80 ofS l = screenL l from rfl] at h
  obtain ⟨a, c, rfl, _⟩ := hv
  replace h := Lib.hid h
  go_enter Tryz.func14, Tryz.ntmps14
  go_wp2_with (go_at_call 42; refine h.out.mono ?_; rintro e w1 ⟨rfl, hb1⟩)
  go_ret
  exact ⟨rfl, hb1⟩
set_option maxHeartbeats 1000000 in
theorem Bitmap_any (v : Value) (l : List Ev) (w : World) (hv : SliceAt w w.heap.size v l.length (evCells l)) :
    Calls Tryz.prog 15 #[v] w fun e w' => e = .returned (.string (str (bytesOf (bitmapL l)))) ∧ Below w.heap.size w w' := by
  have h := shownP_any v l w hv
  rw [show shownL 2 48 256 ofP l = bitmapL l from rfl] at h
  obtain ⟨a, c, rfl, _⟩ := hv
  replace h := Lib.hid h
  go_enter Tryz.func15, Tryz.ntmps15
  go_wp2_with (go_at_call 42; refine h.out.mono ?_; rintro e w1 ⟨rfl, hb1⟩)
  go_ret
  exact ⟨rfl, hb1⟩
end Go.Proofs.YtocpnlifmeffkaaGreatDoor
