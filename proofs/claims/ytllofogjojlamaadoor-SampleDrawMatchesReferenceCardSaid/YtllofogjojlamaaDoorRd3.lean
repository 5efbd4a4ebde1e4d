/-
  The contract of evergreenref02.block: what a block makes of the eight words, the words so far.
-/
import Derived.Test.YtllofogjojlamaaDoorRd2
import Derived.Test.YtllofogjojlamaaDoorDraw2
import Derived.Deep.RegionHeld3
import Derived.Deep.AppendLies
namespace Go.Proofs.YtllofogjojlamaaDoor
open Go.RowKit

theorem Tryd.info_u32 : (Tryd.prog.info? 59).map (fun i => (i.zero, i.size, i.bytes)) = some (some (.int .u32 0), 1, 4) := by kernel_rfl

section
variable {P : Program} {Q : Exit → Act → World → Prop} {md : Region.Mode} {S : World → Prop}
theorem take_l {l : List Oper} {i : Nat} {oi : Oper} {v : Value} {fuel : Nat} {listed : Array Bool} {a : Act} {w : World} (hi : l[i]? = some oi)
    (hs : Region.noSelect l.toArray = true) (hf : Region.free md l.toArray listed i = true) (hr : (Region.ready md l.toArray listed).contains i = true)
    (hQ : ∀ c a w, Q (.panic c) (a.put oi.dst v) w → Q (.panic c) a w) (hy : YieldsIf P l.toArray S oi v a) (hS : S w)
    (h : wpAnyH P md l.toArray Q S fuel (listed.setIfInBounds i true) (a.put oi.dst v) w) : wpAnyH P md l.toArray Q S (fuel + 1) listed a w :=
  wpAnyH_take (by simpa using hi) hs hf hr hQ hy hS h
theorem ready_l {l : List Oper} {fuel : Nat} {listed : Array Bool} {a : Act} {w : World} {i : Nat} {o : Oper} {rs : List Nat} (ho : l[i]? = some o)
    (h : ∀ K' : Act → World → Prop, Shut (∀ a w, S w → (S w → wpAnyH P md l.toArray Q S fuel (listed.setIfInBounds i true) a w) → K' a w) → if Region.wanted o (yielded l.toArray a.tmps) = true then Oper.wp P o a w K' Q else K' (a.put o.dst undef) w)
    (hs : AllReadyH P md l.toArray Q S fuel listed a w rs) : AllReadyH P md l.toArray Q S fuel listed a w (i :: rs) :=
  AllReadyH.cons (by simpa using ho) h hs
end

theorem refRot_at (k : Nat) (k' : Int) (hk : k ∈ rots) (ek : k' = k) (x : Int) (w : World) (h : Hid (W32 x)) :
    Calls Tryd.prog 56 #[.int .u32 x, .int .i64 k'] w fun e w' => e = .returned (.int .u32 (rotr k x)) ∧ ∃ q, w' = w.drewN q := by
  subst ek; exact refRot_any k hk x w h.out
theorem name_wpl {P : Program} {ops : Array Oper} {Q : Exit → Act → World → Prop} {l : List Oper} {a : Act} {W : World} (h : ∀ w', w' = W → wpList P ops Q l a w') : wpList P ops Q l a W := h W rfl
theorem cell_one_new0 (w : World) (u : Value) (t : TypeId) : (w.alloc (.cells #[u] t)).cell? ((⟨w.heap.size, 0, none⟩ : Addr).add 0) = some u := by
  rw [Addr.add_mid]; exact (Mine.new rfl).cell
theorem u32s_len (l : List Int) : (u32s l).length = l.length := by simp [u32s]
theorem schTo_new1 (bs : List Int) (k : Nat) (h : k < 16) : schTo bs (k + 1) = schTo bs k ++ [word4 (bs.getD (4 * k) 0) (bs.getD (4 * k + 1) 0) (bs.getD (4 * k + 2) 0) (bs.getD (4 * k + 3) 0)] := by rw [schTo, if_pos h]

/-- A further word, as the reference writes it. -/
def refE (x y p q : Int) : Int := IntKind.u32.wrap (IntKind.u32.wrap (IntKind.u32.wrap (p + bits .xor .u32 (bits .xor .u32 (rotr 7 x) (rotr 18 x)) (x / 8)) + q) + bits .xor .u32 (bits .xor .u32 (rotr 17 y) (rotr 19 y)) (y / 1024))
theorem refE_eq (x y p q : Int) : schE x y p q = refE x y p q := by
  unfold schE refE
  rw [mixd_two, mixd_two]
theorem schTo_new2 (bs : List Int) (k : Nat) (h : ¬ k < 16) : schTo bs (k + 1) = schTo bs k ++ [refE ((schTo bs k).getD (k - 15) 0) ((schTo bs k).getD (k - 2) 0) ((schTo bs k).getD (k - 16) 0) ((schTo bs k).getD (k - 7) 0)] := by rw [schTo, if_neg h, refE_eq]
theorem u32s_at {l : List Int} {j : Nat} (h : j < l.length) : (u32s l)[j]? = some (.int .u32 (l.getD j 0)) := by
  simp [u32s, List.getD_eq_getElem?_getD, h]

theorem run_append_keep {P : Program} (w : World) (g : Nat) (t ty e : TypeId) (i : TypeInfo) (z : Value) (ht : P.underlying t = some (.slice e)) (hi : P.info? e = some i) (hz : i.zero = some z)
    (hsize : i.size = 1) (hby : i.bytes ≤ 8) (hzs : z.cells.size = 1) (v : Value) (xs : List Value) (h : Buf w g e v xs)
    (a : Addr) (c : Nat) (u : Value) (hu : w.cell? (a.add 0) = some u) (h1 : u.oneCell' = true) (hlen : xs.length + 1 ≤ 1000000) :
    ∃ v' w' g', (Builtin.append_ #[t, t] ty #[v, .slice (some a) 1 c]).run P w = .ok v' w' ∧ (g' = g ∨ g' = w.heap.size) ∧ Buf w' g' e v' (xs ++ [u]) ∧ w.grownBy w' (some g) ∧ ∀ j y, xs[j]? = some y → w'.cell? ⟨g, j, none⟩ = some y := by
  have hB := h
  obtain ⟨cap, cur, fr, rfl, hg, hfr, hle, hcm, hcs, htake⟩ := h
  have hs : Src P i.size t (.slice (some a) 1 c) 1 [u] w := Src.ofSlice w ht a 1 c [u] (by simp [hsize]) (fun j x hx => by
    match j, hx with
    | 0, hx => simp at hx; subst hx; exact hu) (by simpa using h1)
  by_cases hroom : xs.length + 1 ≤ cap
  · have hcell : (w.cell? ⟨g, xs.length, none⟩).isSome = true := by
      rw [cell_of_row w g _ cur e fr hg]; simp; omega
    have hfree : w.frozen? ⟨g, xs.length, none⟩ = false := by
      simp only [World.frozen?, hg]
      rcases hfr with rfl | hfr
      · simp
      · have : ¬ fr.1 ≤ xs.length := by omega
        simp [this]
    have hr := run_append_room_src (P := P) w t t ty e i ht hi g 0 xs.length cap (.slice (some a) 1 c) 1 [u] hs hroom
      (fun j hj => by simp at hj; subst hj; simpa [hsize] using hcell) (fun j hj => by simp at hj; subst hj; simpa [hsize] using hfree)
    simp only [hsize, Nat.mul_one, Nat.zero_add, World.setCells] at hr
    refine ⟨_, _, g, hr, .inl rfl, ⟨cap, cur.setIfInBounds xs.length u, fr, by simp, cell_setRow_ok hg u, by simpa using hfr, by simpa using hroom, hcm, by simpa using hcs, ?_⟩, ⟨rfl, rfl, rfl, by simp [World.setCell], fun k hk hne => Below.heap_setCell w ⟨g, xs.length, none⟩ u k (by simpa using hne)⟩, ?_⟩
    · have hlt : xs.length < cur.toList.length := by simp; omega
      rw [Array.toList_setIfInBounds, List.length_append, List.length_singleton, List.take_succ_eq_append_getElem (by simpa using hlt)]
      simp [List.take_set_of_le, htake]
    · intro j y hj
      have hjl := (List.getElem?_eq_some_iff.1 hj).1
      rw [World.cell?_setCell_other _ _ _ _ (by intro e; injection e with _ e; omega)]
      exact hB.cell hj
  · have hold : (Builtin.firstCells i.size xs.length (.slice (some ⟨g, 0, none⟩) xs.length cap)).run P w.drew = .ok xs.toArray w.drew :=
      run_firstCells_some w.drew i.size xs.length ⟨g, 0, none⟩ xs.length cap xs (by simp [hsize]) (fun j x hx => by
        rw [Addr.add_mid, Nat.zero_add]
        exact hB.drew.cell hx)
    have hn : Builtin.nextslicecap (xs.length + 1) cap * i.bytes ≤ 281474976710656 := by
      refine growslice_fits (by omega) ?_
      have : (xs.length + 1) * i.bytes ≤ 1000000 * 8 := Nat.mul_le_mul hlen hby
      omega
    have hr := run_append_grow_src (P := P) w t t ty e i z ht hi hz (some ⟨g, 0, none⟩) xs.length cap xs hold (.slice (some a) 1 c) 1 [u] hs (by omega) (by omega) hn
    have hge := grownCap_ge w (xs.length + 1) cap e
    have hcm' : grownCap w (xs.length + 1) cap e ≤ maxLen := grownCap_le_maxLen w (xs.length + 1) cap e (by simp [maxLen]; omega)
    refine ⟨_, _, w.heap.size, hr, .inr rfl, ⟨_, _, (0, 0), by simp, heap_alloc_new w.drew _, .inl rfl, by simpa using hge, hcm', ?_, ?_⟩, ⟨rfl, rfl, rfl, by simp, fun k hk _ => Below.heap_alloc w.drew _ k hk⟩, ?_⟩
    · simp only [Array.size_append, List.size_toArray, size_zeroCells, hzs, List.length_append, List.length_singleton, Nat.mul_one]
      omega
    · simp only [Array.toList_append]
      exact List.take_left
    · intro j y hj
      exact (hB.drew.alloc _).cell hj
theorem step_append_keep {P : Program} {ops : Array Oper} {o : Oper} {a : Act} {w : World} {K : Act → World → Prop} {Q : Exit → Act → World → Prop} {E : Prop} (hgd : o.guard = none) (s x : Operand) (t : TypeId)
    (ho : o.op = .call { callee := .builtin .append, args := #[s, x], argTypes := #[t, t] })
    (g : Nat) (e : TypeId) (i : TypeInfo) (z : Value) (ht : P.underlying t = some (.slice e)) (hi : P.info? e = some i) (hz : i.zero = some z)
    (hsize : i.size = 1) (hby : i.bytes ≤ 8) (hzs : z.cells.size = 1) (v : Value) (xs : List Value) (hs : a.eval s = v) (hB : Buf w g e v xs)
    (ad : Addr) (c : Nat) (u : Value) (hx : a.eval x = .slice (some ad) 1 c) (hu : w.cell? (ad.add 0) = some u) (h1 : u.oneCell' = true) (hlen : xs.length + 1 ≤ 1000000)
    (h : ∀ v' w' g', (g' = g ∨ g' = w.heap.size) → Buf w' g' e v' (xs ++ [u]) → w.grownBy w' (some g) → (∀ j y, xs[j]? = some y → w'.cell? ⟨g, j, none⟩ = some y) → K (a.put o.dst v') w') :
    if Region.wanted o (yielded ops a.tmps) = true then Oper.wp P o a w K Q else E := by
  have hw : Region.wanted o (yielded ops a.tmps) = true := by simp [Region.wanted, hgd]
  rw [if_pos hw]
  obtain ⟨v', w', g', hrun, r1, r2, r3, r4⟩ := run_append_keep (P := P) w g t o.type e i z ht hi hz hsize hby hzs v xs hB ad c u hu h1 hlen
  unfold Oper.wp
  simp [execOp, ho, resolve, invoke, builtin, hs, hx, hrun, Result.andThen]
  exact h v' w' g' r1 r2 r3 r4

theorem row_of_words {w : World} {hs : List Int} {B : Nat} (hv : V8 hs) (h : ∀ j, j < 8 → w.cell? ⟨B, j, none⟩ = some (.int .u32 (hs.getD j 0))) (j : Nat) (u : Value) (hu : (u32s hs)[j]? = some u) : w.cell? ((⟨B, 0, none⟩ : Addr).add j) = some u := by
  have hj : j < 8 := by
    have := (List.getElem?_eq_some_iff.1 hu).1
    rw [u32s_len, hv.1] at this
    exact this
  rw [hv.at j hj] at hu
  injection hu with hu
  subst hu
  rw [Addr.add_mid, Nat.zero_add]
  exact h j hj
theorem u32s_one (l : List Int) (u : Value) (hu : u ∈ u32s l) : u.oneCell' = true := by
  unfold u32s at hu
  obtain ⟨x, _, rfl⟩ := List.mem_map.1 hu
  rfl
/-- One round, as the reference writes it. -/
def refT (e f g h k x : Int) : Int := ((h + bits .xor .u32 (bits .xor .u32 (rotr 6 e) (rotr 11 e)) (rotr 25 e) + bits .xor .u32 (bits .and .u32 e f) (bits .and .u32 (bits .xor .u32 4294967295 e) g) + k) % 4294967296 + x) % 4294967296
def refU (a b c : Int) : Int := (bits .xor .u32 (bits .xor .u32 (rotr 2 a) (rotr 13 a)) (rotr 22 a) + bits .xor .u32 (bits .xor .u32 (bits .and .u32 a b) (bits .and .u32 a c)) (bits .and .u32 b c)) % 4294967296
theorem rstep_ref (k x a b c d e f g h : Int) : rstep k x [a, b, c, d, e, f, g, h] = [(refT e f g h k x + refU a b c) % 4294967296, a, b, c, (d + refT e f g h k x) % 4294967296, e, f, g] := by
  unfold refT refU
  rw [← mixd_three, ← mixd_three]
  simp only [rstep]
  generalize mixd e [6, 11, 25] = m1
  generalize mixd a [2, 13, 22] = m2
  generalize bits .xor .u32 (bits .and .u32 e f) (bits .and .u32 (bits .xor .u32 4294967295 e) g) = c1
  generalize bits .xor .u32 (bits .xor .u32 (bits .and .u32 a b) (bits .and .u32 a c)) (bits .and .u32 b c) = c2
  congr 1
  · omega
  · congr 4
    omega
/-- The sums so far. -/
def accTo (hs V : List Int) (k : Nat) : List Int := (List.range k).map fun j => IntKind.u32.wrap (hs.getD j 0 + V.getD j 0)
theorem accTo_succ (hs V : List Int) (k : Nat) : accTo hs V (k + 1) = accTo hs V k ++ [IntKind.u32.wrap (hs.getD k 0 + V.getD k 0)] := by simp [accTo, List.range_succ]
theorem accTo_all {hs V : List Int} (h : V8 hs) (hv : V8 V) : accTo hs V 8 = addTo hs V 8 := by
  obtain ⟨a, b, c, d, e, f, g, i, rfl⟩ := h.cases
  obtain ⟨a', b', c', d', e', f', g', i', rfl⟩ := hv.cases
  rfl
theorem own_base {w : World} {B C n s : Nat} {e : TypeId} {v : Value} {xs : List Value} (h : w.ownsRow C e s v n xs) (hBC : B ≤ C) : w.ownsRow B e s v n xs := by
  obtain ⟨hl, h⟩ := h
  refine ⟨hl, ?_⟩
  rcases h with h | ⟨g, cap, cur, hv, hB, r⟩
  · exact .inl h
  · exact .inr ⟨g, cap, cur, hv, Nat.le_trans hBC hB, r⟩
theorem Buf.of_arr {w : World} {B : Nat} {T : TypeId} {L : List Value} (h : Arr w B T L) (hl : L.length ≤ maxLen) : Buf w B T (.slice (some ⟨B, 0, none⟩) L.length L.length) L :=
  ⟨L.length, L.toArray, (0, 0), rfl, h, .inl rfl, Nat.le_refl _, hl, by simp, by simp⟩

set_option maxRecDepth 100000 in
set_option maxHeartbeats 1000000 in
theorem refK_any (w : World) : Calls Tryd.prog 57 #[] w fun e w' => e = .returned (.slice (some ⟨w.heap.size, 0, none⟩) 64 64) ∧ Arr w' w.heap.size 59 (u32s KS) ∧ Below w.heap.size w w' := by
  have hN : ∀ (W : World) (cs : Array Value), cs = (u32s KS).toArray → Arr (W.alloc (.cells cs 59)) W.heap.size 59 (u32s KS) := fun W cs h => Arr.new h rfl
  replace hN := Lib.hid hN
  go_enter Tryd.func57, Tryd.ntmps57
  go_wp2
  go_ret
  exact ⟨rfl, hN.out _ _ rfl, (Below.refl _ _).alloc (Nat.le_refl _) _⟩

set_option maxRecDepth 100000 in
set_option maxHeartbeats 8000000 in
theorem refBlock_any (hs bs : List Int) (hb hc b off cap : Nat) (w : World) (hv : V8 hs) (hlen : bs.length = 64)
    (hch : ∀ i, i < 8 → w.cell? ⟨hb, i, none⟩ = some (.int .u32 (hs.getD i 0)))
    (hcb : ∀ i, i < 64 → w.cell? ⟨b, off + i, none⟩ = some (.int .u8 (bs.getD i 0))) :
    Calls Tryd.prog 39 #[.slice (some ⟨hb, 0, none⟩) 8 hc, .slice (some ⟨b, off, none⟩) 64 cap] w fun e w' => ∃ v, e = .returned v ∧ w'.ownsRow w.heap.size 59 1 v 8 (u32s (shaAdd hs bs)) ∧ Below w.heap.size w w' := by
  have hB : Below w.heap.size w w := Below.refl _ _
  obtain ⟨i0, hi, hz0, hz1, hz2⟩ := info_parts Tryd.info_u32
  have hO : w.ownsRow w.heap.size 59 1 (.slice none 0 0) 0 (u32s (schTo bs 0)) := World.ownsRow_nil _ _ _ _
  have hbw : b < w.heap.size := World.block_lt_of_cell? w _ (hcb 0 (by omega))
  have hhw : hb < w.heap.size := World.block_lt_of_cell? w _ (hch 0 (by omega))
  replace hcb := Lib.hid hcb
  replace hch := Lib.hid hch
  replace hlen := Lib.hid hlen
  go_enter Tryd.func39, Tryd.ntmps39
  go_wp2
  go_loopw [5, 6] (fun s i wr => ∃ k : Nat, k ≤ 16 ∧ i = .int .i64 k ∧ Below w.heap.size w wr ∧ wr.ownsRow w.heap.size 59 1 s k (u32s (schTo bs k))) (fun _ i _ => 16 - (intOf i).toNat)
  case atStart => exact ⟨0, by omega, rfl, hB, hO⟩
  case round =>
    clear hB hO
    obtain ⟨k, hk, rfl, hBr, hOr⟩ := hrel
    have hz := hBr.size
    by_cases hlt : k < 16
    · have hd : decide ((k : Int) < 16) = true := by simp; omega
      have q : ∀ i, i < 64 → wr.cell? ⟨b, off + i, none⟩ = some (.int .u8 (bs.getD i 0)) := fun i hi => (hBr.cell (p := ⟨b, off + i, none⟩) hbw).trans (hcb.out i hi)
      have c0 := q (4 * k) (by omega)
      have c1 := q (4 * k + 1) (by omega)
      have c2 := q (4 * k + 2) (by omega)
      have c3 := q (4 * k + 3) (by omega)
      have d0 := hcb.out (4 * k) (by omega)
      have d1 := hcb.out (4 * k + 1) (by omega)
      have d2 := hcb.out (4 * k + 2) (by omega)
      have d3 := hcb.out (4 * k + 3) (by omega)
      have hn := schTo_new1 bs k hlt
      clear q
      generalize bs.getD (4 * k) 0 = x0 at *
      generalize bs.getD (4 * k + 1) 0 = x1 at *
      generalize bs.getD (4 * k + 2) 0 = x2 at *
      generalize bs.getD (4 * k + 3) 0 = x3 at *
      replace hn := Lib.hid hn
      go_wp2
      have s0 : IntKind.i64.wrap (4 * (k : Int)) = 4 * (k : Int) := IntWalk.i64_in _ (by omega)
      have t0 : (0 : Int) ≤ 4 * (k : Int) := by omega
      have v0 : (4 * (k : Int)) < (64 : Int) := by omega
      have n0 : (4 * (k : Int)).toNat = 4 * k := by omega
      have s1 : IntKind.i64.wrap (4 * (k : Int) + 1) = 4 * (k : Int) + 1 := IntWalk.i64_in _ (by omega)
      have t1 : (0 : Int) ≤ 4 * (k : Int) + 1 := by omega
      have v1 : (4 * (k : Int) + 1) < (64 : Int) := by omega
      have n1 : (4 * (k : Int) + 1).toNat = 4 * k + 1 := by omega
      have s2 : IntKind.i64.wrap (4 * (k : Int) + 2) = 4 * (k : Int) + 2 := IntWalk.i64_in _ (by omega)
      have t2 : (0 : Int) ≤ 4 * (k : Int) + 2 := by omega
      have v2 : (4 * (k : Int) + 2) < (64 : Int) := by omega
      have n2 : (4 * (k : Int) + 2).toNat = 4 * k + 2 := by omega
      have s3 : IntKind.i64.wrap (4 * (k : Int) + 3) = 4 * (k : Int) + 3 := IntWalk.i64_in _ (by omega)
      have t3 : (0 : Int) ≤ 4 * (k : Int) + 3 := by omega
      have v3 : (4 * (k : Int) + 3) < (64 : Int) := by omega
      have n3 : (4 * (k : Int) + 3).toNat = 4 * k + 3 := by omega
      clear hd
      refine wp_region_held_drew (S := fun w' => w'.cell? ⟨b, (off + 4 * k), none⟩ = some (.int .u8 x0) ∧ w'.cell? ⟨b, (off + (4 * k + 1)), none⟩ = some (.int .u8 x1) ∧ w'.cell? ⟨b, (off + (4 * k + 2)), none⟩ = some (.int .u8 x2) ∧ w'.cell? ⟨b, (off + (4 * k + 3)), none⟩ = some (.int .u8 x3)) (by kernel_rfl) (by first | (dsimp only; go_keep) | go_keep) (fun hHeld => ?_)
      refine take_l (i := 0) (v := ?_) rfl (by kernel_rfl) (by kernel_rfl) (by kernel_rfl) (fun _ _ _ h => h) (Or.inl ⟨by kernel_rfl, ?_⟩) (by assumption) ?_
      rotate_left
      · intro w hSw; (try dsimp only at hSw); go_simp; (try with_reducible rfl)
      (try dsimp only [Act.put, List.setIfInBounds_toArray, List.set_cons_zero, List.set_cons_succ])
      refine take_l (i := 1) (v := ?_) rfl (by kernel_rfl) (by kernel_rfl) (by kernel_rfl) (fun _ _ _ h => h) (Or.inl ⟨by kernel_rfl, ?_⟩) (by assumption) ?_
      rotate_left
      · intro w hSw; (try dsimp only at hSw); go_simp; (try with_reducible rfl)
      (try dsimp only [Act.put, List.setIfInBounds_toArray, List.set_cons_zero, List.set_cons_succ])
      refine take_l (i := 2) (v := ?_) rfl (by kernel_rfl) (by kernel_rfl) (by kernel_rfl) (fun _ _ _ h => h) (Or.inl ⟨by kernel_rfl, ?_⟩) (by assumption) ?_
      rotate_left
      · intro w hSw; (try dsimp only at hSw); go_simp; (try with_reducible rfl)
      (try dsimp only [Act.put, List.setIfInBounds_toArray, List.set_cons_zero, List.set_cons_succ])
      refine take_l (i := 3) (v := ?_) rfl (by kernel_rfl) (by kernel_rfl) (by kernel_rfl) (fun _ _ _ h => h) (Or.inl ⟨by kernel_rfl, ?_⟩) (by assumption) ?_
      rotate_left
      · intro w hSw; (try dsimp only at hSw); go_simp; (try with_reducible rfl)
      (try dsimp only [Act.put, List.setIfInBounds_toArray, List.set_cons_zero, List.set_cons_succ])
      refine take_l (i := 4) (v := ?_) rfl (by kernel_rfl) (by kernel_rfl) (by kernel_rfl) (fun _ _ _ h => h) (Or.inl ⟨by kernel_rfl, ?_⟩) (by assumption) ?_
      rotate_left
      · intro w hSw; (try dsimp only at hSw); go_simp; (try with_reducible rfl)
      (try dsimp only [Act.put, List.setIfInBounds_toArray, List.set_cons_zero, List.set_cons_succ])
      refine take_l (i := 5) (v := ?_) rfl (by kernel_rfl) (by kernel_rfl) (by kernel_rfl) (fun _ _ _ h => h) (Or.inl ⟨by kernel_rfl, ?_⟩) (by assumption) ?_
      rotate_left
      · intro w hSw; (try dsimp only at hSw); go_simp; (try with_reducible rfl)
      (try dsimp only [Act.put, List.setIfInBounds_toArray, List.set_cons_zero, List.set_cons_succ])
      refine take_l (i := 6) (v := ?_) rfl (by kernel_rfl) (by kernel_rfl) (by kernel_rfl) (fun _ _ _ h => h) (Or.inl ⟨by kernel_rfl, ?_⟩) (by assumption) ?_
      rotate_left
      · intro w hSw; (try dsimp only at hSw); go_simp; (try with_reducible rfl)
      (try dsimp only [Act.put, List.setIfInBounds_toArray, List.set_cons_zero, List.set_cons_succ])
      refine take_l (i := 7) (v := ?_) rfl (by kernel_rfl) (by kernel_rfl) (by kernel_rfl) (fun _ _ _ h => h) (Or.inl ⟨by kernel_rfl, ?_⟩) (by assumption) ?_
      rotate_left
      · intro w hSw; (try dsimp only at hSw); go_simp; (try with_reducible rfl)
      (try dsimp only [Act.put, List.setIfInBounds_toArray, List.set_cons_zero, List.set_cons_succ])
      refine take_l (i := 8) (v := ?_) rfl (by kernel_rfl) (by kernel_rfl) (by kernel_rfl) (fun _ _ _ h => h) (Or.inl ⟨by kernel_rfl, ?_⟩) (by assumption) ?_
      rotate_left
      · intro w hSw; (try dsimp only at hSw); go_simp; (try with_reducible rfl)
      (try dsimp only [Act.put, List.setIfInBounds_toArray, List.set_cons_zero, List.set_cons_succ])
      refine take_l (i := 9) (v := ?_) rfl (by kernel_rfl) (by kernel_rfl) (by kernel_rfl) (fun _ _ _ h => h) (Or.inl ⟨by kernel_rfl, ?_⟩) (by assumption) ?_
      rotate_left
      · intro w hSw; (try dsimp only at hSw); go_simp; (try with_reducible rfl)
      (try dsimp only [Act.put, List.setIfInBounds_toArray, List.set_cons_zero, List.set_cons_succ])
      refine take_l (i := 10) (v := ?_) rfl (by kernel_rfl) (by kernel_rfl) (by kernel_rfl) (fun _ _ _ h => h) (Or.inl ⟨by kernel_rfl, ?_⟩) (by assumption) ?_
      rotate_left
      · intro w hSw; (try dsimp only at hSw); go_simp; (try with_reducible rfl)
      (try dsimp only [Act.put, List.setIfInBounds_toArray, List.set_cons_zero, List.set_cons_succ])
      refine take_l (i := 11) (v := ?_) rfl (by kernel_rfl) (by kernel_rfl) (by kernel_rfl) (fun _ _ _ h => h) (Or.inl ⟨by kernel_rfl, ?_⟩) (by assumption) ?_
      rotate_left
      · intro w hSw; (try dsimp only at hSw); go_simp; (try with_reducible rfl)
      (try dsimp only [Act.put, List.setIfInBounds_toArray, List.set_cons_zero, List.set_cons_succ])
      refine take_l (i := 12) (v := ?_) rfl (by kernel_rfl) (by kernel_rfl) (by kernel_rfl) (fun _ _ _ h => h) (Or.inl ⟨by kernel_rfl, ?_⟩) (by assumption) ?_
      rotate_left
      · intro w hSw; (try dsimp only at hSw); go_simp; (try with_reducible rfl)
      (try dsimp only [Act.put, List.setIfInBounds_toArray, List.set_cons_zero, List.set_cons_succ])
      refine take_l (i := 13) (v := ?_) rfl (by kernel_rfl) (by kernel_rfl) (by kernel_rfl) (fun _ _ _ h => h) (Or.inl ⟨by kernel_rfl, ?_⟩) (by assumption) ?_
      rotate_left
      · intro w hSw; (try dsimp only at hSw); go_simp; (try with_reducible rfl)
      (try dsimp only [Act.put, List.setIfInBounds_toArray, List.set_cons_zero, List.set_cons_succ])
      refine take_l (i := 14) (v := ?_) rfl (by kernel_rfl) (by kernel_rfl) (by kernel_rfl) (fun _ _ _ h => h) (Or.inl ⟨by kernel_rfl, ?_⟩) (by assumption) ?_
      rotate_left
      · intro w hSw; (try dsimp only at hSw); go_simp; (try with_reducible rfl)
      (try dsimp only [Act.put, List.setIfInBounds_toArray, List.set_cons_zero, List.set_cons_succ])
      refine take_l (i := 15) (v := ?_) rfl (by kernel_rfl) (by kernel_rfl) (by kernel_rfl) (fun _ _ _ h => h) (Or.inl ⟨by kernel_rfl, ?_⟩) (by assumption) ?_
      rotate_left
      · intro w hSw; (try dsimp only at hSw); go_simp; (try with_reducible rfl)
      (try dsimp only [Act.put, List.setIfInBounds_toArray, List.set_cons_zero, List.set_cons_succ])
      refine take_l (i := 16) (v := ?_) rfl (by kernel_rfl) (by kernel_rfl) (by kernel_rfl) (fun _ _ _ h => h) (Or.inl ⟨by kernel_rfl, ?_⟩) (by assumption) ?_
      rotate_left
      · intro w hSw; (try dsimp only at hSw); go_simp; (try with_reducible rfl)
      (try dsimp only [Act.put, List.setIfInBounds_toArray, List.set_cons_zero, List.set_cons_succ])
      refine take_l (i := 17) (v := ?_) rfl (by kernel_rfl) (by kernel_rfl) (by kernel_rfl) (fun _ _ _ h => h) (Or.inl ⟨by kernel_rfl, ?_⟩) (by assumption) ?_
      rotate_left
      · intro w hSw; (try dsimp only at hSw); go_simp; (try with_reducible rfl)
      (try dsimp only [Act.put, List.setIfInBounds_toArray, List.set_cons_zero, List.set_cons_succ])
      refine take_l (i := 18) (v := ?_) rfl (by kernel_rfl) (by kernel_rfl) (by kernel_rfl) (fun _ _ _ h => h) (Or.inl ⟨by kernel_rfl, ?_⟩) (by assumption) ?_
      rotate_left
      · intro w hSw; (try dsimp only at hSw); go_simp; (try with_reducible rfl)
      (try dsimp only [Act.put, List.setIfInBounds_toArray, List.set_cons_zero, List.set_cons_succ])
      refine take_l (i := 19) (v := ?_) rfl (by kernel_rfl) (by kernel_rfl) (by kernel_rfl) (fun _ _ _ h => h) (Or.inl ⟨by kernel_rfl, ?_⟩) (by assumption) ?_
      rotate_left
      · intro w hSw; (try dsimp only at hSw); go_simp; (try with_reducible rfl)
      (try dsimp only [Act.put, List.setIfInBounds_toArray, List.set_cons_zero, List.set_cons_succ])
      refine take_l (i := 20) (v := ?_) rfl (by kernel_rfl) (by kernel_rfl) (by kernel_rfl) (fun _ _ _ h => h) (Or.inl ⟨by kernel_rfl, ?_⟩) (by assumption) ?_
      rotate_left
      · intro w hSw; (try dsimp only at hSw); go_simp; (try with_reducible rfl)
      (try dsimp only [Act.put, List.setIfInBounds_toArray, List.set_cons_zero, List.set_cons_succ])
      refine take_l (i := 21) (v := ?_) rfl (by kernel_rfl) (by kernel_rfl) (by kernel_rfl) (fun _ _ _ h => h) (Or.inl ⟨by kernel_rfl, ?_⟩) (by assumption) ?_
      rotate_left
      · intro w hSw; (try dsimp only at hSw); go_simp; (try with_reducible rfl)
      (try dsimp only [Act.put, List.setIfInBounds_toArray, List.set_cons_zero, List.set_cons_succ])
      refine take_l (i := 22) (v := ?_) rfl (by kernel_rfl) (by kernel_rfl) (by kernel_rfl) (fun _ _ _ h => h) (Or.inl ⟨by kernel_rfl, ?_⟩) (by assumption) ?_
      rotate_left
      · intro w hSw; (try dsimp only at hSw); go_simp; (try with_reducible rfl)
      (try dsimp only [Act.put, List.setIfInBounds_toArray, List.set_cons_zero, List.set_cons_succ])
      refine take_l (i := 23) (v := ?_) rfl (by kernel_rfl) (by kernel_rfl) (by kernel_rfl) (fun _ _ _ h => h) (Or.inl ⟨by kernel_rfl, ?_⟩) (by assumption) ?_
      rotate_left
      · intro w hSw; (try dsimp only at hSw); go_simp; (try with_reducible rfl)
      (try dsimp only [Act.put, List.setIfInBounds_toArray, List.set_cons_zero, List.set_cons_succ])
      refine take_l (i := 24) (v := ?_) rfl (by kernel_rfl) (by kernel_rfl) (by kernel_rfl) (fun _ _ _ h => h) (Or.inl ⟨by kernel_rfl, ?_⟩) (by assumption) ?_
      rotate_left
      · intro w hSw; (try dsimp only at hSw); go_simp; (try with_reducible rfl)
      (try dsimp only [Act.put, List.setIfInBounds_toArray, List.set_cons_zero, List.set_cons_succ])
      refine take_l (i := 25) (v := ?_) rfl (by kernel_rfl) (by kernel_rfl) (by kernel_rfl) (fun _ _ _ h => h) (Or.inl ⟨by kernel_rfl, ?_⟩) (by assumption) ?_
      rotate_left
      · intro w hSw; (try dsimp only at hSw); go_simp; (try with_reducible rfl)
      (try dsimp only [Act.put, List.setIfInBounds_toArray, List.set_cons_zero, List.set_cons_succ])
      refine take_l (i := 26) (v := ?_) rfl (by kernel_rfl) (by kernel_rfl) (by kernel_rfl) (fun _ _ _ h => h) (Or.inl ⟨by kernel_rfl, ?_⟩) (by assumption) ?_
      rotate_left
      · intro w hSw; (try dsimp only at hSw); go_simp; (try with_reducible rfl)
      (try dsimp only [Act.put, List.setIfInBounds_toArray, List.set_cons_zero, List.set_cons_succ])
      refine take_l (i := 27) (v := ?_) rfl (by kernel_rfl) (by kernel_rfl) (by kernel_rfl) (fun _ _ _ h => h) (Or.inl ⟨by kernel_rfl, ?_⟩) (by assumption) ?_
      rotate_left
      · intro w hSw; (try dsimp only at hSw); go_simp; (try with_reducible rfl)
      (try dsimp only [Act.put, List.setIfInBounds_toArray, List.set_cons_zero, List.set_cons_succ])
      refine take_l (i := 28) (v := ?_) rfl (by kernel_rfl) (by kernel_rfl) (by kernel_rfl) (fun _ _ _ h => h) (Or.inl ⟨by kernel_rfl, ?_⟩) (by assumption) ?_
      rotate_left
      · intro w hSw; (try dsimp only at hSw); go_simp; (try with_reducible rfl)
      (try dsimp only [Act.put, List.setIfInBounds_toArray, List.set_cons_zero, List.set_cons_succ])
      refine take_l (i := 29) (v := ?_) rfl (by kernel_rfl) (by kernel_rfl) (by kernel_rfl) (fun _ _ _ h => h) (Or.inl ⟨by kernel_rfl, ?_⟩) (by assumption) ?_
      rotate_left
      · intro w hSw; (try dsimp only at hSw); go_simp; (try with_reducible rfl)
      (try dsimp only [Act.put, List.setIfInBounds_toArray, List.set_cons_zero, List.set_cons_succ])
      refine take_l (i := 30) (v := ?_) rfl (by kernel_rfl) (by kernel_rfl) (by kernel_rfl) (fun _ _ _ h => h) (Or.inl ⟨by kernel_rfl, ?_⟩) (by assumption) ?_
      rotate_left
      · intro w hSw; (try dsimp only at hSw); go_simp; (try with_reducible rfl)
      (try dsimp only [Act.put, List.setIfInBounds_toArray, List.set_cons_zero, List.set_cons_succ])
      refine take_l (i := 31) (v := ?_) rfl (by kernel_rfl) (by kernel_rfl) (by kernel_rfl) (fun _ _ _ h => h) (Or.inl ⟨by kernel_rfl, ?_⟩) (by assumption) ?_
      rotate_left
      · intro w hSw; (try dsimp only at hSw); go_simp; (try with_reducible rfl)
      (try dsimp only [Act.put, List.setIfInBounds_toArray, List.set_cons_zero, List.set_cons_succ])
      refine take_l (i := 32) (v := ?_) rfl (by kernel_rfl) (by kernel_rfl) (by kernel_rfl) (fun _ _ _ h => h) (Or.inl ⟨by kernel_rfl, ?_⟩) (by assumption) ?_
      rotate_left
      · intro w hSw; (try dsimp only at hSw); go_simp; (try with_reducible rfl)
      (try dsimp only [Act.put, List.setIfInBounds_toArray, List.set_cons_zero, List.set_cons_succ])
      refine take_l (i := 33) (v := ?_) rfl (by kernel_rfl) (by kernel_rfl) (by kernel_rfl) (fun _ _ _ h => h) (Or.inl ⟨by kernel_rfl, ?_⟩) (by assumption) ?_
      rotate_left
      · intro w hSw; (try dsimp only at hSw); go_simp; (try with_reducible rfl)
      (try dsimp only [Act.put, List.setIfInBounds_toArray, List.set_cons_zero, List.set_cons_succ])
      refine wpAnyH_ready (rs := [34]) (by kernel_rfl) (by simp) ?_
      refine ready_l rfl (fun K hK => ?_) AllReadyH.nil
      go_simp
      refine hK.out _ _ (by first | (dsimp only; go_keep) | go_keep) (fun hHeld => ?_)
      clear hK K
      (try dsimp only [Act.put, List.setIfInBounds_toArray, List.set_cons_zero, List.set_cons_succ])
      refine wpAnyH_ready (rs := [35]) (by kernel_rfl) (by simp) ?_
      refine ready_l rfl (fun K hK => ?_) AllReadyH.nil
      refine step_append_lies _ rfl _ _ 69 rfl w.heap.size 59 i0 (.int .u32 0) 1 4 Tryd.underlying69 hi hz0 hz1 hz2 rfl (by decide) _ _ _ rfl ((own_below hOr ((Below.refl _ _).drew)).alloc _) ⟨wr.heap.size, 0, none⟩ 1 1 [.int .u32 (word4 x0 x1 x2 x3)] rfl rfl (cell_one_new _ _ _) (by simp [Value.oneCell']) (by decide) (by unfold maxLen; omega) (by omega) (by first | exact Nat.le_refl _ | (simp; done) | (simp; omega) | omega) _ rfl ?_
      intro g1 cap1 w1 hO1 hg1 _ _
      have hBk : Below w.heap.size w w1 := (hBr.drew.alloc hz _).grown hg1 (by first | exact Nat.le_refl _ | (simp; done) | (simp; omega) | omega) (fun r e => (hOr.lt r e).1)
      (try dsimp only [Act.put, List.setIfInBounds_toArray, List.set_cons_zero, List.set_cons_succ])
      refine hK.out _ _ (by exact ⟨(hBk.cell (p := ⟨b, _, none⟩) hbw).trans d0, (hBk.cell (p := ⟨b, _, none⟩) hbw).trans d1, (hBk.cell (p := ⟨b, _, none⟩) hbw).trans d2, (hBk.cell (p := ⟨b, _, none⟩) hbw).trans d3⟩) (fun hHeld => ?_)
      clear hK K
      (try dsimp only [Act.put, List.setIfInBounds_toArray, List.set_cons_zero, List.set_cons_succ])
      refine take_l (i := 36) (v := ?_) rfl (by kernel_rfl) (by kernel_rfl) (by kernel_rfl) (fun _ _ _ h => h) (Or.inl ⟨by kernel_rfl, ?_⟩) (by assumption) ?_
      rotate_left
      · intro w hSw; (try dsimp only at hSw); go_simp; (try with_reducible rfl)
      (try dsimp only [Act.put, List.setIfInBounds_toArray, List.set_cons_zero, List.set_cons_succ])
      refine wpAnyH_done (by kernel_rfl) ?_ _
      rw [u32s_snoc, ← hn.out] at hO1
      go_wp2
      exact ⟨⟨k + 1, by omega, by go_num, hBk, hO1⟩, by simp [intOf]; omega⟩
    · have hd : decide ((k : Int) < 16) = false := by simp; omega
      obtain rfl : k = 16 := by omega
      rw [show ((16 : Nat) : Int) = 16 from rfl]
      go_wp2
      obtain ⟨g0, hg0, hb0⟩ := buf_of_own (n := 15) hOr
      go_loopw [5, 7] (fun s i wr => ∃ k g : Nat, 16 ≤ k ∧ k ≤ 64 ∧ i = .int .i64 k ∧ Below w.heap.size w wr ∧ w.heap.size ≤ g ∧ Buf wr g 59 s (u32s (schTo bs k))) (fun _ i _ => 64 - (intOf i).toNat)
      case atStart => exact ⟨16, g0, by omega, by omega, rfl, hBr, hg0, hb0⟩
      case round =>
        clear hBr hOr hz hlt hd hk hg0 hb0
        obtain ⟨k, g, hk1, hk2, rfl, hBr, hg, hU⟩ := hrel
        obtain ⟨gc, hv, hgc1, hgc2⟩ := hU.val
        rw [u32s_len, schTo_len] at hv hgc1
        subst hv
        by_cases hlt : k < 64
        · have hd : decide ((k : Int) < 64) = true := by simp; omega
          have wx : Hid (W32 ((schTo bs k).getD (k - 15) 0)) := schTo_w32 bs k _ (getD_mem (by rw [schTo_len]; omega))
          have wy : Hid (W32 ((schTo bs k).getD (k - 2) 0)) := schTo_w32 bs k _ (getD_mem (by rw [schTo_len]; omega))
          have hsl := schTo_len bs k
          have x0 := u32s_at (l := schTo bs k) (j := k - 15) (by omega)
          have x1 := u32s_at (l := schTo bs k) (j := k - 2) (by omega)
          have x2 := u32s_at (l := schTo bs k) (j := k - 16) (by omega)
          have x3 := u32s_at (l := schTo bs k) (j := k - 7) (by omega)
          have hn := schTo_new2 bs k (by omega)
          generalize (schTo bs k).getD (k - 15) 0 = x at *
          generalize (schTo bs k).getD (k - 2) 0 = y at *
          generalize (schTo bs k).getD (k - 16) 0 = p at *
          generalize (schTo bs k).getD (k - 7) 0 = q at *
          have hul : (u32s (schTo bs k)).length + 1 ≤ 1000000 := by rw [u32s_len, hsl]; omega
          replace hn := Lib.hid hn
          replace hsl := Lib.hid hsl
          replace x0 := Lib.hid x0
          replace x1 := Lib.hid x1
          replace x2 := Lib.hid x2
          replace x3 := Lib.hid x3
          have c0 := hU.cell x0.out
          go_wp2
          have s15 : IntKind.i64.wrap ((k : Int) - 15) = k - 15 := IntWalk.i64_in _ (by omega)
          have t15 : (0 : Int) ≤ (k : Int) - 15 := by omega
          have v15 : (k : Int) - 15 < ((k : Nat) : Int) := by omega
          have n15 : ((k : Int) - 15).toNat = k - 15 := by omega
          have m15 : (15 : Int) ≤ (k : Int) := by omega
          go_quiet (first | ((go_at_call 56; with_reducible refine Calls.quiet_of (refRot_at 7 7 (by decide) rfl x _ wx))) | ((go_at_call 56; with_reducible refine Calls.quiet_of (refRot_at 18 18 (by decide) rfl x _ wx))))
          go_wp2
          refine name_wp ?_
          intro w2 hw2
          replace hBr : Below w.heap.size w w2 := by rw [hw2]; exact below_drewN hBr _
          replace hU : Buf w2 g 59 (.slice (some ⟨g, 0, none⟩) k gc) (u32s (schTo bs k)) := by rw [hw2]; exact hU.drewN _
          clear hw2 c0
          clear s15 t15 v15 n15 m15
          have c1 := hU.cell x1.out
          have s2 : IntKind.i64.wrap ((k : Int) - 2) = k - 2 := IntWalk.i64_in _ (by omega)
          have t2 : (0 : Int) ≤ (k : Int) - 2 := by omega
          have v2 : (k : Int) - 2 < ((k : Nat) : Int) := by omega
          have n2 : ((k : Int) - 2).toNat = k - 2 := by omega
          have m2 : (2 : Int) ≤ (k : Int) := by omega
          go_quiet (first | ((go_at_call 56; with_reducible refine Calls.quiet_of (refRot_at 17 17 (by decide) rfl y _ wy))) | ((go_at_call 56; with_reducible refine Calls.quiet_of (refRot_at 19 19 (by decide) rfl y _ wy))))
          go_wp2
          refine name_wp ?_
          intro w3 hw2
          replace hBr : Below w.heap.size w w3 := by rw [hw2]; exact below_drewN hBr _
          replace hU : Buf w3 g 59 (.slice (some ⟨g, 0, none⟩) k gc) (u32s (schTo bs k)) := by rw [hw2]; exact hU.drewN _
          clear hw2 c1
          clear s2 t2 v2 n2 m2
          have c0 := hU.cell x2.out
          have c1 := hU.cell x3.out
          have hz := hBr.size
          have s16 : IntKind.i64.wrap ((k : Int) - 16) = k - 16 := IntWalk.i64_in _ (by omega)
          have t16 : (0 : Int) ≤ (k : Int) - 16 := by omega
          have v16 : (k : Int) - 16 < ((k : Nat) : Int) := by omega
          have n16 : ((k : Int) - 16).toNat = k - 16 := by omega
          have m16 : (16 : Int) ≤ (k : Int) := by omega
          have s7 : IntKind.i64.wrap ((k : Int) - 7) = k - 7 := IntWalk.i64_in _ (by omega)
          have t7 : (0 : Int) ≤ (k : Int) - 7 := by omega
          have v7 : (k : Int) - 7 < ((k : Nat) : Int) := by omega
          have n7 : ((k : Int) - 7).toNat = k - 7 := by omega
          have m7 : (7 : Int) ≤ (k : Int) := by omega
          refine wp_region_held_drew (S := fun w' => w'.cell? ⟨g, (k - 16), none⟩ = some (.int .u32 p) ∧ w'.cell? ⟨g, (k - 7), none⟩ = some (.int .u32 q)) (by kernel_rfl) (by first | (dsimp only; go_keep) | go_keep) (fun hHeld => ?_)
          refine take_l (i := 0) (v := ?_) rfl (by kernel_rfl) (by kernel_rfl) (by kernel_rfl) (fun _ _ _ h => h) (Or.inl ⟨by kernel_rfl, ?_⟩) (by assumption) ?_
          rotate_left
          · intro w hSw; (try dsimp only at hSw); go_simp; (try with_reducible rfl)
          (try dsimp only [Act.put, List.setIfInBounds_toArray, List.set_cons_zero, List.set_cons_succ])
          refine take_l (i := 1) (v := ?_) rfl (by kernel_rfl) (by kernel_rfl) (by kernel_rfl) (fun _ _ _ h => h) (Or.inl ⟨by kernel_rfl, ?_⟩) (by assumption) ?_
          rotate_left
          · intro w hSw; (try dsimp only at hSw); go_simp; (try with_reducible rfl)
          (try dsimp only [Act.put, List.setIfInBounds_toArray, List.set_cons_zero, List.set_cons_succ])
          refine take_l (i := 2) (v := ?_) rfl (by kernel_rfl) (by kernel_rfl) (by kernel_rfl) (fun _ _ _ h => h) (Or.inl ⟨by kernel_rfl, ?_⟩) (by assumption) ?_
          rotate_left
          · intro w hSw; (try dsimp only at hSw); go_simp; (try with_reducible rfl)
          (try dsimp only [Act.put, List.setIfInBounds_toArray, List.set_cons_zero, List.set_cons_succ])
          refine take_l (i := 3) (v := ?_) rfl (by kernel_rfl) (by kernel_rfl) (by kernel_rfl) (fun _ _ _ h => h) (Or.inl ⟨by kernel_rfl, ?_⟩) (by assumption) ?_
          rotate_left
          · intro w hSw; (try dsimp only at hSw); go_simp; (try with_reducible rfl)
          (try dsimp only [Act.put, List.setIfInBounds_toArray, List.set_cons_zero, List.set_cons_succ])
          refine take_l (i := 4) (v := ?_) rfl (by kernel_rfl) (by kernel_rfl) (by kernel_rfl) (fun _ _ _ h => h) (Or.inl ⟨by kernel_rfl, ?_⟩) (by assumption) ?_
          rotate_left
          · intro w hSw; (try dsimp only at hSw); go_simp; (try with_reducible rfl)
          (try dsimp only [Act.put, List.setIfInBounds_toArray, List.set_cons_zero, List.set_cons_succ])
          refine take_l (i := 5) (v := ?_) rfl (by kernel_rfl) (by kernel_rfl) (by kernel_rfl) (fun _ _ _ h => h) (Or.inl ⟨by kernel_rfl, ?_⟩) (by assumption) ?_
          rotate_left
          · intro w hSw; (try dsimp only at hSw); go_simp; (try with_reducible rfl)
          (try dsimp only [Act.put, List.setIfInBounds_toArray, List.set_cons_zero, List.set_cons_succ])
          refine take_l (i := 6) (v := ?_) rfl (by kernel_rfl) (by kernel_rfl) (by kernel_rfl) (fun _ _ _ h => h) (Or.inl ⟨by kernel_rfl, ?_⟩) (by assumption) ?_
          rotate_left
          · intro w hSw; (try dsimp only at hSw); go_simp; (try with_reducible rfl)
          (try dsimp only [Act.put, List.setIfInBounds_toArray, List.set_cons_zero, List.set_cons_succ])
          refine take_l (i := 7) (v := ?_) rfl (by kernel_rfl) (by kernel_rfl) (by kernel_rfl) (fun _ _ _ h => h) (Or.inl ⟨by kernel_rfl, ?_⟩) (by assumption) ?_
          rotate_left
          · intro w hSw; (try dsimp only at hSw); go_simp; (try with_reducible rfl)
          (try dsimp only [Act.put, List.setIfInBounds_toArray, List.set_cons_zero, List.set_cons_succ])
          refine take_l (i := 8) (v := ?_) rfl (by kernel_rfl) (by kernel_rfl) (by kernel_rfl) (fun _ _ _ h => h) (Or.inl ⟨by kernel_rfl, ?_⟩) (by assumption) ?_
          rotate_left
          · intro w hSw; (try dsimp only at hSw); go_simp; (try with_reducible rfl)
          (try dsimp only [Act.put, List.setIfInBounds_toArray, List.set_cons_zero, List.set_cons_succ])
          refine take_l (i := 9) (v := ?_) rfl (by kernel_rfl) (by kernel_rfl) (by kernel_rfl) (fun _ _ _ h => h) (Or.inl ⟨by kernel_rfl, ?_⟩) (by assumption) ?_
          rotate_left
          · intro w hSw; (try dsimp only at hSw); go_simp; (try with_reducible rfl)
          (try dsimp only [Act.put, List.setIfInBounds_toArray, List.set_cons_zero, List.set_cons_succ])
          refine take_l (i := 10) (v := ?_) rfl (by kernel_rfl) (by kernel_rfl) (by kernel_rfl) (fun _ _ _ h => h) (Or.inl ⟨by kernel_rfl, ?_⟩) (by assumption) ?_
          rotate_left
          · intro w hSw; (try dsimp only at hSw); go_simp; (try with_reducible rfl)
          (try dsimp only [Act.put, List.setIfInBounds_toArray, List.set_cons_zero, List.set_cons_succ])
          refine take_l (i := 11) (v := ?_) rfl (by kernel_rfl) (by kernel_rfl) (by kernel_rfl) (fun _ _ _ h => h) (Or.inl ⟨by kernel_rfl, ?_⟩) (by assumption) ?_
          rotate_left
          · intro w hSw; (try dsimp only at hSw); go_simp; (try with_reducible rfl)
          (try dsimp only [Act.put, List.setIfInBounds_toArray, List.set_cons_zero, List.set_cons_succ])
          refine take_l (i := 12) (v := ?_) rfl (by kernel_rfl) (by kernel_rfl) (by kernel_rfl) (fun _ _ _ h => h) (Or.inl ⟨by kernel_rfl, ?_⟩) (by assumption) ?_
          rotate_left
          · intro w hSw; (try dsimp only at hSw); go_simp; (try with_reducible rfl)
          (try dsimp only [Act.put, List.setIfInBounds_toArray, List.set_cons_zero, List.set_cons_succ])
          refine take_l (i := 13) (v := ?_) rfl (by kernel_rfl) (by kernel_rfl) (by kernel_rfl) (fun _ _ _ h => h) (Or.inl ⟨by kernel_rfl, ?_⟩) (by assumption) ?_
          rotate_left
          · intro w hSw; (try dsimp only at hSw); go_simp; (try with_reducible rfl)
          (try dsimp only [Act.put, List.setIfInBounds_toArray, List.set_cons_zero, List.set_cons_succ])
          refine take_l (i := 14) (v := ?_) rfl (by kernel_rfl) (by kernel_rfl) (by kernel_rfl) (fun _ _ _ h => h) (Or.inl ⟨by kernel_rfl, ?_⟩) (by assumption) ?_
          rotate_left
          · intro w hSw; (try dsimp only at hSw); go_simp; (try with_reducible rfl)
          (try dsimp only [Act.put, List.setIfInBounds_toArray, List.set_cons_zero, List.set_cons_succ])
          refine take_l (i := 15) (v := ?_) rfl (by kernel_rfl) (by kernel_rfl) (by kernel_rfl) (fun _ _ _ h => h) (Or.inl ⟨by kernel_rfl, ?_⟩) (by assumption) ?_
          rotate_left
          · intro w hSw; (try dsimp only at hSw); go_simp; (try with_reducible rfl)
          (try dsimp only [Act.put, List.setIfInBounds_toArray, List.set_cons_zero, List.set_cons_succ])
          refine wpAnyH_ready (rs := [16]) (by kernel_rfl) (by simp) ?_
          refine ready_l rfl (fun K hK => ?_) AllReadyH.nil
          go_simp
          refine hK.out _ _ (by first | (dsimp only; go_keep) | go_keep) (fun hHeld => ?_)
          clear hK K
          (try dsimp only [Act.put, List.setIfInBounds_toArray, List.set_cons_zero, List.set_cons_succ])
          refine wpAnyH_ready (rs := [17]) (by kernel_rfl) (by simp) ?_
          refine ready_l rfl (fun K hK => ?_) AllReadyH.nil
          refine step_append_keep rfl _ _ 69 rfl g 59 i0 (.int .u32 0) Tryd.underlying69 hi hz0 hz1 (by omega) rfl _ (u32s (schTo bs k)) rfl ((hU.alloc _).drew) ⟨w3.heap.size, 0, none⟩ 1 (.int .u32 (refE x y p q)) rfl (cell_one_new0 w3 _ _) rfl hul ?_
          intro v1 w1 g1 hg1 hb1 hgr1 hkp
          have hBk : Below w.heap.size w w1 := ((hBr.alloc hz _).drew).grown hgr1 (by first | exact Nat.le_refl _ | (simp; done) | (simp; omega) | omega) (fun r e => by injection e with e; omega)
          (try dsimp only [Act.put, List.setIfInBounds_toArray, List.set_cons_zero, List.set_cons_succ])
          refine hK.out _ _ (by exact ⟨hkp _ _ x2.out, hkp _ _ x3.out⟩) (fun hHeld => ?_)
          clear hK K
          (try dsimp only [Act.put, List.setIfInBounds_toArray, List.set_cons_zero, List.set_cons_succ])
          refine take_l (i := 18) (v := ?_) rfl (by kernel_rfl) (by kernel_rfl) (by kernel_rfl) (fun _ _ _ h => h) (Or.inl ⟨by kernel_rfl, ?_⟩) (by assumption) ?_
          rotate_left
          · intro w hSw; (try dsimp only at hSw); go_simp; (try with_reducible rfl)
          (try dsimp only [Act.put, List.setIfInBounds_toArray, List.set_cons_zero, List.set_cons_succ])
          refine wpAnyH_done (by kernel_rfl) ?_ _
          rw [u32s_snoc, ← hn.out] at hb1
          go_wp2
          exact ⟨⟨k + 1, g1, by omega, by omega, by go_num, hBk, by rcases hg1 with rfl | rfl <;> first | exact hg | exact hz | (refine Nat.le_trans hz ?_; simp), hb1⟩, by simp [intOf]; omega⟩
        · have hd : decide ((k : Int) < 64) = false := by simp; omega
          obtain rfl : k = 64 := by omega
          rw [show ((64 : Nat) : Int) = 64 from rfl]
          clear hlt hd hk1 hk2
          have hWb : (u32s hs).length = 8 := by rw [u32s_len, hv.1]
          have hWl := schTo_len bs 64
          generalize hWe : schTo bs 64 = W at *
          replace hWl := Lib.hid hWl
          have hshaf : Hid (shaAdd hs bs = addTo hs (rounds W hs 64) 8) := by show _ = _; rw [shaAdd, hWe]
          replace hWe := Lib.hid hWe
          clear hlen hcb hbw
          go_wp2_with fail
          refine (refK_any _).mono ?_
          rintro e w4 ⟨rfl, hK4, hb4⟩
          have hU4 := hU.below hb4
          have hB4 := hBr.trans (hb4.mono hBr.size)
          have hKg : g ≠ wr.heap.size := by have := hU.lt; omega
          have hwK : w.heap.size ≤ wr.heap.size := hBr.size
          generalize wr.heap.size = gK at *
          clear hU hBr hb4
          have hz := hB4.size
          have hO4 : w4.ownsRow w.heap.size 59 1 (.slice none 0 0) 0 [] := World.ownsRow_nil _ _ _ _
          have hch4 := row_of_words (w := w4) hv (fun j hj => (hB4.cell (p := ⟨hb, j, none⟩) hhw).trans (hch.out j hj))
          have h1c := u32s_one hs
          replace hch4 := Lib.hid hch4
          replace h1c := Lib.hid h1c
          replace hWb := Lib.hid hWb
          go_wp2_with (at_builtin; refine wpList_append_own _ rfl _ _ 69 rfl w.heap.size 59 i0 (.int .u32 0) 1 4 Tryd.underlying69 hi hz0 hz1 hz2 rfl (by decide) _ _ _ rfl hO4 ⟨hb, 0, none⟩ 8 hc (u32s hs) rfl hWb.out hch4.out h1c.out (by unfold maxLen; omega) (by omega) hz ?_; intro v5 w5 hO5 hg5 _)
          have hB5 : Below w.heap.size w w5 := hB4.grown hg5 hz (fun r e => by cases e)
          have hU5 : Buf w5 g 59 (.slice (some ⟨g, 0, none⟩) 64 gc) (u32s W) := hU4.of_block (hg5.block g hU4.lt (by intro e; cases e))
          have hK5 : Arr w5 gK 59 (u32s KS) := (hg5.block gK hK4.lt (by intro e; cases e)).trans hK4
          obtain ⟨g5, hg5w, hV5⟩ := buf_of_own (n := 7) hO5
          rw [List.nil_append] at hV5
          clear hU4 hK4 hB4 hg5 hch4 hO4 hO5 h1c hz
          go_loopw [11, 12] (fun s i wr => ∃ k gv : Nat, k ≤ 64 ∧ i = .int .i64 k ∧ Below w.heap.size w wr ∧ Buf wr g 59 (.slice (some ⟨g, 0, none⟩) 64 gc) (u32s W) ∧ Arr wr gK 59 (u32s KS) ∧ w.heap.size ≤ gv ∧ Buf wr gv 59 s (u32s (rounds W hs k))) (fun _ i _ => 64 - (intOf i).toNat)
          case atStart => exact ⟨0, g5, by omega, rfl, hB5, hU5, hK5, hg5w, hV5⟩
          case round =>
            clear hB5 hU5 hK5 hV5 hg5w
            obtain ⟨k, gv, hk, rfl, hBr, hU, hK, hgv, hV⟩ := hrel
            have hv8 := rounds_v8 W hv k
            obtain ⟨vc, hvv, hvc1, hvc2⟩ := hV.val
            rw [u32s_len, hv8.1] at hvv
            subst hvv
            by_cases hlt : k < 64
            · have hd : decide ((k : Int) < 64) = true := by simp; omega
              have hnext : rounds W hs (k + 1) = rstep (KS.getD k 0) (W.getD k 0) (rounds W hs k) := rfl
              have kK := hK.cell (u32s_at (l := KS) (j := k) hlt)
              have kW := hU.cell (u32s_at (l := W) (j := k) (by rw [hWl.out]; exact hlt))
              obtain ⟨a, b', c, d, e, f, g', i, hl⟩ := hv8.cases
              rw [hl] at hV hnext hv8
              rw [rstep_ref] at hnext
              have wa : Hid (W32 a) := hv8.2 a (by simp)
              have we : Hid (W32 e) := hv8.2 e (by simp)
              clear hl hv8
              generalize KS.getD k 0 = kk at *
              generalize W.getD k 0 = wk at *
              replace hnext := Lib.hid hnext
              have m0 := hV.cell (j := 0) (u := .int .u32 a) rfl
              have m1 := hV.cell (j := 1) (u := .int .u32 b') rfl
              have m2 := hV.cell (j := 2) (u := .int .u32 c) rfl
              have m3 := hV.cell (j := 3) (u := .int .u32 d) rfl
              have m4 := hV.cell (j := 4) (u := .int .u32 e) rfl
              have m5 := hV.cell (j := 5) (u := .int .u32 f) rfl
              have m6 := hV.cell (j := 6) (u := .int .u32 g') rfl
              have m7 := hV.cell (j := 7) (u := .int .u32 i) rfl
              have s1 : (0 : Int) ≤ (k : Int) := by omega
              have s2 : (k : Int) < 64 := by omega
              have hcp : (if IntKind.u32.signed = true then (-1 : Int) else IntKind.u32.max) = 4294967295 := by decide
              go_wp2
              go_quiet (first | ((go_at_call 56; with_reducible refine Calls.quiet_of (refRot_at 6 6 (by decide) rfl e _ we))) | ((go_at_call 56; with_reducible refine Calls.quiet_of (refRot_at 11 11 (by decide) rfl e _ we))) | ((go_at_call 56; with_reducible refine Calls.quiet_of (refRot_at 25 25 (by decide) rfl e _ we))))
              generalize hT : ((i + bits .xor .u32 (bits .xor .u32 (rotr 6 e) (rotr 11 e)) (rotr 25 e) + bits .xor .u32 (bits .and .u32 e f) (bits .and .u32 (bits .xor .u32 4294967295 e) g') + kk) % 4294967296 + wk) % 4294967296 = T
              replace hT := Lib.hid hT
              go_wp2
              refine name_wp ?_
              intro w2 hw2
              replace hBr : Below w.heap.size w w2 := by rw [hw2]; exact below_drewN hBr _
              replace hU : Buf w2 g 59 (.slice (some ⟨g, 0, none⟩) 64 gc) (u32s W) := by rw [hw2]; exact hU.drewN _
              replace hV : Buf w2 gv 59 (.slice (some ⟨gv, 0, none⟩) 8 vc) (u32s [a, b', c, d, e, f, g', i]) := by rw [hw2]; exact hV.drewN _
              replace hK : Arr w2 gK 59 (u32s KS) := by rw [hw2]; exact hK.drewN _
              clear hw2 m0 m1 m2 m3 m4 m5 m6 m7 kK kW hcp s1 s2
              have m1 := hV.cell (j := 1) (u := .int .u32 b') rfl
              have m2 := hV.cell (j := 2) (u := .int .u32 c) rfl
              go_quiet (first | ((go_at_call 56; with_reducible refine Calls.quiet_of (refRot_at 2 2 (by decide) rfl a _ wa))) | ((go_at_call 56; with_reducible refine Calls.quiet_of (refRot_at 13 13 (by decide) rfl a _ wa))) | ((go_at_call 56; with_reducible refine Calls.quiet_of (refRot_at 22 22 (by decide) rfl a _ wa))))
              generalize hU2 : (bits .xor .u32 (bits .xor .u32 (rotr 2 a) (rotr 13 a)) (rotr 22 a) + bits .xor .u32 (bits .xor .u32 (bits .and .u32 a b') (bits .and .u32 a c)) (bits .and .u32 b' c)) % 4294967296 = U
              have hnew : Hid (u32s (rounds W hs (k + 1)) = u32s [(T + U) % 4294967296, a, b', c, (d + T) % 4294967296, e, f, g']) := by
                show _ = _
                rw [hnext.out, show refT e f g' i kk wk = T from hT.out, show refU a b' c = U from hU2]
              clear hU2 hnext hT m1 m2
              go_wp2
              refine name_wp ?_
              intro w3 hw2
              replace hBr : Below w.heap.size w w3 := by rw [hw2]; exact below_drewN hBr _
              replace hU : Buf w3 g 59 (.slice (some ⟨g, 0, none⟩) 64 gc) (u32s W) := by rw [hw2]; exact hU.drewN _
              replace hV : Buf w3 gv 59 (.slice (some ⟨gv, 0, none⟩) 8 vc) (u32s [a, b', c, d, e, f, g', i]) := by rw [hw2]; exact hV.drewN _
              replace hK : Arr w3 gK 59 (u32s KS) := by rw [hw2]; exact hK.drewN _
              clear hw2
              have m1 := hV.cell (j := 1) (u := .int .u32 b') rfl
              have m2 := hV.cell (j := 2) (u := .int .u32 c) rfl
              have m3 := hV.cell (j := 3) (u := .int .u32 d) rfl
              have m5 := hV.cell (j := 5) (u := .int .u32 f) rfl
              have m6 := hV.cell (j := 6) (u := .int .u32 g') rfl
              have hz := hBr.size
              have hA := fun (o : World) (cs : Array Value) (h : cs = (u32s [(T + U) % 4294967296, a, b', c, (d + T) % 4294967296, e, f, g']).toArray) => Arr.new (w := o) (T := 59) (L := u32s [(T + U) % 4294967296, a, b', c, (d + T) % 4294967296, e, f, g']) (cs := cs) h rfl
              replace hA := Lib.hid hA
              refine wp_region_held_drew (S := fun w' => w'.cell? ⟨gv, 1, none⟩ = some (.int .u32 b') ∧ w'.cell? ⟨gv, 2, none⟩ = some (.int .u32 c) ∧ w'.cell? ⟨gv, 3, none⟩ = some (.int .u32 d) ∧ w'.cell? ⟨gv, 5, none⟩ = some (.int .u32 f) ∧ w'.cell? ⟨gv, 6, none⟩ = some (.int .u32 g')) (by kernel_rfl) (by first | (dsimp only; go_keep) | go_keep) (fun hHeld => ?_)
              refine take_l (i := 0) (v := ?_) rfl (by kernel_rfl) (by kernel_rfl) (by kernel_rfl) (fun _ _ _ h => h) (Or.inl ⟨by kernel_rfl, ?_⟩) (by assumption) ?_
              rotate_left
              · intro w hSw; (try dsimp only at hSw); go_simp; (try with_reducible rfl)
              (try dsimp only [Act.put, List.setIfInBounds_toArray, List.set_cons_zero, List.set_cons_succ])
              refine take_l (i := 1) (v := ?_) rfl (by kernel_rfl) (by kernel_rfl) (by kernel_rfl) (fun _ _ _ h => h) (Or.inl ⟨by kernel_rfl, ?_⟩) (by assumption) ?_
              rotate_left
              · intro w hSw; (try dsimp only at hSw); go_simp; (try with_reducible rfl)
              (try dsimp only [Act.put, List.setIfInBounds_toArray, List.set_cons_zero, List.set_cons_succ])
              refine take_l (i := 2) (v := ?_) rfl (by kernel_rfl) (by kernel_rfl) (by kernel_rfl) (fun _ _ _ h => h) (Or.inl ⟨by kernel_rfl, ?_⟩) (by assumption) ?_
              rotate_left
              · intro w hSw; (try dsimp only at hSw); go_simp; (try with_reducible rfl)
              (try dsimp only [Act.put, List.setIfInBounds_toArray, List.set_cons_zero, List.set_cons_succ])
              refine take_l (i := 3) (v := ?_) rfl (by kernel_rfl) (by kernel_rfl) (by kernel_rfl) (fun _ _ _ h => h) (Or.inl ⟨by kernel_rfl, ?_⟩) (by assumption) ?_
              rotate_left
              · intro w hSw; (try dsimp only at hSw); go_simp; (try with_reducible rfl)
              (try dsimp only [Act.put, List.setIfInBounds_toArray, List.set_cons_zero, List.set_cons_succ])
              refine take_l (i := 4) (v := ?_) rfl (by kernel_rfl) (by kernel_rfl) (by kernel_rfl) (fun _ _ _ h => h) (Or.inl ⟨by kernel_rfl, ?_⟩) (by assumption) ?_
              rotate_left
              · intro w hSw; (try dsimp only at hSw); go_simp; (try with_reducible rfl)
              (try dsimp only [Act.put, List.setIfInBounds_toArray, List.set_cons_zero, List.set_cons_succ])
              refine take_l (i := 5) (v := ?_) rfl (by kernel_rfl) (by kernel_rfl) (by kernel_rfl) (fun _ _ _ h => h) (Or.inl ⟨by kernel_rfl, ?_⟩) (by assumption) ?_
              rotate_left
              · intro w hSw; (try dsimp only at hSw); go_simp; (try with_reducible rfl)
              (try dsimp only [Act.put, List.setIfInBounds_toArray, List.set_cons_zero, List.set_cons_succ])
              refine take_l (i := 6) (v := ?_) rfl (by kernel_rfl) (by kernel_rfl) (by kernel_rfl) (fun _ _ _ h => h) (Or.inl ⟨by kernel_rfl, ?_⟩) (by assumption) ?_
              rotate_left
              · intro w hSw; (try dsimp only at hSw); go_simp; (try with_reducible rfl)
              (try dsimp only [Act.put, List.setIfInBounds_toArray, List.set_cons_zero, List.set_cons_succ])
              refine take_l (i := 7) (v := ?_) rfl (by kernel_rfl) (by kernel_rfl) (by kernel_rfl) (fun _ _ _ h => h) (Or.inl ⟨by kernel_rfl, ?_⟩) (by assumption) ?_
              rotate_left
              · intro w hSw; (try dsimp only at hSw); go_simp; (try with_reducible rfl)
              (try dsimp only [Act.put, List.setIfInBounds_toArray, List.set_cons_zero, List.set_cons_succ])
              refine take_l (i := 8) (v := ?_) rfl (by kernel_rfl) (by kernel_rfl) (by kernel_rfl) (fun _ _ _ h => h) (Or.inl ⟨by kernel_rfl, ?_⟩) (by assumption) ?_
              rotate_left
              · intro w hSw; (try dsimp only at hSw); go_simp; (try with_reducible rfl)
              (try dsimp only [Act.put, List.setIfInBounds_toArray, List.set_cons_zero, List.set_cons_succ])
              refine take_l (i := 9) (v := ?_) rfl (by kernel_rfl) (by kernel_rfl) (by kernel_rfl) (fun _ _ _ h => h) (Or.inl ⟨by kernel_rfl, ?_⟩) (by assumption) ?_
              rotate_left
              · intro w hSw; (try dsimp only at hSw); go_simp; (try with_reducible rfl)
              (try dsimp only [Act.put, List.setIfInBounds_toArray, List.set_cons_zero, List.set_cons_succ])
              refine take_l (i := 10) (v := ?_) rfl (by kernel_rfl) (by kernel_rfl) (by kernel_rfl) (fun _ _ _ h => h) (Or.inl ⟨by kernel_rfl, ?_⟩) (by assumption) ?_
              rotate_left
              · intro w hSw; (try dsimp only at hSw); go_simp; (try with_reducible rfl)
              (try dsimp only [Act.put, List.setIfInBounds_toArray, List.set_cons_zero, List.set_cons_succ])
              refine take_l (i := 11) (v := ?_) rfl (by kernel_rfl) (by kernel_rfl) (by kernel_rfl) (fun _ _ _ h => h) (Or.inl ⟨by kernel_rfl, ?_⟩) (by assumption) ?_
              rotate_left
              · intro w hSw; (try dsimp only at hSw); go_simp; (try with_reducible rfl)
              (try dsimp only [Act.put, List.setIfInBounds_toArray, List.set_cons_zero, List.set_cons_succ])
              refine take_l (i := 12) (v := ?_) rfl (by kernel_rfl) (by kernel_rfl) (by kernel_rfl) (fun _ _ _ h => h) (Or.inl ⟨by kernel_rfl, ?_⟩) (by assumption) ?_
              rotate_left
              · intro w hSw; (try dsimp only at hSw); go_simp; (try with_reducible rfl)
              (try dsimp only [Act.put, List.setIfInBounds_toArray, List.set_cons_zero, List.set_cons_succ])
              refine take_l (i := 13) (v := ?_) rfl (by kernel_rfl) (by kernel_rfl) (by kernel_rfl) (fun _ _ _ h => h) (Or.inl ⟨by kernel_rfl, ?_⟩) (by assumption) ?_
              rotate_left
              · intro w hSw; (try dsimp only at hSw); go_simp; (try with_reducible rfl)
              (try dsimp only [Act.put, List.setIfInBounds_toArray, List.set_cons_zero, List.set_cons_succ])
              refine take_l (i := 14) (v := ?_) rfl (by kernel_rfl) (by kernel_rfl) (by kernel_rfl) (fun _ _ _ h => h) (Or.inl ⟨by kernel_rfl, ?_⟩) (by assumption) ?_
              rotate_left
              · intro w hSw; (try dsimp only at hSw); go_simp; (try with_reducible rfl)
              (try dsimp only [Act.put, List.setIfInBounds_toArray, List.set_cons_zero, List.set_cons_succ])
              refine take_l (i := 15) (v := ?_) rfl (by kernel_rfl) (by kernel_rfl) (by kernel_rfl) (fun _ _ _ h => h) (Or.inl ⟨by kernel_rfl, ?_⟩) (by assumption) ?_
              rotate_left
              · intro w hSw; (try dsimp only at hSw); go_simp; (try with_reducible rfl)
              (try dsimp only [Act.put, List.setIfInBounds_toArray, List.set_cons_zero, List.set_cons_succ])
              refine take_l (i := 16) (v := ?_) rfl (by kernel_rfl) (by kernel_rfl) (by kernel_rfl) (fun _ _ _ h => h) (Or.inl ⟨by kernel_rfl, ?_⟩) (by assumption) ?_
              rotate_left
              · intro w hSw; (try dsimp only at hSw); go_simp; (try with_reducible rfl)
              (try dsimp only [Act.put, List.setIfInBounds_toArray, List.set_cons_zero, List.set_cons_succ])
              refine take_l (i := 17) (v := ?_) rfl (by kernel_rfl) (by kernel_rfl) (by kernel_rfl) (fun _ _ _ h => h) (Or.inl ⟨by kernel_rfl, ?_⟩) (by assumption) ?_
              rotate_left
              · intro w hSw; (try dsimp only at hSw); go_simp; (try with_reducible rfl)
              (try dsimp only [Act.put, List.setIfInBounds_toArray, List.set_cons_zero, List.set_cons_succ])
              refine take_l (i := 18) (v := ?_) rfl (by kernel_rfl) (by kernel_rfl) (by kernel_rfl) (fun _ _ _ h => h) (Or.inl ⟨by kernel_rfl, ?_⟩) (by assumption) ?_
              rotate_left
              · intro w hSw; (try dsimp only at hSw); go_simp; (try with_reducible rfl)
              (try dsimp only [Act.put, List.setIfInBounds_toArray, List.set_cons_zero, List.set_cons_succ])
              refine take_l (i := 19) (v := ?_) rfl (by kernel_rfl) (by kernel_rfl) (by kernel_rfl) (fun _ _ _ h => h) (Or.inl ⟨by kernel_rfl, ?_⟩) (by assumption) ?_
              rotate_left
              · intro w hSw; (try dsimp only at hSw); go_simp; (try with_reducible rfl)
              (try dsimp only [Act.put, List.setIfInBounds_toArray, List.set_cons_zero, List.set_cons_succ])
              refine take_l (i := 20) (v := ?_) rfl (by kernel_rfl) (by kernel_rfl) (by kernel_rfl) (fun _ _ _ h => h) (Or.inl ⟨by kernel_rfl, ?_⟩) (by assumption) ?_
              rotate_left
              · intro w hSw; (try dsimp only at hSw); go_simp; (try with_reducible rfl)
              (try dsimp only [Act.put, List.setIfInBounds_toArray, List.set_cons_zero, List.set_cons_succ])
              refine take_l (i := 21) (v := ?_) rfl (by kernel_rfl) (by kernel_rfl) (by kernel_rfl) (fun _ _ _ h => h) (Or.inl ⟨by kernel_rfl, ?_⟩) (by assumption) ?_
              rotate_left
              · intro w hSw; (try dsimp only at hSw); go_simp; (try with_reducible rfl)
              (try dsimp only [Act.put, List.setIfInBounds_toArray, List.set_cons_zero, List.set_cons_succ])
              refine wpAnyH_ready (rs := [22]) (by kernel_rfl) (by simp) ?_
              refine ready_l rfl (fun K hK => ?_) AllReadyH.nil
              go_simp
              refine hK.out _ _ (by first | (dsimp only; go_keep) | go_keep) (fun hHeld => ?_)
              clear hK K
              (try dsimp only [Act.put, List.setIfInBounds_toArray, List.set_cons_zero, List.set_cons_succ])
              refine take_l (i := 23) (v := ?_) rfl (by kernel_rfl) (by kernel_rfl) (by kernel_rfl) (fun _ _ _ h => h) (Or.inl ⟨by kernel_rfl, ?_⟩) (by assumption) ?_
              rotate_left
              · intro w hSw; (try dsimp only at hSw); go_simp; (try with_reducible rfl)
              (try dsimp only [Act.put, List.setIfInBounds_toArray, List.set_cons_zero, List.set_cons_succ])
              refine wpAnyH_done (by kernel_rfl) ?_ _
              go_wp2
              refine ⟨⟨k + 1, w3.heap.size, by omega, by go_num, ?_, ?_, ?_, hz, ?_⟩, by simp [intOf]; omega⟩
              · exact (by repeat first | with_reducible exact Below.refl _ _ | with_reducible assumption | with_reducible refine below_drewN ?_ _ | with_reducible refine Below.drew ?_ | with_reducible refine Below.setCell ?_ (by first | exact Nat.le_refl _ | (simp; done) | (simp; omega) | omega) _ | with_reducible refine Below.alloc ?_ (by first | exact Nat.le_refl _ | (simp; done) | (simp; omega) | omega) _ | exact Below.refl _ _ | assumption)
              · first | exact (hU.alloc _).drew | exact hU.drew.alloc _
              · first | exact (hK.alloc _).drew | exact hK.drew.alloc _
              · rw [hnew.out]
                exact (Buf.of_arr (hA.out w3 _ rfl) (by rw [u32s_len]; show 8 ≤ maxLen; decide)).drew
            · have hd : decide ((k : Int) < 64) = false := by simp; omega
              obtain rfl : k = 64 := by omega
              rw [show ((64 : Nat) : Int) = 64 from rfl]
              clear hlt hd hk hU hK
              rw [← accTo_all hv hv8] at hshaf
              have hVl := hv8
              generalize rounds W hs 64 = V at *
              clear hv8
              obtain ⟨W0, rfl⟩ : ∃ W0, W0 = wr := ⟨_, rfl⟩
              have hw1 := hBr.size
              have hvl := hV.lt
              have hvc := fun j (hj : j < 8) => hV.cell (hVl.at j hj)
              have hhc := fun j (hj : j < 8) => (hBr.cell (p := ⟨hb, j, none⟩) hhw).trans (hch.out j hj)
              replace hvc := Lib.hid hvc
              replace hhc := Lib.hid hhc
              obtain ⟨M, hM⟩ : ∃ M, M = W0.heap.size := ⟨_, rfl⟩
              have hB0 : Below M W0 W0 := Below.refl _ _
              have hO0 : W0.ownsRow M 59 1 (.slice none 0 0) 0 (u32s (accTo hs V 0)) := World.ownsRow_nil _ _ _ _
              have hMz : M ≤ W0.heap.size := by omega
              have hvM : gv < M := by omega
              have hhM : hb < M := by omega
              have hwM : w.heap.size ≤ M := by omega
              clear hM hV hch
              go_wp2
              go_loopw [17, 18] (fun s i wx => ∃ k : Nat, k ≤ 8 ∧ i = .int .i64 k ∧ Below M W0 wx ∧ wx.ownsRow M 59 1 s k (u32s (accTo hs V k))) (fun _ i _ => 8 - (intOf i).toNat)
              case atStart => exact ⟨0, by omega, rfl, hB0, hO0⟩
              case round =>
                clear hB0 hO0
                obtain ⟨k, hk, rfl, hBx, hOx⟩ := hrel
                have hz := Nat.le_trans hMz hBx.size
                by_cases hlt : k < 8
                · have hd : decide ((k : Int) < 8) = true := by simp; omega
                  have d0 := hhc.out k hlt
                  have d1 := hvc.out k hlt
                  have c0 := (hBx.cell (p := ⟨hb, k, none⟩) hhM).trans d0
                  have c1 := (hBx.cell (p := ⟨gv, k, none⟩) hvM).trans d1
                  have hn := accTo_succ hs V k
                  generalize hs.getD k 0 = x at *
                  generalize V.getD k 0 = y at *
                  replace hn := Lib.hid hn
                  have s1 : (0 : Int) ≤ (k : Int) := by omega
                  have s2 : (k : Int) < 8 := by omega
                  go_wp2
                  clear hd
                  refine wp_region_held_drew (S := fun w' => w'.cell? ⟨hb, k, none⟩ = some (.int .u32 x) ∧ w'.cell? ⟨gv, k, none⟩ = some (.int .u32 y)) (by kernel_rfl) (by first | (dsimp only; go_keep) | go_keep) (fun hHeld => ?_)
                  refine take_l (i := 0) (v := ?_) rfl (by kernel_rfl) (by kernel_rfl) (by kernel_rfl) (fun _ _ _ h => h) (Or.inl ⟨by kernel_rfl, ?_⟩) (by assumption) ?_
                  rotate_left
                  · intro w hSw; (try dsimp only at hSw); go_simp; (try with_reducible rfl)
                  (try dsimp only [Act.put, List.setIfInBounds_toArray, List.set_cons_zero, List.set_cons_succ])
                  refine take_l (i := 1) (v := ?_) rfl (by kernel_rfl) (by kernel_rfl) (by kernel_rfl) (fun _ _ _ h => h) (Or.inl ⟨by kernel_rfl, ?_⟩) (by assumption) ?_
                  rotate_left
                  · intro w hSw; (try dsimp only at hSw); go_simp; (try with_reducible rfl)
                  (try dsimp only [Act.put, List.setIfInBounds_toArray, List.set_cons_zero, List.set_cons_succ])
                  refine take_l (i := 2) (v := ?_) rfl (by kernel_rfl) (by kernel_rfl) (by kernel_rfl) (fun _ _ _ h => h) (Or.inl ⟨by kernel_rfl, ?_⟩) (by assumption) ?_
                  rotate_left
                  · intro w hSw; (try dsimp only at hSw); go_simp; (try with_reducible rfl)
                  (try dsimp only [Act.put, List.setIfInBounds_toArray, List.set_cons_zero, List.set_cons_succ])
                  refine take_l (i := 3) (v := ?_) rfl (by kernel_rfl) (by kernel_rfl) (by kernel_rfl) (fun _ _ _ h => h) (Or.inl ⟨by kernel_rfl, ?_⟩) (by assumption) ?_
                  rotate_left
                  · intro w hSw; (try dsimp only at hSw); go_simp; (try with_reducible rfl)
                  (try dsimp only [Act.put, List.setIfInBounds_toArray, List.set_cons_zero, List.set_cons_succ])
                  refine take_l (i := 4) (v := ?_) rfl (by kernel_rfl) (by kernel_rfl) (by kernel_rfl) (fun _ _ _ h => h) (Or.inl ⟨by kernel_rfl, ?_⟩) (by assumption) ?_
                  rotate_left
                  · intro w hSw; (try dsimp only at hSw); go_simp; (try with_reducible rfl)
                  (try dsimp only [Act.put, List.setIfInBounds_toArray, List.set_cons_zero, List.set_cons_succ])
                  refine take_l (i := 5) (v := ?_) rfl (by kernel_rfl) (by kernel_rfl) (by kernel_rfl) (fun _ _ _ h => h) (Or.inl ⟨by kernel_rfl, ?_⟩) (by assumption) ?_
                  rotate_left
                  · intro w hSw; (try dsimp only at hSw); go_simp; (try with_reducible rfl)
                  (try dsimp only [Act.put, List.setIfInBounds_toArray, List.set_cons_zero, List.set_cons_succ])
                  refine take_l (i := 6) (v := ?_) rfl (by kernel_rfl) (by kernel_rfl) (by kernel_rfl) (fun _ _ _ h => h) (Or.inl ⟨by kernel_rfl, ?_⟩) (by assumption) ?_
                  rotate_left
                  · intro w hSw; (try dsimp only at hSw); go_simp; (try with_reducible rfl)
                  (try dsimp only [Act.put, List.setIfInBounds_toArray, List.set_cons_zero, List.set_cons_succ])
                  refine take_l (i := 7) (v := ?_) rfl (by kernel_rfl) (by kernel_rfl) (by kernel_rfl) (fun _ _ _ h => h) (Or.inl ⟨by kernel_rfl, ?_⟩) (by assumption) ?_
                  rotate_left
                  · intro w hSw; (try dsimp only at hSw); go_simp; (try with_reducible rfl)
                  (try dsimp only [Act.put, List.setIfInBounds_toArray, List.set_cons_zero, List.set_cons_succ])
                  refine take_l (i := 8) (v := ?_) rfl (by kernel_rfl) (by kernel_rfl) (by kernel_rfl) (fun _ _ _ h => h) (Or.inl ⟨by kernel_rfl, ?_⟩) (by assumption) ?_
                  rotate_left
                  · intro w hSw; (try dsimp only at hSw); go_simp; (try with_reducible rfl)
                  (try dsimp only [Act.put, List.setIfInBounds_toArray, List.set_cons_zero, List.set_cons_succ])
                  refine take_l (i := 9) (v := ?_) rfl (by kernel_rfl) (by kernel_rfl) (by kernel_rfl) (fun _ _ _ h => h) (Or.inl ⟨by kernel_rfl, ?_⟩) (by assumption) ?_
                  rotate_left
                  · intro w hSw; (try dsimp only at hSw); go_simp; (try with_reducible rfl)
                  (try dsimp only [Act.put, List.setIfInBounds_toArray, List.set_cons_zero, List.set_cons_succ])
                  refine wpAnyH_ready (rs := [10]) (by kernel_rfl) (by simp) ?_
                  refine ready_l rfl (fun K hK => ?_) AllReadyH.nil
                  go_simp
                  refine hK.out _ _ (by first | (dsimp only; go_keep) | go_keep) (fun hHeld => ?_)
                  clear hK K
                  (try dsimp only [Act.put, List.setIfInBounds_toArray, List.set_cons_zero, List.set_cons_succ])
                  refine wpAnyH_ready (rs := [11]) (by kernel_rfl) (by simp) ?_
                  refine ready_l rfl (fun K hK => ?_) AllReadyH.nil
                  refine step_append_lies _ rfl _ _ 69 rfl M 59 i0 (.int .u32 0) 1 4 Tryd.underlying69 hi hz0 hz1 hz2 rfl (by decide) _ _ _ rfl (own_below hOx ((Below.refl _ _).alloc (Nat.le_refl _) _).drew) ⟨wr.heap.size, 0, none⟩ 1 1 [.int .u32 (IntKind.u32.wrap (x + y))] rfl rfl (cell_one_new wr _ _) (by simp [Value.oneCell']) (by decide) (by unfold maxLen; omega) (by omega) (by first | exact Nat.le_refl _ | (simp; done) | (simp; omega) | omega) _ rfl ?_
                  intro g1 cap1 w1 hO1 hg1 _ _
                  have hBk : Below M W0 w1 := ((hBx.alloc hz _).drew).grown hg1 (by first | exact Nat.le_refl _ | (simp; done) | (simp; omega) | omega) (fun r e => (hOx.lt r e).1)
                  (try dsimp only [Act.put, List.setIfInBounds_toArray, List.set_cons_zero, List.set_cons_succ])
                  refine hK.out _ _ (by exact ⟨(hBk.cell (p := ⟨hb, _, none⟩) hhM).trans d0, (hBk.cell (p := ⟨gv, _, none⟩) hvM).trans d1⟩) (fun hHeld => ?_)
                  clear hK K
                  (try dsimp only [Act.put, List.setIfInBounds_toArray, List.set_cons_zero, List.set_cons_succ])
                  refine take_l (i := 12) (v := ?_) rfl (by kernel_rfl) (by kernel_rfl) (by kernel_rfl) (fun _ _ _ h => h) (Or.inl ⟨by kernel_rfl, ?_⟩) (by assumption) ?_
                  rotate_left
                  · intro w hSw; (try dsimp only at hSw); go_simp; (try with_reducible rfl)
                  (try dsimp only [Act.put, List.setIfInBounds_toArray, List.set_cons_zero, List.set_cons_succ])
                  refine wpAnyH_done (by kernel_rfl) ?_ _
                  rw [u32s_snoc, ← hn.out] at hO1
                  go_wp2
                  exact ⟨⟨k + 1, by omega, by go_num, hBk, hO1⟩, by simp [intOf]; omega⟩
                · have hd : decide ((k : Int) < 8) = false := by simp; omega
                  obtain rfl : k = 8 := by omega
                  rw [show ((8 : Nat) : Int) = 8 from rfl]
                  go_wp2
                  go_ret
                  exact ⟨_, rfl, by rw [hshaf.out]; exact own_base hOx hwM, hBr.trans (hBx.mono hwM)⟩
end Go.Proofs.YtllofogjojlamaaDoor
