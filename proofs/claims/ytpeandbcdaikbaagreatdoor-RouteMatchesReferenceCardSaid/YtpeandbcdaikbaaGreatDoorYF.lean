/-
 Routes of chapter 11: rows of numbers by kinds, for abstraction.normal.
 Routes of chapter 11: abstraction.normal.
-/
import Derived.Test.YtpeandbcdaikbaaGreatDoorYE
import Derived.StillTailTactics
open List (setIfInBounds_toArray set_cons_zero set_cons_succ)
namespace Go.Proofs.YtpeandbcdaikbaaGreatDoor
open Go.RowKit Go.Shelf

attribute [local go_sem] Oper.semAt_some

theorem Tryz.info_int : (Tryz.prog.info? 3).map (fun i => (i.zero, i.size, i.bytes)) = some (some (.int .i64 0), 1, 8) := by kernel_rfl
def ints (l : List Int) : List Value := l.map (Value.int .i64)
theorem ints_snoc (l : List Int) (n : Int) : ints (l ++ [n]) = ints l ++ [.int .i64 n] := by simp [ints]
theorem ints_len (l : List Int) : (ints l).length = l.length := by simp [ints]
theorem own_stay {w w' : World} {B n s : Nat} {e : TypeId} {v : Value} {xs : List Value} (h : w.ownsRow B e s v n xs) (hk : ∀ g, v.ownBlock = some g → w'.heap[g]? = w.heap[g]?) : w'.ownsRow B e s v n xs := by
 obtain ⟨hl, h⟩ := h
 refine ⟨hl, ?_⟩
 rcases h with h | ⟨g, cap, cur, rfl, hb, hg, r⟩
 ·
  exact .inl h
 ·
  exact .inr ⟨g, cap, cur, rfl, hb, (hk g (by simp [Value.ownBlock])).trans hg, r⟩
/-- One number more, appended to a row of the call's own: the row's block is the old one or a new one. -/
theorem append_num {w : World} {B : Nat} {v : Value} {xs : List Int} (n : Int) (hown : w.ownsRow B 3 1 v xs.length (ints xs)) (hlen : xs.length + 1 ≤ 1000000) (hB : B ≤ w.heap.size) :
  ∃ v' w', (Builtin.append_ #[23, 23] 23 #[v, .slice (some ⟨w.heap.size, 0, none⟩) 1 1]).run Tryz.prog (w.alloc (.cells #[.int .i64 n] 3)) = .ok v' w' ∧
   w'.ownsRow B 3 1 v' (xs.length + 1) (ints (xs ++ [n])) ∧ (w.alloc (.cells #[.int .i64 n] 3)).grownBy w' v.ownBlock ∧ (v'.ownBlock = v.ownBlock ∨ ∃ g, v'.ownBlock = some g ∧ w.heap.size ≤ g) := by
 obtain ⟨i0, hi, hz0, hz1, hz2⟩ := info_parts Tryz.info_int
 have hnews : ∀ j u, [Value.int .i64 n][j]? = some u → (w.alloc (.cells #[.int .i64 n] 3)).cell? ((⟨w.heap.size, 0, none⟩ : Addr).add j) = some u := fun j u hu => cells_new w [Value.int .i64 n] 3 j u hu
 have hone : ∀ u ∈ [Value.int .i64 n], u.oneCell' = true := by simp [Value.oneCell']
 have hmax : xs.length + 1 ≤ maxLen := by unfold maxLen; omega
 have hown' := hown
 obtain ⟨hl, h⟩ := hown'
 rcases h with ⟨rfl, h0⟩ | ⟨g, cap, cur, rfl, hb, hg, h1, h2, h3, h4⟩
 ·
  have hx : xs = [] := List.eq_nil_of_length_eq_zero h0
  subst hx
  obtain ⟨v', w', hr, r1, r2, r3⟩ := run_append_own (P := Tryz.prog) (w.alloc (.cells #[.int .i64 n] 3)) w.heap.size 23 23 3 i0 (.int .i64 0) 1 8 Tryz.underlying23 hi hz0 hz1 hz2 rfl (by decide) (.slice none 0 0) 0 [] (World.ownsRow_nil _ _ _ _) ⟨w.heap.size, 0, none⟩ 1 1 [.int .i64 n] rfl hnews hone (by unfold maxLen; omega) (by omega) (by simp)
  refine ⟨v', w', hr, own_base r1 hB, r2, .inr ?_⟩
  obtain ⟨g', cap', rfl⟩ := ownsRow_succ r1
  exact ⟨g', by simp [Value.ownBlock], (own_block r1 (by simp [Value.ownBlock])).2.1⟩
 ·
  obtain ⟨v', w', hr, r1, r2, r3⟩ := run_append_own (P := Tryz.prog) (w.alloc (.cells #[.int .i64 n] 3)) B 23 23 3 i0 (.int .i64 0) 1 8 Tryz.underlying23 hi hz0 hz1 hz2 rfl (by decide) _ _ _ (own_stay hown (fun g' hg' => Below.heap_alloc w _ g' (own_block hown hg').1)) ⟨w.heap.size, 0, none⟩ 1 1 [.int .i64 n] rfl hnews hone hmax (by omega) (by simp; omega)
  have hBuf : Buf (w.alloc (.cells #[.int .i64 n] 3)) g 3 (.slice (some ⟨g, 0, none⟩) xs.length cap) (ints xs) := by
   refine ⟨cap, cur, (0, 0), by rw [ints_len], (Below.heap_alloc w _ g (Array.getElem?_eq_some_iff.1 hg).1).trans hg, .inl rfl, by rw [ints_len]; exact h1, h2, by omega, ?_⟩
   rw [ints_len, ← h4, Nat.mul_one]
  obtain ⟨v2, w2, g2, hr2, q1, q2, q3, q4⟩ := run_append_keep (P := Tryz.prog) (w.alloc (.cells #[.int .i64 n] 3)) g 23 23 3 i0 (.int .i64 0) Tryz.underlying23 hi hz0 hz1 (by omega) rfl _ _ hBuf ⟨w.heap.size, 0, none⟩ 1 (.int .i64 n) (hnews 0 _ rfl) rfl (by rw [ints_len]; exact hlen)
  rw [hr] at hr2
  injection hr2 with e1 e2
  subst e1 e2
  refine ⟨v', w', hr, by rw [ints_snoc]; exact r1, r2, ?_⟩
  obtain ⟨cap2, cur2, fr2, rfl, _⟩ := q2
  rcases q1 with rfl | rfl
  ·
   exact .inl (by simp [Value.ownBlock])
  ·
   exact .inr ⟨_, by simp [Value.ownBlock]; rfl, by simp⟩
theorem numsA_snoc (j : Int) (l : List Stp) (x : Stp) : numsA j (l ++ [x]) = if x.kind = j then numsA j l ++ [x.n] else numsA j l := by
 rw [numsA_app]
 unfold numsA
 by_cases h : x.kind = j
 ·
  rw [if_pos h]; simp [h]
 ·
  rw [if_neg h]; simp [h]
/-- The array of the numbers by kinds. -/
structure KRows (w W : World) (K : Nat) (kvs : Nat → Value) (l : List Stp) : Prop where
 arr : Arr W K 129 [kvs 0, kvs 1, kvs 2, kvs 3, kvs 4, kvs 5, kvs 6]
 own : ∀ j : Nat, j < 7 → W.ownsRow w.heap.size 3 1 (kvs j) (numsA j l).length (ints (numsA j l))
 apart : ∀ i j : Nat, i < 7 → j < 7 → i ≠ j → ∀ b, (kvs i).ownBlock = some b → (kvs j).ownBlock ≠ some b
 K : w.heap.size ≤ K
 below : Below w.heap.size w W
theorem kvs_at (kvs : Nat → Value) {k : Nat} (hk : k < 7) : [kvs 0, kvs 1, kvs 2, kvs 3, kvs 4, kvs 5, kvs 6][k]? = some (kvs k) := by
 obtain rfl | rfl | rfl | rfl | rfl | rfl | rfl : k = 0 ∨ k = 1 ∨ k = 2 ∨ k = 3 ∨ k = 4 ∨ k = 5 ∨ k = 6 := by omega
 all_goals rfl
def setK (kvs : Nat → Value) (k : Nat) (v : Value) : Nat → Value := fun j => if j = k then v else kvs j
theorem setK_list (kvs : Nat → Value) {k : Nat} (hk : k < 7) (v : Value) : [kvs 0, kvs 1, kvs 2, kvs 3, kvs 4, kvs 5, kvs 6].set k v = [setK kvs k v 0, setK kvs k v 1, setK kvs k v 2, setK kvs k v 3, setK kvs k v 4, setK kvs k v 5, setK kvs k v 6] := by
 obtain rfl | rfl | rfl | rfl | rfl | rfl | rfl : k = 0 ∨ k = 1 ∨ k = 2 ∨ k = 3 ∨ k = 4 ∨ k = 5 ∨ k = 6 := by omega
 all_goals rfl
theorem KRows.step {w W : World} {K : Nat} {kvs : Nat → Value} {l : List Stp} (h : KRows w W K kvs l) {x : Stp} {k : Nat} (hk : k < 7) (hx : x.kind = (k : Int)) {v' : Value} {w' : World}
  (hown : w'.ownsRow w.heap.size 3 1 v' ((numsA k l).length + 1) (ints (numsA k l ++ [x.n]))) (hgrow : (W.alloc (.cells #[.int .i64 x.n] 3)).grownBy w' (kvs k).ownBlock) (hfresh : v'.ownBlock = (kvs k).ownBlock ∨ ∃ g, v'.ownBlock = some g ∧ W.heap.size ≤ g) :
  Arr w' K 129 [kvs 0, kvs 1, kvs 2, kvs 3, kvs 4, kvs 5, kvs 6] ∧ KRows w (w'.setCell ⟨K, k, none⟩ v') K (setK kvs k v') (l ++ [x]) := by
 have hsz := h.below.size
 have hneK : ∀ j, j < 7 → (kvs j).ownBlock ≠ some K := fun j hj e => by
  obtain ⟨_, _, cur, hc⟩ := own_block (h.own j hj) e
  rw [show W.heap[K]? = _ from h.arr] at hc
  injection hc with hc
  injection hc with _ hT
  exact absurd hT (by decide)
 have hblk : ∀ b, b < W.heap.size → (kvs k).ownBlock ≠ some b → w'.heap[b]? = W.heap[b]? := fun b hb hne => (hgrow.block b (by simp; omega) (fun e => hne e.symm)).trans (Below.heap_alloc W _ b hb)
 have hA : Arr w' K 129 [kvs 0, kvs 1, kvs 2, kvs 3, kvs 4, kvs 5, kvs 6] := (hblk K h.arr.lt (hneK k hk)).trans h.arr
 have hneK' : v'.ownBlock ≠ some K := fun e => by
  rcases hfresh with hf | ⟨g, hf, hg⟩
  ·
   rw [hf] at e; exact hneK k hk e
  ·
   rw [hf] at e; injection e with e; have := h.arr.lt; omega
 refine ⟨hA, ⟨?_, fun j hj => ?_, fun i j hi hj hij b hb => ?_, h.K, ?_⟩⟩
 ·
  rw [← setK_list kvs hk v']
  exact hA.set k v'
 ·
  unfold setK
  by_cases e : j = k
  ·
   subst e
   rw [if_pos rfl, numsA_snoc, if_pos hx, List.length_append]
   refine own_stay hown fun g hg => Below.heap_setCell w' ⟨K, j, none⟩ v' g (fun e => hneK' (by rw [hg, e]))
  ·
   rw [if_neg e, numsA_snoc, if_neg (by rw [hx]; omega)]
   refine own_stay (h.own j hj) fun g hg => ?_
   have hgl := (own_block (h.own j hj) hg).1
   exact (Below.heap_setCell w' ⟨K, k, none⟩ v' g (fun e2 => hneK j hj (by rw [hg, e2]))).trans (hblk g hgl (fun e2 => h.apart k j hk hj (fun e3 => e e3.symm) g e2 hg))
 ·
  unfold setK at *
  have hnew : ∀ m, m < 7 → m ≠ k → ∀ b, (kvs m).ownBlock = some b → v'.ownBlock ≠ some b := fun m hm hmk b hb e => by
   rcases hfresh with hf | ⟨g, hf, hg⟩
   ·
    rw [hf] at e; exact h.apart m k hm hk hmk b hb e
   ·
    rw [hf] at e; injection e with e; have := (own_block (h.own m hm) hb).1; omega
  by_cases e1 : i = k
  ·
   rw [if_pos e1] at hb
   rw [if_neg (by omega)]
   intro e2
   exact hnew j hj (by omega) b e2 hb
  ·
   rw [if_neg e1] at hb
   by_cases e2 : j = k
   ·
    rw [if_pos e2]; exact hnew i hi e1 b hb
   ·
    rw [if_neg e2]; exact h.apart i j hi hj hij b hb
 ·
  refine Below.setCell ?_ (p := ⟨K, k, none⟩) h.K v'
  refine (h.below.alloc hsz _).grown hgrow (by simp; omega) fun g hg => ?_
  exact (own_block (h.own k hk) hg).2.1
end Go.Proofs.YtpeandbcdaikbaaGreatDoor
namespace Go.Proofs.YtpeandbcdaikbaaGreatDoor
open Go.RowKit Go.Shelf

attribute [local go_sem] Oper.semAt_some

theorem KeepTy.setArr {X : List TypeId} {W : World} {b o : Nat} {t : TypeId} {L : List Value} {u : Value} (h : Arr W b t L) (he : t ∈ X) : KeepTy X W (W.setCell ⟨b, o, none⟩ u) := fun j cur s fz hs hj => by
 refine (Below.heap_setCell W ⟨b, o, none⟩ u j (fun ej => ?_)).trans hj
 have : j = b := by simpa using ej
 subst this
 rw [show W.heap[j]? = _ from h] at hj
 injection hj with hj
 injection hj with _ hT
 exact hs (hT ▸ he)
theorem wpList_append_known {P : Program} {w w' : World} {ops : Array Oper} {rest : List Oper} {o : Oper} {a : Act} {Q : Exit → Act → World → Prop} (hgd : o.guard = none) (s x : Operand) (t : TypeId)
  (ho : o.op = .call { callee := .builtin .append, args := #[s, x], argTypes := #[t, t] }) (v xv v' : Value) (hs : a.eval s = v) (hx : a.eval x = xv)
  (hrun : (Builtin.append_ #[t, t] o.type #[v, xv]).run P w = .ok v' w') (h : wpList P ops Q rest (a.put o.dst v') w') : wpList P ops Q (o :: rest) a w := by
 refine wpList_plain hgd fun K hK => ?_
 unfold Oper.wp
 simp [execOp, ho, resolve, invoke, builtin, hs, hx, hrun, Result.andThen]
 exact hK _ _ h
theorem step_append_known {P : Program} {ops : Array Oper} {o : Oper} {a : Act} {w : World} {K : Act → World → Prop} {Q : Exit → Act → World → Prop} {E : Prop} (hgd : o.guard = none) (d s : Operand) (t t' : TypeId)
  (ho : o.op = .call { callee := .builtin .append, args := #[d, s], argTypes := #[t, t'] }) (v u : Value) (hd : a.eval d = v) (hs : a.eval s = u) {v' : Value} {w' : World}
  (hr : (Builtin.append_ #[t, t'] o.type #[v, u]).run P w = .ok v' w') (h : K (a.put o.dst v') w') : if Region.wanted o (yielded ops a.tmps) = true then Oper.wp P o a w K Q else E := by
 have hw : Region.wanted o (yielded ops a.tmps) = true := by simp [Region.wanted, hgd]
 rw [if_pos hw]
 unfold Oper.wp execOp
 simp only [ho, resolve, invoke, builtin, Sem.run_bind, Sem.run_pure, Result.andThen_ok, List.map_toArray, List.map_cons, List.map_nil, hd, hs, hr]
 exact h
theorem index7 (z : Nat → Value) {i : Nat} (hi : i < 7) (W : World) : (Instr.index 129 (.agg #[z 0, z 1, z 2, z 3, z 4, z 5, z 6]) (.int .i64 (i : Int))).run Tryz.prog W = .ok (z i) W := by
 obtain rfl | rfl | rfl | rfl | rfl | rfl | rfl : i = 0 ∨ i = 1 ∨ i = 2 ∨ i = 3 ∨ i = 4 ∨ i = 5 ∨ i = 6 := by omega
 all_goals (unfold Instr.index; go_simp)
theorem take_step (l : List Stp) {i : Nat} (h : i < l.length) : l.take (i + 1) = l.take i ++ [l[i]!] := by
 rw [List.take_succ_eq_append_getElem h, getElem!_pos l i h]
/-- What the loop over the kinds has gathered. -/
def outTo (l : List Stp) (k : Nat) : List Stp := (List.range k).flatMap fun (j : Nat) => ofKind (j : Int) (numsA (j : Int) l)
theorem outTo_succ (l : List Stp) (k : Nat) : outTo l (k + 1) = outTo l k ++ ofKind (k : Int) (numsA k l) := by
 unfold outTo
 rw [List.range_succ, List.flatMap_append, List.flatMap_cons, List.flatMap_nil, List.append_nil]
theorem outTo_len (l : List Stp) : ∀ k, (outTo l k).length ≤ 5 * k
 | 0 => by simp [outTo]
 | k + 1 => by
  rw [outTo_succ, List.length_append]
  have h1 := outTo_len l k
  have h2 := canon_len (k : Int) (numsA k l)
  have h3 : (ofKind (k : Int) (numsA k l)).length = (canon (k : Int) (numsA k l)).length := by unfold ofKind; rw [List.length_map]
  split at h2 <;> omega
def stepsOf (k : Int) (l : List Int) : List Stp := l.map fun n => ⟨k, n⟩
theorem stepsOf_succ (k : Int) (l : List Int) {j : Nat} (h : j < l.length) : stepsOf k (l.take (j + 1)) = stepsOf k (l.take j) ++ [⟨k, l[j]!⟩] := by
 unfold stepsOf
 rw [List.take_succ_eq_append_getElem h, List.map_append, getElem!_pos l j h]
 rfl
theorem NumsAt.addr {w : World} {B : Nat} {a : Option Addr} {c : Nat} {l : List Int} (h : NumsAt w B (.slice a l.length c) l) (hn : 0 < l.length) : ∃ b o, a = some ⟨b, o, none⟩ ∧ b < B ∧ ∀ j, j < l.length → w.cell? ⟨b, o + j, none⟩ = some (.int .i64 (l.getD j 0)) := by
 obtain ⟨a', c', hv, _, _, hc⟩ := h
 injection hv with hv1 _ hv3
 subst hv1 hv3
 obtain ⟨b, o, rfl, hb, hx⟩ := hc hn
 exact ⟨b, o, rfl, hb, fun j hj => hx j _ (by rw [List.getElem?_map, List.getElem?_eq_getElem hj, List.getD_eq_getElem?_getD, List.getElem?_eq_getElem hj]; rfl)⟩
theorem getElem?_of_take {α : Type} {l : List α} {n j : Nat} {u : α} (h : (l.take n)[j]? = some u) : l[j]? = some u := by
 rw [List.getElem?_take] at h
 split at h
 ·
  exact h
 ·
  cases h
theorem KeepTy.sub {X Y : List TypeId} {W W' : World} (h : KeepTy X W W') (hs : ∀ t ∈ X, t ∈ Y) : KeepTy Y W W' := fun b cur t fz ht hb => h b cur t fz (fun hx => ht (hs t hx)) hb
theorem maxOf_eq {l : List Int} (h : l ≠ []) : Lib.maxOf l = maxL l := by
 obtain ⟨x, r, rfl⟩ := List.exists_cons_of_ne_nil h
 rfl
theorem minOf_eq {l : List Int} (h : l ≠ []) : Lib.minOf l = minL l := by
 obtain ⟨x, r, rfl⟩ := List.exists_cons_of_ne_nil h
 rfl
theorem outTo_all {l : List Stp} (h0 : numsA 0 l = []) (h6 : numsA 6 l = []) : outTo l 7 = normalA l := by
 have e0 : ofKind 0 (numsA 0 l) = [] := by rw [h0]; rfl
 have e6 : ofKind 6 (numsA 6 l) = [] := by rw [h6]; rfl
 unfold normalA
 rw [if_neg (by simpa using h6)]
 show ([0, 1, 2, 3, 4, 5, 6] : List Nat).flatMap (fun j : Nat => ofKind (j : Int) (numsA (j : Int) l)) = _
 simp only [List.flatMap_cons, List.flatMap_nil, List.append_nil]
 show ofKind 0 (numsA 0 l) ++ (ofKind 1 (numsA 1 l) ++ (ofKind 2 (numsA 2 l) ++ (ofKind 3 (numsA 3 l) ++ (ofKind 4 (numsA 4 l) ++ (ofKind 5 (numsA 5 l) ++ ofKind 6 (numsA 6 l)))))) = _
 rw [e0, e6, List.append_nil, List.nil_append]
set_option maxRecDepth 100000 in
set_option maxHeartbeats 4000000 in
theorem normal_any (v : Value) (ls : List (List Stp)) (w : World) (hv : ListsAt w v ls) (hn : ls.length ≤ 10) (ht : ls.flatten.length ≤ 1000) (hkd : ∀ s ∈ ls.flatten, 1 ≤ s.kind ∧ s.kind ≤ 6) :
  Calls Tryz.prog 59 #[v] w fun e w' => ∃ v', e = .returned v' ∧ w'.ownsRow w.heap.size 73 2 v' (normalA ls.flatten).length (stL (normalA ls.flatten)) ∧ Below w.heap.size w w' := by
 obtain ⟨i0, hi, hz0, hz1, hz2⟩ := info_parts Tryz.info_step
 have hb0 : Below w.heap.size w (w.alloc (.cells #[.slice none 0 0, .slice none 0 0, .slice none 0 0, .slice none 0 0, .slice none 0 0, .slice none 0 0, .slice none 0 0] 129)) := (Below.refl _ _).alloc (Nat.le_refl _) _
 have hA0 : Arr (w.alloc (.cells #[.slice none 0 0, .slice none 0 0, .slice none 0 0, .slice none 0 0, .slice none 0 0, .slice none 0 0, .slice none 0 0] 129)) w.heap.size 129 [.slice none 0 0, .slice none 0 0, .slice none 0 0, .slice none 0 0, .slice none 0 0, .slice none 0 0, .slice none 0 0] := Arr.new rfl rfl
 have hv1 : ListsAt (w.alloc (.cells #[.slice none 0 0, .slice none 0 0, .slice none 0 0, .slice none 0 0, .slice none 0 0, .slice none 0 0, .slice none 0 0] 129)) v ls := by
  obtain ⟨vs, h1, h2, h3⟩ := hv
  exact ⟨vs, h1, h2.later hb0, fun i hi => (h3 i hi).later hb0⟩
 have hcon := Lib.hid (concatS_any v ls _ hv1 hn ht)
 obtain ⟨vs, _, ⟨va, vc, rfl, _, _, _⟩, _⟩ := hv
 clear hv1
 generalize ls.flatten = l at *
 replace hb0 := Lib.hid hb0
 replace hA0 := Lib.hid hA0
 go_enter Tryz.func59, Tryz.ntmps59
 go_wp2_with fail
 refine hcon.out.mono ?_
 rintro e w2 ⟨cv, rfl, hcown, hb2⟩
 have hB2 : Below w.heap.size w w2 := hb0.out.trans (hb2.mono hb0.out.size)
 have hA2 := hA0.out.below hb2
 have hcT : StepsT w2 cv l := RowT.of_own hcown
 have hR0 : KRows w w2 w.heap.size (fun _ => .slice none 0 0) [] := ⟨hA2, fun j hj => World.ownsRow_nil _ _ _ _, fun i j _ _ _ b hb => by simp [Value.ownBlock] at hb, Nat.le_refl _, hB2⟩
 obtain ⟨ca, cc, hcv, hc1, hc2, _⟩ := id hcT
 subst hcv
 clear hcown hb2 hb0 hA0 hcon hA2
 replace hR0 := Lib.hid hR0
 have hcTh := Lib.hid hcT
 clear hcT
 replace hB2 := Lib.hid hB2
 replace hkd := Lib.hid hkd
 go_wp2_with fail
 go_loopw [14] (fun iv wr => ∃ i : Nat, i ≤ l.length ∧ iv = .int .i64 (i : Int) ∧ Hid (∃ kvs, KRows w wr w.heap.size kvs (l.take i) ∧ KeepTy [3, 129] w2 wr)) (fun iv _ => l.length - (intOf iv).toNat)
 case atStart => exact ⟨0, Nat.zero_le _, rfl, (show Hid _ from ⟨_, hR0.out, KeepTy.refl _ _⟩)⟩
 case round =>
  obtain ⟨i, hi', rfl, hall⟩ := hrel
  obtain ⟨kvs, hR, hK⟩ := hall.out
  clear hall
  by_cases hlt : i < l.length
  ·
   have hst : StepsT wr (.slice ca l.length cc) l := hcTh.out.keepTy (by decide) hK
   obtain ⟨b, o, cap, hv', hb, x0, x1⟩ := StepsAt.cells hst.at hlt
   injection hv' with hv1 _ hv3
   subst hv1 hv3
   have hkx := hkd.out l[i]! (by rw [getElem!_pos l i hlt]; exact List.getElem_mem hlt)
   have htk := take_step l hlt
   have hnl : (numsA l[i]!.kind (l.take i)).length + 1 ≤ 1000000 := by
    have h1 : (numsA l[i]!.kind (l.take i)).length ≤ (l.take i).length := by unfold numsA; rw [List.length_map]; exact List.length_filter_le _ _
    have h2 : (l.take i).length ≤ l.length := by rw [List.length_take]; omega
    omega
   generalize hxe : l[i]! = x at *
   obtain ⟨xk, xn⟩ := x
   dsimp only at x0 x1 hkx hnl
   obtain ⟨k, rfl⟩ : ∃ k : Nat, xk = (k : Int) := ⟨xk.toNat, by omega⟩
   have hk7 : k < 7 := by omega
   have hsz := hR.below.size
   -- the world behind the step's box, and the region's draw
   obtain ⟨W, hW⟩ : ∃ W, W = (wr.alloc (.cells #[.int .i64 (k : Int), .int .i64 xn] 73)).drew := ⟨_, rfl⟩
   have hbW : Below wr.heap.size wr W := by rw [hW]; exact ((Below.refl _ _).alloc (Nat.le_refl _) _).drew
   have hWs : W.heap.size = wr.heap.size + 1 := by rw [hW]; simp
   have hRW : KRows w W w.heap.size kvs (l.take i) := ⟨hR.arr.below hbW, fun j hj => own_stay (hR.own j hj) fun g hg => hbW.block g (own_block (hR.own j hj) hg).1, hR.apart, hR.K, hR.below.trans (hbW.mono hsz)⟩
   obtain ⟨v', w', hrun, r1, r2, r3⟩ := append_num xn (hRW.own k hk7) hnl hRW.below.size
   obtain ⟨g', cap', rfl⟩ := ownsRow_succ r1
   obtain ⟨hAw, hRn⟩ := hRW.step hk7 (x := ⟨(k : Int), xn⟩) rfl r1 r2 r3
   rw [← htk] at hRn
   have hKn : KeepTy [3, 129] w2 (w'.setCell ⟨w.heap.size, k, none⟩ (.slice (some ⟨g', 0, none⟩) ((numsA (k : Int) (l.take i)).length + 1) cap')) := by
    refine hK.trans ((KeepTy.of_below hbW).trans ((KeepTy.of_below ((Below.refl _ W).alloc (Nat.le_refl _) _)).trans (KeepTy.trans (KeepTy.grown (own_stay (hRW.own k hk7) fun g hg => Below.heap_alloc W _ g (own_block (hRW.own k hk7) hg).1) r2 (by decide)) (KeepTy.setArr hAw (by decide)))))
   have hnext : Hid (∃ kvs, KRows w (w'.setCell ⟨w.heap.size, k, none⟩ (.slice (some ⟨g', 0, none⟩) ((numsA (k : Int) (l.take i)).length + 1) cap')) w.heap.size kvs (l.take (i + 1)) ∧ KeepTy [3, 129] w2 (w'.setCell ⟨w.heap.size, k, none⟩ (.slice (some ⟨g', 0, none⟩) ((numsA (k : Int) (l.take i)).length + 1) cap'))) := ⟨_, hRn, hKn⟩
   have cK : wr.cell? ⟨w.heap.size, k, none⟩ = some (kvs k) := hR.arr.cell (kvs_at kvs hk7)
   have hXW : Arr W wr.heap.size 73 [.int .i64 (k : Int), .int .i64 xn] := by rw [hW]; exact Arr.new rfl rfl
   have hXe := hXW.alloc (.cells #[.int .i64 xn] 3)
   have hneX : (kvs k).ownBlock ≠ some wr.heap.size := fun e => by
    obtain ⟨_, _, cur, hc⟩ := own_block (hRW.own k hk7) e
    rw [show W.heap[wr.heap.size]? = _ from hXW] at hc
    injection hc with hc
    injection hc with _ hT
    exact absurd hT (by decide)
   have hXf : Arr w' wr.heap.size 73 [.int .i64 (k : Int), .int .i64 xn] := (r2.block _ hXe.lt (fun e => hneX e.symm)).trans hXe
   have hKX : w.heap.size ≠ wr.heap.size := by have := hR.arr.lt; omega
   have hXg : Arr (w'.setCell ⟨w.heap.size, k, none⟩ (.slice (some ⟨g', 0, none⟩) ((numsA (k : Int) (l.take i)).length + 1) cap')) wr.heap.size 73 [.int .i64 (k : Int), .int .i64 xn] := hXf.other _ hKX
   have d0 := hXW.cell (j := 0) rfl
   have d1 := hXW.cell (j := 1) rfl
   have dK : W.cell? ⟨w.heap.size, k, none⟩ = some (kvs k) := hRW.arr.cell (kvs_at kvs hk7)
   have e0 := hXe.cell (j := 0) rfl
   have e1 := hXe.cell (j := 1) rfl
   have eK : (W.alloc (.cells #[.int .i64 xn] 3)).cell? ⟨w.heap.size, k, none⟩ = some (kvs k) := (hRW.arr.alloc _).cell (kvs_at kvs hk7)
   have f0 := hXf.cell (j := 0) rfl
   have f1 := hXf.cell (j := 1) rfl
   have g0 := hXg.cell (j := 0) rfl
   have g1 := hXg.cell (j := 1) rfl
   have cw : w'.cell? ⟨w.heap.size, k, none⟩ = some (kvs k) := hAw.cell (kvs_at kvs hk7)
   have fw : w'.frozen? ⟨w.heap.size, k, none⟩ = false := hAw.free k
   clear hRn hKn r1 r2 r3 hRW hbW hR hst hK hkx htk hxe hAw hXW hXe hXf hXg hneX
   have i0' : (0 : Int) ≤ (i : Int) := by omega
   have i1 : (i : Int) < (l.length : Int) := by omega
   have k0 : (0 : Int) ≤ (k : Int) := by omega
   have k1 : (k : Int) < 7 := by omega
   have hw1 : IntKind.i64.wrap ((i : Int) + 1) = ((i + 1 : Nat) : Int) := by rw [Int.natCast_succ]; exact IntWalk.i64_in _ (by omega)
   generalize kvs k = kv at *
   generalize (numsA (k : Int) (l.take i)).length + 1 = nn at *
   go_wp2_with fail
   generalize hW1 : wr.alloc (.cells #[.int .i64 (k : Int), .int .i64 xn] 73) = W1 at *
   clear hW1 hKX
   generalize wr.heap.size = SB at *
   subst hW
   replace hrun := Lib.hid hrun
   clear hWs
   refine wp_region_held_drew (S := fun w' => w'.cell? ⟨SB, 0, none⟩ = some (.int .i64 (k : Int)) ∧ w'.cell? ⟨SB, 1, none⟩ = some (.int .i64 xn)) (by kernel_rfl) (by exact ⟨d0, d1⟩) (fun hHeld => ?_)
   refine tk 0 ?_ rfl ?_ ?_
   rotate_left
   ·
    intro w hSw; (try dsimp only at hSw); go_simp; (try with_reducible rfl)
   (try simp only [Act.put, setIfInBounds_toArray, set_cons_zero, set_cons_succ])
   refine tk 1 ?_ rfl ?_ ?_
   rotate_left
   ·
    intro w hSw; (try dsimp only at hSw); go_simp; (try with_reducible rfl)
   (try simp only [Act.put, setIfInBounds_toArray, set_cons_zero, set_cons_succ])
   refine tk 2 ?_ rfl ?_ ?_
   rotate_left
   ·
    intro w hSw; (try dsimp only at hSw); go_simp; (try with_reducible rfl)
   (try simp only [Act.put, setIfInBounds_toArray, set_cons_zero, set_cons_succ])
   refine tk 3 ?_ rfl ?_ ?_
   rotate_left
   ·
    intro w hSw; (try dsimp only at hSw); go_simp; (try with_reducible rfl)
   (try simp only [Act.put, setIfInBounds_toArray, set_cons_zero, set_cons_succ])
   refine tk 4 ?_ rfl ?_ ?_
   rotate_left
   ·
    intro w hSw; (try dsimp only at hSw); go_simp; (try with_reducible rfl)
   (try simp only [Act.put, setIfInBounds_toArray, set_cons_zero, set_cons_succ])
   refine tk 6 ?_ rfl ?_ ?_
   rotate_left
   ·
    intro w hSw; (try dsimp only at hSw); go_simp; (try with_reducible rfl)
   (try simp only [Act.put, setIfInBounds_toArray, set_cons_zero, set_cons_succ])
   refine tk 7 ?_ rfl ?_ ?_
   rotate_left
   ·
    intro w hSw; (try dsimp only at hSw); go_simp; (try with_reducible rfl)
   (try simp only [Act.put, setIfInBounds_toArray, set_cons_zero, set_cons_succ])
   generalize W1.drew = Wd at *
   refine wpAnyH_ready (rs := [5, 8]) (by kernel_rfl) (by simp) ?_
   refine ready_l rfl (fun K hK => ?_) (ready_l rfl (fun K hK => ?_) AllReadyH.nil)
   ·
    go_simp
    refine hK.out _ _ (by exact ⟨d0, d1⟩) (fun hHeld => ?_)
    clear hK K
    (try simp only [Act.put, setIfInBounds_toArray, set_cons_zero, set_cons_succ])
    refine wpAnyH_ready (rs := [8]) (by kernel_rfl) (by simp) ?_
    refine ready_l rfl (fun K hK => ?_) AllReadyH.nil
    go_simp
    refine hK.out _ _ (by exact ⟨e0, e1⟩) (fun hHeld => ?_)
    clear hK K
    (try simp only [Act.put, setIfInBounds_toArray, set_cons_zero, set_cons_succ])
    refine wpAnyH_ready (rs := [9]) (by kernel_rfl) (by simp) ?_
    refine ready_l rfl (fun K hK => ?_) AllReadyH.nil
    refine step_append_known rfl _ _ _ _ rfl kv (.slice (some ⟨Wd.heap.size, 0, none⟩) 1 1) (by kernel_rfl) (by kernel_rfl) hrun.out ?_
    (try simp only [Act.put, setIfInBounds_toArray, set_cons_zero, set_cons_succ])
    refine hK.out _ _ (by exact ⟨f0, f1⟩) (fun hHeld => ?_)
    clear hK K
    (try simp only [Act.put, setIfInBounds_toArray, set_cons_zero, set_cons_succ])
    refine tk 10 ?_ rfl ?_ ?_
    rotate_left
    ·
     intro w hSw; (try dsimp only at hSw); go_simp; (try with_reducible rfl)
    (try simp only [Act.put, setIfInBounds_toArray, set_cons_zero, set_cons_succ])
    refine wpAnyH_ready (rs := [11]) (by kernel_rfl) (by simp) ?_
    refine ready_l rfl (fun K hK => ?_) AllReadyH.nil
    go_simp
    refine hK.out _ _ (by exact ⟨g0, g1⟩) (fun hHeld => ?_)
    clear hK K
    (try simp only [Act.put, setIfInBounds_toArray, set_cons_zero, set_cons_succ])
    refine wpAnyH_done (by kernel_rfl) ?_ _
    go_wp2_with fail
    exact ⟨⟨i + 1, by omega, by first | rfl | go_num, hnext⟩, by simp [intOf]; omega⟩
   ·
    go_simp
    refine hK.out _ _ (by exact ⟨e0, e1⟩) (fun hHeld => ?_)
    clear hK K
    (try simp only [Act.put, setIfInBounds_toArray, set_cons_zero, set_cons_succ])
    refine wpAnyH_ready (rs := [5]) (by kernel_rfl) (by simp) ?_
    refine ready_l rfl (fun K hK => ?_) AllReadyH.nil
    go_simp
    refine hK.out _ _ (by exact ⟨e0, e1⟩) (fun hHeld => ?_)
    clear hK K
    (try simp only [Act.put, setIfInBounds_toArray, set_cons_zero, set_cons_succ])
    refine wpAnyH_ready (rs := [9]) (by kernel_rfl) (by simp) ?_
    refine ready_l rfl (fun K hK => ?_) AllReadyH.nil
    refine step_append_known rfl _ _ _ _ rfl kv (.slice (some ⟨Wd.heap.size, 0, none⟩) 1 1) (by kernel_rfl) (by kernel_rfl) hrun.out ?_
    (try simp only [Act.put, setIfInBounds_toArray, set_cons_zero, set_cons_succ])
    refine hK.out _ _ (by exact ⟨f0, f1⟩) (fun hHeld => ?_)
    clear hK K
    (try simp only [Act.put, setIfInBounds_toArray, set_cons_zero, set_cons_succ])
    refine tk 10 ?_ rfl ?_ ?_
    rotate_left
    ·
     intro w hSw; (try dsimp only at hSw); go_simp; (try with_reducible rfl)
    (try simp only [Act.put, setIfInBounds_toArray, set_cons_zero, set_cons_succ])
    refine wpAnyH_ready (rs := [11]) (by kernel_rfl) (by simp) ?_
    refine ready_l rfl (fun K hK => ?_) AllReadyH.nil
    go_simp
    refine hK.out _ _ (by exact ⟨g0, g1⟩) (fun hHeld => ?_)
    clear hK K
    (try simp only [Act.put, setIfInBounds_toArray, set_cons_zero, set_cons_succ])
    refine wpAnyH_done (by kernel_rfl) ?_ _
    go_wp2_with fail
    exact ⟨⟨i + 1, by omega, by first | rfl | go_num, hnext⟩, by simp [intOf]; omega⟩
  ·
   obtain rfl : i = l.length := by omega
   rw [List.take_length] at hR
   have c6 := hR.arr.cell (j := 6) rfl
   have hown6 := hR.own 6 (by omega)
   obtain ⟨k6a, k6c, hk6⟩ : ∃ a c, kvs 6 = .slice a (numsA 6 l).length c := by
    rcases hown6.2 with ⟨h1, h2⟩ | ⟨g, cap, cur, h1, _⟩
    ·
     exact ⟨none, 0, by rw [h1]; congr 1; exact h2.symm⟩
    ·
     exact ⟨_, _, h1⟩
   rw [hk6] at c6
   have hno : decide ((l.length : Int) < (l.length : Int)) = false := by simp
   clear hown6
   by_cases h6 : numsA 6 l = []
   ·
    have hz : (numsA 6 l).length = 0 := by rw [h6]; rfl
    rw [hz] at c6 hk6
    have hk6b := hk6
    clear hk6
    have c0 := hR.arr.cell (j := 0) rfl
    have c1 := hR.arr.cell (j := 1) rfl
    have c2 := hR.arr.cell (j := 2) rfl
    have c3 := hR.arr.cell (j := 3) rfl
    have c4 := hR.arr.cell (j := 4) rfl
    have c5 := hR.arr.cell (j := 5) rfl
    have hnum : Hid (∀ j : Nat, j < 7 → NumsT wr (kvs j) (numsA (j : Int) l)) := fun j hj => RowT.of_own (hR.own j hj)
    have hkat : Hid (∀ j : Nat, j < 7 → ∀ W, (Instr.index 129 (.agg #[kvs 0, kvs 1, kvs 2, kvs 3, kvs 4, kvs 5, .slice k6a 0 k6c]) (.int .i64 (j : Int))).run Tryz.prog W = .ok (kvs j) W) := fun j hj W => by rw [← hk6b]; exact index7 kvs hj W
    have hbW := Lib.hid hR.below
    have hn0 : Hid (numsA 0 l = []) := by
     show _ = _
     unfold numsA
     rw [List.filter_eq_nil_iff.2 fun x hx => ?_]
     ·
      rfl
     ·
      have := hkd.out x hx
      simp
      omega
    replace h6 := Lib.hid h6
    clear hno hcTh hkd hR0 hR
    go_wp2_with fail
    obtain ⟨ar, har⟩ : ∃ ar : Array Value, ar = #[kvs 0, kvs 1, kvs 2, kvs 3, kvs 4, kvs 5, .slice k6a 0 k6c] := ⟨_, rfl⟩
    rw [← har] at hkat ⊢
    have hars : ar.size = 7 := by rw [har]; rfl
    obtain ⟨W0, hW0⟩ : ∃ W0, W0 = wr := ⟨_, rfl⟩
    rw [← hW0] at hnum hbW ⊢
    clear har hW0 c0 c1 c2 c3 c4 c5 c6 hk6b
    go_loopw [6, 37] (fun ov iv wr => ∃ i : Nat, i ≤ 7 ∧ iv = .int .i64 (i : Int) ∧ Hid (wr.ownsRow w.heap.size 73 2 ov (outTo l i).length (stL (outTo l i)) ∧ Below w.heap.size w wr ∧ KeepTy [73] W0 wr)) (fun _ iv _ => 7 - (intOf iv).toNat)
    case atStart => exact ⟨0, by omega, rfl, (show Hid _ from ⟨World.ownsRow_nil _ _ _ _, hbW.out, KeepTy.refl _ _⟩)⟩
    case round =>
     obtain ⟨i, hi7, rfl, hall⟩ := hrel
     obtain ⟨hown, hbr, hkr⟩ := hall.out
     clear hall
     by_cases hlt : i < 7
     ·
      have hnr : NumsT wr (kvs i) (numsA (i : Int) l) := (hnum.out i hlt).keepTy (by decide) hkr
      obtain ⟨za, zc, hzv, hz1', hz2', hz3⟩ := id hnr
      clear hz3
      have hix := hkat.out i hlt
      rw [hzv] at hix hnr
      have hsucc := outTo_succ l i
      have i0' : (0 : Int) ≤ (i : Int) := by omega
      have i1 : (i : Int) < 7 := by omega
      have hwi : IntKind.i64.wrap ((i : Int) + 1) = ((i + 1 : Nat) : Int) := by rw [Int.natCast_succ]; exact IntWalk.i64_in _ (by omega)
      have hnl : (numsA (i : Int) l).length ≤ 1000 := by
       have : (numsA (i : Int) l).length ≤ l.length := by unfold numsA; rw [List.length_map]; exact List.length_filter_le _ _
       omega
      clear hzv
      generalize hns : numsA (i : Int) l = ns at *
      clear hns
      by_cases hns0 : ns = []
      ·
       subst hns0
       have hkk : Hid (wr.ownsRow w.heap.size 73 2 u6 (outTo l (i + 1)).length (stL (outTo l (i + 1))) ∧ Below w.heap.size w wr ∧ KeepTy [73] W0 wr) := ⟨by rw [hsucc, show ofKind (i : Int) [] = [] from rfl, List.append_nil]; exact hown, hbr, hkr⟩
       clear hnr hown hsucc
       go_wp2_with fail
       exact ⟨⟨i + 1, by omega, by first | rfl | go_num, hkk⟩, by simp [intOf]; omega⟩
      ·
       have hpos : 0 < ns.length := List.length_pos_iff.2 hns0
       have hne : ((ns.length : Int) == 0) = false := by simp; exact hns0
       obtain ⟨zb, zo, hza, hzb, hzc⟩ := (show NumsAt wr wr.heap.size (.slice za ns.length zc) ns from hnr.at).addr hpos
       subst hza
       obtain ⟨cl, hcle⟩ : ∃ cl, cl = canon (i : Int) ns := ⟨_, rfl⟩
       have hofk : Hid (outTo l (i + 1) = outTo l i ++ stepsOf (i : Int) (canon (i : Int) ns)) := hsucc
       have hbe3 : ((i : Int) == 3) = decide (i = 3) := by rw [Bool.eq_iff_iff, beq_iff_eq, decide_eq_true_eq]; omega
       have hbe5 : ((i : Int) == 5) = decide (i = 5) := by rw [Bool.eq_iff_iff, beq_iff_eq, decide_eq_true_eq]; omega
       have hszr := hbr.size
       clear hsucc hkat hnum
       by_cases h3 : i = 3
       ·
        have hb3 : Hid (((i : Int) == 3) = true) := by show _ = _; rw [hbe3, h3]; rfl
        have hmax := Lib.hid (by have h := Any.slices_Max_int Tryz.lays113 zb zo ns.length zc ns wr hpos (Nat.le_refl _) (by omega) hzc; rwa [List.take_length, maxOf_eq hns0] at h)
        have hcl1 : cl = [maxL ns] := by rw [hcle, h3]; exact canon_3 hns0
        generalize maxL ns = m at *
        clear h3
        obtain ⟨Wc, hWc⟩ : ∃ Wc, Wc = wr.alloc (.cells #[.int .i64 m] 3) := ⟨_, rfl⟩
        have hcl : NumsT Wc (.slice (some ⟨wr.heap.size, 0, none⟩) cl.length cl.length) cl := by
         rw [hcl1, hWc]
         exact ⟨_, _, rfl, Nat.le_refl _, by unfold maxLen; rw [List.length_singleton]; omega, fun _ => ⟨wr.heap.size, 0, #[.int .i64 m], (0, 0), rfl, World.alloc_heap_new wr _, fun j u hu => by rw [Nat.zero_add]; simpa using hu⟩⟩
        have hbA : Below wr.heap.size wr Wc := by rw [hWc]; exact (Below.refl _ _).alloc (Nat.le_refl _) _
        have hownc := Lib.hid (own_stay hown fun g hg => hbA.block g (own_block hown hg).1)
        have hbc := Lib.hid (hbr.trans (hbA.mono hszr))
        have hkc := Lib.hid (hkr.trans (KeepTy.of_below hbA))
        replace hcl := Lib.hid hcl
        clear hown hbr hkr hbA hnr
        have hcn : Hid (cl.length = 1) := by show _ = _; rw [hcl1]; rfl
        replace hcle := Lib.hid hcle
        clear hcl1
        clear hbe3 hbe5
        go_wp2_with fail
        any_goals (first | exact absurd hb3.out (by rw [show ((i : Int) == 3) = false by assumption]; decide) | skip)
        refine hmax.out.mono ?_
        rintro e w3 ⟨rfl, rfl⟩
        have hclN := hcl.out
        rw [hcn.out] at hclN
        replace hcl := Lib.hid hclN
        clear hclN
        go_wp2_with (fail)
        rw [← hWc]
        clear hWc hmax
        generalize (some ⟨w3.heap.size, 0, none⟩ : Option Addr) = la at hcl ⊢
        go_loopw [6, 64] (fun ov jv wq => ∃ j : Nat, j ≤ 1 ∧ jv = .int .i64 (j : Int) ∧ Hid (wq.ownsRow w.heap.size 73 2 ov (outTo l i ++ stepsOf (i : Int) (cl.take j)).length (stL (outTo l i ++ stepsOf (i : Int) (cl.take j))) ∧ Below w.heap.size w wq ∧ KeepTy [73] Wc wq)) (fun _ jv _ => 1 - (intOf jv).toNat)
        case atStart => exact ⟨0, Nat.zero_le _, rfl, (show Hid _ from ⟨by simpa [stepsOf] using hownc.out, hbc.out, KeepTy.refl _ _⟩)⟩
        case round =>
         obtain ⟨j, hj, rfl, hall⟩ := hrel
         obtain ⟨hownq, hbq, hkq⟩ := hall.out
         clear hall
         by_cases hjl : j < 1
         ·
          obtain rfl : j = 0 := by omega
          have hclq : NumsT wr (.slice la 1 1) cl := hcl.out.keepTy (by decide) hkq
          obtain ⟨b, o, cap, hv', hb, x0⟩ := NumsAt.cells hclq.at (show 0 < cl.length by first | exact hjl | (rw [hcn.out]; exact hjl))
          injection hv' with hv1 hv2 hv3
          subst hv1 hv3; rw [Nat.add_zero] at x0; clear hv2
          have hstep : outTo l i ++ stepsOf (i : Int) (cl.take (0 + 1)) = (outTo l i ++ stepsOf (i : Int) (cl.take 0)) ++ [⟨(i : Int), cl[0]!⟩] := by rw [stepsOf_succ (i : Int) cl (show 0 < cl.length by first | exact hjl | (rw [hcn.out]; exact hjl)), List.append_assoc]
          have hlenq : (outTo l i ++ stepsOf (i : Int) (cl.take (0 + 1))).length = (outTo l i ++ stepsOf (i : Int) (cl.take 0)).length + 1 := by rw [hstep, List.length_append, List.length_singleton]
          have hstq : stL (outTo l i ++ stepsOf (i : Int) (cl.take (0 + 1))) = stL (outTo l i ++ stepsOf (i : Int) (cl.take 0)) ++ [.int .i64 (i : Int), .int .i64 cl[0]!] := by rw [hstep, stL_snoc]; rfl
          have hbig : (outTo l i ++ stepsOf (i : Int) (cl.take 0)).length ≤ 10000 := by
           have h1 := outTo_len l i
           have h2 : (stepsOf (i : Int) (cl.take 0)).length ≤ cl.length := by unfold stepsOf; rw [List.length_map, List.length_take]; omega
           rw [List.length_append]
           have h9 := hcn.out
           omega
          generalize cl[0]! = n at *
          generalize (outTo l i ++ stepsOf (i : Int) (cl.take 0)).length = N at *
          generalize stL (outTo l i ++ stepsOf (i : Int) (cl.take 0)) = X at *
          have hszq := hbq.size
          have hownA := Lib.hid (hownq.alloc (.cells #[.int .i64 (i : Int), .int .i64 n] 73))
          have hnews : ∀ m u, [Value.int .i64 (i : Int), .int .i64 n][m]? = some u → (wr.alloc (.cells #[.int .i64 (i : Int), .int .i64 n] 73)).cell? ((⟨wr.heap.size, 0, none⟩ : Addr).add m) = some u := fun m u hu => cells_new wr [.int .i64 (i : Int), .int .i64 n] 73 m u hu
          have j0 : (0 : Int) ≤ ((0 : Nat) : Int) := by omega
          have j1 : ((0 : Nat) : Int) < (1 : Int) := by omega
          have hwj : IntKind.i64.wrap (((0 : Nat) : Int) + 1) = ((0 + 1 : Nat) : Int) := by rw [Int.natCast_succ]; exact IntWalk.i64_in _ (by omega)
          clear hclq hstep
          go_wp2_with (at_builtin; refine wpList_append_own _ rfl _ _ 55 rfl w.heap.size 73 i0 (.agg #[.int .i64 0, .int .i64 0]) 2 16 Tryz.underlying55 hi hz0 hz1 hz2 rfl (by decide) _ N X rfl hownA.out ⟨wr.heap.size, 0, none⟩ 1 1 [.int .i64 (i : Int), .int .i64 n] rfl rfl hnews (by simp [Value.oneCell']) ?qa ?qb ?qc ?_)
          case qa => unfold maxLen; omega
          case qb => omega
          case qc => (try simp only [World.size_alloc]); omega
          intro v' w1 hown2 hgrow hnil
          have hbA : Below wr.heap.size wr (wr.alloc (.cells #[.int .i64 (i : Int), .int .i64 n] 73)) := (Below.refl _ _).alloc (Nat.le_refl _) _
          have hkk : Hid (w1.ownsRow w.heap.size 73 2 v' (outTo l i ++ stepsOf (i : Int) (cl.take (0 + 1))).length (stL (outTo l i ++ stepsOf (i : Int) (cl.take (0 + 1)))) ∧ Below w.heap.size w w1 ∧ KeepTy [73] Wc w1) := ⟨by rw [hlenq, hstq]; exact hown2, (hbq.trans (hbA.mono hszq)).grown hgrow (by simp; omega) (fun g hg => (own_block hownq hg).2.1), hkq.trans ((KeepTy.of_below hbA).trans (KeepTy.grown hownA.out hgrow (by decide)))⟩
          clear hgrow hown2 hnil hownA hnews
          go_wp2_with fail
          exact ⟨⟨0 + 1, by omega, by first | rfl | go_num, hkk⟩, by first | (simp [intOf]; omega) | (simp [intOf]; done)⟩
         ·
          obtain rfl : j = 1 := by omega
          have hno : decide (((1 : Nat) : Int) < (1 : Int)) = false := by simp
          rw [List.take_of_length_le (by first | exact Nat.le_refl _ | (rw [hcn.out]; exact Nat.le_refl _)), hcle.out, ← hofk.out] at hownq
          have hkk : Hid (wr.ownsRow w.heap.size 73 2 u6 (outTo l (i + 1)).length (stL (outTo l (i + 1))) ∧ Below w.heap.size w wr ∧ KeepTy [73] W0 wr) := ⟨hownq, hbq, hkc.out.trans hkq⟩
          go_wp2_with fail
          exact ⟨⟨i + 1, by omega, by first | rfl | go_num, hkk⟩, by simp [intOf]; omega⟩
       ·
        have hb3 : ((i : Int) == 3) = false := by rw [hbe3, decide_eq_false h3]
        by_cases h5 : i = 5
        ·
         have hb5 : Hid (((i : Int) == 5) = true) := by show _ = _; rw [hbe5, h5]; rfl
         have hcl1 : cl = ns.take 5 := by rw [hcle, h5]; exact canon_5 hns0
         have hclT : NumsT wr (.slice (some ⟨zb, zo, none⟩) cl.length zc) cl := by
          obtain ⟨a', c', hv', q1, q2, q3⟩ := id hnr
          injection hv' with hv1 _ hv3
          subst hv1 hv3
          have hlc : cl.length ≤ ns.length := by rw [hcl1, List.length_take]; omega
          refine ⟨_, _, rfl, by omega, q2, fun _ => ?_⟩
          obtain ⟨b, o, cur, fz, w1, w2, w3⟩ := q3 hpos
          exact ⟨b, o, cur, fz, w1, w2, fun j u hu => w3 j u (getElem?_of_take (by rw [hcl1, List.map_take] at hu; exact hu))⟩
         have hlen5 : cl.length = min ns.length 5 := by rw [hcl1, List.length_take, Nat.min_comm]
         have hmin : min (ns.length : Int) 5 = (cl.length : Int) := by rw [hlen5]; omega
         have hcap5 : cl.length ≤ zc := by omega
         have hcn : Hid (cl.length = cl.length) := rfl
         have hownc := Lib.hid hown
         have hbc := Lib.hid hbr
         have hkc := Lib.hid hkr
         obtain ⟨Wc, hWc⟩ : ∃ Wc, Wc = wr := ⟨_, rfl⟩
         rw [← hWc] at hclT
         have hcl := Lib.hid hclT
         replace hcle := Lib.hid hcle
         clear hbe3 hbe5 h5 hnr hcl1 hlen5 hclT hown hbr hkr
         go_wp2_with fail
         any_goals (first | exact absurd hb5.out (by rw [show ((i : Int) == 5) = false by assumption]; decide) | skip)
         rw [← hWc] at hownc hbc hkc ⊢
         clear hWc
         go_loopw [6, 64] (fun ov jv wq => ∃ j : Nat, j ≤ cl.length ∧ jv = .int .i64 (j : Int) ∧ Hid (wq.ownsRow w.heap.size 73 2 ov (outTo l i ++ stepsOf (i : Int) (cl.take j)).length (stL (outTo l i ++ stepsOf (i : Int) (cl.take j))) ∧ Below w.heap.size w wq ∧ KeepTy [73] Wc wq)) (fun _ jv _ => cl.length - (intOf jv).toNat)
         case atStart => exact ⟨0, Nat.zero_le _, rfl, (show Hid _ from ⟨by simpa [stepsOf] using hownc.out, hbc.out, KeepTy.refl _ _⟩)⟩
         case round =>
          obtain ⟨j, hj, rfl, hall⟩ := hrel
          obtain ⟨hownq, hbq, hkq⟩ := hall.out
          clear hall
          by_cases hjl : j < cl.length
          ·
           have hclq : NumsT wr (.slice (some ⟨zb, zo, none⟩) cl.length zc) cl := hcl.out.keepTy (by decide) hkq
           obtain ⟨b, o, cap, hv', hb, x0⟩ := NumsAt.cells hclq.at (show j < cl.length by first | exact hjl | (rw [hcn.out]; exact hjl))
           injection hv' with hv1 hv2 hv3
           injection hv1 with hv1; injection hv1 with hv4 hv5; subst hv4 hv5 hv3
           have hstep : outTo l i ++ stepsOf (i : Int) (cl.take (j + 1)) = (outTo l i ++ stepsOf (i : Int) (cl.take j)) ++ [⟨(i : Int), cl[j]!⟩] := by rw [stepsOf_succ (i : Int) cl (show j < cl.length by first | exact hjl | (rw [hcn.out]; exact hjl)), List.append_assoc]
           have hlenq : (outTo l i ++ stepsOf (i : Int) (cl.take (j + 1))).length = (outTo l i ++ stepsOf (i : Int) (cl.take j)).length + 1 := by rw [hstep, List.length_append, List.length_singleton]
           have hstq : stL (outTo l i ++ stepsOf (i : Int) (cl.take (j + 1))) = stL (outTo l i ++ stepsOf (i : Int) (cl.take j)) ++ [.int .i64 (i : Int), .int .i64 cl[j]!] := by rw [hstep, stL_snoc]; rfl
           have hbig : (outTo l i ++ stepsOf (i : Int) (cl.take j)).length ≤ 10000 := by
            have h1 := outTo_len l i
            have h2 : (stepsOf (i : Int) (cl.take j)).length ≤ cl.length := by unfold stepsOf; rw [List.length_map, List.length_take]; omega
            rw [List.length_append]
            have h9 := hcn.out
            omega
           generalize cl[j]! = n at *
           generalize (outTo l i ++ stepsOf (i : Int) (cl.take j)).length = N at *
           generalize stL (outTo l i ++ stepsOf (i : Int) (cl.take j)) = X at *
           have hszq := hbq.size
           have hownA := Lib.hid (hownq.alloc (.cells #[.int .i64 (i : Int), .int .i64 n] 73))
           have hnews : ∀ m u, [Value.int .i64 (i : Int), .int .i64 n][m]? = some u → (wr.alloc (.cells #[.int .i64 (i : Int), .int .i64 n] 73)).cell? ((⟨wr.heap.size, 0, none⟩ : Addr).add m) = some u := fun m u hu => cells_new wr [.int .i64 (i : Int), .int .i64 n] 73 m u hu
           have j0 : (0 : Int) ≤ (j : Int) := by omega
           have j1 : (j : Int) < (cl.length : Int) := by omega
           have hwj : IntKind.i64.wrap ((j : Int) + 1) = ((j + 1 : Nat) : Int) := by rw [Int.natCast_succ]; exact IntWalk.i64_in _ (by omega)
           clear hclq hstep
           go_wp2_with (at_builtin; refine wpList_append_own _ rfl _ _ 55 rfl w.heap.size 73 i0 (.agg #[.int .i64 0, .int .i64 0]) 2 16 Tryz.underlying55 hi hz0 hz1 hz2 rfl (by decide) _ N X rfl hownA.out ⟨wr.heap.size, 0, none⟩ 1 1 [.int .i64 (i : Int), .int .i64 n] rfl rfl hnews (by simp [Value.oneCell']) ?qa ?qb ?qc ?_)
           case qa => unfold maxLen; omega
           case qb => omega
           case qc => (try simp only [World.size_alloc]); omega
           intro v' w1 hown2 hgrow hnil
           have hbA : Below wr.heap.size wr (wr.alloc (.cells #[.int .i64 (i : Int), .int .i64 n] 73)) := (Below.refl _ _).alloc (Nat.le_refl _) _
           have hkk : Hid (w1.ownsRow w.heap.size 73 2 v' (outTo l i ++ stepsOf (i : Int) (cl.take (j + 1))).length (stL (outTo l i ++ stepsOf (i : Int) (cl.take (j + 1)))) ∧ Below w.heap.size w w1 ∧ KeepTy [73] Wc w1) := ⟨by rw [hlenq, hstq]; exact hown2, (hbq.trans (hbA.mono hszq)).grown hgrow (by simp; omega) (fun g hg => (own_block hownq hg).2.1), hkq.trans ((KeepTy.of_below hbA).trans (KeepTy.grown hownA.out hgrow (by decide)))⟩
           clear hgrow hown2 hnil hownA hnews
           go_wp2_with fail
           exact ⟨⟨j + 1, by omega, by first | rfl | go_num, hkk⟩, by first | (simp [intOf]; omega) | (simp [intOf]; done)⟩
          ·
           obtain rfl : j = cl.length := by omega
           have hno : decide (((cl.length : Nat) : Int) < (cl.length : Int)) = false := by simp
           rw [List.take_of_length_le (by first | exact Nat.le_refl _ | (rw [hcn.out]; exact Nat.le_refl _)), hcle.out, ← hofk.out] at hownq
           have hkk : Hid (wr.ownsRow w.heap.size 73 2 u6 (outTo l (i + 1)).length (stL (outTo l (i + 1))) ∧ Below w.heap.size w wr ∧ KeepTy [73] W0 wr) := ⟨hownq, hbq, hkc.out.trans hkq⟩
           go_wp2_with fail
           exact ⟨⟨i + 1, by omega, by first | rfl | go_num, hkk⟩, by simp [intOf]; omega⟩
        ·
         have hb5 : ((i : Int) == 5) = false := by rw [hbe5, decide_eq_false h5]
         have hmax := Lib.hid (by have h := Any.slices_Min_int Tryz.lays114 zb zo ns.length zc ns wr hpos (Nat.le_refl _) (by omega) hzc; rwa [List.take_length, minOf_eq hns0] at h)
         have hcl1 : cl = [minL ns] := by rw [hcle]; exact canon_k hns0 (by omega) (by omega)
         generalize minL ns = m at *
         obtain ⟨Wc, hWc⟩ : ∃ Wc, Wc = wr.alloc (.cells #[.int .i64 m] 3) := ⟨_, rfl⟩
         have hcl : NumsT Wc (.slice (some ⟨wr.heap.size, 0, none⟩) cl.length cl.length) cl := by
          rw [hcl1, hWc]
          exact ⟨_, _, rfl, Nat.le_refl _, by unfold maxLen; rw [List.length_singleton]; omega, fun _ => ⟨wr.heap.size, 0, #[.int .i64 m], (0, 0), rfl, World.alloc_heap_new wr _, fun j u hu => by rw [Nat.zero_add]; simpa using hu⟩⟩
         have hbA : Below wr.heap.size wr Wc := by rw [hWc]; exact (Below.refl _ _).alloc (Nat.le_refl _) _
         have hownc := Lib.hid (own_stay hown fun g hg => hbA.block g (own_block hown hg).1)
         have hbc := Lib.hid (hbr.trans (hbA.mono hszr))
         have hkc := Lib.hid (hkr.trans (KeepTy.of_below hbA))
         replace hcl := Lib.hid hcl
         clear hown hbr hkr hbA hnr
         have hcn : Hid (cl.length = 1) := by show _ = _; rw [hcl1]; rfl
         replace hcle := Lib.hid hcle
         clear hcl1
         clear hbe3 hbe5
         go_wp2_with fail
         refine hmax.out.mono ?_
         rintro e w3 ⟨rfl, rfl⟩
         have hclN := hcl.out
         rw [hcn.out] at hclN
         replace hcl := Lib.hid hclN
         clear hclN
         go_wp2_with (fail)
         rw [← hWc]
         clear hWc hmax
         generalize (some ⟨w3.heap.size, 0, none⟩ : Option Addr) = la at hcl ⊢
         go_loopw [6, 64] (fun ov jv wq => ∃ j : Nat, j ≤ 1 ∧ jv = .int .i64 (j : Int) ∧ Hid (wq.ownsRow w.heap.size 73 2 ov (outTo l i ++ stepsOf (i : Int) (cl.take j)).length (stL (outTo l i ++ stepsOf (i : Int) (cl.take j))) ∧ Below w.heap.size w wq ∧ KeepTy [73] Wc wq)) (fun _ jv _ => 1 - (intOf jv).toNat)
         case atStart => exact ⟨0, Nat.zero_le _, rfl, (show Hid _ from ⟨by simpa [stepsOf] using hownc.out, hbc.out, KeepTy.refl _ _⟩)⟩
         case round =>
          obtain ⟨j, hj, rfl, hall⟩ := hrel
          obtain ⟨hownq, hbq, hkq⟩ := hall.out
          clear hall
          by_cases hjl : j < 1
          ·
           obtain rfl : j = 0 := by omega
           have hclq : NumsT wr (.slice la 1 1) cl := hcl.out.keepTy (by decide) hkq
           obtain ⟨b, o, cap, hv', hb, x0⟩ := NumsAt.cells hclq.at (show 0 < cl.length by first | exact hjl | (rw [hcn.out]; exact hjl))
           injection hv' with hv1 hv2 hv3
           subst hv1 hv3; rw [Nat.add_zero] at x0; clear hv2
           have hstep : outTo l i ++ stepsOf (i : Int) (cl.take (0 + 1)) = (outTo l i ++ stepsOf (i : Int) (cl.take 0)) ++ [⟨(i : Int), cl[0]!⟩] := by rw [stepsOf_succ (i : Int) cl (show 0 < cl.length by first | exact hjl | (rw [hcn.out]; exact hjl)), List.append_assoc]
           have hlenq : (outTo l i ++ stepsOf (i : Int) (cl.take (0 + 1))).length = (outTo l i ++ stepsOf (i : Int) (cl.take 0)).length + 1 := by rw [hstep, List.length_append, List.length_singleton]
           have hstq : stL (outTo l i ++ stepsOf (i : Int) (cl.take (0 + 1))) = stL (outTo l i ++ stepsOf (i : Int) (cl.take 0)) ++ [.int .i64 (i : Int), .int .i64 cl[0]!] := by rw [hstep, stL_snoc]; rfl
           have hbig : (outTo l i ++ stepsOf (i : Int) (cl.take 0)).length ≤ 10000 := by
            have h1 := outTo_len l i
            have h2 : (stepsOf (i : Int) (cl.take 0)).length ≤ cl.length := by unfold stepsOf; rw [List.length_map, List.length_take]; omega
            rw [List.length_append]
            have h9 := hcn.out
            omega
           generalize cl[0]! = n at *
           generalize (outTo l i ++ stepsOf (i : Int) (cl.take 0)).length = N at *
           generalize stL (outTo l i ++ stepsOf (i : Int) (cl.take 0)) = X at *
           have hszq := hbq.size
           have hownA := Lib.hid (hownq.alloc (.cells #[.int .i64 (i : Int), .int .i64 n] 73))
           have hnews : ∀ m u, [Value.int .i64 (i : Int), .int .i64 n][m]? = some u → (wr.alloc (.cells #[.int .i64 (i : Int), .int .i64 n] 73)).cell? ((⟨wr.heap.size, 0, none⟩ : Addr).add m) = some u := fun m u hu => cells_new wr [.int .i64 (i : Int), .int .i64 n] 73 m u hu
           have j0 : (0 : Int) ≤ ((0 : Nat) : Int) := by omega
           have j1 : ((0 : Nat) : Int) < (1 : Int) := by omega
           have hwj : IntKind.i64.wrap (((0 : Nat) : Int) + 1) = ((0 + 1 : Nat) : Int) := by rw [Int.natCast_succ]; exact IntWalk.i64_in _ (by omega)
           clear hclq hstep
           go_wp2_with (at_builtin; refine wpList_append_own _ rfl _ _ 55 rfl w.heap.size 73 i0 (.agg #[.int .i64 0, .int .i64 0]) 2 16 Tryz.underlying55 hi hz0 hz1 hz2 rfl (by decide) _ N X rfl hownA.out ⟨wr.heap.size, 0, none⟩ 1 1 [.int .i64 (i : Int), .int .i64 n] rfl rfl hnews (by simp [Value.oneCell']) ?qa ?qb ?qc ?_)
           case qa => unfold maxLen; omega
           case qb => omega
           case qc => (try simp only [World.size_alloc]); omega
           intro v' w1 hown2 hgrow hnil
           have hbA : Below wr.heap.size wr (wr.alloc (.cells #[.int .i64 (i : Int), .int .i64 n] 73)) := (Below.refl _ _).alloc (Nat.le_refl _) _
           have hkk : Hid (w1.ownsRow w.heap.size 73 2 v' (outTo l i ++ stepsOf (i : Int) (cl.take (0 + 1))).length (stL (outTo l i ++ stepsOf (i : Int) (cl.take (0 + 1)))) ∧ Below w.heap.size w w1 ∧ KeepTy [73] Wc w1) := ⟨by rw [hlenq, hstq]; exact hown2, (hbq.trans (hbA.mono hszq)).grown hgrow (by simp; omega) (fun g hg => (own_block hownq hg).2.1), hkq.trans ((KeepTy.of_below hbA).trans (KeepTy.grown hownA.out hgrow (by decide)))⟩
           clear hgrow hown2 hnil hownA hnews
           go_wp2_with fail
           exact ⟨⟨0 + 1, by omega, by first | rfl | go_num, hkk⟩, by first | (simp [intOf]; omega) | (simp [intOf]; done)⟩
          ·
           obtain rfl : j = 1 := by omega
           have hno : decide (((1 : Nat) : Int) < (1 : Int)) = false := by simp
           rw [List.take_of_length_le (by first | exact Nat.le_refl _ | (rw [hcn.out]; exact Nat.le_refl _)), hcle.out, ← hofk.out] at hownq
           have hkk : Hid (wr.ownsRow w.heap.size 73 2 u6 (outTo l (i + 1)).length (stL (outTo l (i + 1))) ∧ Below w.heap.size w wr ∧ KeepTy [73] W0 wr) := ⟨hownq, hbq, hkc.out.trans hkq⟩
           go_wp2_with fail
           exact ⟨⟨i + 1, by omega, by first | rfl | go_num, hkk⟩, by simp [intOf]; omega⟩
     ·
      obtain rfl : i = 7 := by omega
      have hno7 : decide (((7 : Nat) : Int) < 7) = false := by decide
      rw [outTo_all hn0.out h6.out] at hown
      go_wp2_with fail
      go_ret
      exact ⟨_, rfl, hown, hbr⟩
   ·
    have hpos : 0 < (numsA 6 l).length := List.length_pos_iff.2 h6
    have hdec : decide (((numsA 6 l).length : Int) > 0) = true := by rw [decide_eq_true_eq]; omega
    generalize (numsA 6 l).length = n6 at *
    have hfinal : normalA l = [⟨6, 0⟩] := numsA_lost h6
    go_wp2_with fail
    go_ret
    rw [hfinal]
    exact ⟨_, rfl, World.ownsRow_lit _ #[.int .i64 6, .int .i64 0] 1 hR.below.size (by unfold maxLen; omega) rfl, hR.below.alloc hR.below.size _⟩
end Go.Proofs.YtpeandbcdaikbaaGreatDoor
