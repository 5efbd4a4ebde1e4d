/-
  The contract of program: the instructions of a program that is well formed.
-/
import Derived.Test.YtainohbfcehpoaaDoorMb5
import Derived.RangeFuncNested
import Derived.Maps.OwnIn
namespace Go.Proofs.YtainohbfcehpoaaDoor
open Go.RowKit

attribute [local go_sem] Oper.semAt_some

theorem info_ins : (Tryd.prog.info? 66).map (fun i => (i.zero, i.size, i.bytes)) = some (some (.agg #[.int .i64 0, .int .i64 0, .int .i64 0, .int .i64 0]), 4, 32) := by kernel_rfl
def insC (x : Ins) : List Value := [.int .i64 (x.off : Int), .int .i64 (x.op : Int), .int .i64 (x.opd : Int), .int .i64 0]
def insL (l : List Ins) : List Value := l.flatMap insC
theorem insL_len (l : List Ins) : (insL l).length = l.length * 4 := by
  induction l with
  | nil => rfl
  | cons x l ih => simp [insL, insC] at ih ⊢; omega
theorem insL_snoc (l : List Ins) (x : Ins) : insL (l ++ [x]) = insL l ++ insC x := by simp [insL]
theorem insL_at : ∀ (l : List Ins) (i j : Nat), i < l.length → j < 4 → (insL l)[i * 4 + j]? = (insC l[i]!)[j]?
  | [], i, _, h, _ => by simp at h
  | x :: l, 0, j, _, hj => by
    simp only [insL, List.flatMap_cons, Nat.zero_mul, Nat.zero_add, List.getElem!_cons_zero]
    rw [List.getElem?_append_left (by simp [insC]; omega)]
  | x :: l, i + 1, j, h, hj => by
    have ih := insL_at l i j (by simpa using h) hj
    rw [List.getElem!_cons_succ, ← ih]
    simp only [insL, List.flatMap_cons]
    rw [List.getElem?_append_right (by simp [insC]; omega)]
    congr 1
    simp [insC]; omega
/-- What has come, as instructions. -/
def come (code : List UInt8) {K : Nat} (pre : List (Fin K)) : List Ins := pre.map fun x => (evAt code x.1).1
theorem come_all (code : List UInt8) (K : Nat) (hK : K = (evSeq 0 code).length) : (List.finRange K).map (fun x => evAt code x.1) = evSeq 0 code := by
  subst hK
  apply List.ext_getElem
  · simp
  · intro i h1 h2
    simp only [List.getElem_map, List.getElem_finRange, Fin.val_cast]
    unfold evAt
    rw [getElem!_pos _ i h2]
theorem done_dec (code : List UInt8) (K : Nat) (hK : K = (evSeq 0 code).length) (h : ∀ x ∈ List.finRange K, (evAt code x.1).2 = true) : dec 0 code = some (come code (List.finRange K)) := by
  have hall := come_all code K hK
  obtain ⟨h1, h2⟩ := evSeq_dec _ code (Nat.le_refl _) 0
  cases hd : dec 0 code with
  | none =>
    obtain ⟨pre, x, hp⟩ := h2 hd
    have hm : (x, false) ∈ evSeq 0 code := by rw [hp]; simp
    rw [← hall] at hm
    obtain ⟨y, hy, he⟩ := List.mem_map.1 hm
    have := h y hy
    rw [he] at this
    cases this
  | some l =>
    have := h1 l hd
    rw [← hall] at this
    have h3 := congrArg (List.map Prod.fst) this
    rw [List.map_map, List.map_map] at h3
    have : (l.map (Prod.fst ∘ fun x => (x, true))) = l := by simp [Function.comp_def]
    rw [this] at h3
    rw [← h3]
    rfl
theorem stop_dec (code : List UInt8) (K : Nat) (hK : K = (evSeq 0 code).length) (x : Fin K) (h : (evAt code x.1).2 = false) : dec 0 code = none := by
  have hall := come_all code K hK
  obtain ⟨h1, _⟩ := evSeq_dec _ code (Nat.le_refl _) 0
  cases hd : dec 0 code with
  | none => rfl
  | some l =>
    have := h1 l hd
    rw [← hall] at this
    have hm : evAt code x.1 ∈ (List.finRange K).map (fun x => evAt code x.1) := List.mem_map.2 ⟨x, List.mem_finRange x, rfl⟩
    rw [this] at hm
    obtain ⟨y, _, he⟩ := List.mem_map.1 hm
    rw [← he] at h
    cases h
/-- An append whose run is known, inside a fence. -/
theorem wpListIn_append_known {F : Fence} {n : Nat} {P : Program} {ops : Array Oper} {rest : List Oper} {o : Oper} {a : Act} {w : World} {Q : Exit → Act → World → Prop} (hgd : o.guard = none) (d s : Operand) (t t' : TypeId)
    (ho : o.op = .call { callee := .builtin .append, args := #[d, s], argTypes := #[t, t'] }) (v u : Value) (hd : a.eval d = v) (hs : a.eval s = u) {v' : Value} {w' : World}
    (hr : (Builtin.append_ #[t, t'] o.type #[v, u]).run P w = .ok v' w') (h : wpListIn F n P ops Q rest (a.put o.dst v') w') : wpListIn F n P ops Q (o :: rest) a w := by
  refine wpListIn_plain hgd fun K hK => ?_
  unfold Oper.wpIn
  refine ⟨by simp [Oper.about, ho, resolve, Target.leads, Sem.run_pure], ?_⟩
  rw [Oper.semAt_plain F _ _ (by rw [ho]; intro c hc'; cases hc')]
  simp [execOp, ho, resolve, invoke, builtin, hd, hs, hr, Result.andThen]
  exact hK _ _ h
/-- append of an instruction onto a row of the call's own. -/
theorem append_ins (w : World) (base : Nat) (v : Value) (l : List Ins) (x : Ins) (hown : w.ownsRow base 66 4 v l.length (insL l)) (b : Nat) (hA : Arr w b 66 (insC x)) (hl : l.length ≤ 1000000) (hb : base ≤ w.heap.size) :
    ∃ v' w', (Builtin.append_ #[56, 56] 56 #[v, .slice (some ⟨b, 0, none⟩) 1 1]).run Tryd.prog w = .ok v' w' ∧ w'.ownsRow base 66 4 v' (l ++ [x]).length (insL (l ++ [x])) ∧ w.grownBy w' v.ownBlock := by
  obtain ⟨i0, hi, hz0, hz1, hz2⟩ := info_parts info_ins
  have hcells : ∀ j u, (insC x)[j]? = some u → w.cell? ((⟨b, 0, none⟩ : Addr).add j) = some u := by
    intro j u hu
    rw [Addr.add_mid, Nat.zero_add]
    exact hA.cell hu
  have hone : ∀ u ∈ insC x, u.oneCell' = true := by
    intro u hu
    simp only [insC, List.mem_cons, List.not_mem_nil, or_false] at hu
    rcases hu with rfl | rfl | rfl | rfl <;> rfl
  obtain ⟨v', w', hrun, r1, r2, r3, _⟩ := run_append_own_at (P := Tryd.prog) w base 56 56 66 i0 (.agg #[.int .i64 0, .int .i64 0, .int .i64 0, .int .i64 0]) 4 32 Tryd.underlying56 hi hz0 hz1 hz2 rfl (by decide) v l.length (insL l) hown ⟨b, 0, none⟩ 1 1 (insC x) rfl hcells hone (by unfold maxLen; omega) (by omega) hb
  exact ⟨v', w', hrun, by rw [List.length_append, insL_snoc]; exact r1, r2⟩
theorem arr_kept' {W W' : World} {row : Option Nat} {B : Nat} {T : TypeId} {v : Value} (h : Boxed W B T v) (hg : W.grownBy W' row) (hr : ∀ r, row = some r → ∃ o : Obj, W.heap[r]? = some o ∧ o.isCells = false) : Boxed W' B T v := by
  refine (hg.block B h.lt (fun e => ?_)).trans h
  obtain ⟨o, ho, hc⟩ := hr B e.symm
  rw [show W.heap[B]? = _ from h] at ho; injection ho with ho; subst ho; cases hc
theorem formed_nodec {code : List UInt8} (h : dec 0 code = none) : formed code = none := by
  unfold formed
  split
  · rfl
  · rw [h]
theorem formed_nolead {code : List UInt8} {l : List Ins} (hd : dec 0 code = some l) {i : Nat} (hi : i < l.length) (hl : leadOp l[i]!.op = true) (hn : idxOf l l[i]!.opd = none) : formed code = none := by
  cases hf : formed code with
  | none => rfl
  | some l' =>
    obtain ⟨_, _, h3, _, h5⟩ := formed_parts hf
    rw [hd] at h3
    injection h3 with h3
    subst h3
    obtain ⟨j, hj⟩ := h5.leads i hi hl
    rw [hn] at hj
    cases hj
theorem keepsFrom_below {B : Nat} {W W' : World} (h : Below W.heap.size W W') : KeepsFrom B W W' := ⟨h.size, fun k _ _ hk _ => (h.block k (Array.getElem?_eq_some_iff.1 hk).1).trans hk⟩
theorem KeepB.of_below {b1 b2 : Nat} {W W' : World} (h : Below W.heap.size W W') (h1 : b1 < W.heap.size) (h2 : b2 < W.heap.size) : KeepB b1 b2 W W' := ⟨h.block b1 h1, h.block b2 h2⟩
theorem boxed_below {W W' : World} {b : Nat} {t : TypeId} {v : Value} (h : Boxed W b t v) (hb : Below W.heap.size W W') : Boxed W' b t v := (hb.block b h.lt).trans h
theorem boxed_arr {W : World} {b : Nat} {t : TypeId} {v : Value} (h : Boxed W b t v) : Arr W b t [v] := h
theorem arr_boxed {W : World} {b : Nat} {t : TypeId} {v : Value} (h : Arr W b t [v]) : Boxed W b t v := h
/-- What lies while program's first loop goes on. -/
structure PI (code : List UInt8) (w : World) {K : Nat} (pre : List (Fin K)) (W : World) : Prop where
  row : ∃ v, Boxed W (w.heap.size + 1 + 1) 56 v ∧ W.ownsRow w.heap.size 66 4 v (come code pre).length (insL (come code pre))
  res : Boxed W w.heap.size 56 (.slice none 0 0)
  ok : Boxed W (w.heap.size + 1) 4 (.bool false)
  txt : Boxed W (w.heap.size + 3) 9 (.string (str code))
  all : ∀ x ∈ pre, (evAt code x.1).2 = true
theorem PI.below {code : List UInt8} {w W W' : World} {K : Nat} {pre : List (Fin K)} (h : PI code w pre W) (hb : Below W.heap.size W W') : PI code w pre W' := by
  obtain ⟨v, h1, h2⟩ := h.row
  exact ⟨⟨v, boxed_below h1 hb, own_below h2 hb⟩, boxed_below h.res hb, boxed_below h.ok hb, boxed_below h.txt hb, h.all⟩
theorem PI.own (code : List UInt8) (w : World) (K : Nat) : Own (fun (pre : List (Fin K)) W => PI code w pre W) := fun pre A B row h hg hr => by
  obtain ⟨v, h1, h2⟩ := h.row
  have hk : ∀ {b t u}, Boxed A b t u → Boxed B b t u := fun {b t u} hb => arr_kept' hb hg hr
  refine ⟨⟨v, hk h1, h2.kept hg ?_⟩, hk h.res, hk h.ok, hk h.txt, h.all⟩
  rcases h2.2 with ⟨rfl, _⟩ | ⟨g, cap, cur, rfl, _, hgb, _⟩
  · exact .inl rfl
  · refine .inr fun e' => ?_
    obtain ⟨o, ho, hc⟩ := hr g (by simpa [Value.ownBlock] using e'.symm)
    rw [hgb] at ho; cases ho; cases hc
/-- Where a round has left the loop. -/
structure PX (code : List UInt8) (w : World) (K : Nat) (W : World) : Prop where
  bad : ∃ x : Fin K, (evAt code x.1).2 = false
  res : Boxed W w.heap.size 56 (.slice none 0 0)
  ok : Boxed W (w.heap.size + 1) 4 (.bool false)
theorem PX.own {β : Type} (code : List UInt8) (w : World) (K : Nat) : Own (fun (_ : β) W => PX code w K W) := fun _ _ _ _ h hg hr =>
  ⟨h.bad, arr_kept' h.res hg hr, arr_kept' h.ok hg hr⟩
theorem evSeq_len : ∀ (n : Nat) (bs : List UInt8), bs.length ≤ n → ∀ a : Nat, (evSeq a bs).length ≤ bs.length
  | _, [], _, _ => by simp [evSeq]
  | 0, _ :: _, h, _ => by simp at h
  | n + 1, [o], _, a => by
    rw [evSeq]
    split
    · simp
    · split <;> simp
  | n + 1, [o, b], hl, a => by
    have h2 := evSeq_len n [b] (by simp at hl ⊢; omega) (a + 1)
    rw [evSeq]
    split
    · simp
    · split
      · simp
      · simp at h2 ⊢; omega
  | n + 1, o :: b :: c :: r, hl, a => by
    have h1 := evSeq_len n r (by simp at hl ⊢; omega) (a + 3)
    have h2 := evSeq_len n (b :: c :: r) (by simp at hl ⊢; omega) (a + 1)
    rw [evSeq]
    split
    · simp
    · split
      · simp at h1 ⊢; omega
      · simp at h2 ⊢; omega
theorem evSeq_pos (code : List UInt8) (h : code ≠ []) : 0 < (evSeq 0 code).length := by
  cases code with
  | nil => exact absurd rfl h
  | cons o r =>
    obtain ⟨e, nx, _, hs⟩ := evSeq_step (o :: r) 0 (by simp)
    rw [List.drop_zero] at hs
    rw [hs]
    simp
def tosK (l : List Ins) (k i : Nat) : Nat := if i < k then toOf l l[i]! else 0
theorem insRow_of_cur {W : World} {g : Nat} {cur : Array Value} {T : TypeId} {L : List Ins} (hg : W.heap[g]? = some (.cells cur T (0, 0))) (ht : cur.toList.take (L.length * 4) = insL L) : InsRow W g 0 L (tosK L 0) := fun i hi => by
  have key : ∀ j, j < 4 → W.cell? ⟨g, i * 4 + j, none⟩ = (insC L[i]!)[j]? := fun j hj => by
    rw [← insL_at L i j hi hj, ← ht, List.getElem?_take, if_pos (by omega)]
    simp only [World.cell?, hg]
    simp
  simp only [Nat.zero_add]
  have e : tosK L 0 i = 0 := by simp [tosK]
  rw [e]
  exact ⟨key 0 (by omega), key 1 (by omega), key 2 (by omega), key 3 (by omega)⟩
/-- What lies while program's second loop goes on. -/
structure PL (w : World) (L : List Ins) (g cap D k : Nat) (W : World) : Prop where
  blk : ∃ cur, W.heap[g]? = some (.cells cur 66 (0, 0))
  row : InsRow W g 0 L (tosK L k)
  mark : W.heap[D]? = some (.deferred (some []))
  res : Boxed W w.heap.size 56 (.slice none 0 0)
  ok : Boxed W (w.heap.size + 1) 4 (.bool false)
  lst : Boxed W (w.heap.size + 1 + 1) 56 (.slice (some ⟨g, 0, none⟩) L.length cap)
  bel : Below w.heap.size w W
  ledd : ∀ i, i < k → leadOp L[i]!.op = true → ∃ j, idxOf L L[i]!.opd = some j
theorem insRow_set {W : World} {g k t : Nat} {L : List Ins} (h : InsRow W g 0 L (tosK L k)) (hk : k < L.length) (ht : t = toOf L L[k]!) : InsRow (W.setCell ⟨g, k * 4 + 3, none⟩ (.int .i64 (t : Int))) g 0 L (tosK L (k + 1)) := fun i hi => by
  obtain ⟨h0, h1, h2, h3⟩ := h i hi
  simp only [Nat.zero_add] at h0 h1 h2 h3 ⊢
  have oth : ∀ o, o ≠ k * 4 + 3 → (W.setCell ⟨g, k * 4 + 3, none⟩ (.int .i64 (t : Int))).cell? ⟨g, o, none⟩ = W.cell? ⟨g, o, none⟩ := fun o ho => World.cell?_setCell_other _ _ _ _ (by intro e; injection e with _ e; exact ho e.symm)
  refine ⟨(oth _ (by omega)).trans h0, (oth _ (by omega)).trans h1, (oth _ (by omega)).trans h2, ?_⟩
  by_cases e : i = k
  · subst e
    rw [tosK, if_pos (by omega), ← ht]
    exact World.cell?_setCell_same' _ _ _ (by rw [h3]; rfl)
  · refine (oth _ (by omega)).trans (h3.trans ?_)
    unfold tosK
    by_cases hlt : i < k
    · rw [if_pos hlt, if_pos (by omega)]
    · rw [if_neg hlt, if_neg (by omega)]
theorem insRow_skip {W : World} {g k : Nat} {L : List Ins} (h : InsRow W g 0 L (tosK L k)) (hl : leadOp L[k]!.op = false) : InsRow W g 0 L (tosK L (k + 1)) := fun i hi => by
  obtain ⟨h0, h1, h2, h3⟩ := h i hi
  refine ⟨h0, h1, h2, h3.trans ?_⟩
  unfold tosK
  by_cases e : i = k
  · subst e
    rw [if_neg (by omega), if_pos (by omega), toOf, hl]
    rfl
  · by_cases hlt : i < k
    · rw [if_pos hlt, if_pos (by omega)]
    · rw [if_neg hlt, if_neg (by omega)]
theorem PL.below {w W W' : World} {L : List Ins} {g cap D k : Nat} (h : PL w L g cap D k W) (hb : Below W.heap.size W W') : PL w L g cap D k W' := by
  obtain ⟨cur, hc⟩ := h.blk
  have hg := hb.block g (Array.getElem?_eq_some_iff.1 hc).1
  exact ⟨⟨cur, hg.trans hc⟩, h.row.keep hg, (hb.block D (Array.getElem?_eq_some_iff.1 h.mark).1).trans h.mark, boxed_below h.res hb, boxed_below h.ok hb, boxed_below h.lst hb, h.bel.trans (hb.mono h.bel.size), h.ledd⟩
theorem dec_bound : ∀ (n : Nat) (bs : List UInt8), bs.length ≤ n → ∀ (a : Nat) (l : List Ins), dec a bs = some l → ∀ x ∈ l, x.off < a + bs.length ∧ x.opd < 65536
  | _, [], _, a, l, h => by
    rw [dec] at h
    injection h with h
    subst h
    simp
  | 0, _ :: _, h, _, _, _ => by simp at h
  | n + 1, [o], _, a, l, h => by
    rw [dec] at h
    split at h
    · cases h
    · split at h
      · cases h
      · injection h with h
        subst h
        simp
  | n + 1, [o, b], hl, a, l, h => by
    rw [dec] at h
    split at h
    · cases h
    · split at h
      · cases h
      · obtain ⟨r, hr, rfl⟩ := Option.map_eq_some_iff.1 h
        have ih := dec_bound n [b] (by simp at hl ⊢; omega) _ _ hr
        intro x hx
        rcases List.mem_cons.1 hx with rfl | hx
        · simp
        · have := ih x hx
          simp at this ⊢; omega
  | n + 1, o :: b :: c :: r, hl, a, l, h => by
    rw [dec] at h
    split at h
    · cases h
    · split at h
      · obtain ⟨q, hq, rfl⟩ := Option.map_eq_some_iff.1 h
        have ih := dec_bound n r (by simp at hl ⊢; omega) _ _ hq
        have := b.toNat_lt
        have := c.toNat_lt
        intro x hx
        rcases List.mem_cons.1 hx with rfl | hx
        · simp; omega
        · have := ih x hx
          simp at this ⊢; omega
      · obtain ⟨q, hq, rfl⟩ := Option.map_eq_some_iff.1 h
        have ih := dec_bound n (b :: c :: r) (by simp at hl ⊢; omega) _ _ hq
        intro x hx
        rcases List.mem_cons.1 hx with rfl | hx
        · simp
        · have := ih x hx
          simp at this ⊢; omega
theorem dec_bnd {code : List UInt8} {l : List Ins} (h : dec 0 code = some l) {i : Nat} (hi : i < l.length) : l[i]!.off < code.length ∧ l[i]!.opd < 65536 := by
  have := dec_bound _ code (Nat.le_refl _) _ _ h l[i]! (by rw [getElem!_pos l i hi]; exact List.getElem_mem hi)
  omega
/-- Where no panic can come. -/
def onlyNormal (Q : Exit → Act → World → Prop) : Exit → Act → World → Prop
  | .normal, a, w => Q .normal a w
  | _, _, _ => False
theorem wp_norm {P : Program} {c : Code} {Q : Exit → Act → World → Prop} {a : Act} {w : World} (h : c.wp P (onlyNormal Q) a w) : c.wp P Q a w :=
  wp_mono h fun e a w h => by cases e <;> first | exact h | exact h.elim

end Go.Proofs.YtainohbfcehpoaaDoor
