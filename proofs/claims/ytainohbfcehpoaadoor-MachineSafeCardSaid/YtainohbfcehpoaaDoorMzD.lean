/-
  The contract of program: the instructions of a program that is well formed.
  The text of a program (P8.4), plain: what is printed, what is read, and that each undoes the other.
  The text of a program, plain: what is printed is parsed into the program; what is parsed is printed as it was; a line that is wrong is one of the text.
  What reads a line: by its text alone. Plain.
  What the reference's read finds out of a line, step by step. Plain.
  A text that Parse refuses has a line that is wrong. Plain.
-/
import Derived.Test.YtainohbfcehpoaaDoorMzC
import Derived.RangeFuncNested
import Derived.Maps.OwnIn
import Derived.Test.YtainohbfcehpoaaDoorMzB
namespace Go.Proofs.YtainohbfcehpoaaDoor
open Go.RowKit

attribute [local go_sem] Oper.semAt_some

theorem info_ins : (Tryd.prog.info? 66).map (fun i => (i.zero, i.size, i.bytes)) = some (some (.agg #[.int .i64 0, .int .i64 0, .int .i64 0, .int .i64 0]), 4, 32) := by kernel_rfl
def insC (x : Ins) : List Value := [.int .i64 (x.off : Int), .int .i64 (x.op : Int), .int .i64 (x.opd : Int), .int .i64 0]
def insL (l : List Ins) : List Value := l.flatMap insC
theorem insL_len (l : List Ins) : (insL l).length = l.length * 4 := by
  induction l with
  | nil => rfl
  | cons x l ih => simp [insL, insC] at ih ⊢; omega
theorem insL_snoc (l : List Ins) (x : Ins) : insL (l ++ [x]) = insL l ++ insC x := by simp [insL]
theorem insL_at : ∀ (l : List Ins) (i j : Nat), i < l.length → j < 4 → (insL l)[i * 4 + j]? = (insC l[i]!)[j]?
  | [], i, _, h, _ => by simp at h
  | x :: l, 0, j, _, hj => by
    simp only [insL, List.flatMap_cons, Nat.zero_mul, Nat.zero_add, List.getElem!_cons_zero]
    rw [List.getElem?_append_left (by simp [insC]; omega)]
  | x :: l, i + 1, j, h, hj => by
    have ih := insL_at l i j (by simpa using h) hj
    rw [List.getElem!_cons_succ, ← ih]
    simp only [insL, List.flatMap_cons]
    rw [List.getElem?_append_right (by simp [insC]; omega)]
    congr 1
    simp [insC]; omega
/-- What has come, as instructions. -/
def come (code : List UInt8) {K : Nat} (pre : List (Fin K)) : List Ins := pre.map fun x => (evAt code x.1).1
theorem come_all (code : List UInt8) (K : Nat) (hK : K = (evSeq 0 code).length) : (List.finRange K).map (fun x => evAt code x.1) = evSeq 0 code := by
  subst hK
  apply List.ext_getElem
  · simp
  · intro i h1 h2
    simp only [List.getElem_map, List.getElem_finRange, Fin.val_cast]
    unfold evAt
    rw [getElem!_pos _ i h2]
theorem done_dec (code : List UInt8) (K : Nat) (hK : K = (evSeq 0 code).length) (h : ∀ x ∈ List.finRange K, (evAt code x.1).2 = true) : dec 0 code = some (come code (List.finRange K)) := by
  have hall := come_all code K hK
  obtain ⟨h1, h2⟩ := evSeq_dec _ code (Nat.le_refl _) 0
  cases hd : dec 0 code with
  | none =>
    obtain ⟨pre, x, hp⟩ := h2 hd
    have hm : (x, false) ∈ evSeq 0 code := by rw [hp]; simp
    rw [← hall] at hm
    obtain ⟨y, hy, he⟩ := List.mem_map.1 hm
    have := h y hy
    rw [he] at this
    cases this
  | some l =>
    have := h1 l hd
    rw [← hall] at this
    have h3 := congrArg (List.map Prod.fst) this
    rw [List.map_map, List.map_map] at h3
    have : (l.map (Prod.fst ∘ fun x => (x, true))) = l := by simp [Function.comp_def]
    rw [this] at h3
    rw [← h3]
    rfl
theorem stop_dec (code : List UInt8) (K : Nat) (hK : K = (evSeq 0 code).length) (x : Fin K) (h : (evAt code x.1).2 = false) : dec 0 code = none := by
  have hall := come_all code K hK
  obtain ⟨h1, _⟩ := evSeq_dec _ code (Nat.le_refl _) 0
  cases hd : dec 0 code with
  | none => rfl
  | some l =>
    have := h1 l hd
    rw [← hall] at this
    have hm : evAt code x.1 ∈ (List.finRange K).map (fun x => evAt code x.1) := List.mem_map.2 ⟨x, List.mem_finRange x, rfl⟩
    rw [this] at hm
    obtain ⟨y, _, he⟩ := List.mem_map.1 hm
    rw [← he] at h
    cases h
/-- An append whose run is known, inside a fence. -/
theorem wpListIn_append_known {F : Fence} {n : Nat} {P : Program} {ops : Array Oper} {rest : List Oper} {o : Oper} {a : Act} {w : World} {Q : Exit → Act → World → Prop} (hgd : o.guard = none) (d s : Operand) (t t' : TypeId)
    (ho : o.op = .call { callee := .builtin .append, args := #[d, s], argTypes := #[t, t'] }) (v u : Value) (hd : a.eval d = v) (hs : a.eval s = u) {v' : Value} {w' : World}
    (hr : (Builtin.append_ #[t, t'] o.type #[v, u]).run P w = .ok v' w') (h : wpListIn F n P ops Q rest (a.put o.dst v') w') : wpListIn F n P ops Q (o :: rest) a w := by
  refine wpListIn_plain hgd fun K hK => ?_
  unfold Oper.wpIn
  refine ⟨by simp [Oper.about, ho, resolve, Target.leads, Sem.run_pure], ?_⟩
  rw [Oper.semAt_plain F _ _ (by rw [ho]; intro c hc'; cases hc')]
  simp [execOp, ho, resolve, invoke, builtin, hd, hs, hr, Result.andThen]
  exact hK _ _ h
/-- append of an instruction onto a row of the call's own. -/
theorem append_ins (w : World) (base : Nat) (v : Value) (l : List Ins) (x : Ins) (hown : w.ownsRow base 66 4 v l.length (insL l)) (b : Nat) (hA : Arr w b 66 (insC x)) (hl : l.length ≤ 1000000) (hb : base ≤ w.heap.size) :
    ∃ v' w', (Builtin.append_ #[56, 56] 56 #[v, .slice (some ⟨b, 0, none⟩) 1 1]).run Tryd.prog w = .ok v' w' ∧ w'.ownsRow base 66 4 v' (l ++ [x]).length (insL (l ++ [x])) ∧ w.grownBy w' v.ownBlock := by
  obtain ⟨i0, hi, hz0, hz1, hz2⟩ := info_parts info_ins
  have hcells : ∀ j u, (insC x)[j]? = some u → w.cell? ((⟨b, 0, none⟩ : Addr).add j) = some u := by
    intro j u hu
    rw [Addr.add_mid, Nat.zero_add]
    exact hA.cell hu
  have hone : ∀ u ∈ insC x, u.oneCell' = true := by
    intro u hu
    simp only [insC, List.mem_cons, List.not_mem_nil, or_false] at hu
    rcases hu with rfl | rfl | rfl | rfl <;> rfl
  obtain ⟨v', w', hrun, r1, r2, r3, _⟩ := run_append_own_at (P := Tryd.prog) w base 56 56 66 i0 (.agg #[.int .i64 0, .int .i64 0, .int .i64 0, .int .i64 0]) 4 32 Tryd.underlying56 hi hz0 hz1 hz2 rfl (by decide) v l.length (insL l) hown ⟨b, 0, none⟩ 1 1 (insC x) rfl hcells hone (by unfold maxLen; omega) (by omega) hb
  exact ⟨v', w', hrun, by rw [List.length_append, insL_snoc]; exact r1, r2⟩
theorem arr_kept' {W W' : World} {row : Option Nat} {B : Nat} {T : TypeId} {v : Value} (h : Boxed W B T v) (hg : W.grownBy W' row) (hr : ∀ r, row = some r → ∃ o : Obj, W.heap[r]? = some o ∧ o.isCells = false) : Boxed W' B T v := by
  refine (hg.block B h.lt (fun e => ?_)).trans h
  obtain ⟨o, ho, hc⟩ := hr B e.symm
  rw [show W.heap[B]? = _ from h] at ho; injection ho with ho; subst ho; cases hc
theorem formed_nodec {code : List UInt8} (h : dec 0 code = none) : formed code = none := by
  unfold formed
  split
  · rfl
  · rw [h]
theorem formed_nolead {code : List UInt8} {l : List Ins} (hd : dec 0 code = some l) {i : Nat} (hi : i < l.length) (hl : leadOp l[i]!.op = true) (hn : idxOf l l[i]!.opd = none) : formed code = none := by
  cases hf : formed code with
  | none => rfl
  | some l' =>
    obtain ⟨_, _, h3, _, h5⟩ := formed_parts hf
    rw [hd] at h3
    injection h3 with h3
    subst h3
    obtain ⟨j, hj⟩ := h5.leads i hi hl
    rw [hn] at hj
    cases hj
theorem keepsFrom_below {B : Nat} {W W' : World} (h : Below W.heap.size W W') : KeepsFrom B W W' := ⟨h.size, fun k _ _ hk _ => (h.block k (Array.getElem?_eq_some_iff.1 hk).1).trans hk⟩
theorem KeepB.of_below {b1 b2 : Nat} {W W' : World} (h : Below W.heap.size W W') (h1 : b1 < W.heap.size) (h2 : b2 < W.heap.size) : KeepB b1 b2 W W' := ⟨h.block b1 h1, h.block b2 h2⟩
theorem boxed_below {W W' : World} {b : Nat} {t : TypeId} {v : Value} (h : Boxed W b t v) (hb : Below W.heap.size W W') : Boxed W' b t v := (hb.block b h.lt).trans h
theorem boxed_arr {W : World} {b : Nat} {t : TypeId} {v : Value} (h : Boxed W b t v) : Arr W b t [v] := h
theorem arr_boxed {W : World} {b : Nat} {t : TypeId} {v : Value} (h : Arr W b t [v]) : Boxed W b t v := h
/-- What lies while program's first loop goes on. -/
structure PI (code : List UInt8) (w : World) {K : Nat} (pre : List (Fin K)) (W : World) : Prop where
  row : ∃ v, Boxed W (w.heap.size + 1 + 1) 56 v ∧ W.ownsRow w.heap.size 66 4 v (come code pre).length (insL (come code pre))
  res : Boxed W w.heap.size 56 (.slice none 0 0)
  ok : Boxed W (w.heap.size + 1) 4 (.bool false)
  txt : Boxed W (w.heap.size + 3) 9 (.string (str code))
  all : ∀ x ∈ pre, (evAt code x.1).2 = true
theorem PI.below {code : List UInt8} {w W W' : World} {K : Nat} {pre : List (Fin K)} (h : PI code w pre W) (hb : Below W.heap.size W W') : PI code w pre W' := by
  obtain ⟨v, h1, h2⟩ := h.row
  exact ⟨⟨v, boxed_below h1 hb, own_below h2 hb⟩, boxed_below h.res hb, boxed_below h.ok hb, boxed_below h.txt hb, h.all⟩
theorem PI.own (code : List UInt8) (w : World) (K : Nat) : Own (fun (pre : List (Fin K)) W => PI code w pre W) := fun pre A B row h hg hr => by
  obtain ⟨v, h1, h2⟩ := h.row
  have hk : ∀ {b t u}, Boxed A b t u → Boxed B b t u := fun {b t u} hb => arr_kept' hb hg hr
  refine ⟨⟨v, hk h1, h2.kept hg ?_⟩, hk h.res, hk h.ok, hk h.txt, h.all⟩
  rcases h2.2 with ⟨rfl, _⟩ | ⟨g, cap, cur, rfl, _, hgb, _⟩
  · exact .inl rfl
  · refine .inr fun e' => ?_
    obtain ⟨o, ho, hc⟩ := hr g (by simpa [Value.ownBlock] using e'.symm)
    rw [hgb] at ho; cases ho; cases hc
/-- Where a round has left the loop. -/
structure PX (code : List UInt8) (w : World) (K : Nat) (W : World) : Prop where
  bad : ∃ x : Fin K, (evAt code x.1).2 = false
  res : Boxed W w.heap.size 56 (.slice none 0 0)
  ok : Boxed W (w.heap.size + 1) 4 (.bool false)
theorem PX.own {β : Type} (code : List UInt8) (w : World) (K : Nat) : Own (fun (_ : β) W => PX code w K W) := fun _ _ _ _ h hg hr =>
  ⟨h.bad, arr_kept' h.res hg hr, arr_kept' h.ok hg hr⟩
theorem evSeq_len : ∀ (n : Nat) (bs : List UInt8), bs.length ≤ n → ∀ a : Nat, (evSeq a bs).length ≤ bs.length
  | _, [], _, _ => by simp [evSeq]
  | 0, _ :: _, h, _ => by simp at h
  | n + 1, [o], _, a => by
    rw [evSeq]
    split
    · simp
    · split <;> simp
  | n + 1, [o, b], hl, a => by
    have h2 := evSeq_len n [b] (by simp at hl ⊢; omega) (a + 1)
    rw [evSeq]
    split
    · simp
    · split
      · simp
      · simp at h2 ⊢; omega
  | n + 1, o :: b :: c :: r, hl, a => by
    have h1 := evSeq_len n r (by simp at hl ⊢; omega) (a + 3)
    have h2 := evSeq_len n (b :: c :: r) (by simp at hl ⊢; omega) (a + 1)
    rw [evSeq]
    split
    · simp
    · split
      · simp at h1 ⊢; omega
      · simp at h2 ⊢; omega
theorem evSeq_pos (code : List UInt8) (h : code ≠ []) : 0 < (evSeq 0 code).length := by
  cases code with
  | nil => exact absurd rfl h
  | cons o r =>
    obtain ⟨e, nx, _, hs⟩ := evSeq_step (o :: r) 0 (by simp)
    rw [List.drop_zero] at hs
    rw [hs]
    simp
def tosK (l : List Ins) (k i : Nat) : Nat := if i < k then toOf l l[i]! else 0
theorem insRow_of_cur {W : World} {g : Nat} {cur : Array Value} {T : TypeId} {L : List Ins} (hg : W.heap[g]? = some (.cells cur T (0, 0))) (ht : cur.toList.take (L.length * 4) = insL L) : InsRow W g 0 L (tosK L 0) := fun i hi => by
  have key : ∀ j, j < 4 → W.cell? ⟨g, i * 4 + j, none⟩ = (insC L[i]!)[j]? := fun j hj => by
    rw [← insL_at L i j hi hj, ← ht, List.getElem?_take, if_pos (by omega)]
    simp only [World.cell?, hg]
    simp
  simp only [Nat.zero_add]
  have e : tosK L 0 i = 0 := by simp [tosK]
  rw [e]
  exact ⟨key 0 (by omega), key 1 (by omega), key 2 (by omega), key 3 (by omega)⟩
/-- What lies while program's second loop goes on. -/
structure PL (w : World) (L : List Ins) (g cap D k : Nat) (W : World) : Prop where
  blk : ∃ cur, W.heap[g]? = some (.cells cur 66 (0, 0))
  row : InsRow W g 0 L (tosK L k)
  mark : W.heap[D]? = some (.deferred (some []))
  res : Boxed W w.heap.size 56 (.slice none 0 0)
  ok : Boxed W (w.heap.size + 1) 4 (.bool false)
  lst : Boxed W (w.heap.size + 1 + 1) 56 (.slice (some ⟨g, 0, none⟩) L.length cap)
  bel : Below w.heap.size w W
  ledd : ∀ i, i < k → leadOp L[i]!.op = true → ∃ j, idxOf L L[i]!.opd = some j
theorem insRow_set {W : World} {g k t : Nat} {L : List Ins} (h : InsRow W g 0 L (tosK L k)) (hk : k < L.length) (ht : t = toOf L L[k]!) : InsRow (W.setCell ⟨g, k * 4 + 3, none⟩ (.int .i64 (t : Int))) g 0 L (tosK L (k + 1)) := fun i hi => by
  obtain ⟨h0, h1, h2, h3⟩ := h i hi
  simp only [Nat.zero_add] at h0 h1 h2 h3 ⊢
  have oth : ∀ o, o ≠ k * 4 + 3 → (W.setCell ⟨g, k * 4 + 3, none⟩ (.int .i64 (t : Int))).cell? ⟨g, o, none⟩ = W.cell? ⟨g, o, none⟩ := fun o ho => World.cell?_setCell_other _ _ _ _ (by intro e; injection e with _ e; exact ho e.symm)
  refine ⟨(oth _ (by omega)).trans h0, (oth _ (by omega)).trans h1, (oth _ (by omega)).trans h2, ?_⟩
  by_cases e : i = k
  · subst e
    rw [tosK, if_pos (by omega), ← ht]
    exact World.cell?_setCell_same' _ _ _ (by rw [h3]; rfl)
  · refine (oth _ (by omega)).trans (h3.trans ?_)
    unfold tosK
    by_cases hlt : i < k
    · rw [if_pos hlt, if_pos (by omega)]
    · rw [if_neg hlt, if_neg (by omega)]
theorem insRow_skip {W : World} {g k : Nat} {L : List Ins} (h : InsRow W g 0 L (tosK L k)) (hl : leadOp L[k]!.op = false) : InsRow W g 0 L (tosK L (k + 1)) := fun i hi => by
  obtain ⟨h0, h1, h2, h3⟩ := h i hi
  refine ⟨h0, h1, h2, h3.trans ?_⟩
  unfold tosK
  by_cases e : i = k
  · subst e
    rw [if_neg (by omega), if_pos (by omega), toOf, hl]
    rfl
  · by_cases hlt : i < k
    · rw [if_pos hlt, if_pos (by omega)]
    · rw [if_neg hlt, if_neg (by omega)]
theorem PL.below {w W W' : World} {L : List Ins} {g cap D k : Nat} (h : PL w L g cap D k W) (hb : Below W.heap.size W W') : PL w L g cap D k W' := by
  obtain ⟨cur, hc⟩ := h.blk
  have hg := hb.block g (Array.getElem?_eq_some_iff.1 hc).1
  exact ⟨⟨cur, hg.trans hc⟩, h.row.keep hg, (hb.block D (Array.getElem?_eq_some_iff.1 h.mark).1).trans h.mark, boxed_below h.res hb, boxed_below h.ok hb, boxed_below h.lst hb, h.bel.trans (hb.mono h.bel.size), h.ledd⟩
theorem dec_bound : ∀ (n : Nat) (bs : List UInt8), bs.length ≤ n → ∀ (a : Nat) (l : List Ins), dec a bs = some l → ∀ x ∈ l, x.off < a + bs.length ∧ x.opd < 65536
  | _, [], _, a, l, h => by
    rw [dec] at h
    injection h with h
    subst h
    simp
  | 0, _ :: _, h, _, _, _ => by simp at h
  | n + 1, [o], _, a, l, h => by
    rw [dec] at h
    split at h
    · cases h
    · split at h
      · cases h
      · injection h with h
        subst h
        simp
  | n + 1, [o, b], hl, a, l, h => by
    rw [dec] at h
    split at h
    · cases h
    · split at h
      · cases h
      · obtain ⟨r, hr, rfl⟩ := Option.map_eq_some_iff.1 h
        have ih := dec_bound n [b] (by simp at hl ⊢; omega) _ _ hr
        intro x hx
        rcases List.mem_cons.1 hx with rfl | hx
        · simp
        · have := ih x hx
          simp at this ⊢; omega
  | n + 1, o :: b :: c :: r, hl, a, l, h => by
    rw [dec] at h
    split at h
    · cases h
    · split at h
      · obtain ⟨q, hq, rfl⟩ := Option.map_eq_some_iff.1 h
        have ih := dec_bound n r (by simp at hl ⊢; omega) _ _ hq
        have := b.toNat_lt
        have := c.toNat_lt
        intro x hx
        rcases List.mem_cons.1 hx with rfl | hx
        · simp; omega
        · have := ih x hx
          simp at this ⊢; omega
      · obtain ⟨q, hq, rfl⟩ := Option.map_eq_some_iff.1 h
        have ih := dec_bound n (b :: c :: r) (by simp at hl ⊢; omega) _ _ hq
        intro x hx
        rcases List.mem_cons.1 hx with rfl | hx
        · simp
        · have := ih x hx
          simp at this ⊢; omega
theorem dec_bnd {code : List UInt8} {l : List Ins} (h : dec 0 code = some l) {i : Nat} (hi : i < l.length) : l[i]!.off < code.length ∧ l[i]!.opd < 65536 := by
  have := dec_bound _ code (Nat.le_refl _) _ _ h l[i]! (by rw [getElem!_pos l i hi]; exact List.getElem_mem hi)
  omega
/-- Where no panic can come. -/
def onlyNormal (Q : Exit → Act → World → Prop) : Exit → Act → World → Prop
  | .normal, a, w => Q .normal a w
  | _, _, _ => False
theorem wp_norm {P : Program} {c : Code} {Q : Exit → Act → World → Prop} {a : Act} {w : World} (h : c.wp P (onlyNormal Q) a w) : c.wp P Q a w :=
  wp_mono h fun e a w h => by cases e <;> first | exact h | exact h.elim

end Go.Proofs.YtainohbfcehpoaaDoor
namespace Go.Proofs.YtainohbfcehpoaaDoor
open Go.Lib

def outN (l : List Ins) (x : Ins) : Nat := if leadOp x.op then toOf l x else x.opd
def lineT (o n : Nat) : List UInt8 := opName o ++ if longOp o then 32 :: decDigits n else []
def textT (l : List Ins) : List UInt8 := l.flatMap fun x => lineT x.op (outN l x) ++ [10]
/-- A numeral as it is printed, at most 65535. -/
def numC (s : List UInt8) : Option Nat := match numv s with
  | some v => if 0 ≤ v ∧ v ≤ 65535 ∧ itoa v = s then some v.toNat else none
  | none => none
theorem numC_mk {n : Nat} (h : n ≤ 65535) : numC (decDigits n) = some n := by
  unfold numC
  rw [← itoa_nat, numv_itoa (by omega)]
  dsimp only
  rw [if_pos ⟨by omega, by omega, rfl⟩, Int.toNat_natCast]
theorem numC_some {s : List UInt8} {n : Nat} (h : numC s = some n) : n ≤ 65535 ∧ decDigits n = s := by
  unfold numC at h
  cases hv : numv s with
  | none => rw [hv] at h; cases h
  | some v =>
    rw [hv] at h
    dsimp only at h
    split at h
    · rename_i hh
      injection h with h
      subst h
      obtain ⟨h1, h2, h3⟩ := hh
      refine ⟨by omega, ?_⟩
      rw [← itoa_nat, Int.toNat_of_nonneg h1]
      exact h3
    · cases h
def opOf (name : List UInt8) (long : Bool) : Option Nat := (List.range 12).find? fun o => opName o == name && longOp o == long
theorem opOf_some {name : List UInt8} {long : Bool} {o : Nat} (h : opOf name long = some o) : o < 12 ∧ opName o = name ∧ longOp o = long := by
  have h1 := List.find?_some h
  have h2 := List.mem_of_find?_eq_some h
  simp only [Bool.and_eq_true, beq_iff_eq] at h1
  exact ⟨by simpa using h2, h1.1, h1.2⟩
theorem opOf_mk {o : Nat} (h : o < 12) : opOf (opName o) (longOp o) = some o := by
  have h12 : o = 0 ∨ o = 1 ∨ o = 2 ∨ o = 3 ∨ o = 4 ∨ o = 5 ∨ o = 6 ∨ o = 7 ∨ o = 8 ∨ o = 9 ∨ o = 10 ∨ o = 11 := by omega
  rcases h12 with rfl | rfl | rfl | rfl | rfl | rfl | rfl | rfl | rfl | rfl | rfl | rfl <;> decide
theorem opName_no {c : UInt8} (hc : c.toNat < 97) {o : Nat} (h : o < 12) : ∀ x ∈ opName o, x ≠ c := by
  have h12 : o = 0 ∨ o = 1 ∨ o = 2 ∨ o = 3 ∨ o = 4 ∨ o = 5 ∨ o = 6 ∨ o = 7 ∨ o = 8 ∨ o = 9 ∨ o = 10 ∨ o = 11 := by omega
  have key : ∀ x ∈ opName o, 97 ≤ x.toNat := by
    rcases h12 with rfl | rfl | rfl | rfl | rfl | rfl | rfl | rfl | rfl | rfl | rfl | rfl <;> decide
  intro x hx e
  have := key x hx
  rw [e] at this
  omega
/-- A line; none if it is not as it may be printed. -/
def readT (s : List UInt8) : Option (Nat × Nat) :=
  match opOf (cut s [32]).1 (cut s [32]).2.2 with
  | none => none
  | some o => if longOp o then (numC (cut s [32]).2.1).map fun n => (o, n) else some (o, 0)
theorem readT_line {o n : Nat} (ho : o < 12) (hn : n ≤ 65535) (h0 : longOp o = false → n = 0) : readT (lineT o n) = some (o, n) := by
  have hop := opOf_mk ho
  cases hl : longOp o with
  | true =>
    rw [hl] at hop
    have e : lineT o n = opName o ++ 32 :: decDigits n := by rw [lineT, hl]; rfl
    have hc : cut (lineT o n) [32] = (opName o, decDigits n, true) := by rw [e]; exact cut_hit (opName_no (by decide) ho)
    unfold readT
    rw [hc]
    dsimp only
    rw [hop]
    dsimp only
    rw [hl, if_pos rfl, numC_mk hn]
    rfl
  | false =>
    rw [hl] at hop
    have e : lineT o n = opName o := by rw [lineT, hl]; simp
    have hc : cut (lineT o n) [32] = (opName o, [], false) := by rw [e]; exact cut_miss (opName_no (by decide) ho)
    unfold readT
    rw [hc]
    dsimp only
    rw [hop]
    dsimp only
    rw [hl, h0 hl]
    rfl
theorem readT_some {s : List UInt8} {o n : Nat} (h : readT s = some (o, n)) : s = lineT o n ∧ o < 12 ∧ n ≤ 65535 ∧ (longOp o = false → n = 0) := by
  unfold readT at h
  rcases cut_one 32 s with ⟨p, hp, hc⟩ | ⟨p, r, _, hc, hs⟩
  · have hps : p = s := by
      have := glue_cutAll 32 s
      rw [hp] at this
      exact this
    subst hps
    rw [hc] at h
    dsimp only at h
    cases ho : opOf p false with
    | none => rw [ho] at h; cases h
    | some o' =>
      rw [ho] at h
      dsimp only at h
      obtain ⟨h1, h2, h3⟩ := opOf_some ho
      rw [h3, if_neg (by decide)] at h
      injection h with h
      injection h with e1 e2
      subst e1 e2
      exact ⟨by rw [lineT, h3, ← h2]; simp, h1, by omega, fun _ => rfl⟩
  · rw [hc] at h
    dsimp only at h
    cases ho : opOf p true with
    | none => rw [ho] at h; cases h
    | some o' =>
      rw [ho] at h
      dsimp only at h
      obtain ⟨h1, h2, h3⟩ := opOf_some ho
      rw [h3, if_pos rfl] at h
      obtain ⟨n', hn, he⟩ := Option.map_eq_some_iff.1 h
      injection he with e1 e2
      subst e1 e2
      obtain ⟨q1, q2⟩ := numC_some hn
      exact ⟨by rw [hs, lineT, h3, ← h2, ← q2]; rfl, h1, q1, fun hh => by rw [h3] at hh; cases hh⟩
/-- The lines of a text; left: the number of the line that is wrong. -/
def scan : List (List UInt8) → Nat → List Ins → Nat ⊕ List Ins
  | [], _, acc => .inr acc
  | [p], _, acc => if p = [] then .inr acc else .inl (acc.length + 1)
  | p :: q :: r, size, acc => match readT p with
    | none => .inl (acc.length + 1)
    | some x => if 1024 < size + simLen x.1 then .inl (acc.length + 1) else scan (q :: r) (size + simLen x.1) (acc ++ [⟨size, x.1, x.2⟩])
def codeB (l : List Ins) : List UInt8 := l.flatMap fun x => simB x.op (if leadOp x.op then l[x.opd]!.off else x.opd)
def badLead (l : List Ins) : Option Nat := l.findIdx? fun x => leadOp x.op && decide (l.length ≤ x.opd)
/-- P8.4: what Parse returns. -/
def parse8 (s : List UInt8) : List UInt8 × Nat × Int := match scan (cutAll 10 s) 0 [] with
  | .inl k => ([], k, 80)
  | .inr l => if l = [] then ([], 1, 80) else match badLead l with
    | some i => ([], i + 1, 80)
    | none => (codeB l, 0, 0)
/-- P8.4: what Print returns. -/
def print8 (code : List UInt8) : List UInt8 × Int := match formed code with
  | some l => (textT l, 0)
  | none => ([], 80)

/-- The bytes of instructions. -/
def flatB (l : List Ins) : List UInt8 := l.flatMap fun x => simB x.op x.opd
def sizeL (l : List Ins) : Nat := (l.map fun x => simLen x.op).sum
theorem flatB_cons (x : Ins) (l : List Ins) : flatB (x :: l) = simB x.op x.opd ++ flatB l := rfl
theorem flatB_len (l : List Ins) : (flatB l).length = sizeL l := by
  induction l with
  | nil => rfl
  | cons x l ih => simp only [flatB, sizeL, List.flatMap_cons, List.length_append, simB_len, List.map_cons, List.sum_cons] at ih ⊢; omega
structure Neat (x : Ins) : Prop where
  lt : x.op < 12
  opd : x.opd < 65536
  zero : longOp x.op = false → x.opd = 0
theorem dec_flat : ∀ (l : List Ins) (a : Nat) (r : List UInt8), Laid a l → (∀ x ∈ l, Neat x) → dec a (flatB l ++ r) = (dec (a + sizeL l) r).map (l ++ ·)
  | [], a, r, _, _ => by simp [flatB, sizeL]
  | x :: l, a, r, hL, hN => by
    cases hL with
    | cons hx ho hr =>
      have hn := hN x (by simp)
      have e : simI a x.op x.opd = x := by
        obtain ⟨off, op, opd⟩ := x
        simp only at hx
        subst hx
        unfold simI
        cases hl : longOp op with
        | true => rfl
        | false =>
          have := hn.zero hl
          simp only at this
          subst this
          rfl
      have ih := dec_flat l (a + simLen x.op) r (by unfold simLen; exact hr) (fun y hy => hN y (by simp [hy]))
      rw [show flatB (x :: l) ++ r = simB x.op x.opd ++ (flatB l ++ r) by simp [flatB], dec_sim _ _ _ _ ho hn.opd, ih, Option.map_map, e]
      congr 1
      simp [sizeL, Nat.add_assoc]
theorem dec_neat : ∀ (n : Nat) (bs : List UInt8), bs.length ≤ n → ∀ (a : Nat) (l : List Ins), dec a bs = some l → (∀ x ∈ l, Neat x) ∧ bs = flatB l
  | _, [], _, a, l, h => by
    rw [dec] at h
    injection h with h
    subst h
    exact ⟨by simp, rfl⟩
  | 0, _ :: _, h, _, _, _ => by simp at h
  | n + 1, [o], _, a, l, h => by
    rw [dec] at h
    split at h
    · cases h
    · split at h
      · cases h
      · rename_i h1 h2
        injection h with h
        subst h
        refine ⟨fun x hx => ?_, ?_⟩
        · rw [List.mem_singleton.1 hx]
          exact ⟨by show o.toNat < 12; omega, by show 0 < 65536; omega, fun _ => rfl⟩
        · simp [flatB, simB, h2]
  | n + 1, [o, b], hl, a, l, h => by
    rw [dec] at h
    split at h
    · cases h
    · split at h
      · cases h
      · rename_i h1 h2
        obtain ⟨r, hr, rfl⟩ := Option.map_eq_some_iff.1 h
        obtain ⟨i1, i2⟩ := dec_neat n [b] (by simp at hl ⊢; omega) _ _ hr
        refine ⟨fun x hx => ?_, ?_⟩
        · rcases List.mem_cons.1 hx with rfl | hx
          · exact ⟨by show o.toNat < 12; omega, by show 0 < 65536; omega, fun _ => rfl⟩
          · exact i1 x hx
        · rw [flatB_cons, ← i2, simB]
          simp [h2]
  | n + 1, o :: b :: c :: r, hl, a, l, h => by
    rw [dec] at h
    split at h
    · cases h
    · rename_i h1
      split at h
      · rename_i h2
        obtain ⟨q, hq, rfl⟩ := Option.map_eq_some_iff.1 h
        obtain ⟨i1, i2⟩ := dec_neat n r (by simp at hl ⊢; omega) _ _ hq
        have hb := b.toNat_lt
        have hc := c.toNat_lt
        refine ⟨fun x hx => ?_, ?_⟩
        · rcases List.mem_cons.1 hx with rfl | hx
          · refine ⟨by show o.toNat < 12; omega, by show 256 * b.toNat + c.toNat < 65536; omega, fun hh => ?_⟩
            have hh' : longOp o.toNat = false := hh
            rw [h2] at hh'
            cases hh'
          · exact i1 x hx
        · rw [flatB_cons, ← i2, simB]
          dsimp only
          rw [if_pos h2]
          have e1 : (256 * b.toNat + c.toNat) / 256 = b.toNat := by omega
          have e2 : (256 * b.toNat + c.toNat) % 256 = c.toNat := by omega
          rw [e1, e2]
          simp
      · rename_i h2
        obtain ⟨q, hq, rfl⟩ := Option.map_eq_some_iff.1 h
        obtain ⟨i1, i2⟩ := dec_neat n (b :: c :: r) (by simp at hl ⊢; omega) _ _ hq
        refine ⟨fun x hx => ?_, ?_⟩
        · rcases List.mem_cons.1 hx with rfl | hx
          · exact ⟨by show o.toNat < 12; omega, by show 0 < 65536; omega, fun _ => rfl⟩
          · exact i1 x hx
        · rw [flatB_cons, ← i2, simB]
          simp [h2]
theorem formed_neat {code : List UInt8} {l : List Ins} (h : formed code = some l) : (∀ x ∈ l, Neat x) ∧ code = flatB l := dec_neat _ code (Nat.le_refl _) _ _ (formed_parts h).2.2.1
/-- What follows a program that is well formed, and is no instruction, makes it ill formed. -/
theorem formed_more {code r : List UInt8} {l : List Ins} (h : formed code = some l) (hr : ∀ a, dec a r = none) : formed (code ++ r) = none := by
  obtain ⟨hN, hc⟩ := formed_neat h
  obtain ⟨_, _, _, hL, _⟩ := formed_parts h
  refine formed_nodec ?_
  rw [hc, dec_flat l 0 r hL hN, hr]
  rfl
end Go.Proofs.YtainohbfcehpoaaDoor
namespace Go.Proofs.YtainohbfcehpoaaDoor
open Go.Lib

theorem cut_lines (c : UInt8) : ∀ ls : List (List UInt8), (∀ p ∈ ls, ∀ x ∈ p, x ≠ c) → cutAll c (ls.flatMap fun p => p ++ [c]) = ls ++ [[]]
  | [], _ => rfl
  | p :: r, h => by
    have ih := cut_lines c r (fun q hq => h q (by simp [hq]))
    rw [List.flatMap_cons, List.append_assoc, List.singleton_append, cutAll_hit c p _ (h p (by simp)), ih]
    rfl
theorem glue_lines (c : UInt8) : ∀ ls : List (List UInt8), glue c (ls ++ [[]]) = ls.flatMap fun p => p ++ [c]
  | [] => rfl
  | [p] => by simp [glue]
  | p :: q :: r => by
    have ih := glue_lines c (q :: r)
    rw [List.flatMap_cons, ← ih]
    simp [glue]
theorem lineT_no {o n : Nat} (h : o < 12) : ∀ x ∈ lineT o n, x ≠ 10 := by
  intro x hx
  unfold lineT at hx
  rcases List.mem_append.1 hx with hx | hx
  · exact opName_no (by decide) h x hx
  · split at hx
    · rcases List.mem_cons.1 hx with rfl | hx
      · decide
      · exact decDigits_no 10 (by decide) n x hx
    · cases hx
def lineI (x : Ins) : List UInt8 := lineT x.op x.opd
/-- The operands as the text has them. -/
def numF (l : List Ins) (x : Ins) : Ins := ⟨x.off, x.op, outN l x⟩
def numbered (l : List Ins) : List Ins := l.map (numF l)
theorem text_lines (l : List Ins) : textT l = ((numbered l).map lineI).flatMap fun p => p ++ [10] := by
  unfold textT numbered
  rw [List.map_map, List.flatMap_map]
  rfl
theorem laid_map (f : Ins → Ins) (h1 : ∀ x, (f x).off = x.off) (h2 : ∀ x, (f x).op = x.op) {a : Nat} {l : List Ins} (h : Laid a l) : Laid a (l.map f) := by
  induction h with
  | nil => exact .nil _
  | cons h ho _ ih => exact .cons (by rw [h1]; exact h) (by rw [h2]; exact ho) (by rw [h2]; exact ih)
theorem sizeL_map (f : Ins → Ins) (h2 : ∀ x, (f x).op = x.op) (l : List Ins) : sizeL (l.map f) = sizeL l := by
  unfold sizeL
  rw [List.map_map]
  congr 1
  exact List.map_congr_left fun x _ => by show simLen (f x).op = _; rw [h2]
theorem scan_lines : ∀ (ys : List Ins) (size : Nat) (acc : List Ins), Laid size ys → (∀ y ∈ ys, readT (lineI y) = some (y.op, y.opd)) → size + sizeL ys ≤ 1024 → scan (ys.map lineI ++ [[]]) size acc = .inr (acc ++ ys)
  | [], _, acc, _, _, _ => by simp [scan]
  | y :: ys, size, acc, hL, hR, hs => by
    cases hL with
    | cons hx ho hr =>
      have hy := hR y (by simp)
      have e : sizeL (y :: ys) = simLen y.op + sizeL ys := by simp [sizeL]
      rw [e] at hs
      have ih := scan_lines ys (size + simLen y.op) (acc ++ [⟨size, y.op, y.opd⟩]) (by unfold simLen; exact hr) (fun z hz => hR z (by simp [hz])) (by omega)
      obtain ⟨q, r, hqr⟩ : ∃ q r, ys.map lineI ++ [[]] = q :: r := by
        cases ys with
        | nil => exact ⟨_, _, rfl⟩
        | cons z zs => exact ⟨_, _, rfl⟩
      rw [List.map_cons, List.cons_append]
      rw [hqr] at ih ⊢
      rw [scan, hy]
      dsimp only
      rw [if_neg (by omega), ih]
      have e2 : (⟨size, y.op, y.opd⟩ : Ins) = y := by
        obtain ⟨off, op, opd⟩ := y
        simp only at hx
        subst hx
        rfl
      rw [e2]
      simp
theorem toOf_lt {l : List Ins} (hF : Form l) {i : Nat} (hi : i < l.length) (hl : leadOp l[i]!.op = true) : toOf l l[i]! < l.length ∧ l[toOf l l[i]!]!.off = l[i]!.opd := idxOf_some (hF.to hi hl)
theorem mem_at {l : List Ins} {x : Ins} (h : x ∈ l) : ∃ i, i < l.length ∧ l[i]! = x := by
  obtain ⟨i, hi, rfl⟩ := List.getElem_of_mem h
  exact ⟨i, hi, getElem!_pos l i hi⟩
theorem map_at (f : Ins → Ins) {l : List Ins} {i : Nat} (h : i < l.length) : (l.map f)[i]! = f l[i]! := by
  rw [getElem!_pos _ i (by simpa using h), List.getElem_map, getElem!_pos l i h]
theorem longOp_lead {o : Nat} (h : leadOp o = true) : longOp o = true := by
  simp only [leadOp, longOp, Bool.or_eq_true, beq_iff_eq] at h ⊢
  omega
/-- P8.4: the text of a program that is well formed is parsed into the program. -/
theorem parse_text {code : List UInt8} {l : List Ins} (h : formed code = some l) : parse8 (textT l) = (code, 0, 0) := by
  obtain ⟨hN, hc⟩ := formed_neat h
  obtain ⟨hne, hlen, hdec, hL, hF⟩ := formed_parts h
  have hl0 : l ≠ [] := by
    rintro rfl
    exact hne hc
  have hll : l.length ≤ 1024 := by
    have h1 := (evSeq_dec _ code (Nat.le_refl _) 0).1 l hdec
    have h2 := evSeq_len _ code (Nat.le_refl _) 0
    rw [h1, List.length_map] at h2
    omega
  have hout : ∀ x ∈ l, outN l x ≤ 65535 ∧ (longOp x.op = false → outN l x = 0) := by
    intro x hx
    obtain ⟨i, hi, rfl⟩ := mem_at hx
    unfold outN
    cases hld : leadOp l[i]!.op with
    | true =>
      have := (toOf_lt hF hi hld).1
      refine ⟨by rw [if_pos rfl]; omega, fun hh => ?_⟩
      rw [longOp_lead hld] at hh
      cases hh
    | false =>
      have := hN _ hx
      refine ⟨?_, fun hh => ?_⟩
      · have := this.opd
        simp only [Bool.false_eq_true, if_false]
        omega
      · simp only [Bool.false_eq_true, if_false]
        exact this.zero hh
  have hsc : scan (cutAll 10 (textT l)) 0 [] = .inr (numbered l) := by
    rw [text_lines, cut_lines]
    · have := scan_lines (numbered l) 0 [] (laid_map (numF l) (fun _ => rfl) (fun _ => rfl) hL) (fun y hy => ?_) ?_
      · simpa using this
      · obtain ⟨x, hx, rfl⟩ := List.mem_map.1 hy
        exact readT_line (hN x hx).lt (hout x hx).1 (hout x hx).2
      · unfold numbered
        rw [sizeL_map (numF l) (fun _ => rfl), ← flatB_len, ← hc]
        omega
    · intro p hp
      obtain ⟨y, hy, rfl⟩ := List.mem_map.1 hp
      obtain ⟨x, hx, rfl⟩ := List.mem_map.1 hy
      exact lineT_no (hN x hx).lt
  have hnl : (numbered l).length = l.length := by simp [numbered]
  have hbad : badLead (numbered l) = none := by
    unfold badLead
    rw [List.findIdx?_eq_none_iff]
    intro y hy
    obtain ⟨x, hx, rfl⟩ := List.mem_map.1 hy
    obtain ⟨i, hi, rfl⟩ := mem_at hx
    show (leadOp l[i]!.op && decide ((numbered l).length ≤ outN l l[i]!)) = false
    cases hld : leadOp l[i]!.op with
    | false => rfl
    | true =>
      have := (toOf_lt hF hi hld).1
      have e : outN l l[i]! = toOf l l[i]! := by unfold outN; rw [hld]; rfl
      rw [e, hnl, Bool.true_and, decide_eq_false_iff_not]
      omega
  have hcode : codeB (numbered l) = code := by
    conv => rhs; rw [hc]
    unfold codeB flatB
    conv => lhs; unfold numbered
    rw [List.flatMap_map]
    rw [List.flatMap_def, List.flatMap_def]
    congr 1
    refine List.map_congr_left fun x hx => ?_
    obtain ⟨i, hi, rfl⟩ := mem_at hx
    show simB l[i]!.op (if leadOp l[i]!.op then ((l.map (numF l))[outN l l[i]!]!).off else outN l l[i]!) = simB l[i]!.op l[i]!.opd
    cases hld : leadOp l[i]!.op with
    | false =>
      have e : outN l l[i]! = l[i]!.opd := by unfold outN; rw [hld]; rfl
      rw [e]
      rfl
    | true =>
      have e : outN l l[i]! = toOf l l[i]! := by unfold outN; rw [hld]; rfl
      obtain ⟨h1, h2⟩ := toOf_lt hF hi hld
      rw [e, if_pos rfl]
      congr 1
      rw [← h2]
      have := map_at (numF l) h1
      rw [this]
      rfl
  unfold parse8
  rw [hsc]
  dsimp only
  rw [if_neg (by intro e; apply hl0; simpa [numbered] using e), hbad, hcode]
theorem laid_off : ∀ {l : List Ins} {a : Nat} (_ : Laid a l) {i : Nat} (_ : i < l.length) {m : Nat} (_ : a + sizeL l ≤ m), l[i]!.off < m
  | [], _, _, i, hi, _, _ => by simp at hi
  | x :: l, a, hL, i, hi, m, hm => by
    cases hL with
    | cons hx ho hr =>
      have e : sizeL (x :: l) = simLen x.op + sizeL l := by simp [sizeL]
      rw [e] at hm
      have h1 : 1 ≤ simLen x.op := by unfold simLen; split <;> omega
      cases i with
      | zero => rw [List.getElem!_cons_zero]; omega
      | succ i =>
        rw [List.getElem!_cons_succ]
        exact laid_off hr (by simpa using hi) (by unfold simLen at hm; omega)
/-- What scan has accepted. -/
theorem scan_inr : ∀ (ps : List (List UInt8)) (size : Nat) (acc l : List Ins), ps ≠ [] → scan ps size acc = .inr l → ∃ ys, l = acc ++ ys ∧ ps = ys.map lineI ++ [[]] ∧ Laid size ys ∧ (∀ y ∈ ys, Neat y) ∧ (ys = [] ∨ size + sizeL ys ≤ 1024)
  | [], _, _, _, h, _ => absurd rfl h
  | [p], size, acc, l, _, h => by
    rw [scan] at h
    split at h
    · rename_i hp
      injection h with h
      exact ⟨[], by simp [h], by simp [hp], .nil _, by simp, .inl rfl⟩
    · cases h
  | p :: q :: r, size, acc, l, _, h => by
    rw [scan] at h
    cases hp : readT p with
    | none => rw [hp] at h; cases h
    | some x =>
      obtain ⟨o, n⟩ := x
      rw [hp] at h
      dsimp only at h
      split at h
      · cases h
      · rename_i hs
        obtain ⟨ys, h1, h2, h3, h4, h5⟩ := scan_inr (q :: r) _ _ _ (by simp) h
        obtain ⟨q1, q2, q3, q4⟩ := readT_some hp
        refine ⟨⟨size, o, n⟩ :: ys, by simp [h1], by rw [h2, q1]; rfl, .cons rfl q2 (by have := h3; unfold simLen at this; exact this), fun y hy => ?_, .inr ?_⟩
        · rcases List.mem_cons.1 hy with rfl | hy
          · exact ⟨q2, by show n < 65536; omega, q4⟩
          · exact h4 y hy
        · have e : sizeL ((⟨size, o, n⟩ : Ins) :: ys) = simLen o + sizeL ys := by simp [sizeL]
          rw [e]
          rcases h5 with rfl | h5
          · simp [sizeL]; omega
          · omega
def resF (l : List Ins) (x : Ins) : Ins := ⟨x.off, x.op, if leadOp x.op then l[x.opd]!.off else x.opd⟩
def resolved (l : List Ins) : List Ins := l.map (resF l)
/-- P8.4: what is parsed is well formed, and its text is what was parsed. -/
theorem text_parse {s code : List UInt8} {k : Nat} (h : parse8 s = (code, k, 0)) : k = 0 ∧ ∃ l, formed code = some l ∧ textT l = s := by
  unfold parse8 at h
  cases hs : scan (cutAll 10 s) 0 [] with
  | inl k' => rw [hs] at h; injection h with _ h; injection h with _ h; cases h
  | inr ys =>
    rw [hs] at h
    dsimp only at h
    split at h
    · injection h with _ h; injection h with _ h; cases h
    · rename_i hne
      cases hb : badLead ys with
      | some i => rw [hb] at h; injection h with _ h; injection h with _ h; cases h
      | none =>
        rw [hb] at h
        injection h with h1 h
        injection h with h2 _
        subst h1 h2
        obtain ⟨ys', e1, e2, hL, hN, hsz⟩ := scan_inr _ _ _ _ (cutAll_ne 10 s) hs
        rw [List.nil_append] at e1
        subst e1
        have hsz' : sizeL ys ≤ 1024 := by
          rcases hsz with h | h
          · exact absurd h hne
          · omega
        unfold badLead at hb
        rw [List.findIdx?_eq_none_iff] at hb
        have hlead : ∀ x ∈ ys, leadOp x.op = true → x.opd < ys.length := fun x hx hl => by
          have := hb x hx
          rw [hl, Bool.true_and] at this
          simpa using this
        have hL2 : Laid 0 (resolved ys) := laid_map (resF ys) (fun _ => rfl) (fun _ => rfl) hL
        have hlen2 : (resolved ys).length = ys.length := by simp [resolved]
        have hres : ∀ i, i < ys.length → (resolved ys)[i]! = ⟨ys[i]!.off, ys[i]!.op, if leadOp ys[i]!.op then ys[ys[i]!.opd]!.off else ys[i]!.opd⟩ := fun i hi => map_at _ hi
        have hoff : ∀ i, i < ys.length → ys[i]!.off < 1024 := fun i hi => laid_off hL hi (by omega)
        have hcode : codeB ys = flatB (resolved ys) := by
          unfold codeB flatB resolved
          rw [List.flatMap_map]
          rfl
        have hN2 : ∀ x ∈ resolved ys, Neat x := by
          intro x hx
          obtain ⟨y, hy, rfl⟩ := List.mem_map.1 hx
          have hn := hN y hy
          refine ⟨hn.lt, ?_, fun hh => ?_⟩
          · dsimp only [resF]
            split
            · rename_i hl
              have := hoff _ (hlead y hy hl)
              omega
            · exact hn.opd
          · dsimp only [resF] at hh ⊢
            split
            · rename_i hl
              rw [longOp_lead hl] at hh
              cases hh
            · exact hn.zero hh
        have hdec : dec 0 (codeB ys) = some (resolved ys) := by
          have := dec_flat (resolved ys) 0 [] hL2 hN2
          rw [List.append_nil] at this
          rw [hcode, this, dec]
          simp
        have hidx : ∀ i, i < ys.length → leadOp ys[i]!.op = true → idxOf (resolved ys) (resolved ys)[i]!.opd = some ys[i]!.opd := fun i hi hl => by
          have hj := hlead ys[i]! (by rw [getElem!_pos ys i hi]; exact List.getElem_mem hi) hl
          have := hL2.idx (j := ys[i]!.opd) (by rw [hlen2]; exact hj)
          rw [hres _ hj] at this
          rw [hres _ hi]
          dsimp only at this ⊢
          rw [if_pos hl]
          exact this
        refine ⟨rfl, resolved ys, formed_mk ?_ ?_ hdec (fun i hi hl => ?_), ?_⟩
        · intro e
          rw [e, dec] at hdec
          injection hdec with hdec
          apply hne
          have := congrArg List.length hdec
          rw [hlen2] at this
          exact List.length_eq_zero_iff.1 this.symm
        · rw [hcode, flatB_len]
          unfold resolved
          rw [sizeL_map (resF ys) (fun _ => rfl)]
          exact hsz'
        · rw [hlen2] at hi
          rw [hres i hi] at hl
          exact ⟨_, hidx i hi hl⟩
        · have hs2 : s = (ys.map lineI).flatMap fun p => p ++ [10] := by
            rw [← glue_lines, ← e2, glue_cutAll]
          rw [hs2, text_lines]
          congr 1
          unfold numbered
          rw [List.map_map]
          conv => lhs; unfold resolved
          rw [List.map_map]
          refine List.map_congr_left fun y hy => ?_
          obtain ⟨i, hi, rfl⟩ := mem_at hy
          show lineT ys[i]!.op (outN (resolved ys) _) = lineT ys[i]!.op ys[i]!.opd
          congr 1
          have hr := hres i hi
          show outN (resolved ys) (resF ys ys[i]!) = ys[i]!.opd
          rw [show resF ys ys[i]! = (resolved ys)[i]! from hr.symm]
          have ho : (resolved ys)[i]!.op = ys[i]!.op := by rw [hr]
          unfold outN
          rw [ho]
          cases hl : leadOp ys[i]!.op with
          | false =>
            rw [if_neg (by decide)]
            rw [hr]
            dsimp only
            rw [hl, if_neg (by decide)]
          | true =>
            rw [if_pos rfl]
            unfold toOf
            rw [ho, hl, if_pos rfl, hidx i hi hl]
            rfl
end Go.Proofs.YtainohbfcehpoaaDoor
namespace Go.Proofs.YtainohbfcehpoaaDoor
open Go.Lib

/-- A line is as Print may write it. -/
def LineOf (s : List UInt8) (o n : Nat) : Prop := s = lineT o n ∧ o < 12 ∧ n ≤ 65535 ∧ (longOp o = false → n = 0)
theorem readT_lineOf {s : List UInt8} {o n : Nat} (h : readT s = some (o, n)) : LineOf s o n := readT_some h
theorem readT_none {s : List UInt8} (h : ∀ o n, ¬ LineOf s o n) : readT s = none := by
  cases hr : readT s with
  | none => rfl
  | some x => exact absurd (readT_some hr) (h x.1 x.2)
theorem split_at (c : UInt8) : ∀ {l l' r r' : List UInt8}, (∀ x ∈ l, x ≠ c) → (∀ x ∈ l', x ≠ c) → l ++ c :: r = l' ++ c :: r' → l = l' ∧ r = r'
  | [], [], r, r', _, _, h => by simp at h; exact ⟨rfl, h⟩
  | [], y :: l', r, r', _, h2, h => by
    simp at h
    exact absurd h.1.symm (h2 y (List.mem_cons_self ..))
  | x :: l, [], r, r', h1, _, h => by
    simp at h
    exact absurd h.1 (h1 x (List.mem_cons_self ..))
  | x :: l, y :: l', r, r', h1, h2, h => by
    simp only [List.cons_append, List.cons.injEq] at h
    obtain ⟨e1, e2⟩ := split_at c (fun z hz => h1 z (List.mem_cons_of_mem _ hz)) (fun z hz => h2 z (List.mem_cons_of_mem _ hz)) h.2
    exact ⟨by rw [h.1, e1], e2⟩
theorem opName_sp {o : Nat} (h : o < 12) : ∀ x ∈ opName o, x ≠ 32 := by
  have h12 : o = 0 ∨ o = 1 ∨ o = 2 ∨ o = 3 ∨ o = 4 ∨ o = 5 ∨ o = 6 ∨ o = 7 ∨ o = 8 ∨ o = 9 ∨ o = 10 ∨ o = 11 := by omega
  rcases h12 with rfl | rfl | rfl | rfl | rfl | rfl | rfl | rfl | rfl | rfl | rfl | rfl <;> decide
theorem opName_inj {o p : Nat} (h : o < 12) (k : p < 12) (e : opName o = opName p) : o = p := by
  have : ∀ o : Fin 12, ∀ p : Fin 12, opName o.1 = opName p.1 → o.1 = p.1 := by decide
  exact this ⟨o, h⟩ ⟨p, k⟩ e
/-- A long line begins with one name alone. -/
theorem long_line {o p n : Nat} {r : List UInt8} (h : o < 12) (k : p < 12) (hl : longOp p = true) (e : opName o ++ 32 :: r = lineT p n) : o = p ∧ r = decDigits n := by
  unfold lineT at e
  rw [if_pos hl] at e
  obtain ⟨e1, e2⟩ := split_at 32 (opName_sp h) (opName_sp k) e
  exact ⟨opName_inj h k e1, e2⟩
end Go.Proofs.YtainohbfcehpoaaDoor
namespace Go.Proofs.YtainohbfcehpoaaDoor
open Go.Lib

theorem dec5 {n : Nat} (h : n ≤ 65535) : (decDigits n).length ≤ 5 ∧ 1 ≤ (decDigits n).length := by
  have key : ∀ k n : Nat, n < 10 ^ (k + 1) → (decDigits n).length ≤ k + 1 := by
    intro k
    induction k with
    | zero => intro n h; rw [decDigits, dif_pos (by omega)]; simp
    | succ k ih =>
      intro n h
      by_cases h1 : n < 10
      · rw [decDigits, dif_pos h1]; simp
      · rw [decDigits, dif_neg h1]
        have := ih (n / 10) (by rw [Nat.pow_succ] at h; omega)
        simp
        omega
  have h1 := key 4 n (by omega)
  have h2 := decDigits_ne n
  refine ⟨h1, ?_⟩
  cases hd : decDigits n with
  | nil => exact absurd hd h2
  | cons a b => simp
theorem rd_short {o : Nat} (ho : o < 12) (hl : longOp o = false) : readT (opName o) = some (o, 0) := by
  have e : lineT o 0 = opName o := by rw [lineT, hl]; simp
  rw [← e]
  exact readT_line ho (by omega) (fun _ => rfl)
theorem rd_short_no {s : List UInt8} {o : Nat} (hl : longOp o = false) (h : s ≠ opName o) : ∀ n, ¬ LineOf s o n := fun n hn => by
  apply h
  rw [hn.1, lineT, hl]; simp
theorem rd_long_no {s : List UInt8} {o : Nat} (hl : longOp o = true) (h : s.length ≤ (opName o).length + 1 ∨ (opName o).length + 1 + 5 < s.length ∨ s.take ((opName o).length + 1) ≠ opName o ++ [32]) : ∀ n, ¬ LineOf s o n := fun n hn => by
  obtain ⟨h1, _, h2, _⟩ := hn
  rw [lineT, if_pos hl] at h1
  obtain ⟨g1, g2⟩ := dec5 h2
  subst h1
  rcases h with h | h | h
  · rw [List.length_append, List.length_cons] at h; omega
  · rw [List.length_append, List.length_cons] at h; omega
  · apply h
    rw [show opName o ++ 32 :: decDigits n = (opName o ++ [32]) ++ decDigits n by simp, List.take_left' (by simp)]
theorem rd_parts {s : List UInt8} {o : Nat} (h : s.take ((opName o).length + 1) = opName o ++ [32]) : s = opName o ++ 32 :: s.drop ((opName o).length + 1) := by
  conv => lhs; rw [← List.take_append_drop ((opName o).length + 1) s, h]
  simp
/-- A line with a space behind a name is of this name or of none. -/
theorem rd_only {s r : List UInt8} {o p m : Nat} (ho : o < 12) (hs : s = opName o ++ 32 :: r) (h : LineOf s p m) : p = o ∧ r = decDigits m ∧ m ≤ 65535 := by
  obtain ⟨h1, h2, h3, _⟩ := h
  cases hl : longOp p with
  | true =>
    obtain ⟨e1, e2⟩ := long_line ho h2 hl (hs.symm.trans h1)
    exact ⟨e1.symm, e2, h3⟩
  | false =>
    have e : opName p = opName o ++ 32 :: r := by
      rw [← hs, h1, lineT, hl]; simp
    have := opName_sp h2 32 (by rw [e]; simp)
    exact absurd rfl this
theorem rd_bad {s r : List UInt8} {o : Nat} (ho : o < 12) (hs : s = opName o ++ 32 :: r) {x : UInt8} (hx : x ∈ r) (hb : x.toNat < 48 ∨ 57 < x.toNat) : readT s = none := readT_none fun p m h => by
  obtain ⟨_, e, _⟩ := rd_only ho hs h
  rw [e] at hx
  have := decDigits_digit m x hx
  omega
theorem rd_good {r : List UInt8} {o n : Nat} (ho : o < 12) (hl : longOp o = true) (hn : n ≤ 65535) (hr : decDigits n = r) : readT (opName o ++ 32 :: r) = some (o, n) := by
  have e : opName o ++ 32 :: r = lineT o n := by rw [lineT, if_pos hl, hr]
  rw [e]
  exact readT_line ho hn (fun h => by rw [hl] at h; cases h)
theorem rd_nogood {s r : List UInt8} {o n : Nat} (ho : o < 12) (hs : s = opName o ++ 32 :: r) (hv : decFrom 0 r = some n) (hno : ¬ (n ≤ 65535 ∧ decDigits n = r)) : readT s = none := readT_none fun p m h => by
  obtain ⟨_, e, hm⟩ := rd_only ho hs h
  rw [e, decFrom_decDigits] at hv
  injection hv with hv
  subst hv
  exact hno ⟨hm, e.symm⟩
theorem digitVal_yes {b : UInt8} (h1 : 48 ≤ b.toNat) (h2 : b.toNat ≤ 57) : digitVal b = some (b.toNat - 48) := by
  unfold digitVal
  rw [if_pos ⟨h1, h2⟩]
/-- How far the digits have been read. -/
structure NumI (s : List UInt8) (K i n : Nat) : Prop where
  le : K ≤ i
  val : decFrom 0 ((s.drop K).take (i - K)) = some n
  lt : n < 10 ^ (i - K)
theorem NumI.zero (s : List UInt8) (K : Nat) : NumI s K K 0 := ⟨Nat.le_refl _, by simp [decFrom], by simp⟩
theorem NumI.step {s : List UInt8} {K i n : Nat} (h : NumI s K i n) (hi : i < s.length) (h1 : 48 ≤ (s[i]!).toNat) (h2 : (s[i]!).toNat ≤ 57) : NumI s K (i + 1) (10 * n + ((s[i]!).toNat - 48)) := by
  have hle := h.le
  have e : (s.drop K).take (i + 1 - K) = (s.drop K).take (i - K) ++ [s[i]!] := by
    rw [show i + 1 - K = (i - K) + 1 by omega, List.take_succ_eq_append_getElem (by rw [List.length_drop]; omega), getElem!_pos s i hi]
    congr 2
    rw [List.getElem_drop]
    congr 1
    omega
  refine ⟨by omega, ?_, ?_⟩
  · rw [e, decFrom_snoc _ _ _ _ _ h.val (digitVal_yes h1 h2), Nat.mul_comm]
  · have := h.lt
    rw [show i + 1 - K = (i - K) + 1 by omega, Nat.pow_succ]
    omega
theorem NumI.bound {s : List UInt8} {K i n : Nat} (h : NumI s K i n) (hi : i ≤ K + 5) : n < 100000 := Nat.lt_of_lt_of_le h.lt (by
  have : i - K ≤ 5 := by omega
  calc 10 ^ (i - K) ≤ 10 ^ 5 := Nat.pow_le_pow_right (by omega) this
    _ = 100000 := rfl)
theorem NumI.all {s : List UInt8} {K n : Nat} (h : NumI s K s.length n) : decFrom 0 (s.drop K) = some n := by
  have := h.val
  rwa [List.take_of_length_le (by rw [List.length_drop]; omega)] at this
theorem mem_drop_at {s : List UInt8} {K i : Nat} (h : K ≤ i) (hi : i < s.length) : s[i]! ∈ s.drop K := by
  rw [getElem!_pos s i hi]
  have : (s.drop K)[i - K]'(by rw [List.length_drop]; omega) = s[i] := by
    rw [List.getElem_drop]
    congr 1
    omega
  rw [← this]
  exact List.getElem_mem _
end Go.Proofs.YtainohbfcehpoaaDoor
namespace Go.Proofs.YtainohbfcehpoaaDoor

def cnt10 (s : List UInt8) : Nat := (s.filter fun x => x == 10).length
/-- How many lines a text has. -/
def linesOf (s : List UInt8) : Nat := 1 + cnt10 s.dropLast
theorem cnt10_snoc (s : List UInt8) (x : UInt8) : cnt10 (s ++ [x]) = cnt10 s + (if x = 10 then 1 else 0) := by
  unfold cnt10
  rw [List.filter_append, List.length_append]
  congr 1
  by_cases h : x = 10
  · rw [if_pos h, List.filter_cons, if_pos (by rw [h]; rfl)]; rfl
  · rw [if_neg h, List.filter_cons, if_neg (by simpa using h)]; rfl
theorem cutAll_count (s : List UInt8) : (cutAll 10 s).length = 1 + cnt10 s := by
  induction s with
  | nil => rfl
  | cons b l ih =>
    rw [cutAll]
    unfold cnt10 at ih ⊢
    by_cases h : b = 10
    · rw [if_pos h, List.length_cons, ih, List.filter_cons, if_pos (by rw [h]; rfl), List.length_cons]; omega
    · rw [if_neg h, List.filter_cons, if_neg (by simpa using h)]
      cases hc : cutAll 10 l with
      | nil => exact absurd hc (cutAll_ne _ _)
      | cons p r => rw [hc] at ih; simpa using ih
theorem cutAll_end (s : List UInt8) : cutAll 10 (s ++ [10]) = cutAll 10 s ++ [[]] := by
  induction s with
  | nil => rfl
  | cons b l ih =>
    rw [List.cons_append, cutAll, cutAll, ih]
    by_cases h : b = 10
    · rw [if_pos h, if_pos h]; rfl
    · rw [if_neg h, if_neg h]
      cases hc : cutAll 10 l with
      | nil => exact absurd hc (cutAll_ne _ _)
      | cons p r => rfl
/-- What is known of a scan's end. -/
def ScanEnd (n m : Nat) (last : Option (List UInt8)) : Nat ⊕ List Ins → Prop
  | .inl k => n + 1 ≤ k ∧ k ≤ n + m ∧ (last = some [] → k + 1 ≤ n + m)
  | .inr l => l.length + 1 = n + m ∧ last = some []
theorem scan_end : ∀ (ps : List (List UInt8)) (size : Nat) (acc : List Ins), ps ≠ [] → ScanEnd acc.length ps.length ps.getLast? (scan ps size acc)
  | [], _, _, h => absurd rfl h
  | [p], size, acc, _ => by
    rw [scan]
    by_cases h : p = []
    · rw [if_pos h]; exact ⟨rfl, by rw [h]; rfl⟩
    · rw [if_neg h]
      refine ⟨Nat.le_refl _, Nat.le_refl _, fun e => ?_⟩
      simp at e
      exact absurd e h
  | p :: q :: r, size, acc, _ => by
    have hbad : ScanEnd acc.length (p :: q :: r).length (p :: q :: r).getLast? (.inl (acc.length + 1)) := ⟨Nat.le_refl _, by simp, fun _ => by simp only [List.length_cons]; omega⟩
    rw [scan]
    cases hr : readT p with
    | none => exact hbad
    | some x =>
      dsimp only
      by_cases h : 1024 < size + simLen x.1
      · rw [if_pos h]; exact hbad
      · rw [if_neg h]
        have ih := scan_end (q :: r) (size + simLen x.1) (acc ++ [⟨size, x.1, x.2⟩]) (by simp)
        rw [List.getLast?_cons_cons]
        generalize scan (q :: r) (size + simLen x.1) (acc ++ [⟨size, x.1, x.2⟩]) = R at *
        generalize (q :: r).getLast? = la at *
        rw [List.length_append, List.length_singleton] at ih
        rw [List.length_cons (a := p)]
        cases R with
        | inl k =>
          obtain ⟨h1, h2, h3⟩ := ih
          exact ⟨by omega, by omega, fun e => by have := h3 e; omega⟩
        | inr l =>
          obtain ⟨h1, h2⟩ := ih
          exact ⟨by omega, h2⟩
theorem lines_cut (s : List UInt8) : (s = [] ∧ (cutAll 10 s).length = 1) ∨ (linesOf s + 1 = (cutAll 10 s).length ∧ (cutAll 10 s).getLast? = some []) ∨ linesOf s = (cutAll 10 s).length := by
  rcases List.eq_nil_or_concat s with rfl | ⟨t, x, rfl⟩
  · exact .inl ⟨rfl, rfl⟩
  · right
    rw [List.concat_eq_append, cutAll_count, cnt10_snoc]
    unfold linesOf
    rw [List.dropLast_concat]
    by_cases h : x = 10
    · subst h
      left
      rw [if_pos rfl, cutAll_end]
      exact ⟨by omega, by simp⟩
    · right
      rw [if_neg h]; rfl
theorem linesOf_pos (s : List UInt8) : 1 ≤ linesOf s := by unfold linesOf; omega
/-- P8.4: what Parse refuses. -/
theorem parse_err {s c : List UInt8} {k : Nat} {e : Int} (h : parse8 s = (c, k, e)) (he : e ≠ 0) : c = [] ∧ e = 80 ∧ 1 ≤ k ∧ k ≤ linesOf s := by
  have hs := scan_end (cutAll 10 s) 0 [] (cutAll_ne _ _)
  have hl := lines_cut s
  have hp := linesOf_pos s
  have hc : s = [] → linesOf s = 1 := fun e => by rw [e]; rfl
  unfold parse8 at h
  generalize scan (cutAll 10 s) 0 [] = R at *
  rw [List.length_nil] at hs
  cases R with
  | inl k' =>
    obtain ⟨h1, h2, h3⟩ := hs
    injection h with q1 h; injection h with q2 q3
    subst q1 q2 q3
    refine ⟨rfl, rfl, by omega, ?_⟩
    rcases hl with ⟨g1, g2⟩ | ⟨g1, g2⟩ | g1
    · have := hc g1; omega
    · have := h3 g2; omega
    · omega
  | inr l =>
    obtain ⟨h1, h2⟩ := hs
    dsimp only at h
    by_cases hn : l = []
    · rw [if_pos hn] at h
      injection h with q1 h; injection h with q2 q3
      subst q1 q2 q3
      exact ⟨rfl, rfl, Nat.le_refl _, hp⟩
    · rw [if_neg hn] at h
      cases hb : badLead l with
      | none =>
        rw [hb] at h
        injection h with q1 h; injection h with q2 q3
        exact absurd q3.symm he
      | some i =>
        rw [hb] at h
        injection h with q1 h; injection h with q2 q3
        subst q1 q2 q3
        have hi : i < l.length := by
          unfold badLead at hb
          rw [List.findIdx?_eq_some_iff_getElem] at hb
          exact hb.1
        refine ⟨rfl, rfl, by omega, ?_⟩
        rcases hl with ⟨g1, g2⟩ | ⟨g1, g2⟩ | g1
        · have := hc g1; omega
        · omega
        · omega
end Go.Proofs.YtainohbfcehpoaaDoor
