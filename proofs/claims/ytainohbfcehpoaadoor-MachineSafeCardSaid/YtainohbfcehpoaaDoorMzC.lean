/-
  The table of the machine's operations; what kind returns.
  A region that draws its order, inside a round of a loop over a function: the laws of plain regions serve there too.
  The contract of the iterator over a program's instructions.
  What instructions returns: the iterator.
  The comparison of offsets (program's closure).
  The contract of slices.BinarySearchFunc over instructions.
-/
import Derived.Test.YtainohbfcehpoaaDoorMzB
import Derived.Test.YtainohbfcehpoaaDoorMzA
import Derived.RangeFuncCalls
import Derived.OrdersIn
import Derived.StillTail
import Derived.StillTactics
import Derived.Deep.RegionHeld
import Derived.BigRegionIn
import Derived.RangeFuncFrom
import Derived.RangeFuncLeaves
import Derived.OwnWalkIn
import Derived.BigFrameIn
import Derived.LoopIn
namespace Go.Proofs.YtainohbfcehpoaaDoor
open Go.RowKit

def str (l : List UInt8) : ByteArray := ⟨l.toArray⟩
theorem str_list (l : List UInt8) : (str l).data.toList = l := rfl
theorem str_size (l : List UInt8) : (str l).size = l.length := by simp [str, ByteArray.size]
def opName (o : Nat) : List UInt8 := [[112, 117, 115, 104], [100, 117, 112], [115, 119, 97, 112], [100, 114, 111, 112], [97, 100, 100], [115, 117, 98], [108, 101, 115, 115], [106, 117, 109, 112], [105, 102], [105, 110], [111, 117, 116], [104, 97, 108, 116]].getD o []
def opVals (o : Nat) : List Value := [.string (str (opName o)), .int .i64 (takesOp o : Nat), .int .i64 (putsOp o : Nat), .bool (longOp o), .bool (leadOp o)]
/-- The variable 'operations' holds the table. -/
def OpsIs (w : World) : Prop := ∀ o, o < 12 → ∀ j, j < 5 → w.cell? ⟨3, o * 5 + j, none⟩ = (opVals o)[j]?
theorem OpsIs.below {w w' : World} {B : Nat} (h : OpsIs w) (hb : Below B w w') (hg : 3 < B) : OpsIs w' := fun o ho j hj =>
  (World.cell?_of_block (w' := w') (w := w) (a := ⟨3, o * 5 + j, none⟩) (hb.block _ hg)).trans (h o ho j hj)
theorem OpsIs.lt {w : World} (h : OpsIs w) : 3 < w.heap.size := World.block_lt_of_cell? w ⟨3, 0 * 5 + 0, none⟩ (h 0 (by omega) 0 (by omega))
def insAgg (off op opd to : Nat) : Value := .agg #[.int .i64 (off : Int), .int .i64 (op : Int), .int .i64 (opd : Int), .int .i64 (to : Int)]
set_option maxHeartbeats 1000000 in
theorem kind_any (off op opd to : Nat) (w : World) (ho : op < 12) (hO : OpsIs w) (hg : 3 < w.heap.size) :
    Calls Tryd.prog 35 #[insAgg off op opd to] w fun e w' => e = .returned (.agg (opVals op).toArray) ∧ Below w.heap.size w w' := by
  have hT := hO op ho
  have c0 := hT 0 (by omega)
  have c1 := hT 1 (by omega)
  have c2 := hT 2 (by omega)
  have c3 := hT 3 (by omega)
  have c4 := hT 4 (by omega)
  have hne : (3 : Nat) ≠ w.heap.size := by omega
  have i1 : (op : Int) < 12 := by omega
  have hB : Below w.heap.size w w := Below.refl _ _
  clear hT hO
  unfold insAgg opVals
  simp only [opVals, List.getElem?_cons_zero, List.getElem?_cons_succ, Nat.add_zero] at c0 c1 c2 c3 c4
  have hne2 : (3 : Nat) ≠ w.heap.size + 1 := by omega
  generalize str (opName op) = nm at *
  generalize takesOp op = tk at *
  generalize putsOp op = pt at *
  generalize longOp op = lg at *
  generalize leadOp op = ld at *
  go_enter Tryd.func35, Tryd.ntmps35
  go_wp2_with fail
  refine bodyPost_ret (v := .agg #[.string nm, .int .i64 (tk : Int), .int .i64 (pt : Int), .bool lg, .bool ld]) ?_ rfl ⟨rfl, (hB.alloc (Nat.le_refl _) _).alloc (by simp) _⟩
  simp [results, Tryd.f35, go_sem]
end Go.Proofs.YtainohbfcehpoaaDoor
namespace Go.Proofs.YtainohbfcehpoaaDoor

section
variable {P : Program} {ops : Array Oper} {Q : Exit → Act → World → Prop} {md : Region.Mode} {lp n : Nat}

theorem upon_round {o : Oper} {a : Act} {K : Act → World → Prop} : ∀ r : Result Next, o.upon P a K Q r → o.uponIn (Fence.wide.inRound lp) n P a K Q r
  | .ok (.value _) _, h => h
  | .ok .skip _, h => h
  | .ok (.defer _) _, h => h
  | .ok (.enter _ _) _, h => ⟨fun e => by simp [Fence.wide] at e, CallsIn.inRound lp (callsIn_wide.2 h)⟩
  | .ok (.row _ _) _, h => ⟨fun e => by simp [Fence.wide] at e, fun c cs _ => by
      obtain ⟨v, w', r, s⟩ := h c cs
      exact ⟨v, w', r, stepsIn_wide.2 s⟩⟩
  | .ok (.round _ _ _ _ _) _, h => absurd h (by simp [Oper.upon])
  | .halt x _, h => by cases x <;> first | exact h | exact absurd h (by simp [Oper.upon])
theorem wp_round {o : Oper} {a : Act} {w : World} {K : Act → World → Prop} (hd : ∀ c, o.op ≠ .defer c) (h : o.wp P a w K Q) : o.wpIn (Fence.wide.inRound lp) n P a w K Q :=
  ⟨fun _ _ => trivial, by rw [Oper.semAt_eq _ _ _ hd]; exact upon_round _ h⟩
def noDefer (l : List Oper) : Bool := l.all fun o => match o.op with | .defer _ => false | _ => true
theorem noDefer_at {l : List Oper} (h : noDefer l = true) {i : Nat} {o : Oper} (hi : l.toArray[i]? = some o) : ∀ c, o.op ≠ .defer c := by
  intro c hc
  have hm : o ∈ l := by simpa using Array.mem_of_getElem? hi
  have := List.all_eq_true.1 h o hm
  rw [hc] at this
  exact absurd this (by simp)
theorem wpAny_round {l : List Oper} (hd : noDefer l = true) (hQ : ¬ LetsOut Q) : ∀ (fuel : Nat) (listed : Array Bool) (a : Act) (w : World),
    wpAny P md l.toArray Q fuel listed a w → wpAnyIn (Fence.wide.inRound lp) n P md l.toArray Q fuel listed a w
  | 0, _, _, _, h => h
  | fuel + 1, listed, a, w, h => ⟨h.1, fun i hi => by
      have h2 := h.2 i hi
      unfold wpOp at h2
      unfold wpOpIn
      cases ho : l.toArray[i]? with
      | none => rw [ho] at h2; exact wpAny_round hd hQ fuel _ _ _ h2
      | some o =>
        rw [ho] at h2
        dsimp only at h2 ⊢
        split
        · rename_i hw
          rw [if_pos hw] at h2
          rcases h2 with h2 | ⟨_, h2⟩
          · exact wp_round (noDefer_at hd ho) (Oper.wp_mono (fun a w h => wpAny_round hd hQ fuel _ a w h) h2)
          · exact absurd h2 hQ
        · rename_i hw
          rw [if_neg hw] at h2
          exact ⟨fun _ _ => trivial, wpAny_round hd hQ fuel _ _ _ h2⟩⟩
theorem wpIn_round_any {id : Nat} {l : List Oper} {a : Act} {w : World} (hm : P.follows .mixedOrders = true) (hd : noDefer l = true) (hQ : ¬ LetsOut Q)
    (h : wpAny P .any l.toArray Q l.toArray.size (Array.replicate l.toArray.size false) a { w with drawn := w.drawn + 1 }) : (Code.region id l.toArray true).wpIn (Fence.wide.inRound lp) n P Q a w :=
  wpIn_region_any hm (wpAny_round hd hQ _ _ _ _ h)
/-- Reads and quiet calls first, the rest in its order. -/
theorem wpIn_round_still_tail {id : Nat} {l : List Oper} {a : Act} {w : World} (k : Nat) (hm : P.follows .mixedOrders = true) (hB : Region.lexTailB .any l.toArray k = true) (hd : noDefer l = true) (hQ : ¬ LetsOut Q)
    (h : wpStill P l.toArray w.drew (fun a' => wpList P l.toArray Q (l.drop k) a' w.drew) (l.take k) a) : (Code.region id l.toArray true).wpIn (Fence.wide.inRound lp) n P Q a w := by
  simp only [Region.lexTailB, Bool.and_eq_true, decide_eq_true_eq] at hB
  obtain ⟨⟨⟨⟨hsel, hn⟩, hs⟩, hc⟩, hlex⟩ := hB
  have hn' : k < l.length := by simpa using hn
  have htl : (l.take k).length = k := by simp; omega
  have hdl : (l.drop k).length = l.toArray.size - k := by simp
  have inv0 : HeadInv .any l.toArray k (Array.replicate l.toArray.size false) :=
    ⟨by simp, fun j oj _ hl => (by rw [getD_replicate_false] at hl; cases hl), fun t _ ht => getD_in (by simpa using ht) (getD_replicate_false _ _)⟩
  have H := wpAnyL_lex (md := .any) (g := l.toArray.size - k) hsel hs hc hn (l.take k) 0 _ a (fun j hj => by
    have hj' : j < k := by rw [htl] at hj; exact hj
    simp [hj']) (by simpa using htl) inv0 (by rw [htl]; exact hlex) h
  refine wpIn_round_any hm hd hQ ?_
  have := wpAny_of_head (Q' := Q) (g := l.toArray.size - k) (fun listed a' hL => by
    have := wpAny_of_seq (md := .any) (Q' := Q) (l.drop k) k listed a' w.drew (fun j => by simp [List.getElem?_drop]) (by rw [hdl]; exact hL.1) hL.2
    rwa [hdl] at this) _ _ _ H
  rw [htl, show k + (l.toArray.size - k) = l.toArray.size by omega] at this
  exact this
/-- The region by hand, with what is held. -/
theorem wpIn_round_held_drew {id : Nat} {l : List Oper} {S : World → Prop} {a : Act} {w : World} (hm : P.follows .mixedOrders = true) (hd : noDefer l = true) (hQ : ¬ LetsOut Q) (hS : S w.drew)
    (h : S w.drew → wpAnyH P .any l.toArray Q S l.toArray.size (Array.replicate l.toArray.size false) a w.drew) : (Code.region id l.toArray true).wpIn (Fence.wide.inRound lp) n P Q a w :=
  wpIn_round_any hm hd hQ (wpAny_of_held _ _ _ _ (h hS))
end
end Go.Proofs.YtainohbfcehpoaaDoor
namespace Go.Proofs.YtainohbfcehpoaaDoor
open Go.RowKit

attribute [local go_sem] Oper.semAt_some

/-- Two blocks lie as they lay. -/
def KeepB (b1 b2 : Nat) (W W' : World) : Prop := W'.heap[b1]? = W.heap[b1]? ∧ W'.heap[b2]? = W.heap[b2]?
theorem keepB_t {b1 b2 : Nat} {A B C : World} (h : KeepB b1 b2 A B) (k : KeepB b1 b2 B C) : KeepB b1 b2 A C := ⟨k.1.trans h.1, k.2.trans h.2⟩
theorem keepB_b {b1 b2 : Nat} {w : World} (h1 : b1 < w.heap.size) (h2 : b2 < w.heap.size) (W : World) (l : Nat) (o o' : Obj) (hl : w.heap.size ≤ l) (_ : W.heap[l]? = some o) (_ : o.isCells = false) (_ : o.isWalk = false) : KeepB b1 b2 W (W.putObj l o') :=
  ⟨World.putObj_heap_other (by omega), World.putObj_heap_other (by omega)⟩
theorem KeepB.cell1 {b1 b2 o : Nat} {W W' : World} (h : KeepB b1 b2 W W') : W'.cell? ⟨b1, o, none⟩ = W.cell? ⟨b1, o, none⟩ := World.cell?_of_block (a := ⟨b1, o, none⟩) h.1
theorem KeepB.cell2 {b1 b2 o : Nat} {W W' : World} (h : KeepB b1 b2 W W') : W'.cell? ⟨b2, o, none⟩ = W.cell? ⟨b2, o, none⟩ := World.cell?_of_block (a := ⟨b2, o, none⟩) h.2
/-- The first k of the numbers below K. -/
def upk (K k : Nat) : List (Fin K) := (List.finRange K).take k
theorem upk_succ (K k : Nat) (h : k < K) : upk K (k + 1) = upk K k ++ [⟨k, h⟩] := by
  unfold upk
  rw [List.take_succ_eq_append_getElem (by simpa using h)]
  simp
theorem upk_len (K k : Nat) (h : k ≤ K) : (upk K k).length = k := by simp [upk]; omega
theorem upk_prefix (K k : Nat) : upk K k <+: List.finRange K := List.take_prefix _ _
theorem upk_all (K : Nat) : upk K K = List.finRange K := by
  unfold upk; exact List.take_of_length_le (by simp)


theorem or_bytes (b1 b2 : Nat) (h1 : b1 < 256) (h2 : b2 < 256) : bits .or .i64 ((b1 : Int) * 256) (b2 : Int) = ((256 * b1 + b2 : Nat) : Int) := by
  have key : (BitVec.ofInt 64 ((b1 : Int) * 256) ||| BitVec.ofInt 64 (b2 : Int)).toNat = 256 * b1 + b2 := by
    rw [BitVec.toNat_or, BitVec.toNat_ofInt, BitVec.toNat_ofInt]
    have e1 : (((b1 : Int) * 256) % ((2 ^ 64 : Nat) : Int)).toNat = 2 ^ 8 * b1 := by omega
    have e2 : ((b2 : Int) % ((2 ^ 64 : Nat) : Int)).toNat = b2 := by omega
    rw [e1, e2, ← Nat.two_pow_add_eq_or_of_lt (show b2 < 2 ^ 8 by omega)]
  show IntKind.i64.wrap ((BitVec.ofInt 64 ((b1 : Int) * 256) ||| BitVec.ofInt 64 (b2 : Int)).toNat : Nat) = _
  rw [key]
  exact IntWalk.i64_in _ (by omega)
theorem field_long (v0 v1 v2 v3 v4 : Value) (W : World) : (Instr.field 75 (.agg #[v0, v1, v2, v3, v4]) 3).run Tryd.prog W = .ok v3 W := by first | kernel_rfl | rfl | go_simp
theorem field_lead (v0 v1 v2 v3 v4 : Value) (W : World) : (Instr.field 75 (.agg #[v0, v1, v2, v3, v4]) 4).run Tryd.prog W = .ok v4 W := by first | kernel_rfl | rfl | go_simp
def evAt (code : List UInt8) (x : Nat) : Ins × Bool := (evSeq 0 code)[x]!
set_option maxRecDepth 100000 in
set_option maxHeartbeats 4000000 in
theorem instr1_stops (m bs K : Nat) (code : List UInt8) (w : World) (hK : K = (evSeq 0 code).length) (hc : code.length ≤ 100000) (hbs : bs < w.heap.size) (hg : 3 < w.heap.size) (hO : OpsIs w)
    (hs : w.cell? ⟨bs, 0, none⟩ = some (.string (str code))) :
    SeqStopsK Fence.wide m Tryd.prog 55 #[.pointer (some ⟨bs, 0, none⟩)] (fun x : Fin K => #[insAgg (evAt code x.1).1.off (evAt code x.1).1.op (evAt code x.1).1.opd 0, .bool (evAt code x.1).2]) (KeepB bs 3) (fun xs => xs = List.finRange K) (fun pre => pre <+: List.finRange K) K w := by
  intro l J Jx W hW hJa hJxa hY h0
  have hsW : W.cell? ⟨bs, 0, none⟩ = some (.string (str code)) := (hW.cell (p := ⟨bs, 0, none⟩) hbs).trans hs
  have hOW : OpsIs W := fun o ho j hj => (hW.cell (p := ⟨3, o * 5 + j, none⟩) hg).trans (hO o ho j hj)
  have hJb : ∀ pre (W1 W2 : World), J pre W1 → Below W1.heap.size W1 W2 → J pre W2 := fun pre W1 W2 h hb => hJa pre W1 _ none h ⟨hb.os, hb.tape, hb.output, hb.size, fun k hk _ => hb.block k hk⟩ (fun r e => by cases e)
  have hps : (str code).size = code.length := str_size code
  have hPG : ∀ j (h : j < (str code).size), (((str code)[j].toNat : Nat) : Int) = (code[j]!.toNat : Nat) := fun j h => by
    rw [getElem!_pos code j (by rw [str_size] at h; exact h)]
    show (((str code).data[j]'_ : UInt8).toNat : Int) = _
    simp [str]
  generalize str code = P at *
  replace hps := Lib.hid hps
  replace hPG := Lib.hid hPG
  clear hW hs hO hbs hg hJa hJxa
  refine callsIn_of_wp Tryd.func55 rfl trivial ?_ rfl
  simp only [Tryd.ntmps55, List.size_toArray, List.length_cons, List.length_nil, Nat.reduceAdd, Nat.reduceSub, Array.replicate_succ, Array.replicate_zero, List.push_toArray, List.append_toArray, List.nil_append, List.cons_append]
  gi_wp2
  gi_loopw [3] (fun i wr => ∃ k a : Nat, k ≤ K ∧ a ≤ code.length ∧ i = .int .i64 (a : Int) ∧ Hid ((evSeq 0 code).drop k = evSeq a (code.drop a)) ∧ wr.cell? ⟨bs, 0, none⟩ = some (.string P) ∧ Hid (OpsIs wr) ∧ J (upk K k) wr) (fun i _ => code.length - (intOf i).toNat)
  case atStart => exact ⟨0, 0, Nat.zero_le _, Nat.zero_le _, rfl, (show Hid _ from rfl), hsW, (show Hid _ from hOW), h0⟩
  case round =>
    obtain ⟨k, a, hk, ha, rfl, hev, hcs, hOp, hJ⟩ := hrel
    clear hsW hOW
    have hps' := hps.out
    by_cases hlt : a < code.length
    · have hj0 : a < P.size := by omega
      have hd : decide ((a : Int) < (P.size : Int)) = true := by simp; omega
      have hg := hPG.out a hj0
      obtain ⟨e, nx, hst, hseq⟩ := evSeq_step code a hlt
      rw [← hev.out] at hseq
      have hkK : k < K := by
        rw [hK]
        rcases Nat.lt_or_ge k (evSeq 0 code).length with h | h
        · exact h
        · rw [List.drop_eq_nil_of_le h] at hseq
          cases hseq
      have heA : evAt code k = e := by
        have hk2 : k < (evSeq 0 code).length := by omega
        rw [List.drop_eq_getElem_cons hk2] at hseq
        injection hseq with h1 h2
        rw [evAt, getElem!_pos _ k hk2, h1]
      have hnext : ∀ b, nx = some b → (evSeq 0 code).drop (k + 1) = evSeq b (code.drop b) := fun b hb => by
        have hk2 : k < (evSeq 0 code).length := by omega
        rw [List.drop_eq_getElem_cons hk2] at hseq
        injection hseq with h1 h2
        rw [h2, hb]
      have hfin : nx = none → k + 1 = K := fun hb => by
        have hk2 : k < (evSeq 0 code).length := by omega
        rw [List.drop_eq_getElem_cons hk2] at hseq
        injection hseq with h1 h2
        rw [hb] at h2
        have := congrArg List.length h2
        simp at this
        omega
      have hYk := fun (W1 : World) (h : J (upk K k) W1) => hY (upk K k) ⟨k, hkK⟩ W1 h (by rw [upk_len _ _ hk]; omega)
      rw [← upk_succ K k hkK] at hYk
      dsimp only at hYk
      rw [heA] at hYk
      have hb256 := (code[a]!).toNat_lt
      clear hY hseq hev
      cases hst with
      | bad _ h12 =>
        generalize (code[a]!).toNat = o at *
        have hw : IntKind.i64.wrap (o : Int) = (o : Int) := IntWalk.i64_in _ (by omega)
        have hop : decide ((o : Int) < 12) = false := by simp; omega
        have hJ2 : ∀ ob : Obj, J (upk K k) (wr.alloc ob) := fun ob => hJb _ _ _ hJ ((Below.refl _ _).alloc (Nat.le_refl _) _)
        replace hps' := Lib.hid hps'
        obtain ⟨fn, tmps, assign, body, hy, hR⟩ := hYk _ (hJ2 (.cells #[.int .i64 (a : Int), .int .i64 (o : Int), .int .i64 0, .int .i64 0] 66))
        simp only [insAgg, Int.natCast_zero] at hy
        gi_wp2
        refine ⟨trivial, ?_⟩
        gi_wp2
        refine ⟨fun h => by simp [Fence.wide] at h, hR.mono ?_⟩
        clear hR hy hYk
        rintro e W3 (⟨rfl, hJ3, hk3⟩ | ⟨rfl, hJx3⟩)
        · gi_wp2
          refine bodyPost_ret (results_none rfl _ _ _) rfl ?_
          refine ⟨⟨_, rfl⟩, .inl ⟨_, rfl, ?_⟩⟩
          rw [hfin trivial] at hJ3
          rw [← upk_all]
          exact hJ3
        · gi_wp2
          refine bodyPost_ret (results_none rfl _ _ _) rfl ?_
          exact ⟨⟨_, rfl⟩, .inr ⟨upk K (k + 1), upk_prefix _ _, hJx3⟩⟩
      | cut _ h12 hl hc3 =>
        generalize (code[a]!).toNat = o at *
        have hw : IntKind.i64.wrap (o : Int) = (o : Int) := IntWalk.i64_in _ (by omega)
        have hop : decide ((o : Int) < 12) = true := by simp; omega
        obtain ⟨W1, hW1⟩ : ∃ W1, W1 = wr.alloc (.cells #[.int .i64 (a : Int), .int .i64 (o : Int), .int .i64 0, .int .i64 0] 66) := ⟨_, rfl⟩
        have hb1 : Below wr.heap.size wr W1 := by rw [hW1]; exact (Below.refl _ _).alloc (Nat.le_refl _) _
        have hA1 : Arr W1 wr.heap.size 66 [.int .i64 (a : Int), .int .i64 (o : Int), .int .i64 0, .int .i64 0] := by rw [hW1]; exact Arr.new rfl rfl
        have hgl := hOp.out.lt
        have hO1 := hOp.out.below hb1 hgl
        have hkd := kind_any a o 0 0 W1 (by omega) hO1 (Nat.lt_of_lt_of_le hgl hb1.size)
        unfold insAgg opVals at hkd
        rw [hl, Int.natCast_zero] at hkd
        replace hkd := Lib.hid hkd
        replace hps' := Lib.hid hps'
        gi_wp2
        rw [← hW1]
        refine ⟨trivial, fun h => by simp [Fence.wide] at h, (callsIn_wide.2 hkd.out).mono ?_⟩
        rintro e W2 ⟨rfl, hb2⟩
        have hb12 := hb1.trans (hb2.mono hb1.size)
        have hA2 := hA1.below hb2
        have q0 := hA2.cell (j := 0) rfl
        have q1 := hA2.cell (j := 1) rfl
        have q2 := hA2.cell (j := 2) rfl
        have q3 := hA2.cell (j := 3) rfl
        have hcs2 : W2.cell? ⟨bs, 0, none⟩ = some (.string P) := (World.cell?_of_block (w' := W2) (w := wr) (a := ⟨bs, 0, none⟩) (hb12.block bs (World.block_lt_of_cell? wr ⟨bs, 0, none⟩ hcs))).trans hcs
        have hO2 := hOp.out.below hb12 hgl
        obtain ⟨fn, tmps, assign, body, hy, hR⟩ := hYk W2 (hJb _ _ _ hJ hb12)
        simp only [insAgg, Int.natCast_zero] at hy
        clear hW1
        have hfd := fun W => field_long (.string (str (opName o))) (.int .i64 (takesOp o : Nat)) (.int .i64 (putsOp o : Nat)) (.bool true) (.bool (leadOp o)) W
        have hd3 : decide ((a : Int) + 1 + 2 ≤ (P.size : Int)) = false := by have := hps'.out; simp; omega
        have hd4 : ¬ (a : Int) + 1 + 2 ≤ (P.size : Int) := by have := hps'.out; omega
        gi_wp2
        refine ⟨fun h => by simp [Fence.wide] at h, hR.mono ?_⟩
        clear hR hy hYk hkd hfd hb1 hb2 hA1 hA2 hO1 q0 q1 q2 q3
        rintro e W3 (⟨rfl, hJ3, hk3⟩ | ⟨rfl, hJx3⟩)
        · gi_wp2
          refine bodyPost_ret (results_none rfl _ _ _) rfl ?_
          refine ⟨⟨_, rfl⟩, .inl ⟨_, rfl, ?_⟩⟩
          rw [hfin trivial] at hJ3
          rw [← upk_all]
          exact hJ3
        · gi_wp2
          refine bodyPost_ret (results_none rfl _ _ _) rfl ?_
          exact ⟨⟨_, rfl⟩, .inr ⟨upk K (k + 1), upk_prefix _ _, hJx3⟩⟩
      | long _ h12 hl hc3 =>
        have hnx := hnext _ rfl
        generalize (code[a]!).toNat = o at *
        have hw : IntKind.i64.wrap (o : Int) = (o : Int) := IntWalk.i64_in _ (by omega)
        have hop : decide ((o : Int) < 12) = true := by simp; omega
        obtain ⟨W1, hW1⟩ : ∃ W1, W1 = wr.alloc (.cells #[.int .i64 (a : Int), .int .i64 (o : Int), .int .i64 0, .int .i64 0] 66) := ⟨_, rfl⟩
        have hb1 : Below wr.heap.size wr W1 := by rw [hW1]; exact (Below.refl _ _).alloc (Nat.le_refl _) _
        have hA1 : Arr W1 wr.heap.size 66 [.int .i64 (a : Int), .int .i64 (o : Int), .int .i64 0, .int .i64 0] := by rw [hW1]; exact Arr.new rfl rfl
        have hgl := hOp.out.lt
        have hO1 := hOp.out.below hb1 hgl
        have hkd := kind_any a o 0 0 W1 (by omega) hO1 (Nat.lt_of_lt_of_le hgl hb1.size)
        unfold insAgg opVals at hkd
        rw [hl, Int.natCast_zero] at hkd
        replace hkd := Lib.hid hkd
        replace hps' := Lib.hid hps'
        gi_wp2
        rw [← hW1]
        refine ⟨trivial, fun h => by simp [Fence.wide] at h, (callsIn_wide.2 hkd.out).mono ?_⟩
        rintro e W2 ⟨rfl, hb2⟩
        have hb12 := hb1.trans (hb2.mono hb1.size)
        have hA2 := hA1.below hb2
        have q0 := hA2.cell (j := 0) rfl
        have q1 := hA2.cell (j := 1) rfl
        have q2 := hA2.cell (j := 2) rfl
        have q3 := hA2.cell (j := 3) rfl
        have hcs2 : W2.cell? ⟨bs, 0, none⟩ = some (.string P) := (World.cell?_of_block (w' := W2) (w := wr) (a := ⟨bs, 0, none⟩) (hb12.block bs (World.block_lt_of_cell? wr ⟨bs, 0, none⟩ hcs))).trans hcs
        have hO2 := hOp.out.below hb12 hgl
        clear hW1
        have hfd := fun W => field_long (.string (str (opName o))) (.int .i64 (takesOp o : Nat)) (.int .i64 (putsOp o : Nat)) (.bool true) (.bool (leadOp o)) W
        have hj1 : a + 1 < P.size := by have := hps'.out; omega
        have hj2 : a + 2 < P.size := by have := hps'.out; omega
        have g1 := hPG.out (a + 1) hj1
        have g2 := hPG.out (a + 2) hj2
        have hl1 := (code[a + 1]!).toNat_lt
        have hl2 := (code[a + 2]!).toNat_lt
        generalize (code[a + 1]!).toNat = b1 at *
        generalize (code[a + 2]!).toNat = b2 at *
        have hw1 : IntKind.i64.wrap (b1 : Int) = (b1 : Int) := IntWalk.i64_in _ (by omega)
        have hw2 : IntKind.i64.wrap (b2 : Int) = (b2 : Int) := IntWalk.i64_in _ (by omega)
        have hd3 : decide ((a : Int) + 1 + 2 ≤ (P.size : Int)) = true := by have := hps'.out; simp; omega
        have hd4 : (a : Int) + 1 + 2 ≤ (P.size : Int) := by have := hps'.out; omega
        have i1 : (0 : Int) ≤ (a : Int) + 1 := by omega
        have i2 : (a : Int) + 1 < (P.size : Int) := by omega
        have i3 : (a : Int) + 1 + 1 < (P.size : Int) := by omega
        have i4 : (0 : Int) ≤ (a : Int) + 1 + 1 := by omega
        have hj3 : a + 1 + 1 < P.size := hj2
        have g3 : (((P[a + 1 + 1]'hj3).toNat : Nat) : Int) = (b2 : Int) := g2
        have t1 : ((a : Int) + 1 + 1).toNat = a + 1 + 1 := by omega
        have fB := hA2.free 2
        have hor := or_bytes b1 b2 hl1 hl2
        obtain ⟨Wy, hWy⟩ : ∃ Wy, Wy = (W2.setCell ⟨wr.heap.size, 2, none⟩ (.int .i64 ((256 * b1 + b2 : Nat) : Int))).drew := ⟨_, rfl⟩
        have hby : Below wr.heap.size wr Wy := by rw [hWy]; exact (hb12.setCell (p := ⟨wr.heap.size, 2, none⟩) (Nat.le_refl _) _).drew
        have hcsy : Wy.cell? ⟨bs, 0, none⟩ = some (.string P) := (World.cell?_of_block (w' := Wy) (w := wr) (a := ⟨bs, 0, none⟩) (hby.block bs (World.block_lt_of_cell? wr ⟨bs, 0, none⟩ hcs))).trans hcs
        have hOy := hOp.out.below hby hgl
        have hAy : Arr Wy wr.heap.size 66 [.int .i64 (a : Int), .int .i64 (o : Int), .int .i64 ((256 * b1 + b2 : Nat) : Int), .int .i64 0] := by rw [hWy]; exact (hA2.set 2 _).drew
        obtain ⟨fn, tmps, assign, body, hy, hR⟩ := hYk Wy (hJb _ _ _ hJ hby)
        simp only [insAgg, Int.natCast_zero] at hy
        generalize ((256 * b1 + b2 : Nat) : Int) = opz at *
        gi_wp2
        gi_region
        rw [← hWy]
        clear hWy
        have q0y : Wy.cell? ⟨wr.heap.size, 0, none⟩ = some (.int .i64 (a : Int)) := hAy.cell (j := 0) rfl
        have q1y : Wy.cell? ⟨wr.heap.size, 1, none⟩ = some (.int .i64 (o : Int)) := hAy.cell (j := 1) rfl
        have q2y : Wy.cell? ⟨wr.heap.size, 2, none⟩ = some (.int .i64 opz) := hAy.cell (j := 2) rfl
        have q3y : Wy.cell? ⟨wr.heap.size, 3, none⟩ = some (.int .i64 0) := hAy.cell (j := 3) rfl
        gi_wp2
        refine ⟨fun h => by simp [Fence.wide] at h, hR.mono ?_⟩
        clear hR hy hYk hkd hfd hb1 hb2 hA1 hA2 hO1 q0 q1 q2 q3 q0y q1y q2y q3y hAy
        rintro e W3 (⟨rfl, hJ3, hk3⟩ | ⟨rfl, hJx3⟩)
        · have hcs3 : W3.cell? ⟨bs, 0, none⟩ = some (.string P) := hk3.cell1.trans hcsy
          have hO3 : Hid (OpsIs W3) := fun o ho j hj => hk3.cell2.trans (hOy o ho j hj)
          have hnx3 : Hid ((evSeq 0 code).drop (k + 1) = evSeq (a + 3) (code.drop (a + 3))) := hnx
          gi_wp2
          go_roundw
          case rel => exact ⟨k + 1, a + 3, by omega, by omega, by go_num, hnx3, hcs3, hO3, hJ3⟩
          case measure => simp [intOf]; omega
        · gi_wp2
          refine bodyPost_ret (results_none rfl _ _ _) rfl ?_
          exact ⟨⟨_, rfl⟩, .inr ⟨upk K (k + 1), upk_prefix _ _, hJx3⟩⟩
      | short _ h12 hl =>
        have hnx := hnext _ rfl
        generalize (code[a]!).toNat = o at *
        have hw : IntKind.i64.wrap (o : Int) = (o : Int) := IntWalk.i64_in _ (by omega)
        have hop : decide ((o : Int) < 12) = true := by simp; omega
        obtain ⟨W1, hW1⟩ : ∃ W1, W1 = wr.alloc (.cells #[.int .i64 (a : Int), .int .i64 (o : Int), .int .i64 0, .int .i64 0] 66) := ⟨_, rfl⟩
        have hb1 : Below wr.heap.size wr W1 := by rw [hW1]; exact (Below.refl _ _).alloc (Nat.le_refl _) _
        have hA1 : Arr W1 wr.heap.size 66 [.int .i64 (a : Int), .int .i64 (o : Int), .int .i64 0, .int .i64 0] := by rw [hW1]; exact Arr.new rfl rfl
        have hgl := hOp.out.lt
        have hO1 := hOp.out.below hb1 hgl
        have hkd := kind_any a o 0 0 W1 (by omega) hO1 (Nat.lt_of_lt_of_le hgl hb1.size)
        unfold insAgg opVals at hkd
        rw [hl, Int.natCast_zero] at hkd
        replace hkd := Lib.hid hkd
        replace hps' := Lib.hid hps'
        gi_wp2
        rw [← hW1]
        refine ⟨trivial, fun h => by simp [Fence.wide] at h, (callsIn_wide.2 hkd.out).mono ?_⟩
        rintro e W2 ⟨rfl, hb2⟩
        have hb12 := hb1.trans (hb2.mono hb1.size)
        have hA2 := hA1.below hb2
        have q0 := hA2.cell (j := 0) rfl
        have q1 := hA2.cell (j := 1) rfl
        have q2 := hA2.cell (j := 2) rfl
        have q3 := hA2.cell (j := 3) rfl
        have hcs2 : W2.cell? ⟨bs, 0, none⟩ = some (.string P) := (World.cell?_of_block (w' := W2) (w := wr) (a := ⟨bs, 0, none⟩) (hb12.block bs (World.block_lt_of_cell? wr ⟨bs, 0, none⟩ hcs))).trans hcs
        have hO2 := hOp.out.below hb12 hgl
        obtain ⟨fn, tmps, assign, body, hy, hR⟩ := hYk W2 (hJb _ _ _ hJ hb12)
        simp only [insAgg, Int.natCast_zero] at hy
        clear hW1
        have hfd := fun W => field_long (.string (str (opName o))) (.int .i64 (takesOp o : Nat)) (.int .i64 (putsOp o : Nat)) (.bool false) (.bool (leadOp o)) W
        gi_wp2
        refine ⟨fun h => by simp [Fence.wide] at h, hR.mono ?_⟩
        clear hR hy hYk hkd hfd hb1 hb2 hA1 hA2 hO1 q0 q1 q2 q3
        rintro e W3 (⟨rfl, hJ3, hk3⟩ | ⟨rfl, hJx3⟩)
        · have hcs3 : W3.cell? ⟨bs, 0, none⟩ = some (.string P) := hk3.cell1.trans hcs2
          have hO3 : Hid (OpsIs W3) := fun o ho j hj => hk3.cell2.trans (hO2 o ho j hj)
          have hnx3 : Hid ((evSeq 0 code).drop (k + 1) = evSeq (a + 1) (code.drop (a + 1))) := hnx
          gi_wp2
          go_roundw
          case rel => exact ⟨k + 1, a + 1, by omega, by omega, by go_num, hnx3, hcs3, hO3, hJ3⟩
          case measure => simp [intOf]; omega
        · gi_wp2
          refine bodyPost_ret (results_none rfl _ _ _) rfl ?_
          exact ⟨⟨_, rfl⟩, .inr ⟨upk K (k + 1), upk_prefix _ _, hJx3⟩⟩
    · have hae : a = code.length := by omega
      have hkK : k = K := by
        have h := hev.out
        rw [hae, List.drop_length, evSeq] at h
        have := List.drop_eq_nil_iff.1 h
        omega
      have hd : decide ((a : Int) < (P.size : Int)) = false := by simp; omega
      have hj0 : ¬ a < P.size := by omega
      replace hae := Lib.hid hae
      replace hps' := Lib.hid hps'
      subst hkK
      gi_wp2
      go_end0
      exact ⟨⟨_, rfl⟩, .inl ⟨_, rfl, by rw [← upk_all]; exact hJ⟩⟩
end Go.Proofs.YtainohbfcehpoaaDoor
namespace Go.Proofs.YtainohbfcehpoaaDoor
open Go.RowKit

set_option maxHeartbeats 1000000 in
theorem instructions_any (s : ByteArray) (w : World) :
    Calls Tryd.prog 46 #[.string s] w fun e w' => e = .returned (.func (.func 55) #[] #[.pointer (some ⟨w.heap.size, 0, none⟩)]) ∧ Arr w' w.heap.size 9 [.string s] ∧ Below w.heap.size w w' := by
  have hmf : ∀ (fn : Fn) (first cap : Array Value) (w : World), (Instr.makeFunc fn first cap).run Tryd.prog w = .ok (.func fn first cap) w := fun _ _ _ _ => rfl
  go_enter Tryd.func46, Tryd.ntmps46
  go_wp2
  go_ret
  exact ⟨rfl, Arr.new rfl rfl, (Below.refl _ _).alloc (Nat.le_refl _) _⟩
end Go.Proofs.YtainohbfcehpoaaDoor
namespace Go.Proofs.YtainohbfcehpoaaDoor
open Go.RowKit

set_option maxHeartbeats 1000000 in
theorem cmpOff_any (off op opd to t : Nat) (w : World) (h1 : off ≤ 1000000) (h2 : t ≤ 1000000) :
    Calls Tryd.prog 48 #[insAgg off op opd to, .int .i64 (t : Int)] w fun e w' => e = .returned (.int .i64 ((off : Int) - (t : Int))) ∧ Below w.heap.size w w' := by
  have hw : IntKind.i64.wrap ((off : Int) - (t : Int)) = (off : Int) - (t : Int) := IntWalk.i64_in _ (by omega)
  unfold insAgg
  go_enter Tryd.func48, Tryd.ntmps48
  go_wp2
  go_ret
  exact ⟨rfl, (Below.refl _ _).alloc (Nat.le_refl _) _⟩
end Go.Proofs.YtainohbfcehpoaaDoor
namespace Go.Proofs.YtainohbfcehpoaaDoor
open Go.RowKit

/-- The cells of instructions, each with the number of the instruction to which it leads. -/
def insCells (l : List Ins) (tos : Nat → Nat) : List Value := (List.range l.length).flatMap fun i => [.int .i64 ((l[i]!).off : Int), .int .i64 ((l[i]!).op : Int), .int .i64 ((l[i]!).opd : Int), .int .i64 (tos i : Int)]
/-- A row of instructions lies at an address. -/
def InsRow (w : World) (b o : Nat) (l : List Ins) (tos : Nat → Nat) : Prop := ∀ i, i < l.length → w.cell? ⟨b, o + i * 4, none⟩ = some (.int .i64 ((l[i]!).off : Int)) ∧ w.cell? ⟨b, o + i * 4 + 1, none⟩ = some (.int .i64 ((l[i]!).op : Int)) ∧ w.cell? ⟨b, o + i * 4 + 2, none⟩ = some (.int .i64 ((l[i]!).opd : Int)) ∧ w.cell? ⟨b, o + i * 4 + 3, none⟩ = some (.int .i64 (tos i : Int))
theorem InsRow.keep {w w' : World} {b o : Nat} {l : List Ins} {tos : Nat → Nat} (h : InsRow w b o l tos) (hb : w'.heap[b]? = w.heap[b]?) : InsRow w' b o l tos := fun i hi => by
  obtain ⟨h0, h1, h2, h3⟩ := h i hi
  exact ⟨(World.cell?_of_block (a := ⟨b, o + i * 4, none⟩) hb).trans h0, (World.cell?_of_block (a := ⟨b, o + i * 4 + 1, none⟩) hb).trans h1, (World.cell?_of_block (a := ⟨b, o + i * 4 + 2, none⟩) hb).trans h2, (World.cell?_of_block (a := ⟨b, o + i * 4 + 3, none⟩) hb).trans h3⟩

theorem idxOf_none {l : List Ins} {t : Nat} (h : ∀ k, k < l.length → (l[k]!).off ≠ t) : idxOf l t = none := by
  cases hq : idxOf l t with
  | none => rfl
  | some j =>
    obtain ⟨h1, h2⟩ := idxOf_some hq
    exact absurd h2 (h j h1)
theorem Laid.le {a : Nat} {l : List Ins} (h : Laid a l) {i j : Nat} (hij : i ≤ j) (hj : j < l.length) : (l[i]!).off ≤ (l[j]!).off := by
  rcases Nat.lt_or_ge i j with h1 | h1
  · exact Nat.le_of_lt (h.lt i j h1 hj)
  · obtain rfl : i = j := by omega
    exact Nat.le_refl _
set_option maxRecDepth 100000 in
set_option maxHeartbeats 4000000 in
theorem search_any (b o c : Nat) (l : List Ins) (tos : Nat → Nat) (t : Nat) (w : World) (hc : l.length ≤ 100000) (hL : Laid 0 l) (hoff : ∀ i, i < l.length → (l[i]!).off ≤ 1000000) (ht : t ≤ 1000000) (hb : b < w.heap.size) (hR : InsRow w b o l tos) :
    Calls Tryd.prog 47 #[.slice (some ⟨b, o, none⟩) l.length c, .int .i64 (t : Int), .func (.func 48) #[] #[]] w fun e w' => ∃ j : Nat, e = .returned (.tuple #[.int .i64 (j : Int), .bool (idxOf l t).isSome]) ∧ (∀ k, idxOf l t = some k → j = k) ∧ Below w.heap.size w w' := by
  have hB : Below w.heap.size w w := Below.refl _ _
  go_enter Tryd.func47, Tryd.ntmps47
  go_wp2_with fail
  go_loopw [9, 10] (fun i j wr => ∃ x y : Nat, x ≤ y ∧ y ≤ l.length ∧ i = .int .i64 (x : Int) ∧ j = .int .i64 (y : Int) ∧ Hid (Below w.heap.size w wr) ∧ Hid (∀ k, k < x → (l[k]!).off < t) ∧ Hid (∀ k, y ≤ k → k < l.length → t ≤ (l[k]!).off)) (fun i j _ => (intOf j).toNat - (intOf i).toNat)
  case atStart => exact ⟨0, l.length, Nat.zero_le _, Nat.le_refl _, rfl, rfl, hB, (show Hid _ from fun k hk => by omega), (show Hid _ from fun k hk hk2 => by omega)⟩
  case round =>
    obtain ⟨x, y, hxy, hy, rfl, rfl, BW, hlo, hhi⟩ := hrel
    by_cases hlt : x < y
    · have hd : decide ((x : Int) < (y : Int)) = true := by simpa using hlt
      have hm : (x + y) / 2 < y := by omega
      have hml : (x + y) / 2 < l.length := by omega
      have hbw := BW.out.block b hb
      obtain ⟨m0, m1, m2, m3⟩ := (hR.keep hbw) _ hml
      have hcmp := fun W => cmpOff_any (l[(x + y) / 2]!).off (l[(x + y) / 2]!).op (l[(x + y) / 2]!).opd (tos ((x + y) / 2)) t W (hoff _ hml) ht
      unfold insAgg at hcmp
      have hw1 : IntKind.i64.wrap ((x : Int) + (y : Int)) = (x : Int) + (y : Int) := IntWalk.i64_in _ (by omega)
      have hlo2 : (l[(x + y) / 2]!).off < t → ∀ k, k < (x + y) / 2 + 1 → (l[k]!).off < t := fun h k hk => Nat.lt_of_le_of_lt (hL.le (by omega) hml) h
      have hhi2 : ¬ (l[(x + y) / 2]!).off < t → ∀ k, (x + y) / 2 ≤ k → k < l.length → t ≤ (l[k]!).off := fun h k hk hk2 => Nat.le_trans (by omega) (hL.le hk hk2)
      generalize l[(x + y) / 2]! = z at *
      replace hcmp := Lib.hid hcmp
      replace hlo2 := Lib.hid hlo2
      replace hhi2 := Lib.hid hhi2
      have hz2 : (z.off : Int) - (t : Int) < 0 ↔ z.off < t := by omega
      have hBr := BW.out
      go_wp2_with fail
      refine (hcmp.out _).mono ?_
      rintro e w2 ⟨rfl, hb2⟩
      have hB2 := hBr.trans (hb2.mono hBr.size)
      by_cases hz : z.off < t
      · have hd2 : decide ((z.off : Int) - (t : Int) < 0) = true := by simp; omega
        have hd3 : (z.off : Int) - (t : Int) < 0 := by omega
        have hl3 := Lib.hid (hlo2.out hz)
        clear hz2
        go_wp2_with fail
        exact ⟨⟨(x + y) / 2 + 1, y, by omega, hy, by go_num, rfl, hB2, hl3, hhi⟩, by simp [intOf]; omega⟩
      · have hd2 : decide ((z.off : Int) - (t : Int) < 0) = false := by simp; omega
        have hd3 : ¬ (z.off : Int) - (t : Int) < 0 := by omega
        have hl3 := Lib.hid (hhi2.out hz)
        clear hz2
        go_wp2_with fail
        exact ⟨⟨x, (x + y) / 2, by omega, by omega, rfl, by go_num, hB2, hlo, hl3⟩, by simp [intOf]; omega⟩
    · obtain rfl : x = y := by omega
      have hd : decide ((x : Int) < (x : Int)) = false := by simp
      have hBr := BW.out
      by_cases hxl : x < l.length
      · have hdx : decide ((x : Int) < (l.length : Int)) = true := by simpa using hxl
        have hbw := BW.out.block b hb
        obtain ⟨m0, m1, m2, m3⟩ := (hR.keep hbw) _ hxl
        have hcmp := fun W => cmpOff_any (l[x]!).off (l[x]!).op (l[x]!).opd (tos x) t W (hoff _ hxl) ht
        unfold insAgg at hcmp
        have hsome : (l[x]!).off = t → idxOf l t = some x := fun h => by rw [← h]; exact hL.idx hxl
        have hnone : (l[x]!).off ≠ t → idxOf l t = none := fun h => idxOf_none fun k hk => by
          rcases Nat.lt_trichotomy k x with h1 | h1 | h1
          · have := hlo.out k h1; omega
          · subst h1; exact h
          · have := hL.lt x k h1 hk
            have := hhi.out x (Nat.le_refl _) hxl
            omega
        generalize l[x]! = z at *
        replace hcmp := Lib.hid hcmp
        go_wp2_with fail
        refine (hcmp.out _).mono ?_
        rintro e w2 ⟨rfl, hb2⟩
        have hB2 := hBr.trans (hb2.mono hBr.size)
        by_cases hz : z.off = t
        · have hd2 : ((z.off : Int) - (t : Int) == 0) = true := by simp; omega
          have hi := Lib.hid (hsome hz)
          have hzz : (z.off : Int) - (t : Int) = 0 := by omega
          clear hsome hnone
          go_wp2_with fail
          refine bodyPost_ret (v := .tuple #[.int .i64 (x : Int), .bool true]) (by simp [results, Tryd.f47, go_sem]) rfl ⟨x, by rw [hi.out]; rfl, fun k hk => ?_, hB2⟩
          rw [hi.out] at hk
          injection hk
        · have hd2 : ((z.off : Int) - (t : Int) == 0) = false := by simp; omega
          have hi := Lib.hid (hnone hz)
          have hzz : (z.off : Int) - (t : Int) ≠ 0 := by omega
          clear hsome hnone
          go_wp2_with fail
          refine bodyPost_ret (v := .tuple #[.int .i64 (x : Int), .bool false]) (by simp [results, Tryd.f47, go_sem]) rfl ⟨x, by rw [hi.out]; rfl, fun k hk => ?_, hB2⟩
          rw [hi.out] at hk
          cases hk
      · have hdx : decide ((x : Int) < (l.length : Int)) = false := by simpa using hxl
        have hi := Lib.hid (idxOf_none (l := l) (t := t) fun k hk => by have := hlo.out k (by omega); omega)
        go_wp2_with fail
        refine bodyPost_ret (v := .tuple #[.int .i64 (x : Int), .bool false]) (by simp [results, Tryd.f47, go_sem]) rfl ⟨x, by rw [hi.out]; rfl, fun k hk => ?_, hBr⟩
        rw [hi.out] at hk
        cases hk
end Go.Proofs.YtainohbfcehpoaaDoor
