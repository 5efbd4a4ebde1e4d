/-
  The contract of the iterator over a program's instructions.
-/
import Derived.Test.YtainohbfcehpoaaDoorMb1
import Derived.Test.YtainohbfcehpoaaDoorMa8
import Derived.Test.YtainohbfcehpoaaDoorRegR
import Derived.BigRegionIn
import Derived.RangeFuncFrom
import Derived.RangeFuncLeaves
import Derived.OwnWalkIn
import Derived.BigFrameIn
import Derived.LoopIn
namespace Go.Proofs.YtainohbfcehpoaaDoor
open Go.RowKit

attribute [local go_sem] Oper.semAt_some

/-- Two blocks lie as they lay. -/
def KeepB (b1 b2 : Nat) (W W' : World) : Prop := W'.heap[b1]? = W.heap[b1]? ∧ W'.heap[b2]? = W.heap[b2]?
theorem keepB_t {b1 b2 : Nat} {A B C : World} (h : KeepB b1 b2 A B) (k : KeepB b1 b2 B C) : KeepB b1 b2 A C := ⟨k.1.trans h.1, k.2.trans h.2⟩
theorem keepB_b {b1 b2 : Nat} {w : World} (h1 : b1 < w.heap.size) (h2 : b2 < w.heap.size) (W : World) (l : Nat) (o o' : Obj) (hl : w.heap.size ≤ l) (_ : W.heap[l]? = some o) (_ : o.isCells = false) (_ : o.isWalk = false) : KeepB b1 b2 W (W.putObj l o') :=
  ⟨World.putObj_heap_other (by omega), World.putObj_heap_other (by omega)⟩
theorem KeepB.cell1 {b1 b2 o : Nat} {W W' : World} (h : KeepB b1 b2 W W') : W'.cell? ⟨b1, o, none⟩ = W.cell? ⟨b1, o, none⟩ := World.cell?_of_block (a := ⟨b1, o, none⟩) h.1
theorem KeepB.cell2 {b1 b2 o : Nat} {W W' : World} (h : KeepB b1 b2 W W') : W'.cell? ⟨b2, o, none⟩ = W.cell? ⟨b2, o, none⟩ := World.cell?_of_block (a := ⟨b2, o, none⟩) h.2
/-- The first k of the numbers below K. -/
def upk (K k : Nat) : List (Fin K) := (List.finRange K).take k
theorem upk_succ (K k : Nat) (h : k < K) : upk K (k + 1) = upk K k ++ [⟨k, h⟩] := by
  unfold upk
  rw [List.take_succ_eq_append_getElem (by simpa using h)]
  simp
theorem upk_len (K k : Nat) (h : k ≤ K) : (upk K k).length = k := by simp [upk]; omega
theorem upk_prefix (K k : Nat) : upk K k <+: List.finRange K := List.take_prefix _ _
theorem upk_all (K : Nat) : upk K K = List.finRange K := by
  unfold upk; exact List.take_of_length_le (by simp)


theorem or_bytes (b1 b2 : Nat) (h1 : b1 < 256) (h2 : b2 < 256) : bits .or .i64 ((b1 : Int) * 256) (b2 : Int) = ((256 * b1 + b2 : Nat) : Int) := by
  have key : (BitVec.ofInt 64 ((b1 : Int) * 256) ||| BitVec.ofInt 64 (b2 : Int)).toNat = 256 * b1 + b2 := by
    rw [BitVec.toNat_or, BitVec.toNat_ofInt, BitVec.toNat_ofInt]
    have e1 : (((b1 : Int) * 256) % ((2 ^ 64 : Nat) : Int)).toNat = 2 ^ 8 * b1 := by omega
    have e2 : ((b2 : Int) % ((2 ^ 64 : Nat) : Int)).toNat = b2 := by omega
    rw [e1, e2, ← Nat.two_pow_add_eq_or_of_lt (show b2 < 2 ^ 8 by omega)]
  show IntKind.i64.wrap ((BitVec.ofInt 64 ((b1 : Int) * 256) ||| BitVec.ofInt 64 (b2 : Int)).toNat : Nat) = _
  rw [key]
  exact IntWalk.i64_in _ (by omega)
theorem field_long (v0 v1 v2 v3 v4 : Value) (W : World) : (Instr.field 75 (.agg #[v0, v1, v2, v3, v4]) 3).run Tryd.prog W = .ok v3 W := by first | kernel_rfl | rfl | go_simp
theorem field_lead (v0 v1 v2 v3 v4 : Value) (W : World) : (Instr.field 75 (.agg #[v0, v1, v2, v3, v4]) 4).run Tryd.prog W = .ok v4 W := by first | kernel_rfl | rfl | go_simp
def evAt (code : List UInt8) (x : Nat) : Ins × Bool := (evSeq 0 code)[x]!
set_option maxRecDepth 100000 in
set_option maxHeartbeats 4000000 in
theorem instr1_stops (m bs K : Nat) (code : List UInt8) (w : World) (hK : K = (evSeq 0 code).length) (hc : code.length ≤ 100000) (hbs : bs < w.heap.size) (hg : 3 < w.heap.size) (hO : OpsIs w)
    (hs : w.cell? ⟨bs, 0, none⟩ = some (.string (str code))) :
    SeqStopsK Fence.wide m Tryd.prog 55 #[.pointer (some ⟨bs, 0, none⟩)] (fun x : Fin K => #[insAgg (evAt code x.1).1.off (evAt code x.1).1.op (evAt code x.1).1.opd 0, .bool (evAt code x.1).2]) (KeepB bs 3) (fun xs => xs = List.finRange K) (fun pre => pre <+: List.finRange K) K w := by
  intro l J Jx W hW hJa hJxa hY h0
  have hsW : W.cell? ⟨bs, 0, none⟩ = some (.string (str code)) := (hW.cell (p := ⟨bs, 0, none⟩) hbs).trans hs
  have hOW : OpsIs W := fun o ho j hj => (hW.cell (p := ⟨3, o * 5 + j, none⟩) hg).trans (hO o ho j hj)
  have hJb : ∀ pre (W1 W2 : World), J pre W1 → Below W1.heap.size W1 W2 → J pre W2 := fun pre W1 W2 h hb => hJa pre W1 _ none h ⟨hb.os, hb.tape, hb.output, hb.size, fun k hk _ => hb.block k hk⟩ (fun r e => by cases e)
  have hps : (str code).size = code.length := str_size code
  have hPG : ∀ j (h : j < (str code).size), (((str code)[j].toNat : Nat) : Int) = (code[j]!.toNat : Nat) := fun j h => by
    rw [getElem!_pos code j (by rw [str_size] at h; exact h)]
    show (((str code).data[j]'_ : UInt8).toNat : Int) = _
    simp [str]
  generalize str code = P at *
  replace hps := Lib.hid hps
  replace hPG := Lib.hid hPG
  clear hW hs hO hbs hg hJa hJxa
  refine callsIn_of_wp Tryd.func55 rfl trivial ?_ rfl
  simp only [Tryd.ntmps55, List.size_toArray, List.length_cons, List.length_nil, Nat.reduceAdd, Nat.reduceSub, Array.replicate_succ, Array.replicate_zero, List.push_toArray, List.append_toArray, List.nil_append, List.cons_append]
  gi_wp2
  gi_loopw [3] (fun i wr => ∃ k a : Nat, k ≤ K ∧ a ≤ code.length ∧ i = .int .i64 (a : Int) ∧ Hid ((evSeq 0 code).drop k = evSeq a (code.drop a)) ∧ wr.cell? ⟨bs, 0, none⟩ = some (.string P) ∧ Hid (OpsIs wr) ∧ J (upk K k) wr) (fun i _ => code.length - (intOf i).toNat)
  case atStart => exact ⟨0, 0, Nat.zero_le _, Nat.zero_le _, rfl, (show Hid _ from rfl), hsW, (show Hid _ from hOW), h0⟩
  case round =>
    obtain ⟨k, a, hk, ha, rfl, hev, hcs, hOp, hJ⟩ := hrel
    clear hsW hOW
    have hps' := hps.out
    by_cases hlt : a < code.length
    · have hj0 : a < P.size := by omega
      have hd : decide ((a : Int) < (P.size : Int)) = true := by simp; omega
      have hg := hPG.out a hj0
      obtain ⟨e, nx, hst, hseq⟩ := evSeq_step code a hlt
      rw [← hev.out] at hseq
      have hkK : k < K := by
        rw [hK]
        rcases Nat.lt_or_ge k (evSeq 0 code).length with h | h
        · exact h
        · rw [List.drop_eq_nil_of_le h] at hseq
          cases hseq
      have heA : evAt code k = e := by
        have hk2 : k < (evSeq 0 code).length := by omega
        rw [List.drop_eq_getElem_cons hk2] at hseq
        injection hseq with h1 h2
        rw [evAt, getElem!_pos _ k hk2, h1]
      have hnext : ∀ b, nx = some b → (evSeq 0 code).drop (k + 1) = evSeq b (code.drop b) := fun b hb => by
        have hk2 : k < (evSeq 0 code).length := by omega
        rw [List.drop_eq_getElem_cons hk2] at hseq
        injection hseq with h1 h2
        rw [h2, hb]
      have hfin : nx = none → k + 1 = K := fun hb => by
        have hk2 : k < (evSeq 0 code).length := by omega
        rw [List.drop_eq_getElem_cons hk2] at hseq
        injection hseq with h1 h2
        rw [hb] at h2
        have := congrArg List.length h2
        simp at this
        omega
      have hYk := fun (W1 : World) (h : J (upk K k) W1) => hY (upk K k) ⟨k, hkK⟩ W1 h (by rw [upk_len _ _ hk]; omega)
      rw [← upk_succ K k hkK] at hYk
      dsimp only at hYk
      rw [heA] at hYk
      have hb256 := (code[a]!).toNat_lt
      clear hY hseq hev
      cases hst with
      | bad _ h12 =>
        generalize (code[a]!).toNat = o at *
        have hw : IntKind.i64.wrap (o : Int) = (o : Int) := IntWalk.i64_in _ (by omega)
        have hop : decide ((o : Int) < 12) = false := by simp; omega
        have hJ2 : ∀ ob : Obj, J (upk K k) (wr.alloc ob) := fun ob => hJb _ _ _ hJ ((Below.refl _ _).alloc (Nat.le_refl _) _)
        replace hps' := Lib.hid hps'
        obtain ⟨fn, tmps, assign, body, hy, hR⟩ := hYk _ (hJ2 (.cells #[.int .i64 (a : Int), .int .i64 (o : Int), .int .i64 0, .int .i64 0] 66))
        simp only [insAgg, Int.natCast_zero] at hy
        gi_wp2
        refine ⟨trivial, ?_⟩
        gi_wp2
        refine ⟨fun h => by simp [Fence.wide] at h, hR.mono ?_⟩
        clear hR hy hYk
        rintro e W3 (⟨rfl, hJ3, hk3⟩ | ⟨rfl, hJx3⟩)
        · gi_wp2
          refine bodyPost_ret (results_none rfl _ _ _) rfl ?_
          refine ⟨⟨_, rfl⟩, .inl ⟨_, rfl, ?_⟩⟩
          rw [hfin trivial] at hJ3
          rw [← upk_all]
          exact hJ3
        · gi_wp2
          refine bodyPost_ret (results_none rfl _ _ _) rfl ?_
          exact ⟨⟨_, rfl⟩, .inr ⟨upk K (k + 1), upk_prefix _ _, hJx3⟩⟩
      | cut _ h12 hl hc3 =>
        generalize (code[a]!).toNat = o at *
        have hw : IntKind.i64.wrap (o : Int) = (o : Int) := IntWalk.i64_in _ (by omega)
        have hop : decide ((o : Int) < 12) = true := by simp; omega
        obtain ⟨W1, hW1⟩ : ∃ W1, W1 = wr.alloc (.cells #[.int .i64 (a : Int), .int .i64 (o : Int), .int .i64 0, .int .i64 0] 66) := ⟨_, rfl⟩
        have hb1 : Below wr.heap.size wr W1 := by rw [hW1]; exact (Below.refl _ _).alloc (Nat.le_refl _) _
        have hA1 : Arr W1 wr.heap.size 66 [.int .i64 (a : Int), .int .i64 (o : Int), .int .i64 0, .int .i64 0] := by rw [hW1]; exact Arr.new rfl rfl
        have hgl := hOp.out.lt
        have hO1 := hOp.out.below hb1 hgl
        have hkd := kind_any a o 0 0 W1 (by omega) hO1 (Nat.lt_of_lt_of_le hgl hb1.size)
        unfold insAgg opVals at hkd
        rw [hl, Int.natCast_zero] at hkd
        replace hkd := Lib.hid hkd
        replace hps' := Lib.hid hps'
        gi_wp2
        rw [← hW1]
        refine ⟨trivial, fun h => by simp [Fence.wide] at h, (callsIn_wide.2 hkd.out).mono ?_⟩
        rintro e W2 ⟨rfl, hb2⟩
        have hb12 := hb1.trans (hb2.mono hb1.size)
        have hA2 := hA1.below hb2
        have q0 := hA2.cell (j := 0) rfl
        have q1 := hA2.cell (j := 1) rfl
        have q2 := hA2.cell (j := 2) rfl
        have q3 := hA2.cell (j := 3) rfl
        have hcs2 : W2.cell? ⟨bs, 0, none⟩ = some (.string P) := (World.cell?_of_block (w' := W2) (w := wr) (a := ⟨bs, 0, none⟩) (hb12.block bs (World.block_lt_of_cell? wr ⟨bs, 0, none⟩ hcs))).trans hcs
        have hO2 := hOp.out.below hb12 hgl
        obtain ⟨fn, tmps, assign, body, hy, hR⟩ := hYk W2 (hJb _ _ _ hJ hb12)
        simp only [insAgg, Int.natCast_zero] at hy
        clear hW1
        have hfd := fun W => field_long (.string (str (opName o))) (.int .i64 (takesOp o : Nat)) (.int .i64 (putsOp o : Nat)) (.bool true) (.bool (leadOp o)) W
        have hd3 : decide ((a : Int) + 1 + 2 ≤ (P.size : Int)) = false := by have := hps'.out; simp; omega
        have hd4 : ¬ (a : Int) + 1 + 2 ≤ (P.size : Int) := by have := hps'.out; omega
        gi_wp2
        refine ⟨fun h => by simp [Fence.wide] at h, hR.mono ?_⟩
        clear hR hy hYk hkd hfd hb1 hb2 hA1 hA2 hO1 q0 q1 q2 q3
        rintro e W3 (⟨rfl, hJ3, hk3⟩ | ⟨rfl, hJx3⟩)
        · gi_wp2
          refine bodyPost_ret (results_none rfl _ _ _) rfl ?_
          refine ⟨⟨_, rfl⟩, .inl ⟨_, rfl, ?_⟩⟩
          rw [hfin trivial] at hJ3
          rw [← upk_all]
          exact hJ3
        · gi_wp2
          refine bodyPost_ret (results_none rfl _ _ _) rfl ?_
          exact ⟨⟨_, rfl⟩, .inr ⟨upk K (k + 1), upk_prefix _ _, hJx3⟩⟩
      | long _ h12 hl hc3 =>
        have hnx := hnext _ rfl
        generalize (code[a]!).toNat = o at *
        have hw : IntKind.i64.wrap (o : Int) = (o : Int) := IntWalk.i64_in _ (by omega)
        have hop : decide ((o : Int) < 12) = true := by simp; omega
        obtain ⟨W1, hW1⟩ : ∃ W1, W1 = wr.alloc (.cells #[.int .i64 (a : Int), .int .i64 (o : Int), .int .i64 0, .int .i64 0] 66) := ⟨_, rfl⟩
        have hb1 : Below wr.heap.size wr W1 := by rw [hW1]; exact (Below.refl _ _).alloc (Nat.le_refl _) _
        have hA1 : Arr W1 wr.heap.size 66 [.int .i64 (a : Int), .int .i64 (o : Int), .int .i64 0, .int .i64 0] := by rw [hW1]; exact Arr.new rfl rfl
        have hgl := hOp.out.lt
        have hO1 := hOp.out.below hb1 hgl
        have hkd := kind_any a o 0 0 W1 (by omega) hO1 (Nat.lt_of_lt_of_le hgl hb1.size)
        unfold insAgg opVals at hkd
        rw [hl, Int.natCast_zero] at hkd
        replace hkd := Lib.hid hkd
        replace hps' := Lib.hid hps'
        gi_wp2
        rw [← hW1]
        refine ⟨trivial, fun h => by simp [Fence.wide] at h, (callsIn_wide.2 hkd.out).mono ?_⟩
        rintro e W2 ⟨rfl, hb2⟩
        have hb12 := hb1.trans (hb2.mono hb1.size)
        have hA2 := hA1.below hb2
        have q0 := hA2.cell (j := 0) rfl
        have q1 := hA2.cell (j := 1) rfl
        have q2 := hA2.cell (j := 2) rfl
        have q3 := hA2.cell (j := 3) rfl
        have hcs2 : W2.cell? ⟨bs, 0, none⟩ = some (.string P) := (World.cell?_of_block (w' := W2) (w := wr) (a := ⟨bs, 0, none⟩) (hb12.block bs (World.block_lt_of_cell? wr ⟨bs, 0, none⟩ hcs))).trans hcs
        have hO2 := hOp.out.below hb12 hgl
        clear hW1
        have hfd := fun W => field_long (.string (str (opName o))) (.int .i64 (takesOp o : Nat)) (.int .i64 (putsOp o : Nat)) (.bool true) (.bool (leadOp o)) W
        have hj1 : a + 1 < P.size := by have := hps'.out; omega
        have hj2 : a + 2 < P.size := by have := hps'.out; omega
        have g1 := hPG.out (a + 1) hj1
        have g2 := hPG.out (a + 2) hj2
        have hl1 := (code[a + 1]!).toNat_lt
        have hl2 := (code[a + 2]!).toNat_lt
        generalize (code[a + 1]!).toNat = b1 at *
        generalize (code[a + 2]!).toNat = b2 at *
        have hw1 : IntKind.i64.wrap (b1 : Int) = (b1 : Int) := IntWalk.i64_in _ (by omega)
        have hw2 : IntKind.i64.wrap (b2 : Int) = (b2 : Int) := IntWalk.i64_in _ (by omega)
        have hd3 : decide ((a : Int) + 1 + 2 ≤ (P.size : Int)) = true := by have := hps'.out; simp; omega
        have hd4 : (a : Int) + 1 + 2 ≤ (P.size : Int) := by have := hps'.out; omega
        have i1 : (0 : Int) ≤ (a : Int) + 1 := by omega
        have i2 : (a : Int) + 1 < (P.size : Int) := by omega
        have i3 : (a : Int) + 1 + 1 < (P.size : Int) := by omega
        have i4 : (0 : Int) ≤ (a : Int) + 1 + 1 := by omega
        have hj3 : a + 1 + 1 < P.size := hj2
        have g3 : (((P[a + 1 + 1]'hj3).toNat : Nat) : Int) = (b2 : Int) := g2
        have t1 : ((a : Int) + 1 + 1).toNat = a + 1 + 1 := by omega
        have fB := hA2.free 2
        have hor := or_bytes b1 b2 hl1 hl2
        obtain ⟨Wy, hWy⟩ : ∃ Wy, Wy = (W2.setCell ⟨wr.heap.size, 2, none⟩ (.int .i64 ((256 * b1 + b2 : Nat) : Int))).drew := ⟨_, rfl⟩
        have hby : Below wr.heap.size wr Wy := by rw [hWy]; exact (hb12.setCell (p := ⟨wr.heap.size, 2, none⟩) (Nat.le_refl _) _).drew
        have hcsy : Wy.cell? ⟨bs, 0, none⟩ = some (.string P) := (World.cell?_of_block (w' := Wy) (w := wr) (a := ⟨bs, 0, none⟩) (hby.block bs (World.block_lt_of_cell? wr ⟨bs, 0, none⟩ hcs))).trans hcs
        have hOy := hOp.out.below hby hgl
        have hAy : Arr Wy wr.heap.size 66 [.int .i64 (a : Int), .int .i64 (o : Int), .int .i64 ((256 * b1 + b2 : Nat) : Int), .int .i64 0] := by rw [hWy]; exact (hA2.set 2 _).drew
        obtain ⟨fn, tmps, assign, body, hy, hR⟩ := hYk Wy (hJb _ _ _ hJ hby)
        simp only [insAgg, Int.natCast_zero] at hy
        generalize ((256 * b1 + b2 : Nat) : Int) = opz at *
        gi_wp2
        gi_region
        rw [← hWy]
        clear hWy
        have q0y : Wy.cell? ⟨wr.heap.size, 0, none⟩ = some (.int .i64 (a : Int)) := hAy.cell (j := 0) rfl
        have q1y : Wy.cell? ⟨wr.heap.size, 1, none⟩ = some (.int .i64 (o : Int)) := hAy.cell (j := 1) rfl
        have q2y : Wy.cell? ⟨wr.heap.size, 2, none⟩ = some (.int .i64 opz) := hAy.cell (j := 2) rfl
        have q3y : Wy.cell? ⟨wr.heap.size, 3, none⟩ = some (.int .i64 0) := hAy.cell (j := 3) rfl
        gi_wp2
        refine ⟨fun h => by simp [Fence.wide] at h, hR.mono ?_⟩
        clear hR hy hYk hkd hfd hb1 hb2 hA1 hA2 hO1 q0 q1 q2 q3 q0y q1y q2y q3y hAy
        rintro e W3 (⟨rfl, hJ3, hk3⟩ | ⟨rfl, hJx3⟩)
        · have hcs3 : W3.cell? ⟨bs, 0, none⟩ = some (.string P) := hk3.cell1.trans hcsy
          have hO3 : Hid (OpsIs W3) := fun o ho j hj => hk3.cell2.trans (hOy o ho j hj)
          have hnx3 : Hid ((evSeq 0 code).drop (k + 1) = evSeq (a + 3) (code.drop (a + 3))) := hnx
          gi_wp2
          go_roundw
          case rel => exact ⟨k + 1, a + 3, by omega, by omega, by go_num, hnx3, hcs3, hO3, hJ3⟩
          case measure => simp [intOf]; omega
        · gi_wp2
          refine bodyPost_ret (results_none rfl _ _ _) rfl ?_
          exact ⟨⟨_, rfl⟩, .inr ⟨upk K (k + 1), upk_prefix _ _, hJx3⟩⟩
      | short _ h12 hl =>
        have hnx := hnext _ rfl
        generalize (code[a]!).toNat = o at *
        have hw : IntKind.i64.wrap (o : Int) = (o : Int) := IntWalk.i64_in _ (by omega)
        have hop : decide ((o : Int) < 12) = true := by simp; omega
        obtain ⟨W1, hW1⟩ : ∃ W1, W1 = wr.alloc (.cells #[.int .i64 (a : Int), .int .i64 (o : Int), .int .i64 0, .int .i64 0] 66) := ⟨_, rfl⟩
        have hb1 : Below wr.heap.size wr W1 := by rw [hW1]; exact (Below.refl _ _).alloc (Nat.le_refl _) _
        have hA1 : Arr W1 wr.heap.size 66 [.int .i64 (a : Int), .int .i64 (o : Int), .int .i64 0, .int .i64 0] := by rw [hW1]; exact Arr.new rfl rfl
        have hgl := hOp.out.lt
        have hO1 := hOp.out.below hb1 hgl
        have hkd := kind_any a o 0 0 W1 (by omega) hO1 (Nat.lt_of_lt_of_le hgl hb1.size)
        unfold insAgg opVals at hkd
        rw [hl, Int.natCast_zero] at hkd
        replace hkd := Lib.hid hkd
        replace hps' := Lib.hid hps'
        gi_wp2
        rw [← hW1]
        refine ⟨trivial, fun h => by simp [Fence.wide] at h, (callsIn_wide.2 hkd.out).mono ?_⟩
        rintro e W2 ⟨rfl, hb2⟩
        have hb12 := hb1.trans (hb2.mono hb1.size)
        have hA2 := hA1.below hb2
        have q0 := hA2.cell (j := 0) rfl
        have q1 := hA2.cell (j := 1) rfl
        have q2 := hA2.cell (j := 2) rfl
        have q3 := hA2.cell (j := 3) rfl
        have hcs2 : W2.cell? ⟨bs, 0, none⟩ = some (.string P) := (World.cell?_of_block (w' := W2) (w := wr) (a := ⟨bs, 0, none⟩) (hb12.block bs (World.block_lt_of_cell? wr ⟨bs, 0, none⟩ hcs))).trans hcs
        have hO2 := hOp.out.below hb12 hgl
        obtain ⟨fn, tmps, assign, body, hy, hR⟩ := hYk W2 (hJb _ _ _ hJ hb12)
        simp only [insAgg, Int.natCast_zero] at hy
        clear hW1
        have hfd := fun W => field_long (.string (str (opName o))) (.int .i64 (takesOp o : Nat)) (.int .i64 (putsOp o : Nat)) (.bool false) (.bool (leadOp o)) W
        gi_wp2
        refine ⟨fun h => by simp [Fence.wide] at h, hR.mono ?_⟩
        clear hR hy hYk hkd hfd hb1 hb2 hA1 hA2 hO1 q0 q1 q2 q3
        rintro e W3 (⟨rfl, hJ3, hk3⟩ | ⟨rfl, hJx3⟩)
        · have hcs3 : W3.cell? ⟨bs, 0, none⟩ = some (.string P) := hk3.cell1.trans hcs2
          have hO3 : Hid (OpsIs W3) := fun o ho j hj => hk3.cell2.trans (hO2 o ho j hj)
          have hnx3 : Hid ((evSeq 0 code).drop (k + 1) = evSeq (a + 1) (code.drop (a + 1))) := hnx
          gi_wp2
          go_roundw
          case rel => exact ⟨k + 1, a + 1, by omega, by omega, by go_num, hnx3, hcs3, hO3, hJ3⟩
          case measure => simp [intOf]; omega
        · gi_wp2
          refine bodyPost_ret (results_none rfl _ _ _) rfl ?_
          exact ⟨⟨_, rfl⟩, .inr ⟨upk K (k + 1), upk_prefix _ _, hJx3⟩⟩
    · have hae : a = code.length := by omega
      have hkK : k = K := by
        have h := hev.out
        rw [hae, List.drop_length, evSeq] at h
        have := List.drop_eq_nil_iff.1 h
        omega
      have hd : decide ((a : Int) < (P.size : Int)) = false := by simp; omega
      have hj0 : ¬ a < P.size := by omega
      replace hae := Lib.hid hae
      replace hps' := Lib.hid hps'
      subst hkK
      gi_wp2
      go_end0
      exact ⟨⟨_, rfl⟩, .inl ⟨_, rfl, by rw [← upk_all]; exact hJ⟩⟩
end Go.Proofs.YtainohbfcehpoaaDoor
