/-
  The contracts of slices.Chunk and of the iterator that it gives.
-/
import Derived.Test.YtllofogjojlamaaDoorIter
import Derived.BigRegionIn
namespace Go.Proofs.YtllofogjojlamaaDoor
open Go.RowKit Go.Shelf

attribute [local go_sem] Oper.semAt_some

/-- Two blocks lie as they lay. -/
def KeepB (b1 b2 : Nat) (W W' : World) : Prop := W'.heap[b1]? = W.heap[b1]? ∧ W'.heap[b2]? = W.heap[b2]?
theorem keepB_t {b1 b2 : Nat} {A B C : World} (h : KeepB b1 b2 A B) (k : KeepB b1 b2 B C) : KeepB b1 b2 A C := ⟨k.1.trans h.1, k.2.trans h.2⟩
theorem keepB_b {b1 b2 : Nat} {w : World} (h1 : b1 < w.heap.size) (h2 : b2 < w.heap.size) (W : World) (l : Nat) (o o' : Obj) (hl : w.heap.size ≤ l) (_ : W.heap[l]? = some o) (_ : o.isCells = false) (_ : o.isWalk = false) : KeepB b1 b2 W (W.putObj l o') :=
  ⟨World.putObj_heap_other (by omega), World.putObj_heap_other (by omega)⟩
theorem KeepB.cell1 {b1 b2 o : Nat} {W W' : World} (h : KeepB b1 b2 W W') : W'.cell? ⟨b1, o, none⟩ = W.cell? ⟨b1, o, none⟩ := World.cell?_of_block (a := ⟨b1, o, none⟩) h.1
theorem KeepB.cell2 {b1 b2 o : Nat} {W W' : World} (h : KeepB b1 b2 W W') : W'.cell? ⟨b2, o, none⟩ = W.cell? ⟨b2, o, none⟩ := World.cell?_of_block (a := ⟨b2, o, none⟩) h.2

set_option maxHeartbeats 1000000 in
theorem chunk1_stops (m b cap bs bn M : Nat) (w : World) (hM : M ≤ 10000) (hcap : 64 * (M + 1) ≤ cap) (hcap2 : cap ≤ maxLen) (hbs : bs < w.heap.size) (hbn : bn < w.heap.size)
    (hs : w.cell? ⟨bs, 0, none⟩ = some (.slice (some ⟨b, 0, none⟩) (64 * (M + 1)) cap)) (hn : w.cell? ⟨bn, 0, none⟩ = some (.int .i64 64)) :
    SeqStopsK Fence.wide m Tryd.prog 43 #[.pointer (some ⟨bs, 0, none⟩), .pointer (some ⟨bn, 0, none⟩)] (fun x : Fin (M + 1) => #[.slice (some ⟨b, 64 * x.1, none⟩) 64 64]) (KeepB bs bn) (fun xs => xs = List.finRange (M + 1)) (fun pre => pre <+: List.finRange (M + 1)) (M + 1) w := by
  intro l J Jx W hW hJa hJxa hY h0
  have hsW : W.cell? ⟨bs, 0, none⟩ = some (.slice (some ⟨b, 0, none⟩) (64 * (M + 1)) cap) := (hW.cell (p := ⟨bs, 0, none⟩) hbs).trans hs
  have hnW : W.cell? ⟨bn, 0, none⟩ = some (.int .i64 64) := (hW.cell (p := ⟨bn, 0, none⟩) hbn).trans hn
  have hdr : ∀ pre (W1 : World), J pre W1 → J pre W1.drew := fun pre W1 h => hJa pre W1 _ none h ⟨rfl, rfl, rfl, Nat.le_refl _, fun _ _ _ => rfl⟩ (fun r e => by cases e)
  unfold maxLen at hcap2
  clear hW hs hn hbs hbn hJa hJxa
  refine callsIn_of_wp Tryd.func43 rfl trivial ?_ rfl
  simp only [Tryd.ntmps43, List.size_toArray, List.length_cons, List.length_nil, Nat.reduceAdd, Nat.reduceSub, Array.replicate_succ, Array.replicate_zero, List.push_toArray, List.append_toArray, List.nil_append, List.cons_append]
  gi_wp2
  gi_loopw [4] (fun i wr => ∃ k : Nat, k ≤ M + 1 ∧ i = .int .i64 ((64 * k : Nat) : Int) ∧ wr.cell? ⟨bs, 0, none⟩ = some (.slice (some ⟨b, 0, none⟩) (64 * (M + 1)) cap) ∧ wr.cell? ⟨bn, 0, none⟩ = some (.int .i64 64) ∧ J (upl M k) wr) (fun i _ => 64 * (M + 1) - (intOf i).toNat)
  case atStart => exact ⟨0, Nat.zero_le _, rfl, hsW, hnW, h0⟩
  case round =>
    obtain ⟨k, hk, rfl, hcs, hcn, hJ⟩ := hrel
    clear hsW hnW
    by_cases hlt : k ≤ M
    · have hlt' : 64 * k < 64 * (M + 1) := by omega
      have hd : decide (64 * k < 64 * (M + 1)) = true := by simp; omega
      obtain ⟨fn, tmps, assign, body, hy, hR⟩ := hY (upl M k) ⟨k, by omega⟩ wr.drew (hdr _ _ hJ) (by rw [upl_len _ _ hk]; omega)
      rw [← upl_succ M k (by omega)] at hR
      dsimp only at hy
      gi_wp2
      gi_region
      gi_wp2
      refine ⟨fun h => by simp [Fence.wide] at h, hR.mono ?_⟩
      clear hR hy hdr
      rintro e W3 (⟨rfl, hJ3, hk3⟩ | ⟨rfl, hJx3⟩)
      · have hcs3 : W3.cell? ⟨bs, 0, none⟩ = some (.slice (some ⟨b, 0, none⟩) (64 * (M + 1)) cap) := hk3.cell1.trans hcs
        have hcn3 : W3.cell? ⟨bn, 0, none⟩ = some (.int .i64 64) := hk3.cell2.trans hcn
        gi_wp2
        go_roundw
        case rel => exact ⟨k + 1, by omega, by go_num, hcs3, hcn3, hJ3⟩
        case measure => simp [intOf]; omega
      · gi_wp2
        refine bodyPost_ret (results_none rfl _ _ _) rfl ?_
        exact ⟨⟨_, rfl⟩, .inr ⟨upl M (k + 1), upl_prefix _ _, hJx3⟩⟩
    · have hd : decide (64 * k < 64 * (M + 1)) = false := by simp; omega
      obtain rfl : k = M + 1 := by omega
      gi_wp2
      go_end0
      exact ⟨⟨_, rfl⟩, .inl ⟨_, rfl, by rw [← upl_all]; exact hJ⟩⟩

set_option maxHeartbeats 400000 in
theorem Chunk_any (b n cap : Nat) (w : World) :
    Calls Tryd.prog 32 #[.slice (some ⟨b, 0, none⟩) n cap, .int .i64 64] w fun e w' => e = .returned (.func (.func 43) #[] #[.pointer (some ⟨w.heap.size, 0, none⟩), .pointer (some ⟨w.heap.size + 1, 0, none⟩)]) ∧ Mine w' w.heap.size 0 (.slice (some ⟨b, 0, none⟩) n cap) ∧ Mine w' (w.heap.size + 1) 0 (.int .i64 64) ∧ Below w.heap.size w w' := by
  have hmf : ∀ (fn : Fn) (first cap : Array Value) (w : World), (Instr.makeFunc fn first cap).run Tryd.prog w = .ok (.func fn first cap) w := fun _ _ _ _ => rfl
  go_enter Tryd.func32, Tryd.ntmps32
  go_wp2
  go_ret
  exact ⟨rfl, (Mine.new rfl).alloc _, by simpa using Mine.new (w := w.alloc _) (o := 0) rfl, (by repeat first | with_reducible exact Below.refl _ _ | with_reducible assumption | with_reducible refine below_drewN ?_ _ | with_reducible refine Below.drew ?_ | with_reducible refine Below.setCell ?_ (by first | exact Nat.le_refl _ | (simp; done) | (simp; omega) | omega) _ | with_reducible refine Below.alloc ?_ (by first | exact Nat.le_refl _ | (simp; done) | (simp; omega) | omega) _ | exact Below.refl _ _ | assumption)⟩

end Go.Proofs.YtllofogjojlamaaDoor
