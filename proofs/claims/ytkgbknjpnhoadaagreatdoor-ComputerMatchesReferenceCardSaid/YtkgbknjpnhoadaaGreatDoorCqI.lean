/-
  The contracts of slices.Chunk (pairs of bytes) and of computer.Print.
-/
import Derived.Test.YtkgbknjpnhoadaaGreatDoorCqH
import Derived.Test.YtkgbknjpnhoadaaGreatDoorRegR
import Derived.BigRegionIn
import Derived.RangeFuncFrom
import Derived.RangeFuncLeaves
namespace Go.Proofs.YtkgbknjpnhoadaaGreatDoor
open Go.RowKit Go.Shelf

attribute [local go_sem] Oper.semAt_some

/-- Two blocks lie as they lay. -/
def KeepB (b1 b2 : Nat) (W W' : World) : Prop := W'.heap[b1]? = W.heap[b1]? ∧ W'.heap[b2]? = W.heap[b2]?
theorem keepB_t {b1 b2 : Nat} {A B C : World} (h : KeepB b1 b2 A B) (k : KeepB b1 b2 B C) : KeepB b1 b2 A C := ⟨k.1.trans h.1, k.2.trans h.2⟩
theorem keepB_b {b1 b2 : Nat} {w : World} (h1 : b1 < w.heap.size) (h2 : b2 < w.heap.size) (W : World) (l : Nat) (o o' : Obj) (hl : w.heap.size ≤ l) (_ : W.heap[l]? = some o) (_ : o.isCells = false) (_ : o.isWalk = false) : KeepB b1 b2 W (W.putObj l o') :=
  ⟨World.putObj_heap_other (by omega), World.putObj_heap_other (by omega)⟩
theorem KeepB.cell1 {b1 b2 o : Nat} {W W' : World} (h : KeepB b1 b2 W W') : W'.cell? ⟨b1, o, none⟩ = W.cell? ⟨b1, o, none⟩ := World.cell?_of_block (a := ⟨b1, o, none⟩) h.1
theorem KeepB.cell2 {b1 b2 o : Nat} {W W' : World} (h : KeepB b1 b2 W W') : W'.cell? ⟨b2, o, none⟩ = W.cell? ⟨b2, o, none⟩ := World.cell?_of_block (a := ⟨b2, o, none⟩) h.2
/-- The first k of the numbers below K. -/
def upk (K k : Nat) : List (Fin K) := (List.finRange K).take k
theorem upk_succ (K k : Nat) (h : k < K) : upk K (k + 1) = upk K k ++ [⟨k, h⟩] := by
  unfold upk
  rw [List.take_succ_eq_append_getElem (by simpa using h)]
  simp
theorem upk_len (K k : Nat) (h : k ≤ K) : (upk K k).length = k := by simp [upk]; omega
theorem upk_prefix (K k : Nat) : upk K k <+: List.finRange K := List.take_prefix _ _
theorem upk_all (K : Nat) : upk K K = List.finRange K := by
  unfold upk; exact List.take_of_length_le (by simp)

set_option maxHeartbeats 1000000 in
theorem chunk1_stops (m b cap bs bn K : Nat) (w : World) (hK : K ≤ 10000) (hcap : 2 * K ≤ cap) (hcap2 : cap ≤ maxLen) (hbs : bs < w.heap.size) (hbn : bn < w.heap.size)
    (hs : w.cell? ⟨bs, 0, none⟩ = some (.slice (some ⟨b, 0, none⟩) (2 * K) cap)) (hn : w.cell? ⟨bn, 0, none⟩ = some (.int .i64 2)) :
    SeqStopsK Fence.wide m Tryz.prog 47 #[.pointer (some ⟨bs, 0, none⟩), .pointer (some ⟨bn, 0, none⟩)] (fun x : Fin K => #[.slice (some ⟨b, 2 * x.1, none⟩) 2 2]) (KeepB bs bn) (fun xs => xs = List.finRange K) (fun pre => pre <+: List.finRange K) K w := by
  intro l J Jx W hW hJa hJxa hY h0
  have hsW : W.cell? ⟨bs, 0, none⟩ = some (.slice (some ⟨b, 0, none⟩) (2 * K) cap) := (hW.cell (p := ⟨bs, 0, none⟩) hbs).trans hs
  have hnW : W.cell? ⟨bn, 0, none⟩ = some (.int .i64 2) := (hW.cell (p := ⟨bn, 0, none⟩) hbn).trans hn
  have hdr : ∀ pre (W1 : World), J pre W1 → J pre W1.drew := fun pre W1 h => hJa pre W1 _ none h ⟨rfl, rfl, rfl, Nat.le_refl _, fun _ _ _ => rfl⟩ (fun r e => by cases e)
  unfold maxLen at hcap2
  clear hW hs hn hbs hbn hJa hJxa
  refine callsIn_of_wp Tryz.func47 rfl trivial ?_ rfl
  simp only [Tryz.ntmps47, List.size_toArray, List.length_cons, List.length_nil, Nat.reduceAdd, Nat.reduceSub, Array.replicate_succ, Array.replicate_zero, List.push_toArray, List.append_toArray, List.nil_append, List.cons_append]
  gi_wp2
  gi_loopw [4] (fun i wr => ∃ k : Nat, k ≤ K ∧ i = .int .i64 ((2 * k : Nat) : Int) ∧ wr.cell? ⟨bs, 0, none⟩ = some (.slice (some ⟨b, 0, none⟩) (2 * K) cap) ∧ wr.cell? ⟨bn, 0, none⟩ = some (.int .i64 2) ∧ J (upk K k) wr) (fun i _ => 2 * K - (intOf i).toNat)
  case atStart => exact ⟨0, Nat.zero_le _, rfl, hsW, hnW, h0⟩
  case round =>
    obtain ⟨k, hk, rfl, hcs, hcn, hJ⟩ := hrel
    clear hsW hnW
    by_cases hlt : k < K
    · have hlt' : 2 * k < 2 * K := by omega
      have hd : decide (2 * k < 2 * K) = true := by simp; omega
      have hmin : min (2 : Int) ((2 * K - 2 * k : Nat) : Int) = 2 := by omega
      have htn : (2 * (k : Int) + 2).toNat - 2 * k = 2 := by omega
      obtain ⟨fn, tmps, assign, body, hy, hR⟩ := hY (upk K k) ⟨k, by omega⟩ wr.drew (hdr _ _ hJ) (by rw [upk_len _ _ hk]; omega)
      rw [← upk_succ K k (by omega)] at hR
      dsimp only at hy
      gi_wp2
      gi_region
      gi_wp2
      refine ⟨fun h => by simp [Fence.wide] at h, hR.mono ?_⟩
      clear hR hy hdr
      rintro e W3 (⟨rfl, hJ3, hk3⟩ | ⟨rfl, hJx3⟩)
      · have hcs3 : W3.cell? ⟨bs, 0, none⟩ = some (.slice (some ⟨b, 0, none⟩) (2 * K) cap) := hk3.cell1.trans hcs
        have hcn3 : W3.cell? ⟨bn, 0, none⟩ = some (.int .i64 2) := hk3.cell2.trans hcn
        gi_wp2
        go_roundw
        case rel => exact ⟨k + 1, by omega, by go_num, hcs3, hcn3, hJ3⟩
        case measure => simp [intOf]; omega
      · gi_wp2
        refine bodyPost_ret (results_none rfl _ _ _) rfl ?_
        exact ⟨⟨_, rfl⟩, .inr ⟨upk K (k + 1), upk_prefix _ _, hJx3⟩⟩
    · have hd : decide (2 * k < 2 * K) = false := by simp; omega
      obtain rfl : k = K := by omega
      gi_wp2
      go_end0
      exact ⟨⟨_, rfl⟩, .inl ⟨_, rfl, by rw [← upk_all]; exact hJ⟩⟩

set_option maxHeartbeats 400000 in
theorem Chunk_any (b n cap : Nat) (w : World) :
    Calls Tryz.prog 28 #[.slice (some ⟨b, 0, none⟩) n cap, .int .i64 2] w fun e w' => e = .returned (.func (.func 47) #[] #[.pointer (some ⟨w.heap.size, 0, none⟩), .pointer (some ⟨w.heap.size + 1, 0, none⟩)]) ∧ Arr w' w.heap.size 41 [.slice (some ⟨b, 0, none⟩) n cap] ∧ Arr w' (w.heap.size + 1) 3 [.int .i64 2] ∧ Below w.heap.size w w' := by
  have hmf : ∀ (fn : Fn) (first cap : Array Value) (w : World), (Instr.makeFunc fn first cap).run Tryz.prog w = .ok (.func fn first cap) w := fun _ _ _ _ => rfl
  go_enter Tryz.func28, Tryz.ntmps28
  go_wp2
  go_ret
  exact ⟨rfl, (Arr.new rfl rfl).alloc _, Arr.new rfl (by simp), (by repeat first | with_reducible exact Below.refl _ _ | with_reducible assumption | with_reducible refine below_drewN ?_ _ | with_reducible refine Below.drew ?_ | with_reducible refine Below.setCell ?_ (by first | exact Nat.le_refl _ | (simp; done) | (simp; omega) | omega) _ | with_reducible refine Below.alloc ?_ (by first | exact Nat.le_refl _ | (simp; done) | (simp; omega) | omega) _ | exact Below.refl _ _ | assumption)⟩
end Go.Proofs.YtkgbknjpnhoadaaGreatDoor
