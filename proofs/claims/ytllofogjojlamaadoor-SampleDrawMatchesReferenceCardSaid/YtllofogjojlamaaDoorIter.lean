/-
  The iterator sample.upTo; sample.first over it.
-/
import Derived.Test.YtllofogjojlamaaDoorSample3
import Derived.RangeFuncNested
import Derived.RangeFuncBound
import Derived.RangeFuncCalls
import Derived.RangeFuncLeaves
import Derived.Shelf.Abstract
import Derived.Shelf.RegionOpen
import Derived.OwnWalkIn
import Derived.TacticsInMore
import Derived.LoopNIn
import Derived.LoopIn
namespace Go.Proofs.YtllofogjojlamaaDoor
open Go.RowKit Go.Shelf

attribute [local go_sem] Oper.semAt_some

theorem keepsOthers_of_below {W W' : World} (h : Below W.heap.size W W') : KeepsOthers W W' :=
  ⟨h.size, fun k _ hk _ => (h.block k (Array.getElem?_eq_some_iff.1 hk).1).trans hk⟩

/-- The first k of the numbers 0 .. n. -/
def upl (n k : Nat) : List (Fin (n + 1)) := (List.finRange (n + 1)).take k
theorem upl_succ (n k : Nat) (h : k < n + 1) : upl n (k + 1) = upl n k ++ [⟨k, h⟩] := by
  unfold upl
  rw [List.take_succ_eq_append_getElem (by simpa using h)]
  simp
theorem upl_len (n k : Nat) (h : k ≤ n + 1) : (upl n k).length = k := by simp [upl]; omega
theorem upl_prefix (n k : Nat) : upl n k <+: List.finRange (n + 1) := List.take_prefix _ _
theorem upl_all (n : Nat) : upl n (n + 1) = List.finRange (n + 1) := by
  unfold upl; exact List.take_of_length_le (by simp)
theorem prefix_fin {n : Nat} {pre : List (Fin (n + 1))} {x : Fin (n + 1)} (h : pre ++ [x] <+: List.finRange (n + 1)) : ∀ y : Nat, y < x.1 → ∃ hy, (⟨y, hy⟩ : Fin (n + 1)) ∈ pre := by
  have h1 : pre ++ [x] = upl n (pre.length + 1) := by
    have := List.prefix_iff_eq_take.1 h
    simpa [upl] using this
  have hl : pre.length < n + 1 := by
    have := h.length_le
    simp at this; omega
  rw [upl_succ n _ hl] at h1
  have h2 := List.append_inj' h1 rfl
  obtain ⟨h3, h4⟩ := h2
  simp at h4
  intro y hy
  rw [h4] at hy
  simp at hy
  refine ⟨by omega, ?_⟩
  have h5 : (⟨y, by omega⟩ : Fin (n + 1)) ∈ upl n pre.length := by
    unfold upl
    rw [List.mem_take_iff_getElem]
    exact ⟨y, by simp; omega, by simp⟩
  have h6 : ∀ l : List (Fin (n + 1)), pre = l → (⟨y, by omega⟩ : Fin (n + 1)) ∈ l → (⟨y, by omega⟩ : Fin (n + 1)) ∈ pre := by intro l e hh; subst e; exact hh
  exact h6 _ h3 h5

set_option maxHeartbeats 1000000 in
theorem upTo1_stops (m b n n₀ : Nat) (w : World) (hn : n ≤ 100000) (hb : b < n₀) (hbw : b < w.heap.size) (hc : w.cell? ⟨b, 0, none⟩ = some (.int .i64 n)) :
    SeqStopsK Fence.wide m Tryd.prog 31 #[.pointer (some ⟨b, 0, none⟩)] (fun x : Fin (n + 1) => #[.int .i64 (x.1 : Nat)]) (Below n₀) (fun xs => xs = List.finRange (n + 1)) (fun pre => pre <+: List.finRange (n + 1)) (n + 1) w := by
  intro l J Jx W hW _ _ hY h0
  have hcW : W.cell? ⟨b, 0, none⟩ = some (.int .i64 n) := (hW.cell (p := ⟨b, 0, none⟩) hbw).trans hc
  clear hW hc hbw
  refine callsIn_of_wp Tryd.func31 rfl trivial ?_ rfl
  simp only [Tryd.ntmps31, List.size_toArray, List.length_cons, List.length_nil, Nat.reduceAdd, Nat.reduceSub, Array.replicate_succ, Array.replicate_zero, List.push_toArray, List.append_toArray, List.nil_append, List.cons_append]
  gi_wp2
  gi_loopw [3] (fun i wr => ∃ k : Nat, k ≤ n + 1 ∧ i = .int .i64 k ∧ wr.cell? ⟨b, 0, none⟩ = some (.int .i64 n) ∧ J (upl n k) wr) (fun i _ => n + 1 - (intOf i).toNat)
  case atStart => exact ⟨0, Nat.zero_le _, rfl, hcW, h0⟩
  case round =>
    obtain ⟨k, hk, rfl, hcr, hJ⟩ := hrel
    clear hcW
    by_cases hlt : k ≤ n
    · have hd : decide ((k : Int) ≤ (n : Int)) = true := by simp; omega
      obtain ⟨fn, tmps, assign, body, hy, hR⟩ := hY (upl n k) ⟨k, by omega⟩ wr hJ (by rw [upl_len _ _ hk]; omega)
      rw [← upl_succ n k (by omega)] at hR
      dsimp only at hy
      gi_wp2
      refine ⟨fun h => by simp [Fence.wide] at h, hR.mono ?_⟩
      rintro e W3 (⟨rfl, hJ3, hk3⟩ | ⟨rfl, hJx3⟩)
      · have hc3 : W3.cell? ⟨b, 0, none⟩ = some (.int .i64 n) := (hk3.cell (p := ⟨b, 0, none⟩) hb).trans hcr
        gi_wp2
        go_roundw
        case rel => exact ⟨k + 1, by omega, by go_num, hc3, hJ3⟩
        case measure => simp [intOf]; omega
      · gi_wp2
        go_end0
        exact ⟨⟨_, rfl⟩, .inr ⟨upl n (k + 1), upl_prefix _ _, hJx3⟩⟩
    · have hd : decide ((k : Int) ≤ (n : Int)) = false := by simp; omega
      obtain rfl : k = n + 1 := by omega
      gi_wp2
      all_goals refine ⟨fun _ h => (by cases h), ?_⟩
      all_goals gi_wp2
      all_goals go_end0
      all_goals exact ⟨⟨_, rfl⟩, .inl ⟨_, rfl, by rw [← upl_all]; exact hJ⟩⟩

theorem mine_kept {W W' : World} {row : Option Nat} {b o : Nat} {v : Value} (h : Mine W b o v) (hg : W.grownBy W' row) (hr : ∀ r, row = some r → ∃ o : Obj, W.heap[r]? = some o ∧ o.isCells = false) : Mine W' b o v :=
  ⟨cell_kept h.cell hg hr, (frozen_kept h.cell hg hr).trans h.free, Nat.lt_of_lt_of_le h.lt hg.size⟩

/-- Between two rounds of first: no number so far will do. -/
def FirstI (w : World) (p : Nat → Bool) (n : Nat) (f : Value) (pre : List (Fin (n + 1))) (W : World) : Prop :=
  (∀ y ∈ pre, p y.1 = false) ∧ Mine W w.heap.size 0 f ∧ Mine W (w.heap.size + 1) 0 (.int .i64 0) ∧ Mine W (w.heap.size + 1 + 1) 0 (.bool false)
/-- A round of first has returned. -/
def FirstX (w : World) (p : Nat → Bool) (n : Nat) (c : Code) (pre : List (Fin (n + 1))) (W : World) : Prop :=
  c = .ret ∧ ∃ pre' x, pre = pre' ++ [x] ∧ p x.1 = true ∧ (∀ y ∈ pre', p y.1 = false) ∧ Mine W (w.heap.size + 1) 0 (.int .i64 (x.1 : Nat)) ∧ Mine W (w.heap.size + 1 + 1) 0 (.bool true)
theorem FirstI.own (w : World) (p : Nat → Bool) (n : Nat) (f : Value) : Own (FirstI w p n f) :=
  fun _ _ _ _ ⟨h1, h2, h3, h4⟩ hg hr => ⟨h1, mine_kept h2 hg hr, mine_kept h3 hg hr, mine_kept h4 hg hr⟩
theorem FirstX.own (w : World) (p : Nat → Bool) (n : Nat) (c : Code) : Own (FirstX w p n c) :=
  fun _ _ _ _ ⟨h0, pre', x, h1, h2, h3, h4, h5⟩ hg hr => ⟨h0, pre', x, h1, h2, h3, mine_kept h4 hg hr, mine_kept h5 hg hr⟩

/-- What first gives. -/
def FirstR (p : Nat → Bool) (n : Nat) (e : Ending) : Prop :=
  (∃ x : Nat, x ≤ n ∧ p x = true ∧ (∀ y, y < x → p y = false) ∧ e = .returned (.tuple #[.int .i64 x, .bool true])) ∨ ((∀ y, y ≤ n → p y = false) ∧ e = .returned (.tuple #[.int .i64 0, .bool false]))

set_option maxRecDepth 100000 in
set_option maxHeartbeats 2000000 in
theorem first_in (b n g : Nat) (lb : Array Value) (p : Nat → Bool) (w : World) (hn : n ≤ 100000) (hc : Mine w b 0 (.int .i64 n))
    (eg : ∀ args w, (callFunc g args).run Tryd.prog w = .ok (.enter g args) w)
    (hp : ∀ (x : Nat) (W : World), x ≤ n → Below w.heap.size w W → Calls Tryd.prog g (#[.int .i64 x] ++ lb) W fun e W' => e = .returned (.bool (p x)) ∧ Below W.heap.size W W') :
    CallsIn Fence.wide 3 Tryd.prog 25 #[.func (.func 31) #[] #[.pointer (some ⟨b, 0, none⟩)], .func (.func g) #[] lb] w fun e W' => FirstR p n e ∧ Below w.heap.size w W' := by
  have hB : Below w.heap.size w w := Below.refl _ _
  have mc := hc
  have hbw := hc.lt
  refine callsIn_of_wp_marks Tryd.func25 rfl trivial ?_ rfl
  simp only [Tryd.ntmps25, List.size_toArray, List.length_cons, List.length_nil, Nat.reduceAdd, Nat.reduceSub, Array.replicate_succ, Array.replicate_zero, List.push_toArray, List.append_toArray, List.nil_append, List.cons_append]
  gi_wp2
  refine name_wpIn ?_
  intro w1 hww1
  have mAll : Mine w1 b 0 (.int .i64 n) ∧ Mine w1 w.heap.size 0 (.func (.func g) #[] lb) ∧ Mine w1 (w.heap.size + 1) 0 (.int .i64 0) ∧ Mine w1 (w.heap.size + 1 + 1) 0 (.bool false) := by
    rw [hww1]
    refine ⟨?_, ?_, ?_, ?_⟩ <;> (repeat first | with_reducible assumption | with_reducible refine Mine.drew ?_ | with_reducible refine Mine.drewN ?_ _ | ((with_reducible refine Mine.new ?_); rfl) | ((with_reducible refine Mine.newAt ?_ ?_) <;> first | rfl | (simp; done) | (simp only [World.size_alloc]; rfl)) | ((with_reducible refine Mine.set ?_ _); repeat first | exact Mine.slot (by with_reducible assumption) | with_reducible refine MineS.drew ?_ | with_reducible refine MineS.drewN ?_ _ | ((with_reducible refine MineS.new ?_); decide) | ((with_reducible refine MineS.newAt ?_ ?_) <;> first | decide | (simp; done)) | with_reducible refine MineS.set ?_ _ _ _ | with_reducible refine MineS.alloc ?_ _) | with_reducible refine Mine.other ?_ _ (by first | (left; omega) | (right; omega) | (simp; done) | (simp; omega)) | with_reducible refine Mine.alloc ?_ _)
  clear mc
  obtain ⟨mc, m1, m2, m3⟩ := mAll
  have hBzw1 := hB.size
  replace hB : Below w.heap.size w w1 := by rw [hww1]; exact (by repeat first | with_reducible exact Below.refl _ _ | with_reducible assumption | with_reducible refine below_drewN ?_ _ | with_reducible refine Below.drew ?_ | with_reducible refine Below.setCell ?_ (by first | exact Nat.le_refl _ | (simp; done) | (simp; omega) | omega) _ | with_reducible refine Below.alloc ?_ (by first | exact Nat.le_refl _ | (simp; done) | (simp; omega) | omega) _ | exact Below.refl _ _ | assumption)
  clear hww1 hBzw1
  have hb1 := m1.lt
  have hb3 := m3.lt
  refine wpIn_rangeFunc_ownF rfl (by omega) (gf := 31) (lb := #[.pointer (some ⟨b, 0, none⟩)]) rfl trivial (enters_of Tryd.func31 (by kernel_rfl) rfl)
    (upTo1_stops _ b n w.heap.size w1 hn hbw mc.lt mc.cell) belowK_t (belowK_b (by omega)) (Below.refl _ _) (fun _ => rfl)
    (fun pre W => FirstI w p n (.func (.func g) #[] lb) pre W ∧ Below w.heap.size w W)
    (fun c pre W => FirstX w p n c pre W ∧ Below w.heap.size w W)
    (OwnFrom.and (Own.from (FirstI.own w p n _) _) (ownFrom_below (Nat.le_refl _) (by omega)))
    (fun c => OwnFrom.and (Own.from (FirstX.own w p n c) _) (ownFrom_below (Nat.le_refl _) (by omega)))
    ⟨⟨by simp, m1, m2, m3⟩, hB⟩
    (fun x => { tmps := #[.func (.func 31) #[] #[.pointer (some ⟨b, 0, none⟩)], .func (.func g) #[] lb, undef, .pointer (some ⟨w.heap.size, 0, none⟩), .pointer (some ⟨w.heap.size + 1, 0, none⟩), .pointer (some ⟨w.heap.size + 1 + 1, 0, none⟩), .int .i64 (x.1 : Nat), undef, .func (.func 31) #[] #[.pointer (some ⟨b, 0, none⟩)], .int .i64 (x.1 : Nat), undef, undef, undef, undef, undef], defers := [] }) ?assign ?body ?done ?stop
  case assign =>
    intro l x W K hK
    gi_wp2
    exact hK
  case body =>
    rintro l pre x W ⟨⟨hpre, m1, m2, m3⟩, hB⟩ _
    have hx := x.2
    cases hpx : p x.1 with
    | true =>
      have c1 := m1.cell
      have f1 := m1.free
      have l1 := m1.lt
      gi_wp2
      clear c1 f1 l1
      refine ⟨trivial, ?_⟩
      refine (CallsIn.inRound l (callsIn_wide.2 (hp x.1 W (by omega) hB))).mono ?_
      rintro e W1 ⟨rfl, hb1⟩
      have hk := keepsOthers_of_below hb1
      replace m2 := m2.below hb1
      replace m3 := m3.below hb1
      have hB1 := hB.trans (hb1.mono hB.size)
      clear m1 hB hb1
      have c2 := m2.cell
      have f2 := m2.free
      have l2 := m2.lt
      have c3 := m3.cell
      have f3 := m3.free
      have l3 := m3.lt
      gi_wp2
      clear c2 f2 l2
      clear c3 f3 l3
      refine ⟨(hk.trans (KeepsOthers.setCell _ _ _)).trans (KeepsOthers.setCell _ _ _), ⟨rfl, pre, x, rfl, hpx, hpre, ?_, ?_⟩, ?_⟩
      · exact (m2.set' _).other _ (Or.inl (by omega))
      · exact (m3.other _ (Or.inl (by omega))).set' _
      · exact (by repeat first | with_reducible exact Below.refl _ _ | with_reducible assumption | with_reducible refine below_drewN ?_ _ | with_reducible refine Below.drew ?_ | with_reducible refine Below.setCell ?_ (by first | exact Nat.le_refl _ | (simp; done) | (simp; omega) | omega) _ | with_reducible refine Below.alloc ?_ (by first | exact Nat.le_refl _ | (simp; done) | (simp; omega) | omega) _ | exact Below.refl _ _ | assumption)
    | false =>
      have c1 := m1.cell
      gi_wp2
      clear c1
      refine ⟨trivial, ?_⟩
      refine (CallsIn.inRound l (callsIn_wide.2 (hp x.1 W (by omega) hB))).mono ?_
      rintro e W1 ⟨rfl, hb1⟩
      gi_wp2
      refine ⟨keepsOthers_of_below hb1, hb1.mono hB.size, ⟨?_, m1.below hb1, m2.below hb1, m3.below hb1⟩, hB.trans (hb1.mono hB.size)⟩
      intro y hy
      rcases List.mem_append.1 hy with hy | hy
      · exact hpre y hy
      · simp at hy; subst hy; exact hpx
  case done =>
    rintro D ys W hD rfl ⟨⟨hne, m1, m2, m3⟩, hB⟩ hK
    have c2 := m2.cell
    have f2 := m2.free
    have c3 := m3.cell
    have f3 := m3.free
    gi_wp2
    have hK' := ((KeepsOthers.setCell W ⟨w.heap.size + 1, 0, none⟩ (.int .i64 0)).trans (KeepsOthers.setCell _ ⟨w.heap.size + 1 + 1, 0, none⟩ (.bool false))).same D _ hK rfl
    have m2' : Mine ((W.setCell ⟨w.heap.size + 1, 0, none⟩ (.int .i64 0)).setCell ⟨w.heap.size + 1 + 1, 0, none⟩ (.bool false)) (w.heap.size + 1) 0 (.int .i64 0) := (m2.set' _).other _ (Or.inl (by omega))
    have m3' : Mine ((W.setCell ⟨w.heap.size + 1, 0, none⟩ (.int .i64 0)).setCell ⟨w.heap.size + 1 + 1, 0, none⟩ (.bool false)) (w.heap.size + 1 + 1) 0 (.bool false) := (m3.other _ (Or.inl (by omega))).set' _
    have hB' : Below w.heap.size w ((W.setCell ⟨w.heap.size + 1, 0, none⟩ (.int .i64 0)).setCell ⟨w.heap.size + 1 + 1, 0, none⟩ (.bool false)) := (by repeat first | with_reducible exact Below.refl _ _ | with_reducible assumption | with_reducible refine below_drewN ?_ _ | with_reducible refine Below.drew ?_ | with_reducible refine Below.setCell ?_ (by first | exact Nat.le_refl _ | (simp; done) | (simp; omega) | omega) _ | with_reducible refine Below.alloc ?_ (by first | exact Nat.le_refl _ | (simp; done) | (simp; omega) | omega) _ | exact Below.refl _ _ | assumption)
    clear c2 f2 c3 f3 m2 m3 hK
    generalize (W.setCell ⟨w.heap.size + 1, 0, none⟩ (.int .i64 0)).setCell ⟨w.heap.size + 1 + 1, 0, none⟩ (.bool false) = W2 at *
    refine ⟨by simp, .inl ⟨_, _, rfl, run_takeDeferred hK', ?_⟩⟩
    have e2 := (mine_kept m2' (grownBy_putObj' _ D (.deferred none)) (fun r e => by cases e; exact ⟨_, hK', rfl⟩)).cell
    have e3 := (mine_kept m3' (grownBy_putObj' _ D (.deferred none)) (fun r e => by cases e; exact ⟨_, hK', rfl⟩)).cell
    refine ⟨.tuple #[.int .i64 0, .bool false], by simp [results, Tryd.f25, go_sem, e2, e3], Or.inr ⟨fun y hy => hne ⟨y, by omega⟩ (List.mem_finRange _), rfl⟩, hB'.trans (belowK_b (w := w) (Nat.le_refl _) W2 D _ _ (by omega) hK' rfl rfl)⟩
  case stop =>
    rintro D c pre W hD hpre ⟨⟨rfl, pre', x, rfl, hpx, hno, m2, m3⟩, hB⟩ hK
    gi_wp2
    refine ⟨by simp, .inl ⟨_, _, rfl, run_takeDeferred hK, ?_⟩⟩
    have e2 := (mine_kept m2 (grownBy_putObj' _ D (.deferred none)) (fun r e => by cases e; exact ⟨_, hK, rfl⟩)).cell
    have e3 := (mine_kept m3 (grownBy_putObj' _ D (.deferred none)) (fun r e => by cases e; exact ⟨_, hK, rfl⟩)).cell
    have hx := x.2
    refine ⟨.tuple #[.int .i64 (x.1 : Nat), .bool true], by simp [results, Tryd.f25, go_sem, e2, e3], Or.inl ⟨x.1, by omega, hpx, fun y hy => ?_, rfl⟩, hB.trans (belowK_b (w := w) (Nat.le_refl _) W D _ _ (by omega) hK rfl rfl)⟩
    obtain ⟨hy1, hy2⟩ := prefix_fin hpre y hy
    exact hno _ hy2

/-- sample.first over sample.upTo, as any call. -/
theorem first_any (b n g : Nat) (lb : Array Value) (p : Nat → Bool) (w : World) (hn : n ≤ 100000) (hc : Mine w b 0 (.int .i64 n))
    (eg : ∀ args w, (callFunc g args).run Tryd.prog w = .ok (.enter g args) w)
    (hp : ∀ (x : Nat) (W : World), x ≤ n → Below w.heap.size w W → Calls Tryd.prog g (#[.int .i64 x] ++ lb) W fun e W' => e = .returned (.bool (p x)) ∧ Below W.heap.size W W') :
    Calls Tryd.prog 25 #[.func (.func 31) #[] #[.pointer (some ⟨b, 0, none⟩)], .func (.func g) #[] lb] w fun e W' => FirstR p n e ∧ Below w.heap.size w W' :=
  callsIn_wide.1 (first_in b n g lb p w hn hc eg hp)

set_option maxHeartbeats 400000 in
theorem upTo_any (n : Int) (w : World) :
    Calls Tryd.prog 15 #[.int .i64 n] w fun e w' => e = .returned (.func (.func 31) #[] #[.pointer (some ⟨w.heap.size, 0, none⟩)]) ∧ Mine w' w.heap.size 0 (.int .i64 n) ∧ Below w.heap.size w w' := by
  have hmf : ∀ (fn : Fn) (first cap : Array Value) (w : World), (Instr.makeFunc fn first cap).run Tryd.prog w = .ok (.func fn first cap) w := fun _ _ _ _ => rfl
  go_enter Tryd.func15, Tryd.ntmps15
  go_wp2
  go_ret
  exact ⟨rfl, Mine.new rfl, (by repeat first | with_reducible exact Below.refl _ _ | with_reducible assumption | with_reducible refine below_drewN ?_ _ | with_reducible refine Below.drew ?_ | with_reducible refine Below.setCell ?_ (by first | exact Nat.le_refl _ | (simp; done) | (simp; omega) | omega) _ | with_reducible refine Below.alloc ?_ (by first | exact Nat.le_refl _ | (simp; done) | (simp; omega) | omega) _ | exact Below.refl _ _ | assumption)⟩
end Go.Proofs.YtllofogjojlamaaDoor
