/-
  The contracts of sample.Needed and sample.Bound.
-/
import Derived.Test.YtllofogjojlamaaDoorNeeded
namespace Go.Proofs.YtllofogjojlamaaDoor
open Go.RowKit

/-- The first of the numbers 0 .. n that will do. -/
def firstv (p : Nat → Bool) (n : Nat) : Option Nat := (List.range (n + 1)).find? p
theorem firstv_some {p : Nat → Bool} {n x : Nat} (hx : x ≤ n) (hp : p x = true) (hn : ∀ y, y < x → p y = false) : firstv p n = some x := by
  unfold firstv
  rw [List.find?_range_eq_some]
  exact ⟨hp, by simp; omega, fun j hj => by simp [hn j hj]⟩
theorem firstv_none {p : Nat → Bool} {n : Nat} (hn : ∀ y, y ≤ n → p y = false) : firstv p n = none := by
  unfold firstv
  rw [List.find?_eq_none]
  intro x hx
  simp at hx
  simp [hn x (by omega)]

/-- P16.1: Needed. -/
def needv (n bad pn pd : Int) : Int × Int :=
  if pop n [bad] && lvl pn pd then (match firstv (fun k => hit n.toNat bad.toNat k pn pd) n.toNat with
    | some k => ((k : Int), 0)
    | none => (0, 160)) else (0, 160)
/-- P16.1: Bound. -/
def boundv (n k pn pd : Int) : Int × Int :=
  if pop n [k] && lvl pn pd && !(pn == 0) then (match firstv (fun bad => hit n.toNat bad k.toNat pn pd) n.toNat with
    | some bad => ((bad : Int) - 1, 0)
    | none => (n, 0)) else (0, 160)

theorem pop_one {n a : Int} (h : pop n [a] = true) : ∃ n' a' : Nat, n = n' ∧ a = a' ∧ n' ≤ 24 ∧ a' ≤ n' := by
  simp [pop, outB] at h
  exact ⟨n.toNat, a.toNat, by omega, by omega, by omega, by omega⟩
theorem one_cell {w : World} {b : Nat} {x : Int} (h0 : Mine w b 0 (.int .i64 x)) : ∀ k, k < [x].length → w.cell? ⟨b, 0 + k, none⟩ = some (.int .i64 ([x].getD k 0)) := by
  intro k hk
  match k, hk with
  | 0, _ => exact h0.cell
theorem TriAt.lt {B n k : Nat} {w : World} (h : TriAt B n k w) : B < w.heap.size := World.block_lt_of_cell? w _ (h.cell 0 (by omega))
theorem TriAt.below {B n k : Nat} {w w' : World} (h : TriAt B n k w) (hb : Below w.heap.size w w') : TriAt B n k w' :=
  ⟨fun i hi => (hb.cell (p := ⟨B, i, none⟩) h.lt).trans (h.cell i hi), fun i => (hb.frozen (p := ⟨B, i, none⟩) h.lt).trans (h.free i)⟩
theorem mine_eq {w : World} {b o : Nat} {v u : Value} (h : Mine w b o v) (e : v = u) : Mine w b o u := e ▸ h

set_option maxRecDepth 100000 in
set_option maxHeartbeats 1000000 in
theorem Needed_any (n bad pn pd : Int) (w : World) (hpn : I64 pn) (hpd : I64 pd) :
    Calls Tryd.prog 10 #[.int .i64 n, .int .i64 bad, rv pn pd] w fun e w' => e = .returned (.tuple #[.int .i64 (needv n bad pn pd).1, .int .i64 (needv n bad pn pd).2]) ∧ Below w.heap.size w w' := by
  have hB : Below w.heap.size w w := Below.refl _ _
  have hmf : ∀ (fn : Fn) (first cap : Array Value) (w : World), (Instr.makeFunc fn first cap).run Tryd.prog w = .ok (.func fn first cap) w := fun _ _ _ _ => rfl
  by_cases hp : pop n [bad] = true
  · by_cases hl : lvl pn pd = true
    · obtain ⟨n', b', rfl, rfl, h1, h2⟩ := pop_one hp
      have hv : Hid (needv n' b' pn pd = (match firstv (fun k => hit n' b' k pn pd) n' with | some k => ((k : Int), 0) | none => (0, 160))) := by show _ = _; simp [needv, hp, hl]
      go_enter Tryd.func10, Tryd.ntmps10
      go_wp2_with fail
      refine name_calls ?_
      intro w1 hww1
      have mAll : Mine w1 w.heap.size 0 (.int .i64 n') ∧ Mine w1 (w.heap.size + 1) 0 (.int .i64 b') ∧ Mine w1 (w.heap.size + 1 + 1) 0 (.int .i64 pn) ∧ Mine w1 (w.heap.size + 1 + 1) 1 (.int .i64 pd) ∧ Mine w1 (w.heap.size + 1 + 1 + 1) 0 (.int .i64 b') := by
        rw [hww1]
        refine ⟨?_, ?_, ?_, ?_, ?_⟩ <;> (repeat first | with_reducible assumption | with_reducible refine Mine.drew ?_ | with_reducible refine Mine.drewN ?_ _ | ((with_reducible refine Mine.new ?_); rfl) | ((with_reducible refine Mine.newAt ?_ ?_) <;> first | rfl | (simp; done) | (simp only [World.size_alloc]; rfl)) | ((with_reducible refine Mine.set ?_ _); repeat first | exact Mine.slot (by with_reducible assumption) | with_reducible refine MineS.drew ?_ | with_reducible refine MineS.drewN ?_ _ | ((with_reducible refine MineS.new ?_); decide) | ((with_reducible refine MineS.newAt ?_ ?_) <;> first | decide | (simp; done)) | with_reducible refine MineS.set ?_ _ _ _ | with_reducible refine MineS.alloc ?_ _) | with_reducible refine Mine.other ?_ _ (by first | (left; omega) | (right; omega) | (simp; done) | (simp; omega)) | with_reducible refine Mine.alloc ?_ _)
      obtain ⟨m1, m2, m3, m4, m5⟩ := mAll
      have hBzw1 := hB.size
      replace hB : Below w.heap.size w w1 := by rw [hww1]; exact (by repeat first | with_reducible exact Below.refl _ _ | with_reducible assumption | with_reducible refine below_drewN ?_ _ | with_reducible refine Below.drew ?_ | with_reducible refine Below.setCell ?_ (by first | exact Nat.le_refl _ | (simp; done) | (simp; omega) | omega) _ | with_reducible refine Below.alloc ?_ (by first | exact Nat.le_refl _ | (simp; done) | (simp; omega) | omega) _ | exact Below.refl _ _ | assumption)
      clear hww1 hBzw1
      refine (population_any _ [(b' : Int)] _ 0 _ _ (by simp) (one_cell m5)).mono ?_
      rintro e wc1 ⟨rfl, hb1⟩
      replace m1 := m1.below hb1
      replace m2 := m2.below hb1
      replace m3 := m3.below hb1
      replace m4 := m4.below hb1
      replace m5 := m5.below hb1
      replace hB := hB.trans (hb1.mono hB.size)
      have hb_wc1 := hb1
      clear hb1
      have c1 := m1.cell
      have f1 := m1.free
      have l1 := m1.lt
      have c2 := m2.cell
      have f2 := m2.free
      have l2 := m2.lt
      have c3 := m3.cell
      have f3 := m3.free
      have l3 := m3.lt
      have c4 := m4.cell
      have f4 := m4.free
      have l4 := m4.lt
      go_wp2_with fail
      clear c1 f1 l1
      clear c2 f2 l2
      clear c3 f3 l3
      clear c4 f4 l4
      refine (level_any _ _ _ hpn hpd).mono ?_
      rintro e wl ⟨rfl, hb1⟩
      replace m1 := m1.below hb1
      replace m2 := m2.below hb1
      replace m3 := m3.below hb1
      replace m4 := m4.below hb1
      replace hB := hB.trans (hb1.mono hB.size)
      have hb_wl := hb1
      clear hb1
      go_wp2_with fail
      refine (ways_any _).mono ?_
      rintro e w2 ⟨rfl, hb1, ht⟩
      replace m1 := m1.below hb1
      replace m2 := m2.below hb1
      replace m3 := m3.below hb1
      replace m4 := m4.below hb1
      replace hB := hB.trans (hb1.mono hB.size)
      have hb_w2 := hb1
      clear hb1
      have hTB := ht.lt
      generalize wl.heap.size = TB at *
      have c1 := m1.cell
      have f1 := m1.free
      have l1 := m1.lt
      have c2 := m2.cell
      have f2 := m2.free
      have l2 := m2.lt
      have c3 := m3.cell
      have f3 := m3.free
      have l3 := m3.lt
      have c4 := m4.cell
      have f4 := m4.free
      have l4 := m4.lt
      go_wp2_with fail
      clear c1 f1 l1
      clear c2 f2 l2
      clear c3 f3 l3
      clear c4 f4 l4
      refine name_calls ?_
      intro w3 hww3
      have mAll : Mine w3 w.heap.size 0 (.int .i64 n') ∧ Mine w3 (w.heap.size + 1) 0 (.int .i64 b') ∧ Mine w3 (w.heap.size + 1 + 1) 0 (.int .i64 pn) ∧ Mine w3 (w.heap.size + 1 + 1) 1 (.int .i64 pd) ∧ Mine w3 w2.heap.size 0 (.pointer (some ⟨TB, 0, none⟩)) := by
        rw [hww3]
        refine ⟨?_, ?_, ?_, ?_, ?_⟩ <;> (repeat first | with_reducible assumption | with_reducible refine Mine.drew ?_ | with_reducible refine Mine.drewN ?_ _ | ((with_reducible refine Mine.new ?_); rfl) | ((with_reducible refine Mine.newAt ?_ ?_) <;> first | rfl | (simp; done) | (simp only [World.size_alloc]; rfl)) | ((with_reducible refine Mine.set ?_ _); repeat first | exact Mine.slot (by with_reducible assumption) | with_reducible refine MineS.drew ?_ | with_reducible refine MineS.drewN ?_ _ | ((with_reducible refine MineS.new ?_); decide) | ((with_reducible refine MineS.newAt ?_ ?_) <;> first | decide | (simp; done)) | with_reducible refine MineS.set ?_ _ _ _ | with_reducible refine MineS.alloc ?_ _) | with_reducible refine Mine.other ?_ _ (by first | (left; omega) | (right; omega) | (simp; done) | (simp; omega)) | with_reducible refine Mine.alloc ?_ _)
      clear m1 m2 m3 m4
      obtain ⟨m1, m2, m3, m4, m6⟩ := mAll
      have hBzw3 := hB.size
      replace ht : TriAt TB 25 0 w3 := by rw [hww3]; exact ht.below ((Below.refl _ _).alloc (Nat.le_refl _) _)
      replace hB : Below w.heap.size w w3 := by rw [hww3]; exact (by repeat first | with_reducible exact Below.refl _ _ | with_reducible assumption | with_reducible refine below_drewN ?_ _ | with_reducible refine Below.drew ?_ | with_reducible refine Below.setCell ?_ (by first | exact Nat.le_refl _ | (simp; done) | (simp; omega) | omega) _ | with_reducible refine Below.alloc ?_ (by first | exact Nat.le_refl _ | (simp; done) | (simp; omega) | omega) _ | exact Below.refl _ _ | assumption)
      clear hww3 hBzw3
      refine (upTo_any _ _).mono ?_
      rintro e w4 ⟨rfl, m7, hb1⟩
      replace m1 := m1.below hb1
      replace m2 := m2.below hb1
      replace m3 := m3.below hb1
      replace m4 := m4.below hb1
      replace m6 := m6.below hb1
      replace hB := hB.trans (hb1.mono hB.size)
      have hb_w4 := hb1
      clear hb1
      replace ht := ht.below hb_w4
      go_wp2_with fail
      refine (first_any _ n' _ _ (fun k => hit n' b' k pn pd) _ (by omega) m7 (enters_of Tryd.func26 (by kernel_rfl) rfl) ?_).mono ?_
      · intro x W hx hW
        exact needIs_any _ _ _ _ TB n' b' x pn pd W h1 h2 (by omega) (ht.below hW) (m6.below hW) (m1.below hW) (m2.below hW) (m3.below hW) (m4.below hW) hpn hpd
      · rintro e w5 ⟨hR, hb1⟩
        have hBf := hB.trans (hb1.mono hB.size)
        rcases hR with ⟨x, hx, hpx, hno, rfl⟩ | ⟨hno, rfl⟩
        · rw [firstv_some hx hpx hno] at hv
          go_wp2
          go_ret2
          exact ⟨by rw [hv.out]; rfl, hBf⟩
        · rw [firstv_none hno] at hv
          go_wp2
          go_ret2
          exact ⟨by rw [hv.out]; rfl, hBf⟩
    · have hl' : lvl pn pd = false := by simpa using hl
      have hv : Hid (needv n bad pn pd = (0, 160)) := by show _ = _; simp [needv, hl']
      clear hl
      go_enter Tryd.func10, Tryd.ntmps10
      go_wp2_with fail
      refine name_calls ?_
      intro w1 hww1
      have mAll : Mine w1 w.heap.size 0 (.int .i64 n) ∧ Mine w1 (w.heap.size + 1) 0 (.int .i64 bad) ∧ Mine w1 (w.heap.size + 1 + 1) 0 (.int .i64 pn) ∧ Mine w1 (w.heap.size + 1 + 1) 1 (.int .i64 pd) ∧ Mine w1 (w.heap.size + 1 + 1 + 1) 0 (.int .i64 bad) := by
        rw [hww1]
        refine ⟨?_, ?_, ?_, ?_, ?_⟩ <;> (repeat first | with_reducible assumption | with_reducible refine Mine.drew ?_ | with_reducible refine Mine.drewN ?_ _ | ((with_reducible refine Mine.new ?_); rfl) | ((with_reducible refine Mine.newAt ?_ ?_) <;> first | rfl | (simp; done) | (simp only [World.size_alloc]; rfl)) | ((with_reducible refine Mine.set ?_ _); repeat first | exact Mine.slot (by with_reducible assumption) | with_reducible refine MineS.drew ?_ | with_reducible refine MineS.drewN ?_ _ | ((with_reducible refine MineS.new ?_); decide) | ((with_reducible refine MineS.newAt ?_ ?_) <;> first | decide | (simp; done)) | with_reducible refine MineS.set ?_ _ _ _ | with_reducible refine MineS.alloc ?_ _) | with_reducible refine Mine.other ?_ _ (by first | (left; omega) | (right; omega) | (simp; done) | (simp; omega)) | with_reducible refine Mine.alloc ?_ _)
      obtain ⟨m1, m2, m3, m4, m5⟩ := mAll
      have hBzw1 := hB.size
      replace hB : Below w.heap.size w w1 := by rw [hww1]; exact (by repeat first | with_reducible exact Below.refl _ _ | with_reducible assumption | with_reducible refine below_drewN ?_ _ | with_reducible refine Below.drew ?_ | with_reducible refine Below.setCell ?_ (by first | exact Nat.le_refl _ | (simp; done) | (simp; omega) | omega) _ | with_reducible refine Below.alloc ?_ (by first | exact Nat.le_refl _ | (simp; done) | (simp; omega) | omega) _ | exact Below.refl _ _ | assumption)
      clear hww1 hBzw1
      refine (population_any _ [bad] _ 0 _ _ (by simp) (one_cell m5)).mono ?_
      rintro e wc2 ⟨rfl, hb1⟩
      replace m1 := m1.below hb1
      replace m2 := m2.below hb1
      replace m3 := m3.below hb1
      replace m4 := m4.below hb1
      replace m5 := m5.below hb1
      replace hB := hB.trans (hb1.mono hB.size)
      have hb_wc2 := hb1
      clear hb1
      have c1 := m1.cell
      have f1 := m1.free
      have l1 := m1.lt
      have c2 := m2.cell
      have f2 := m2.free
      have l2 := m2.lt
      have c3 := m3.cell
      have f3 := m3.free
      have l3 := m3.lt
      have c4 := m4.cell
      have f4 := m4.free
      have l4 := m4.lt
      go_wp2_with fail
      clear c1 f1 l1
      clear c2 f2 l2
      clear c3 f3 l3
      clear c4 f4 l4
      refine (level_any _ _ _ hpn hpd).mono ?_
      rintro e wc3 ⟨rfl, hb1⟩
      replace m1 := m1.below hb1
      replace m2 := m2.below hb1
      replace m3 := m3.below hb1
      replace m4 := m4.below hb1
      replace hB := hB.trans (hb1.mono hB.size)
      have hb_wc3 := hb1
      clear hb1
      go_wp2
      go_ret2
      exact ⟨by rw [hv.out]; rfl, hB⟩
  · have hp' : pop n [bad] = false := by simpa using hp
    have hv : Hid (needv n bad pn pd = (0, 160)) := by show _ = _; simp [needv, hp']
    clear hp
    go_enter Tryd.func10, Tryd.ntmps10
    go_wp2_with fail
    refine name_calls ?_
    intro w1 hww1
    have mAll : Mine w1 w.heap.size 0 (.int .i64 n) ∧ Mine w1 (w.heap.size + 1) 0 (.int .i64 bad) ∧ Mine w1 (w.heap.size + 1 + 1) 0 (.int .i64 pn) ∧ Mine w1 (w.heap.size + 1 + 1) 1 (.int .i64 pd) ∧ Mine w1 (w.heap.size + 1 + 1 + 1) 0 (.int .i64 bad) := by
      rw [hww1]
      refine ⟨?_, ?_, ?_, ?_, ?_⟩ <;> (repeat first | with_reducible assumption | with_reducible refine Mine.drew ?_ | with_reducible refine Mine.drewN ?_ _ | ((with_reducible refine Mine.new ?_); rfl) | ((with_reducible refine Mine.newAt ?_ ?_) <;> first | rfl | (simp; done) | (simp only [World.size_alloc]; rfl)) | ((with_reducible refine Mine.set ?_ _); repeat first | exact Mine.slot (by with_reducible assumption) | with_reducible refine MineS.drew ?_ | with_reducible refine MineS.drewN ?_ _ | ((with_reducible refine MineS.new ?_); decide) | ((with_reducible refine MineS.newAt ?_ ?_) <;> first | decide | (simp; done)) | with_reducible refine MineS.set ?_ _ _ _ | with_reducible refine MineS.alloc ?_ _) | with_reducible refine Mine.other ?_ _ (by first | (left; omega) | (right; omega) | (simp; done) | (simp; omega)) | with_reducible refine Mine.alloc ?_ _)
    obtain ⟨m1, m2, m3, m4, m5⟩ := mAll
    have hBzw1 := hB.size
    replace hB : Below w.heap.size w w1 := by rw [hww1]; exact (by repeat first | with_reducible exact Below.refl _ _ | with_reducible assumption | with_reducible refine below_drewN ?_ _ | with_reducible refine Below.drew ?_ | with_reducible refine Below.setCell ?_ (by first | exact Nat.le_refl _ | (simp; done) | (simp; omega) | omega) _ | with_reducible refine Below.alloc ?_ (by first | exact Nat.le_refl _ | (simp; done) | (simp; omega) | omega) _ | exact Below.refl _ _ | assumption)
    clear hww1 hBzw1
    refine (population_any _ [bad] _ 0 _ _ (by simp) (one_cell m5)).mono ?_
    rintro e wc4 ⟨rfl, hb1⟩
    replace m1 := m1.below hb1
    replace m2 := m2.below hb1
    replace m3 := m3.below hb1
    replace m4 := m4.below hb1
    replace m5 := m5.below hb1
    replace hB := hB.trans (hb1.mono hB.size)
    have hb_wc4 := hb1
    clear hb1
    go_wp2
    go_ret2
    exact ⟨by rw [hv.out]; rfl, hB⟩
end Go.Proofs.YtllofogjojlamaaDoor
