/-
  The contracts of package sample's small functions: population and its closure; slices.IndexFunc and ContainsFunc at that closure.
-/
import Derived.Test.YtllofogjojlamaaDoorRatio2
namespace Go.Proofs.YtllofogjojlamaaDoor
open Go.RowKit

/-- A number is not from 0 to n. -/
def outB (n x : Int) : Bool := decide (x < 0) || decide (n < x)

set_option maxHeartbeats 400000 in
theorem popIs_any (n x : Int) (p : Addr) (w : World) (hc : w.cell? p = some (.int .i64 n)) :
    Calls Tryd.prog 30 #[.int .i64 x, .pointer (some p)] w fun e w' => e = .returned (.bool (outB n x)) ∧ w' = w := by
  by_cases h1 : x < 0
  · have hv : Hid (outB n x = true) := by show _ = _; simp [outB, h1]
    go_enter Tryd.func30, Tryd.ntmps30
    go_wp2
    go_ret
    exact ⟨ret_bool hv.out.symm, rfl⟩
  · have h2 : decide (x < 0) = false := by simpa using h1
    have hv : Hid (outB n x = decide (n < x)) := by show _ = _; simp [outB, h2]
    go_enter Tryd.func30, Tryd.ntmps30
    go_wp2
    go_ret
    exact ⟨ret_bool hv.out.symm, rfl⟩

theorem any_take (f : Int → Bool) (xs : List Int) (k : Nat) (h : k < xs.length) : (xs.take (k + 1)).any f = ((xs.take k).any f || f (xs.getD k 0)) := by
  rw [List.take_succ_eq_append_getElem h, List.any_append]; simp [List.getD_eq_getElem?_getD, h]

theorem any_drop (f : Int → Bool) (xs : List Int) (k : Nat) (h : k < xs.length) : f (xs.getD k 0) = true → xs.any f = true := by
  intro hf
  rw [List.any_eq_true]
  exact ⟨xs[k], List.getElem_mem h, by simpa [List.getD_eq_getElem?_getD, h] using hf⟩

set_option maxHeartbeats 400000 in
theorem popIndex_any (n : Int) (xs : List Int) (p : Addr) (b off cap : Nat) (w : World) (hlen : xs.length ≤ 1000) (hp : w.cell? p = some (.int .i64 n))
    (hcs : ∀ k, k < xs.length → w.cell? ⟨b, off + k, none⟩ = some (.int .i64 (xs.getD k 0))) :
    Calls Tryd.prog 42 #[.slice (some ⟨b, off, none⟩) xs.length cap, .func (.func 30) #[] #[.pointer (some p)]] w fun e w' => ∃ i : Int, e = .returned (.int .i64 i) ∧ Hid (decide (0 ≤ i) = xs.any (outB n)) ∧ w' = w := by
  replace hcs := Lib.hid hcs
  go_enter Tryd.func42, Tryd.ntmps42
  go_wp2
  go_loop [8] (fun i => ∃ k : Nat, k ≤ xs.length ∧ i = .int .i64 k ∧ Hid ((xs.take k).any (outB n) = false)) (fun i => xs.length - (intOf i).toNat)
  case atStart => exact ⟨0, Nat.zero_le _, rfl, by show _ = _; simp⟩
  case round =>
    obtain ⟨k, hk, rfl, ha⟩ := hrel
    by_cases hlt : k < xs.length
    · have hc := hcs.out k hlt
      have hs := any_take (outB n) xs k hlt
      have hs2 := any_drop (outB n) xs k hlt
      have hd : decide ((k : Int) < (xs.length : Int)) = true := by simpa using hlt
      generalize xs.getD k 0 = x at *
      replace hs := Lib.hid hs
      by_cases hb : outB n x = true
      · replace hs2 := Lib.hid (hs2 hb)
        go_wp2_with fail
        refine (popIs_any _ _ _ _ hp).mono ?_; rintro e w1 ⟨rfl, rfl⟩
        go_wp2
        go_ret
        exact ⟨_, rfl, by show _ = _; rw [hs2.out]; simp, rfl⟩
      · have hb' : outB n x = false := by simpa using hb
        clear hb hs2
        go_wp2_with fail
        refine (popIs_any _ _ _ _ hp).mono ?_; rintro e w1 ⟨rfl, rfl⟩
        go_wp2
        go_round
        case rel => exact ⟨k + 1, by omega, by go_num, by show _ = _; rw [hs.out, ha.out, hb']; rfl⟩
        case measure => simp [intOf]; omega
    · have hd : decide ((k : Int) < (xs.length : Int)) = false := by simpa using hlt
      obtain rfl : k = xs.length := by omega
      go_wp2
      go_ret
      exact ⟨_, rfl, by have := ha.out; show _ = _; rw [List.take_length] at this; rw [this]; rfl, rfl⟩

set_option maxHeartbeats 400000 in
theorem popContains_any (n : Int) (xs : List Int) (p : Addr) (b off cap : Nat) (w : World) (hlen : xs.length ≤ 1000) (hp : w.cell? p = some (.int .i64 n))
    (hcs : ∀ k, k < xs.length → w.cell? ⟨b, off + k, none⟩ = some (.int .i64 (xs.getD k 0))) :
    Calls Tryd.prog 29 #[.slice (some ⟨b, off, none⟩) xs.length cap, .func (.func 30) #[] #[.pointer (some p)]] w fun e w' => e = .returned (.bool (xs.any (outB n))) ∧ w' = w := by
  have hI := popIndex_any n xs p b off cap w hlen hp hcs
  replace hI := Lib.hid hI
  go_enter Tryd.func29, Tryd.ntmps29
  go_wp2_with fail
  refine hI.out.mono ?_; rintro e w1 ⟨i, rfl, hi, rfl⟩
  go_wp2
  go_ret
  exact ⟨ret_bool hi.out, rfl⟩

theorem cell_alloc_of (w : World) (o : Obj) (a : Addr) (v : Value) (h : w.cell? a = some v) : (w.alloc o).cell? a = some v := by
  have hlt : a.block < w.heap.size := by
    unfold World.cell? at h
    rcases Nat.lt_or_ge a.block w.heap.size with h' | h'
    · exact h'
    · rw [Array.getElem?_eq_none h'] at h; cases h
  have := Below.heap_alloc w o a.block hlt
  rw [World.cell?_of_block (w := w) this]; exact h

/-- P16.1: a population. -/
def pop (n : Int) (xs : List Int) : Bool := decide (1 ≤ n) && decide (n ≤ 24) && !xs.any (outB n)

set_option maxHeartbeats 400000 in
theorem population_any (n : Int) (xs : List Int) (b off cap : Nat) (w : World) (hlen : xs.length ≤ 1000)
    (hcs : ∀ k, k < xs.length → w.cell? ⟨b, off + k, none⟩ = some (.int .i64 (xs.getD k 0))) :
    Calls Tryd.prog 13 #[.int .i64 n, .slice (some ⟨b, off, none⟩) xs.length cap] w fun e w' => e = .returned (.bool (pop n xs)) ∧ Below w.heap.size w w' := by
  by_cases h1 : 1 ≤ n
  · have e1 : decide (1 ≤ n) = true := by simpa using h1
    by_cases h2 : n ≤ 24
    · have e2 : decide (n ≤ 24) = true := by simpa using h2
      have hv : Hid (pop n xs = !xs.any (outB n)) := by show _ = _; simp [pop, h1, h2]
      replace hcs := Lib.hid hcs
      go_enter Tryd.func13, Tryd.ntmps13
      go_wp2_with fail
      have hc' : Hid (∀ k, k < xs.length → (w.alloc (.cells #[.int .i64 n] 3)).cell? ⟨b, off + k, none⟩ = some (.int .i64 (xs.getD k 0))) := fun k hk => (cell_alloc_of _ _ _ _ (hcs.out k hk))
      refine (popContains_any n xs ⟨w.heap.size, 0, none⟩ b off cap _ hlen (by simp [go_sem]) hc'.out).mono ?_; rintro e w1 ⟨rfl, rfl⟩
      go_wp2
      go_ret
      exact ⟨ret_bool hv.out.symm, (by repeat first | with_reducible exact Below.refl _ _ | with_reducible assumption | with_reducible refine below_drewN ?_ _ | with_reducible refine Below.drew ?_ | with_reducible refine Below.setCell ?_ (by first | exact Nat.le_refl _ | (simp; done) | (simp; omega) | omega) _ | with_reducible refine Below.alloc ?_ (by first | exact Nat.le_refl _ | (simp; done) | (simp; omega) | omega) _ | exact Below.refl _ _ | assumption)⟩
    · have e2 : decide (n ≤ 24) = false := by simpa using h2
      have hv : Hid (pop n xs = false) := by show _ = _; simp [pop, h2]
      go_enter Tryd.func13, Tryd.ntmps13
      go_wp2
      go_ret
      exact ⟨ret_bool hv.out.symm, (by repeat first | with_reducible exact Below.refl _ _ | with_reducible assumption | with_reducible refine below_drewN ?_ _ | with_reducible refine Below.drew ?_ | with_reducible refine Below.setCell ?_ (by first | exact Nat.le_refl _ | (simp; done) | (simp; omega) | omega) _ | with_reducible refine Below.alloc ?_ (by first | exact Nat.le_refl _ | (simp; done) | (simp; omega) | omega) _ | exact Below.refl _ _ | assumption)⟩
  · have e1 : decide (1 ≤ n) = false := by simpa using h1
    have hv : Hid (pop n xs = false) := by show _ = _; simp [pop, h1]
    go_enter Tryd.func13, Tryd.ntmps13
    go_wp2
    go_ret
    exact ⟨ret_bool hv.out.symm, (by repeat first | with_reducible exact Below.refl _ _ | with_reducible assumption | with_reducible refine below_drewN ?_ _ | with_reducible refine Below.drew ?_ | with_reducible refine Below.setCell ?_ (by first | exact Nat.le_refl _ | (simp; done) | (simp; omega) | omega) _ | with_reducible refine Below.alloc ?_ (by first | exact Nat.le_refl _ | (simp; done) | (simp; omega) | omega) _ | exact Below.refl _ _ | assumption)⟩
end Go.Proofs.YtllofogjojlamaaDoor
