/-
  The contracts of package ratio: Valid, Make; cmp.Compare; ratio.Compare.
-/
import Derived.Test.YtllofogjojlamaaDoorBase
namespace Go.Proofs.YtllofogjojlamaaDoor
open Go.RowKit

/-- A fraction as a value. -/
abbrev rv (n d : Int) : Value := .agg #[.int .i64 n, .int .i64 d]

/-- P3.1: valid. -/
def vld (n d : Int) : Bool := decide (0 < d) && decide (d ≤ 1000000000) && decide (n.natAbs ≤ 1000000000) && decide (Nat.gcd n.natAbs d.natAbs = 1)

theorem bcell {W w1 : World} (hb : Below W.heap.size W w1) : (∀ b o, b < W.heap.size → w1.cell? ⟨b, o, none⟩ = W.cell? ⟨b, o, none⟩) ∧ (∀ b o, b < W.heap.size → w1.frozen? ⟨b, o, none⟩ = W.frozen? ⟨b, o, none⟩) :=
  ⟨fun b o h => hb.cell (p := ⟨b, o, none⟩) h, fun b o h => hb.frozen (p := ⟨b, o, none⟩) h⟩

theorem below_drewN {B : Nat} {a w : World} (h : Below B a w) (n : Nat) : Below B a (w.drewN n) := ⟨h.os, h.tape, h.output, h.size, h.block⟩

theorem vld_true {n d : Int} (h1 : 0 < d) (h2 : d ≤ 1000000000) (h3 : n.natAbs ≤ 1000000000) : vld n d = ((Nat.gcd n.natAbs d.natAbs : Int) == 1) := by
  have e : ((Nat.gcd n.natAbs d.natAbs : Int) == 1) = decide (Nat.gcd n.natAbs d.natAbs = 1) := by
    rw [Bool.eq_iff_iff]; simp; omega
  rw [e]; simp [vld, h1, h2, h3]

set_option maxHeartbeats 400000 in
theorem Valid_any (n d : Int) (w : World) (hn : I64 n) (hd : I64 d) :
    Calls Tryd.prog 41 #[rv n d] w fun e w' => e = .returned (.bool (vld n d)) ∧ ∃ k, w' = (w.alloc (.cells #[.int .i64 n, .int .i64 d] 33)).drewN k := by
  by_cases h1 : 0 < d
  · by_cases h2 : d ≤ 1000000000
    · by_cases h3 : n.natAbs ≤ 1000000000
      · have hv := Lib.hid (vld_true h1 h2 h3)
        have e1 : decide (0 < d) = true := by simpa using h1
        have e2 : decide (d ≤ 1000000000) = true := by simpa using h2
        have e3 : decide ((n.natAbs : Int) ≤ 1000000000) = true := by simp; omega
        go_enter Tryd.func41, Tryd.ntmps41
        go_wp2
        go_quiet (first
          | (go_at_call 59; exact Calls.quiet_of_same (abs_any _ _ (by assumption)))
          | (go_at_call 58; exact Calls.quiet_of (gcd_any _ _ _ (natAbs_u64 _ hn) (natAbs_u64 _ hd))))
        go_wp2
        go_ret
        exact ⟨ret_bool hv.out.symm, nq, rfl⟩
      · have hv : Hid (vld n d = false) := by show vld n d = false; simp [vld, h3]
        have e1 : decide (0 < d) = true := by simpa using h1
        have e2 : decide (d ≤ 1000000000) = true := by simpa using h2
        have e3 : decide ((n.natAbs : Int) ≤ 1000000000) = false := by simp; omega
        go_enter Tryd.func41, Tryd.ntmps41
        go_wp2
        go_quiet ((go_at_call 59; exact Calls.quiet_of_same (abs_any _ _ (by assumption))))
        go_wp2
        go_ret
        exact ⟨ret_bool hv.out.symm, nq, rfl⟩
    · have hv : Hid (vld n d = false) := by show vld n d = false; simp [vld, h2]
      have e1 : decide (0 < d) = true := by simpa using h1
      have e2 : decide (d ≤ 1000000000) = false := by simpa using h2
      go_enter Tryd.func41, Tryd.ntmps41
      go_wp2
      go_quiet (fail)
      go_wp2
      go_ret
      exact ⟨ret_bool hv.out.symm, nq, rfl⟩
  · have hv : Hid (vld n d = false) := by show vld n d = false; simp [vld, h1]
    have e1 : decide (0 < d) = false := by simpa using h1
    go_enter Tryd.func41, Tryd.ntmps41
    go_wp2
    go_quiet (fail)
    go_wp2
    go_ret
    exact ⟨ret_bool hv.out.symm, nq, rfl⟩

/-- P3.1: what Make gives: numerator, denominator, error. -/
def mk (n d : Int) : Int × Int × Int :=
  if d = 0 then (0, 0, 30)
  else if 1000000000 < max (n.natAbs / Nat.gcd n.natAbs d.natAbs) (d.natAbs / Nat.gcd n.natAbs d.natAbs) then (0, 0, 30)
  else (if (n < 0) ≠ (d < 0) then -(n.natAbs / Nat.gcd n.natAbs d.natAbs : Nat) else (n.natAbs / Nat.gcd n.natAbs d.natAbs : Nat), (d.natAbs / Nat.gcd n.natAbs d.natAbs : Nat), 0)

theorem mk_eq (n d : Int) (h0 : d ≠ 0) (k : Nat) (hk : k = Nat.gcd n.natAbs d.natAbs) :
    mk n d = if 1000000000 < max ((n.natAbs : Int) / (k : Int)) ((d.natAbs : Int) / (k : Int)) then (0, 0, 30)
      else (if (n < 0) ≠ (d < 0) then -((n.natAbs : Int) / (k : Int)) else (n.natAbs : Int) / (k : Int), (d.natAbs : Int) / (k : Int), 0) := by
  subst hk
  simp only [mk, if_neg h0]
  have e : (1000000000 < max (n.natAbs / Nat.gcd n.natAbs d.natAbs) (d.natAbs / Nat.gcd n.natAbs d.natAbs)) ↔
    (1000000000 : Int) < max ((n.natAbs : Int) / ((Nat.gcd n.natAbs d.natAbs : Nat) : Int)) ((d.natAbs : Int) / ((Nat.gcd n.natAbs d.natAbs : Nat) : Int)) := by omega
  simp only [e]
  rfl

theorem u64_div (n : Int) (k : Nat) (hn : I64 n) : IntKind.u64.wrap ((n.natAbs : Int) / (k : Int)) = (n.natAbs : Int) / (k : Int) := by
  obtain ⟨h1, h2⟩ := hn
  have a : (n.natAbs : Int) / (k : Int) ≤ n.natAbs := Int.ediv_le_self _ (by omega)
  have b : 0 ≤ (n.natAbs : Int) / (k : Int) := Int.ediv_nonneg (by omega) (by omega)
  generalize (n.natAbs : Int) / (k : Int) = x at *
  simp [IntKind.wrap, IntKind.bits, IntKind.signed] ; omega

set_option maxHeartbeats 400000 in
theorem Make_zero (n : Int) (w : World) :
    Calls Tryd.prog 40 #[.int .i64 n, .int .i64 0] w fun e w' => e = .returned (.tuple #[rv (mk n 0).1 (mk n 0).2.1, .int .i64 (mk n 0).2.2]) ∧ Below w.heap.size w w' := by
  go_enter Tryd.func40, Tryd.ntmps40
  go_wp2
  exact bodyPost_ret (v := .tuple #[rv 0 0, .int .i64 30]) (by simp [results, Tryd.results40, go_sem]) rfl ⟨rfl, (Below.refl _ _).alloc (Nat.le_refl _) _⟩

set_option maxHeartbeats 400000 in
theorem Make_any (n d : Int) (w : World) (hn : I64 n) (hd : I64 d) (h0 : d ≠ 0) :
    Calls Tryd.prog 40 #[.int .i64 n, .int .i64 d] w fun e w' => e = .returned (.tuple #[rv (mk n d).1 (mk n d).2.1, .int .i64 (mk n d).2.2]) ∧ Below w.heap.size w w' := by
  have h0' : (d == 0) = false := by simpa using h0
  obtain ⟨k, hk⟩ : ∃ k, k = Nat.gcd n.natAbs d.natAbs := ⟨_, rfl⟩
  have hk1 : (1 : Int) ≤ k := by have : 0 < Nat.gcd n.natAbs d.natAbs := Nat.gcd_pos_of_pos_right _ (by omega); omega
  have hk0 : ¬ k = 0 := by omega
  have hg := gcd_any n.natAbs d.natAbs
  rw [← hk] at hg
  have Hk := Lib.hid hk; clear hk
  have Hg := Lib.hid hg; clear hg
  have gn := natAbs_u64 n hn
  have gd := natAbs_u64 d hd
  go_enter Tryd.func40, Tryd.ntmps40
  go_wp2_with fail
  refine (abs_any _ _ hn).mono ?_; rintro e w1 ⟨rfl, rfl⟩
  go_wp2_with fail
  refine (abs_any _ _ hd).mono ?_; rintro e w1 ⟨rfl, rfl⟩
  go_wp2_with fail
  refine (Hg.out _ gn gd).mono ?_; rintro e w1 ⟨rfl, n1, rfl⟩
  go_wp2_with fail
  go_quiet (first
    | (go_at_call 59; exact quiet_add_same (abs_any _ _ hn))
    | (go_at_call 59; exact quiet_add_same (abs_any _ _ hd)))
  have hmk := Lib.hid (mk_eq n d h0 k Hk.out)
  clear hk1 hk0 gn gd Hg Hk h0
  have h0x : 0 ≤ (n.natAbs : Int) / (k : Int) := Int.ediv_nonneg (by omega) (by omega)
  have h0y : 0 ≤ (d.natAbs : Int) / (k : Int) := Int.ediv_nonneg (by omega) (by omega)
  have wx := u64_div n k hn
  have wy := u64_div d k hd
  clear hn hd
  generalize (n.natAbs : Int) / (k : Int) = x at *
  generalize (d.natAbs : Int) / (k : Int) = y at *
  by_cases hxy : x < y
  · by_cases hm : 1000000000 < y
    · have hv : Hid (mk n d = (0, 0, 30)) := by rw [hmk.out]; show _ = _; rw [if_pos (by omega)]
      clear hmk
      go_wp2
      exact bodyPost_ret (v := .tuple #[rv 0 0, .int .i64 30]) (by simp [results, Tryd.results40, go_sem]) rfl ⟨by rw [hv.out], (by repeat first | with_reducible exact Below.refl _ _ | with_reducible assumption | with_reducible refine below_drewN ?_ _ | with_reducible refine Below.drew ?_ | with_reducible refine Below.setCell ?_ (by first | exact Nat.le_refl _ | (simp; done) | (simp; omega) | omega) _ | with_reducible refine Below.alloc ?_ (by first | exact Nat.le_refl _ | (simp; done) | (simp; omega) | omega) _ | exact Below.refl _ _ | assumption)⟩
    · by_cases hs : (n < 0) = (d < 0)
      · have hv : Hid (mk n d = (x, y, 0)) := by rw [hmk.out]; show _ = _; rw [if_neg (by omega), if_neg (by simpa using hs)]
        have hb : (!decide (n < 0) == decide (d < 0)) = false := by simp [hs]
        clear hmk hs
        go_wp2
        exact bodyPost_ret (v := .tuple #[rv x y, .int .i64 0]) (by simp [results, Tryd.results40, go_sem]) rfl ⟨by rw [hv.out], (by repeat first | with_reducible exact Below.refl _ _ | with_reducible assumption | with_reducible refine below_drewN ?_ _ | with_reducible refine Below.drew ?_ | with_reducible refine Below.setCell ?_ (by first | exact Nat.le_refl _ | (simp; done) | (simp; omega) | omega) _ | with_reducible refine Below.alloc ?_ (by first | exact Nat.le_refl _ | (simp; done) | (simp; omega) | omega) _ | exact Below.refl _ _ | assumption)⟩
      · have hv : Hid (mk n d = (-x, y, 0)) := by rw [hmk.out]; show _ = _; rw [if_neg (by omega), if_pos (by simpa using hs)]
        have hb : (!decide (n < 0) == decide (d < 0)) = true := by simpa using hs
        clear hmk hs
        go_wp2
        exact bodyPost_ret (v := .tuple #[rv (-x) y, .int .i64 0]) (by simp [results, Tryd.results40, go_sem]) rfl ⟨by rw [hv.out], (by repeat first | with_reducible exact Below.refl _ _ | with_reducible assumption | with_reducible refine below_drewN ?_ _ | with_reducible refine Below.drew ?_ | with_reducible refine Below.setCell ?_ (by first | exact Nat.le_refl _ | (simp; done) | (simp; omega) | omega) _ | with_reducible refine Below.alloc ?_ (by first | exact Nat.le_refl _ | (simp; done) | (simp; omega) | omega) _ | exact Below.refl _ _ | assumption)⟩
  · by_cases hm : 1000000000 < x
    · have hv : Hid (mk n d = (0, 0, 30)) := by rw [hmk.out]; show _ = _; rw [if_pos (by omega)]
      clear hmk
      go_wp2
      exact bodyPost_ret (v := .tuple #[rv 0 0, .int .i64 30]) (by simp [results, Tryd.results40, go_sem]) rfl ⟨by rw [hv.out], (by repeat first | with_reducible exact Below.refl _ _ | with_reducible assumption | with_reducible refine below_drewN ?_ _ | with_reducible refine Below.drew ?_ | with_reducible refine Below.setCell ?_ (by first | exact Nat.le_refl _ | (simp; done) | (simp; omega) | omega) _ | with_reducible refine Below.alloc ?_ (by first | exact Nat.le_refl _ | (simp; done) | (simp; omega) | omega) _ | exact Below.refl _ _ | assumption)⟩
    · by_cases hs : (n < 0) = (d < 0)
      · have hv : Hid (mk n d = (x, y, 0)) := by rw [hmk.out]; show _ = _; rw [if_neg (by omega), if_neg (by simpa using hs)]
        have hb : (!decide (n < 0) == decide (d < 0)) = false := by simp [hs]
        clear hmk hs
        go_wp2
        exact bodyPost_ret (v := .tuple #[rv x y, .int .i64 0]) (by simp [results, Tryd.results40, go_sem]) rfl ⟨by rw [hv.out], (by repeat first | with_reducible exact Below.refl _ _ | with_reducible assumption | with_reducible refine below_drewN ?_ _ | with_reducible refine Below.drew ?_ | with_reducible refine Below.setCell ?_ (by first | exact Nat.le_refl _ | (simp; done) | (simp; omega) | omega) _ | with_reducible refine Below.alloc ?_ (by first | exact Nat.le_refl _ | (simp; done) | (simp; omega) | omega) _ | exact Below.refl _ _ | assumption)⟩
      · have hv : Hid (mk n d = (-x, y, 0)) := by rw [hmk.out]; show _ = _; rw [if_neg (by omega), if_pos (by simpa using hs)]
        have hb : (!decide (n < 0) == decide (d < 0)) = true := by simpa using hs
        clear hmk hs
        go_wp2
        exact bodyPost_ret (v := .tuple #[rv (-x) y, .int .i64 0]) (by simp [results, Tryd.results40, go_sem]) rfl ⟨by rw [hv.out], (by repeat first | with_reducible exact Below.refl _ _ | with_reducible assumption | with_reducible refine below_drewN ?_ _ | with_reducible refine Below.drew ?_ | with_reducible refine Below.setCell ?_ (by first | exact Nat.le_refl _ | (simp; done) | (simp; omega) | omega) _ | with_reducible refine Below.alloc ?_ (by first | exact Nat.le_refl _ | (simp; done) | (simp; omega) | omega) _ | exact Below.refl _ _ | assumption)⟩

theorem Make_all (n d : Int) (w : World) (hn : I64 n) (hd : I64 d) :
    Calls Tryd.prog 40 #[.int .i64 n, .int .i64 d] w fun e w' => e = .returned (.tuple #[rv (mk n d).1 (mk n d).2.1, .int .i64 (mk n d).2.2]) ∧ Below w.heap.size w w' := by
  by_cases h0 : d = 0
  · subst h0; exact Make_zero n w
  · exact Make_any n d w hn hd h0

/-- cmp.Compare. -/
def cmpv (a b : Int) : Int := if a < b then -1 else if b < a then 1 else 0

set_option maxHeartbeats 400000 in
theorem isNaN_any (a : Int) (w : World) :
    Calls Tryd.prog 37 #[.int .i64 a] w fun e w' => e = .returned (.bool false) ∧ w' = w := by
  have h : (a != a) = false := by simp
  go_enter Tryd.func37, Tryd.ntmps37
  go_wp2
  go_ret
  exact ⟨rfl, rfl⟩

set_option maxHeartbeats 400000 in
theorem cmp_any (a b : Int) (w : World) :
    Calls Tryd.prog 19 #[.int .i64 a, .int .i64 b] w fun e w' => e = .returned (.int .i64 (cmpv a b)) ∧ w' = w := by
  by_cases h1 : a < b
  · have hv : Hid (cmpv a b = -1) := by show _ = _; simp [cmpv, h1]
    go_enter Tryd.func19, Tryd.ntmps19
    go_wp2_with (go_at_call 37; refine (isNaN_any _ _).mono ?_; rintro e w1 ⟨rfl, rfl⟩)
    go_ret
    exact ⟨ret_i64 hv.out.symm, rfl⟩
  · by_cases h2 : b < a
    · have hv : Hid (cmpv a b = 1) := by show _ = _; simp [cmpv, h1, h2]
      go_enter Tryd.func19, Tryd.ntmps19
      go_wp2_with (go_at_call 37; refine (isNaN_any _ _).mono ?_; rintro e w1 ⟨rfl, rfl⟩)
      go_ret
      exact ⟨ret_i64 hv.out.symm, rfl⟩
    · have hv : Hid (cmpv a b = 0) := by show _ = _; simp [cmpv, h1, h2]
      go_enter Tryd.func19, Tryd.ntmps19
      go_wp2_with (go_at_call 37; refine (isNaN_any _ _).mono ?_; rintro e w1 ⟨rfl, rfl⟩)
      go_ret
      exact ⟨ret_i64 hv.out.symm, rfl⟩
end Go.Proofs.YtllofogjojlamaaDoor
