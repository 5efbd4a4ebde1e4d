/-
 Routes of chapter 11: what the reference's generators make (steps, edges, lives), plain model.
 Routes of chapter 11: the helper pick of the law and of the references; the reference's Steps (printed by tools/genre2.py).
-/
import Derived.Test.YtpeandbcdaikbaaGreatDoorYC
import Derived.Test.YtpeandbcdaikbaaGreatDoorYO
namespace Go.Proofs.YtpeandbcdaikbaaGreatDoor

def pickv (c : Int) (n : Nat) : Nat := (if c < 0 then -(c + 1) else c).toNat % n
theorem pickv_lt (c : Int) (n : Nat) (h : 1 ≤ n) : pickv c n < n := Nat.mod_lt _ (by omega)
/-- What an integer makes of a property: one step, or none. -/
def stepR (p c : Int) : List Stp :=
 if pickv c 8 = 0 then [⟨6, 0⟩]
 else if p = 1 then [⟨if pickv (c.tdiv 8) 21 % 2 = 0 then 1 else 2, 0⟩]
 else if p = 2 then [⟨4, ((pickv (c.tdiv 8) 21 % 7 : Nat) : Int)⟩]
 else if p = 3 ∨ p = 5 then [⟨3, if pickv (c.tdiv 8) 21 % 3 = 0 then 10 else if pickv (c.tdiv 8) 21 % 3 = 1 then 100 else 1000⟩]
 else if p = 6 ∨ p = 7 then [⟨5, 0⟩]
 else []
def stepsR (p : Int) (xs : List Int) : List Stp := (xs.take 8).flatMap (stepR p)
theorem stepR_len (p c : Int) : (stepR p c).length ≤ 1 := by
 unfold stepR
 repeat (split; · exact Nat.le_refl _)
 exact Nat.zero_le _
theorem stepR_fits {p : Int} (hp : 1 ≤ p ∧ p ≤ 8) (c : Int) : ∀ s ∈ stepR p c, fitsA p s = true := by
 intro s hs
 unfold stepR at hs
 split at hs
 ·
  obtain rfl := List.mem_singleton.1 hs
  simp [fitsA, hp]
 split at hs
 ·
  obtain rfl := List.mem_singleton.1 hs
  subst p
  split <;> simp [fitsA]
 split at hs
 ·
  obtain rfl := List.mem_singleton.1 hs
  subst p
  have := Nat.mod_lt (pickv (c.tdiv 8) 21) (show 0 < 7 by omega)
  simp only [fitsA]
  simp
  omega
 split at hs
 ·
  obtain rfl := List.mem_singleton.1 hs
  rename_i h3
  rcases h3 with rfl | rfl <;> simp only [fitsA] <;> (repeat' split) <;> simp_all
 split at hs
 ·
  obtain rfl := List.mem_singleton.1 hs
  rename_i h3
  rcases h3 with rfl | rfl <;> simp [fitsA]
 ·
  cases hs
theorem stepsR_len (p : Int) (xs : List Int) : (stepsR p xs).length ≤ 8 := by
 unfold stepsR
 have : ∀ l : List Int, (l.flatMap (stepR p)).length ≤ l.length := fun l => by
  induction l with
  | nil => exact Nat.le_refl _
  | cons a l ih =>
   have := stepR_len p a
   simp only [List.flatMap_cons, List.length_append, List.length_cons]
   omega
 have h := this (xs.take 8)
 rw [List.length_take] at h
 omega
theorem stepsR_valid {p : Int} (hp : 1 ≤ p ∧ p ≤ 8) (xs : List Int) : validA p (stepsR p xs) = true :=
 valid_mk hp (by have := stepsR_len p xs; omega) fun s hs => by
  obtain ⟨c, _, hc⟩ := List.mem_flatMap.1 hs
  exact stepR_fits hp c s hc
theorem stepsR_succ (p : Int) (xs : List Int) {i : Nat} (hi : i < xs.length) (h8 : i < 8) : stepsR p (xs.take (i + 1)) = stepsR p (xs.take i) ++ stepR p xs[i]! := by
 unfold stepsR
 rw [List.take_take, List.take_take, show min 8 (i + 1) = i + 1 by omega, show min 8 i = i by omega, List.take_add_one, List.flatMap_append, List.getElem?_eq_getElem hi, getElem!_pos xs i hi]
 simp

/-! Edges. -/
def propK (k : Nat) : Int := if k = 0 then 1 else if k = 1 then 2 else if k = 2 then 3 else 7
def keepR (y : Int) (k : Nat) : List Kp := if pickv (y / 2 ^ (2 * k)) 4 = 0 then [(propK k, stepsR (propK k) [y / 2 ^ k])] else []
def keepsR (y : Int) (n : Nat) : List Kp := (List.range n).flatMap (keepR y)
theorem keepsR_succ (y : Int) (n : Nat) : keepsR y (n + 1) = keepsR y n ++ keepR y n := by
 unfold keepsR
 rw [List.range_succ, List.flatMap_append]
 simp
theorem keepsR_len (y : Int) (n : Nat) : (keepsR y n).length ≤ n := by
 induction n with
 | zero => exact Nat.le_refl _
 | succ n ih =>
  rw [keepsR_succ, List.length_append]
  have : (keepR y n).length ≤ 1 := by unfold keepR; split <;> simp
  omega
def frmR (a : Int) : Int := 1 + (pickv a 5 : Nat)
def toR (a b : Int) : Int := 1 + (frmR a + (pickv b 4 : Nat)) % 5
def migR (i : Nat) (y : Nat → Int) : Mig := ⟨1 + (i : Int), frmR (y 0), toR (y 0) (y 1), false, keepsR (y 2) 4⟩
def edgR (i : Nat) (y : Nat → Int) : Edg := ⟨(pickv (y 3) 9 : Nat), (pickv (y 4) 40 : Nat), migR i y⟩
def rowY (zs : List Int) (i : Nat) : Nat → Int := fun j => zs[i * 5 + j]!
def madeE (n : Nat) (zs : List Int) : List Edg := (List.range (min n 8)).map fun i => edgR i (rowY zs i)
theorem madeE_len (n : Nat) (zs : List Int) : (madeE n zs).length = min n 8 := by simp [madeE]
theorem madeE_at (n : Nat) (zs : List Int) {i : Nat} (hi : i < min n 8) : (madeE n zs)[i]! = edgR i (rowY zs i) := by
 rw [getElem!_pos _ i (by rw [madeE_len]; exact hi)]
 simp [madeE]
theorem stepsR_one {p c : Int} (hp : p = 1 ∨ p = 2 ∨ p = 3 ∨ p = 7) : ∃ s, stepsR p [c] = [s] := by
 show ∃ s, [c].flatMap (stepR p) = [s]
 rw [show [c].flatMap (stepR p) = stepR p c by simp]
 unfold stepR
 repeat (split; · exact ⟨_, rfl⟩)
 rename_i h0 h1 h2 h3 h4
 exfalso
 omega
theorem normal_one {p : Int} {s : Stp} (h : fitsA p s = true) : normalA [s] = [s] := by
 have hk : s.kind = 1 ∨ s.kind = 2 ∨ s.kind = 3 ∨ s.kind = 4 ∨ s.kind = 5 ∨ s.kind = 6 := by
  unfold fitsA at h
  repeat' (split at h)
  all_goals (first | omega | simp_all)
 obtain ⟨k, n⟩ := s
 dsimp only at hk
 have h6 : k = 6 → n = 0 := by
  rintro rfl
  simp [fitsA] at h
  exact h.2
 rcases hk with rfl | rfl | rfl | rfl | rfl | rfl
 all_goals first | (obtain rfl := h6 rfl; rfl) | (simp [normalA, numsA, ofKind, canon, minL_one, maxL_one])
theorem keepR_ok (y : Int) {k : Nat} (_ : k < 4) : ∀ e ∈ keepR y k, e.prop = propK k ∧ isKeepM e = true := by
 intro e he
 unfold keepR at he
 split at he
 ·
  obtain rfl := List.mem_singleton.1 he
  refine ⟨rfl, ?_⟩
  have hp : propK k = 1 ∨ propK k = 2 ∨ propK k = 3 ∨ propK k = 7 := by
   unfold propK
   repeat' split
   all_goals omega
  obtain ⟨s, hs⟩ := stepsR_one (c := y / 2 ^ k) hp
  have hv := stepsR_valid (p := propK k) (by omega) [y / 2 ^ k]
  have hf : fitsA (propK k) s = true := (valid_parts hv).2.2 s (by rw [hs]; simp)
  unfold isKeepM Kp.prop Kp.steps
  dsimp only
  rw [hs] at hv ⊢
  rw [hv, normal_one hf]
  rcases hp with h | h | h | h <;> simp [h]
 ·
  cases he
theorem asc_app : ∀ (l : List Kp) (b : Kp), ascM l = true → (∀ a ∈ l, a.prop < b.prop) → ascM (l ++ [b]) = true
 | [], _, _, _ => rfl
 | [a], b, _, h => by
  show (decide (a.prop < b.prop) && ascM [b]) = true
  have := h a (by simp)
  simp [this, ascM]
 | a :: c :: l, b, ha, h => by
  rw [List.cons_append, List.cons_append, ascM, Bool.and_eq_true]
  rw [ascM, Bool.and_eq_true] at ha
  exact ⟨ha.1, asc_app (c :: l) b ha.2 fun x hx => h x (List.mem_cons_of_mem _ hx)⟩
theorem propK_lt {j k : Nat} (h : j < k) (_ : k < 4) : propK j < propK k := by
 unfold propK
 obtain rfl | rfl | rfl | rfl : k = 0 ∨ k = 1 ∨ k = 2 ∨ k = 3 := by omega
 ·
  omega
 ·
  obtain rfl : j = 0 := by omega
  simp
 ·
  obtain rfl | rfl : j = 0 ∨ j = 1 := by omega
  all_goals simp
 ·
  obtain rfl | rfl | rfl : j = 0 ∨ j = 1 ∨ j = 2 := by omega
  all_goals simp
theorem keepsR_ok (y : Int) : ∀ n, n ≤ 4 → ascM (keepsR y n) = true ∧ ∀ e ∈ keepsR y n, isKeepM e = true ∧ ∃ k, k < n ∧ e.prop = propK k
 | 0, _ => ⟨rfl, fun e he => by cases he⟩
 | n + 1, h => by
  obtain ⟨h1, h2⟩ := keepsR_ok y n (by omega)
  rw [keepsR_succ]
  have h3 := keepR_ok y (k := n) (by omega)
  refine ⟨?_, fun e he => ?_⟩
  ·
   cases hk : keepR y n with
   | nil => rw [List.append_nil]; exact h1
   | cons b r =>
    have hl : (keepR y n).length ≤ 1 := by unfold keepR; split <;> simp
    rw [hk] at hl
    obtain rfl : r = [] := List.length_eq_zero_iff.1 (by simpa using hl)
    refine asc_app _ b h1 fun a ha => ?_
    obtain ⟨_, k, hk1, hk2⟩ := h2 a ha
    rw [hk2, (h3 b (by rw [hk]; simp)).1]
    exact propK_lt hk1 (by omega)
  ·
   rcases List.mem_append.1 he with he | he
   ·
    obtain ⟨a, k, b, c⟩ := h2 e he
    exact ⟨a, k, by omega, c⟩
   ·
    exact ⟨(h3 e he).2, n, by omega, (h3 e he).1⟩
theorem frmR_in (a : Int) : 1 ≤ frmR a ∧ frmR a ≤ 5 := by
 have := pickv_lt a 5 (by omega)
 unfold frmR
 omega
theorem toR_in (a b : Int) : 1 ≤ toR a b ∧ toR a b ≤ 5 := by
 unfold toR
 omega
theorem toR_ne (a b : Int) : toR a b ≠ frmR a := by
 have h1 := frmR_in a
 have h2 := pickv_lt b 4 (by omega)
 unfold toR
 omega
theorem migR_valid (i : Nat) (hi : i < 8) (y : Nat → Int) : validM (migR i y) = true := by
 have h1 := frmR_in (y 0)
 have h2 := toR_in (y 0) (y 1)
 obtain ⟨h3, h4⟩ := keepsR_ok (y 2) 4 (Nat.le_refl _)
 unfold validM migR isIdM
 simp only [h3, Bool.false_and, Bool.not_false, Bool.and_true, Bool.true_and, Bool.and_eq_true, decide_eq_true_eq, List.all_eq_true]
 exact ⟨⟨⟨by omega, by omega⟩, by omega⟩, fun e he => (h4 e he).1⟩
theorem madeE_valid (n : Nat) (zs : List Int) : validE (madeE n zs) = true := by
 unfold validE
 rw [Bool.and_eq_true, decide_eq_true_eq, madeE_len, List.all_eq_true]
 refine ⟨by omega, fun e he => ?_⟩
 obtain ⟨i, hi, rfl⟩ := List.mem_map.1 he
 have hi8 : i < 8 := by have := List.mem_range.1 hi; omega
 have h1 := pickv_lt (rowY zs i 3) 9 (by omega)
 have h2 := pickv_lt (rowY zs i 4) 40 (by omega)
 have e1 : decide (0 ≤ ((pickv (rowY zs i 3) 9 : Nat) : Int) ∧ ((pickv (rowY zs i 3) 9 : Nat) : Int) ≤ 1000000) = true := decide_eq_true (by omega)
 have e2 : decide (0 ≤ ((pickv (rowY zs i 4) 40 : Nat) : Int) ∧ ((pickv (rowY zs i 4) 40 : Nat) : Int) ≤ 100000) = true := decide_eq_true (by omega)
 show (decide (0 ≤ ((pickv (rowY zs i 3) 9 : Nat) : Int) ∧ ((pickv (rowY zs i 3) 9 : Nat) : Int) ≤ 1000000) && decide (0 ≤ ((pickv (rowY zs i 4) 40 : Nat) : Int) ∧ ((pickv (rowY zs i 4) 40 : Nat) : Int) ≤ 100000) && validM (migR i (rowY zs i))) = true
 rw [e1, e2, migR_valid i hi8]
 rfl
/-- Lives. -/
def lifeAt (xs : List Int) (i : Nat) : Int := if i < xs.length then (pickv xs[i]! 50 : Nat) - 1 else 30
def lifeR (xs : List Int) : List Int := -1 :: (List.range 5).map (lifeAt xs)
theorem lifeR_len (xs : List Int) : (lifeR xs).length = 6 := by simp [lifeR]
theorem lifeR_in (xs : List Int) : ∀ n ∈ lifeR xs, -1 ≤ n ∧ n ≤ 100 := by
 intro n hn
 rcases List.mem_cons.1 hn with rfl | hn
 ·
  omega
 ·
  obtain ⟨i, _, rfl⟩ := List.mem_map.1 hn
  unfold lifeAt
  split
  ·
   have := pickv_lt xs[i]! 50 (by omega)
   omega
  ·
   omega
end Go.Proofs.YtpeandbcdaikbaaGreatDoor
namespace Go.Proofs.YtpeandbcdaikbaaGreatDoor
open Go.RowKit Go.Shelf Go.Maps

attribute [local go_sem] Oper.semAt_some

set_option maxHeartbeats 400000 in
theorem pick_any (c : Int) (n : Nat) (w : World) (hc : I64 c) (h1 : 1 ≤ n) (h2 : n ≤ 1000000000) :
  Calls Tryz.prog 14 #[.int .i64 c, .int .i64 n] w fun e w' => e = .returned (.int .i64 (pickv c n : Nat)) ∧ w' = w := by
 obtain ⟨hc1, hc2⟩ := hc
 by_cases h0 : c < 0
 ·
  have hv : Hid (((pickv c n : Nat) : Int) = (-(c + 1)) % (n : Int)) := by
   show _ = _
   rw [pickv, if_pos h0, Int.natCast_emod, Int.toNat_of_nonneg (by omega)]
  have hd : decide (c < 0) = true := by simpa using h0
  have hnn : 0 ≤ -(c + 1) := by omega
  go_enter Tryz.func14, Tryz.ntmps14
  go_wp2
  go_ret
  exact ⟨ret_i64 (by rw [← Int.neg_tmod, Int.tmod_eq_emod_of_nonneg hnn]; exact hv.out.symm), rfl⟩
 ·
  have hv : Hid (((pickv c n : Nat) : Int) = c % (n : Int)) := by
   show _ = _
   rw [pickv, if_neg h0, Int.natCast_emod, Int.toNat_of_nonneg (by omega)]
  have hd : decide (c < 0) = false := by simpa using h0
  have h0' : 0 ≤ c := by omega
  go_enter Tryz.func14, Tryz.ntmps14
  go_wp2
  go_ret
  exact ⟨ret_i64 hv.out.symm, rfl⟩
set_option maxHeartbeats 400000 in
theorem pick07_any (c : Int) (n : Nat) (w : World) (hc : I64 c) (h1 : 1 ≤ n) (h2 : n ≤ 1000000000) :
  Calls Tryz.prog 60 #[.int .i64 c, .int .i64 n] w fun e w' => e = .returned (.int .i64 (pickv c n : Nat)) ∧ w' = w := by
 obtain ⟨hc1, hc2⟩ := hc
 by_cases h0 : c < 0
 ·
  have hv : Hid (((pickv c n : Nat) : Int) = (-(c + 1)) % (n : Int)) := by
   show _ = _
   rw [pickv, if_pos h0, Int.natCast_emod, Int.toNat_of_nonneg (by omega)]
  have hd : decide (c < 0) = true := by simpa using h0
  have hnn : 0 ≤ -(c + 1) := by omega
  go_enter Tryz.func60, Tryz.ntmps60
  go_wp2
  go_ret
  exact ⟨ret_i64 (by rw [← Int.neg_tmod, Int.tmod_eq_emod_of_nonneg hnn]; exact hv.out.symm), rfl⟩
 ·
  have hv : Hid (((pickv c n : Nat) : Int) = c % (n : Int)) := by
   show _ = _
   rw [pickv, if_neg h0, Int.natCast_emod, Int.toNat_of_nonneg (by omega)]
  have hd : decide (c < 0) = false := by simpa using h0
  have h0' : 0 ≤ c := by omega
  go_enter Tryz.func60, Tryz.ntmps60
  go_wp2
  go_ret
  exact ⟨ret_i64 hv.out.symm, rfl⟩
set_option maxHeartbeats 400000 in
theorem pick11_any (c : Int) (n : Nat) (w : World) (hc : I64 c) (h1 : 1 ≤ n) (h2 : n ≤ 1000000000) :
  Calls Tryz.prog 62 #[.int .i64 c, .int .i64 n] w fun e w' => e = .returned (.int .i64 (pickv c n : Nat)) ∧ w' = w := by
 obtain ⟨hc1, hc2⟩ := hc
 by_cases h0 : c < 0
 ·
  have hv : Hid (((pickv c n : Nat) : Int) = (-(c + 1)) % (n : Int)) := by
   show _ = _
   rw [pickv, if_pos h0, Int.natCast_emod, Int.toNat_of_nonneg (by omega)]
  have hd : decide (c < 0) = true := by simpa using h0
  have hnn : 0 ≤ -(c + 1) := by omega
  go_enter Tryz.func62, Tryz.ntmps62
  go_wp2
  go_ret
  exact ⟨ret_i64 (by rw [← Int.neg_tmod, Int.tmod_eq_emod_of_nonneg hnn]; exact hv.out.symm), rfl⟩
 ·
  have hv : Hid (((pickv c n : Nat) : Int) = c % (n : Int)) := by
   show _ = _
   rw [pickv, if_neg h0, Int.natCast_emod, Int.toNat_of_nonneg (by omega)]
  have hd : decide (c < 0) = false := by simpa using h0
  have h0' : 0 ≤ c := by omega
  go_enter Tryz.func62, Tryz.ntmps62
  go_wp2
  go_ret
  exact ⟨ret_i64 hv.out.symm, rfl⟩
theorem tdiv_in {c : Int} (h : I64 c) : I64 (c.tdiv 8) := by
 obtain ⟨h1, h2⟩ := h
 rcases Int.lt_or_le c 0 with h0 | h0
 ·
  have e : c.tdiv 8 = -((-c).tdiv 8) := by rw [Int.neg_tdiv, Int.neg_neg]
  rw [e, Int.tdiv_eq_ediv_of_nonneg (by omega)]
  exact ⟨by omega, by omega⟩
 ·
  rw [Int.tdiv_eq_ediv_of_nonneg h0]
  exact ⟨by omega, by omega⟩
/-- A step in a block of its own, appended to a row of the call's own. -/
theorem steps_end {B : Nat} {w wq w' : World} {ov v' : Value} {l : List Stp} {s : Stp} (hown : wq.ownsRow B 73 2 ov l.length (stL l)) (hb : Below B w wq) (hB : B ≤ w.heap.size)
  (h1 : w'.ownsRow B 73 2 v' (l.length + 1) (stL l ++ stC s)) (h2 : wq.grownBy w' ov.ownBlock) : w'.ownsRow B 73 2 v' (l ++ [s]).length (stL (l ++ [s])) ∧ Below B w w' := by
 rw [stL_snoc, List.length_append]
 exact ⟨h1, hb.grown h2 (by have := hb.size; omega) (fun g hg => (own_block hown hg).2.1)⟩
set_option maxRecDepth 100000 in
set_option maxHeartbeats 8000000 in
theorem Steps_any (p : Int) (v : Value) (xs : List Int) (w : World) (hp : I64 p) (hv : NumsAt w w.heap.size v xs) (hx : ∀ x ∈ xs, I64 x) :
  Calls Tryz.prog 29 #[.int .i64 p, v] w fun e w' => ∃ v', e = .returned v' ∧ w'.ownsRow w.heap.size 73 2 v' (stepsR p xs).length (stL (stepsR p xs)) ∧ Below w.heap.size w w' := by
 have hcell := Lib.hid fun i (hi : i < xs.length) => NumsAt.cells hv hi
 obtain ⟨va, vc, rfl, _, hxm, _⟩ := hv
 obtain ⟨i0, hi, hz0, hz1, hz2⟩ := info_parts Tryz.info_step
 go_enter Tryz.func29, Tryz.ntmps29
 go_wp2_with fail
 have hstart : Hid (w.ownsRow w.heap.size 73 2 (.slice none 0 0) (stepsR p (xs.take 0)).length (stL (stepsR p (xs.take 0))) ∧ Below w.heap.size w w) := ⟨World.ownsRow_nil _ _ _ _, Below.refl _ _⟩
 go_loopw [5, 6] (fun ov iv wr => ∃ i : Nat, i ≤ xs.length ∧ i ≤ 8 ∧ iv = .int .i64 (i : Int) ∧ Hid (wr.ownsRow w.heap.size 73 2 ov (stepsR p (xs.take i)).length (stL (stepsR p (xs.take i))) ∧ Below w.heap.size w wr)) (fun _ iv _ => 8 - (intOf iv).toNat)
 case atStart => exact ⟨0, Nat.zero_le _, Nat.zero_le _, rfl, hstart⟩
 case round =>
  obtain ⟨i, hi1, hi8, rfl, hall⟩ := hrel
  clear hstart
  by_cases hlt : i < xs.length
  ·
   have hyes : decide ((i : Int) < (xs.length : Int)) = true := decide_eq_true (by omega)
   by_cases h8 : i < 8
   ·
    have hyes8 : decide ((i : Int) < 8) = true := decide_eq_true (by omega)
    obtain ⟨hown, hb⟩ := hall.out
    have hxi : I64 xs[i]! := hx _ (by rw [getElem!_pos xs i hlt]; exact List.getElem_mem hlt)
    have hsu := stepsR_succ p xs hlt h8
    have hsl := stepsR_len p (xs.take i)
    obtain ⟨b, o, cap, hq, hbl, xe⟩ := hcell.out i hlt
    cases hq
    have xe' := (hb.cell (p := ⟨b, o + i, none⟩) hbl).trans xe
    generalize xs[i]! = x at xe xe' hxi hsu
    have hpk := Lib.hid (pick07_any x 8 wr hxi (by omega) (by omega))
    have hpk2 := Lib.hid (pick07_any (x.tdiv 8) 21 wr (tdiv_in hxi) (by omega) (by omega))
    have hwq : IntKind.i64.wrap (x.tdiv 8) = x.tdiv 8 := IntWalk.i64_in _ ⟨(tdiv_in hxi).1, (tdiv_in hxi).2⟩
    have hm8 := pickv_lt x 8 (by omega)
    have hk21 := pickv_lt (x.tdiv 8) 21 (by omega)
    generalize hm : pickv x 8 = m at hpk hm8
    generalize hk : pickv (x.tdiv 8) 21 = k at hpk2 hk21
    replace hsu := Lib.hid hsu
    replace hown := Lib.hid hown
    replace hb := Lib.hid hb
    replace hm := Lib.hid hm
    replace hk := Lib.hid hk
    clear hall
    have hw1 : IntKind.i64.wrap ((i : Int) + 1) = (i : Int) + 1 := IntWalk.i64_in _ (by omega)
    go_upto_region 8 with (first | (refine hpk.out.mono ?_; clear hpk; rintro e wz ⟨rfl, rfl⟩) | (refine hpk2.out.mono ?_; clear hpk2; rintro e wz ⟨rfl, rfl⟩))
    obtain ⟨wA, hwA⟩ : ∃ wA, wA = wz.alloc (.cells #[.int .i64 6, .int .i64 0] 73) := ⟨_, rfl⟩
    have hA : Arr wA wz.heap.size 73 [.int .i64 6, .int .i64 0] := by rw [hwA]; exact Arr.new rfl rfl
    have hbA : Below wz.heap.size wz wA := by rw [hwA]; exact (Below.refl _ _).alloc (Nat.le_refl _) _
    rw [← hwA]
    clear hwA
    have hst : Hid (∀ r, stepR p x = r → stepsR p (xs.take (i + 1)) = stepsR p (xs.take i) ++ r) := Lib.hid fun r hr => by rw [hsu.out, hr]
    have hpo : Hid (stepR p x = if m = 0 then [⟨6, 0⟩] else if p = 1 then [⟨if k % 2 = 0 then 1 else 2, 0⟩] else if p = 2 then [⟨4, ((k % 7 : Nat) : Int)⟩] else if p = 3 ∨ p = 5 then [⟨3, if k % 3 = 0 then 10 else if k % 3 = 1 then 100 else 1000⟩] else if p = 6 ∨ p = 7 then [⟨5, 0⟩] else []) := Lib.hid (by rw [← hm.out, ← hk.out]; rfl)
    replace hA := Lib.hid hA
    replace hbA := Lib.hid hbA
    clear hsu hm hk hcell xe
    by_cases hm0 : m = 0
    ·
     subst hm0
     have hr : stepR p x = [(⟨6, 0⟩ : Stp)] := by rw [hpo.out]; rw [if_pos rfl]
     obtain ⟨wB, hwB⟩ : ∃ wB, wB = wA := ⟨_, rfl⟩
     subst hwB
     have hAB := hA.out
     have hbB := hbA.out
     have hown3 := Lib.hid (own_below (own_below hown.out hbB) ((Below.refl _ _).alloc (Nat.le_refl _) (.cells #[.int .i64 6, .int .i64 0] 73)))
     have hb3 := hb.out.trans ((hbB.trans (((Below.refl _ _).alloc (Nat.le_refl _) (.cells #[.int .i64 6, .int .i64 0] 73)).mono hbB.size)).mono hb.out.size)
     have hnews : ∀ j u, [.int .i64 6, .int .i64 0][j]? = some u → (wB.alloc (.cells #[.int .i64 6, .int .i64 0] 73)).cell? ((⟨wB.heap.size, 0, none⟩ : Addr).add j) = some u := fun j u hu => cells_new wB [.int .i64 6, .int .i64 0] 73 j u hu
     have b0 := hAB.cell (j := 0) rfl
     have b1 := hAB.cell (j := 1) rfl
     have hsz := hb3.size
     go_wp2_with (at_builtin; refine wpList_append_own _ rfl _ _ 55 rfl w.heap.size 73 i0 (.agg #[.int .i64 0, .int .i64 0]) 2 16 Tryz.underlying55 hi hz0 hz1 hz2 rfl (by decide) _ _ _ rfl hown3.out ⟨wB.heap.size, 0, none⟩ 1 1 [.int .i64 6, .int .i64 0] rfl rfl hnews (by simp [Value.oneCell']) ?qa ?qb ?qc ?_)
     case qa => unfold maxLen; omega
     case qb => omega
     case qc => simpa using hsz
     intro v' wn hown4 hgrow hnil
     have hend := steps_end (s := (⟨6, 0⟩ : Stp)) hown3.out hb3 (Nat.le_refl _) hown4 hgrow
     rw [← hst.out _ hr] at hend
     replace hend := Lib.hid hend
     clear hown3 hown4 hgrow hnil hnews
     go_wp2_with fail
     exact ⟨⟨i + 1, by omega, by omega, rfl, hend⟩, by simp [intOf]; omega⟩
    ·
     have hmp : decide ((m : Int) > 0) = true := decide_eq_true (by omega)
     have hmp2 : decide (0 < (m : Int)) = true := decide_eq_true (by omega)
     have hmp3 : decide (0 < m) = true := decide_eq_true (by omega)
     rw [if_neg hm0] at hpo
     replace hm0 := Lib.hid hm0
     by_cases hp1 : p = 1
     ·
      subst hp1
      by_cases hk : k % 2 = 0
      ·
       have hk1 : (k : Int) % 2 = 0 := by omega
       have hk2 : (k : Int).tmod 2 = 0 := by rw [Int.tmod_eq_emod_of_nonneg (by omega)]; exact hk1
       have hr : stepR 1 x = [(⟨1, 0⟩ : Stp)] := by rw [hpo.out]; rw [if_pos rfl, if_pos hk]
       have hAl := Lib.hid (hA.out.alloc (.cells #[.int .i64 1, .int .i64 2] 3))
       have hbl := Lib.hid (hbA.out.alloc (Nat.le_trans (Nat.le_refl _) hbA.out.size) (.cells #[.int .i64 1, .int .i64 2] 3))
       go_upto_region 20 with (refine arr_store rfl 73 _ _ rfl wz.heap.size rfl (vs := [.int .i64 1, .int .i64 0]) rfl hAl.out (n := 2) (by kernel_rfl) rfl rfl rfl ?_)
       obtain ⟨wB, hwB⟩ : ∃ wB, wB = (wA.alloc (.cells #[.int .i64 1, .int .i64 2] 3)).setCells wz.heap.size 0 [.int .i64 1, .int .i64 0] := ⟨_, rfl⟩
       have hAB : Arr wB wz.heap.size 73 [.int .i64 1, .int .i64 0] := by rw [hwB]; exact hAl.out.setAll (vs := [.int .i64 1, .int .i64 0]) rfl
       have hbB : Below wz.heap.size wz wB := by rw [hwB]; exact Below.setCells _ _ _ _ hbl.out (Nat.le_refl _)
       rw [← hwB]
       clear hwB
       have hown3 := Lib.hid (own_below (own_below hown.out hbB) ((Below.refl _ _).alloc (Nat.le_refl _) (.cells #[.int .i64 1, .int .i64 0] 73)))
       have hb3 := hb.out.trans ((hbB.trans (((Below.refl _ _).alloc (Nat.le_refl _) (.cells #[.int .i64 1, .int .i64 0] 73)).mono hbB.size)).mono hb.out.size)
       have hnews : ∀ j u, [.int .i64 1, .int .i64 0][j]? = some u → (wB.alloc (.cells #[.int .i64 1, .int .i64 0] 73)).cell? ((⟨wB.heap.size, 0, none⟩ : Addr).add j) = some u := fun j u hu => cells_new wB [.int .i64 1, .int .i64 0] 73 j u hu
       have b0 := hAB.cell (j := 0) rfl
       have b1 := hAB.cell (j := 1) rfl
       have hsz := hb3.size
       go_wp2_with (at_builtin; refine wpList_append_own _ rfl _ _ 55 rfl w.heap.size 73 i0 (.agg #[.int .i64 0, .int .i64 0]) 2 16 Tryz.underlying55 hi hz0 hz1 hz2 rfl (by decide) _ _ _ rfl hown3.out ⟨wB.heap.size, 0, none⟩ 1 1 [.int .i64 1, .int .i64 0] rfl rfl hnews (by simp [Value.oneCell']) ?qa ?qb ?qc ?_)
       case qa => unfold maxLen; omega
       case qb => omega
       case qc => simpa using hsz
       intro v' wn hown4 hgrow hnil
       have hend := steps_end (s := (⟨1, 0⟩ : Stp)) hown3.out hb3 (Nat.le_refl _) hown4 hgrow
       rw [← hst.out _ hr] at hend
       replace hend := Lib.hid hend
       clear hown3 hown4 hgrow hnil hnews
       go_wp2_with fail
       exact ⟨⟨i + 1, by omega, by omega, rfl, hend⟩, by simp [intOf]; omega⟩
      ·
       have hk1 : (k : Int) % 2 = 1 := by omega
       have hk2 : (k : Int).tmod 2 = 1 := by rw [Int.tmod_eq_emod_of_nonneg (by omega)]; exact hk1
       have hr : stepR 1 x = [(⟨2, 0⟩ : Stp)] := by rw [hpo.out]; rw [if_pos rfl, if_neg hk]
       have hAl := Lib.hid (hA.out.alloc (.cells #[.int .i64 1, .int .i64 2] 3))
       have hbl := Lib.hid (hbA.out.alloc (Nat.le_trans (Nat.le_refl _) hbA.out.size) (.cells #[.int .i64 1, .int .i64 2] 3))
       go_upto_region 20 with (refine arr_store rfl 73 _ _ rfl wz.heap.size rfl (vs := [.int .i64 2, .int .i64 0]) rfl hAl.out (n := 2) (by kernel_rfl) rfl rfl rfl ?_)
       obtain ⟨wB, hwB⟩ : ∃ wB, wB = (wA.alloc (.cells #[.int .i64 1, .int .i64 2] 3)).setCells wz.heap.size 0 [.int .i64 2, .int .i64 0] := ⟨_, rfl⟩
       have hAB : Arr wB wz.heap.size 73 [.int .i64 2, .int .i64 0] := by rw [hwB]; exact hAl.out.setAll (vs := [.int .i64 2, .int .i64 0]) rfl
       have hbB : Below wz.heap.size wz wB := by rw [hwB]; exact Below.setCells _ _ _ _ hbl.out (Nat.le_refl _)
       rw [← hwB]
       clear hwB
       have hown3 := Lib.hid (own_below (own_below hown.out hbB) ((Below.refl _ _).alloc (Nat.le_refl _) (.cells #[.int .i64 2, .int .i64 0] 73)))
       have hb3 := hb.out.trans ((hbB.trans (((Below.refl _ _).alloc (Nat.le_refl _) (.cells #[.int .i64 2, .int .i64 0] 73)).mono hbB.size)).mono hb.out.size)
       have hnews : ∀ j u, [.int .i64 2, .int .i64 0][j]? = some u → (wB.alloc (.cells #[.int .i64 2, .int .i64 0] 73)).cell? ((⟨wB.heap.size, 0, none⟩ : Addr).add j) = some u := fun j u hu => cells_new wB [.int .i64 2, .int .i64 0] 73 j u hu
       have b0 := hAB.cell (j := 0) rfl
       have b1 := hAB.cell (j := 1) rfl
       have hsz := hb3.size
       go_wp2_with (at_builtin; refine wpList_append_own _ rfl _ _ 55 rfl w.heap.size 73 i0 (.agg #[.int .i64 0, .int .i64 0]) 2 16 Tryz.underlying55 hi hz0 hz1 hz2 rfl (by decide) _ _ _ rfl hown3.out ⟨wB.heap.size, 0, none⟩ 1 1 [.int .i64 2, .int .i64 0] rfl rfl hnews (by simp [Value.oneCell']) ?qa ?qb ?qc ?_)
       case qa => unfold maxLen; omega
       case qb => omega
       case qc => simpa using hsz
       intro v' wn hown4 hgrow hnil
       have hend := steps_end (s := (⟨2, 0⟩ : Stp)) hown3.out hb3 (Nat.le_refl _) hown4 hgrow
       rw [← hst.out _ hr] at hend
       replace hend := Lib.hid hend
       clear hown3 hown4 hgrow hnil hnews
       go_wp2_with fail
       exact ⟨⟨i + 1, by omega, by omega, rfl, hend⟩, by simp [intOf]; omega⟩
     by_cases hp2 : p = 2
     ·
      subst hp2
      have hk1 : (k : Int) % 7 = ((k % 7 : Nat) : Int) := by omega
      have hk2 : (k : Int).tmod 7 = ((k % 7 : Nat) : Int) := by rw [Int.tmod_eq_emod_of_nonneg (by omega)]; exact hk1
      generalize hk7 : k % 7 = k7 at hpo hk1 hk2
      have hr : stepR 2 x = [(⟨4, k7⟩ : Stp)] := by rw [hpo.out]; rw [if_neg (by decide), if_pos rfl]
      go_upto_region 20 with (refine arr_store rfl 73 _ _ rfl wz.heap.size rfl (vs := [.int .i64 4, .int .i64 k7]) rfl hA.out (n := 2) (by kernel_rfl) rfl rfl rfl ?_)
      obtain ⟨wB, hwB⟩ : ∃ wB, wB = wA.setCells wz.heap.size 0 [.int .i64 4, .int .i64 k7] := ⟨_, rfl⟩
      have hAB : Arr wB wz.heap.size 73 [.int .i64 4, .int .i64 k7] := by rw [hwB]; exact hA.out.setAll (vs := [.int .i64 4, .int .i64 k7]) rfl
      have hbB : Below wz.heap.size wz wB := by rw [hwB]; exact Below.setCells _ _ _ _ hbA.out (Nat.le_refl _)
      rw [← hwB]
      clear hwB
      have hown3 := Lib.hid (own_below (own_below hown.out hbB) ((Below.refl _ _).alloc (Nat.le_refl _) (.cells #[.int .i64 4, .int .i64 k7] 73)))
      have hb3 := hb.out.trans ((hbB.trans (((Below.refl _ _).alloc (Nat.le_refl _) (.cells #[.int .i64 4, .int .i64 k7] 73)).mono hbB.size)).mono hb.out.size)
      have hnews : ∀ j u, [.int .i64 4, .int .i64 k7][j]? = some u → (wB.alloc (.cells #[.int .i64 4, .int .i64 k7] 73)).cell? ((⟨wB.heap.size, 0, none⟩ : Addr).add j) = some u := fun j u hu => cells_new wB [.int .i64 4, .int .i64 k7] 73 j u hu
      have b0 := hAB.cell (j := 0) rfl
      have b1 := hAB.cell (j := 1) rfl
      have hsz := hb3.size
      go_wp2_with (at_builtin; refine wpList_append_own _ rfl _ _ 55 rfl w.heap.size 73 i0 (.agg #[.int .i64 0, .int .i64 0]) 2 16 Tryz.underlying55 hi hz0 hz1 hz2 rfl (by decide) _ _ _ rfl hown3.out ⟨wB.heap.size, 0, none⟩ 1 1 [.int .i64 4, .int .i64 k7] rfl rfl hnews (by simp [Value.oneCell']) ?qa ?qb ?qc ?_)
      case qa => unfold maxLen; omega
      case qb => omega
      case qc => simpa using hsz
      intro v' wn hown4 hgrow hnil
      have hend := steps_end (s := (⟨4, k7⟩ : Stp)) hown3.out hb3 (Nat.le_refl _) hown4 hgrow
      rw [← hst.out _ hr] at hend
      replace hend := Lib.hid hend
      clear hown3 hown4 hgrow hnil hnews
      go_wp2_with fail
      exact ⟨⟨i + 1, by omega, by omega, rfl, hend⟩, by simp [intOf]; omega⟩
     by_cases hp3 : p = 3
     ·
      subst hp3
      by_cases hk : k % 3 = 0
      ·
       have hk1 : (k : Int) % 3 = 0 := by omega
       have hk2 : (k : Int).tmod 3 = 0 := by rw [Int.tmod_eq_emod_of_nonneg (by omega)]; exact hk1
       have hr : stepR 3 x = [(⟨3, 10⟩ : Stp)] := by rw [hpo.out]; rw [if_neg (by decide), if_neg (by decide), if_pos (by decide), if_pos hk]
       have hAl := Lib.hid (hA.out.alloc (.cells #[.int .i64 10, .int .i64 100, .int .i64 1000] 3))
       have hbl := Lib.hid (hbA.out.alloc (Nat.le_trans (Nat.le_refl _) hbA.out.size) (.cells #[.int .i64 10, .int .i64 100, .int .i64 1000] 3))
       go_upto_region 20 with (refine arr_store rfl 73 _ _ rfl wz.heap.size rfl (vs := [.int .i64 3, .int .i64 10]) rfl hAl.out (n := 2) (by kernel_rfl) rfl rfl rfl ?_)
       obtain ⟨wB, hwB⟩ : ∃ wB, wB = (wA.alloc (.cells #[.int .i64 10, .int .i64 100, .int .i64 1000] 3)).setCells wz.heap.size 0 [.int .i64 3, .int .i64 10] := ⟨_, rfl⟩
       have hAB : Arr wB wz.heap.size 73 [.int .i64 3, .int .i64 10] := by rw [hwB]; exact hAl.out.setAll (vs := [.int .i64 3, .int .i64 10]) rfl
       have hbB : Below wz.heap.size wz wB := by rw [hwB]; exact Below.setCells _ _ _ _ hbl.out (Nat.le_refl _)
       rw [← hwB]
       clear hwB
       have hown3 := Lib.hid (own_below (own_below hown.out hbB) ((Below.refl _ _).alloc (Nat.le_refl _) (.cells #[.int .i64 3, .int .i64 10] 73)))
       have hb3 := hb.out.trans ((hbB.trans (((Below.refl _ _).alloc (Nat.le_refl _) (.cells #[.int .i64 3, .int .i64 10] 73)).mono hbB.size)).mono hb.out.size)
       have hnews : ∀ j u, [.int .i64 3, .int .i64 10][j]? = some u → (wB.alloc (.cells #[.int .i64 3, .int .i64 10] 73)).cell? ((⟨wB.heap.size, 0, none⟩ : Addr).add j) = some u := fun j u hu => cells_new wB [.int .i64 3, .int .i64 10] 73 j u hu
       have b0 := hAB.cell (j := 0) rfl
       have b1 := hAB.cell (j := 1) rfl
       have hsz := hb3.size
       go_wp2_with (at_builtin; refine wpList_append_own _ rfl _ _ 55 rfl w.heap.size 73 i0 (.agg #[.int .i64 0, .int .i64 0]) 2 16 Tryz.underlying55 hi hz0 hz1 hz2 rfl (by decide) _ _ _ rfl hown3.out ⟨wB.heap.size, 0, none⟩ 1 1 [.int .i64 3, .int .i64 10] rfl rfl hnews (by simp [Value.oneCell']) ?qa ?qb ?qc ?_)
       case qa => unfold maxLen; omega
       case qb => omega
       case qc => simpa using hsz
       intro v' wn hown4 hgrow hnil
       have hend := steps_end (s := (⟨3, 10⟩ : Stp)) hown3.out hb3 (Nat.le_refl _) hown4 hgrow
       rw [← hst.out _ hr] at hend
       replace hend := Lib.hid hend
       clear hown3 hown4 hgrow hnil hnews
       go_wp2_with fail
       exact ⟨⟨i + 1, by omega, by omega, rfl, hend⟩, by simp [intOf]; omega⟩
      ·
       by_cases hk' : k % 3 = 1
       ·
        have hk1 : (k : Int) % 3 = 1 := by omega
        have hk2 : (k : Int).tmod 3 = 1 := by rw [Int.tmod_eq_emod_of_nonneg (by omega)]; exact hk1
        have hr : stepR 3 x = [(⟨3, 100⟩ : Stp)] := by rw [hpo.out]; rw [if_neg (by decide), if_neg (by decide), if_pos (by decide), if_neg hk, if_pos hk']
        have hAl := Lib.hid (hA.out.alloc (.cells #[.int .i64 10, .int .i64 100, .int .i64 1000] 3))
        have hbl := Lib.hid (hbA.out.alloc (Nat.le_trans (Nat.le_refl _) hbA.out.size) (.cells #[.int .i64 10, .int .i64 100, .int .i64 1000] 3))
        go_upto_region 20 with (refine arr_store rfl 73 _ _ rfl wz.heap.size rfl (vs := [.int .i64 3, .int .i64 100]) rfl hAl.out (n := 2) (by kernel_rfl) rfl rfl rfl ?_)
        obtain ⟨wB, hwB⟩ : ∃ wB, wB = (wA.alloc (.cells #[.int .i64 10, .int .i64 100, .int .i64 1000] 3)).setCells wz.heap.size 0 [.int .i64 3, .int .i64 100] := ⟨_, rfl⟩
        have hAB : Arr wB wz.heap.size 73 [.int .i64 3, .int .i64 100] := by rw [hwB]; exact hAl.out.setAll (vs := [.int .i64 3, .int .i64 100]) rfl
        have hbB : Below wz.heap.size wz wB := by rw [hwB]; exact Below.setCells _ _ _ _ hbl.out (Nat.le_refl _)
        rw [← hwB]
        clear hwB
        have hown3 := Lib.hid (own_below (own_below hown.out hbB) ((Below.refl _ _).alloc (Nat.le_refl _) (.cells #[.int .i64 3, .int .i64 100] 73)))
        have hb3 := hb.out.trans ((hbB.trans (((Below.refl _ _).alloc (Nat.le_refl _) (.cells #[.int .i64 3, .int .i64 100] 73)).mono hbB.size)).mono hb.out.size)
        have hnews : ∀ j u, [.int .i64 3, .int .i64 100][j]? = some u → (wB.alloc (.cells #[.int .i64 3, .int .i64 100] 73)).cell? ((⟨wB.heap.size, 0, none⟩ : Addr).add j) = some u := fun j u hu => cells_new wB [.int .i64 3, .int .i64 100] 73 j u hu
        have b0 := hAB.cell (j := 0) rfl
        have b1 := hAB.cell (j := 1) rfl
        have hsz := hb3.size
        go_wp2_with (at_builtin; refine wpList_append_own _ rfl _ _ 55 rfl w.heap.size 73 i0 (.agg #[.int .i64 0, .int .i64 0]) 2 16 Tryz.underlying55 hi hz0 hz1 hz2 rfl (by decide) _ _ _ rfl hown3.out ⟨wB.heap.size, 0, none⟩ 1 1 [.int .i64 3, .int .i64 100] rfl rfl hnews (by simp [Value.oneCell']) ?qa ?qb ?qc ?_)
        case qa => unfold maxLen; omega
        case qb => omega
        case qc => simpa using hsz
        intro v' wn hown4 hgrow hnil
        have hend := steps_end (s := (⟨3, 100⟩ : Stp)) hown3.out hb3 (Nat.le_refl _) hown4 hgrow
        rw [← hst.out _ hr] at hend
        replace hend := Lib.hid hend
        clear hown3 hown4 hgrow hnil hnews
        go_wp2_with fail
        exact ⟨⟨i + 1, by omega, by omega, rfl, hend⟩, by simp [intOf]; omega⟩
       ·
        have hk1 : (k : Int) % 3 = 2 := by omega
        have hk2 : (k : Int).tmod 3 = 2 := by rw [Int.tmod_eq_emod_of_nonneg (by omega)]; exact hk1
        have hr : stepR 3 x = [(⟨3, 1000⟩ : Stp)] := by rw [hpo.out]; rw [if_neg (by decide), if_neg (by decide), if_pos (by decide), if_neg hk, if_neg hk']
        have hAl := Lib.hid (hA.out.alloc (.cells #[.int .i64 10, .int .i64 100, .int .i64 1000] 3))
        have hbl := Lib.hid (hbA.out.alloc (Nat.le_trans (Nat.le_refl _) hbA.out.size) (.cells #[.int .i64 10, .int .i64 100, .int .i64 1000] 3))
        go_upto_region 20 with (refine arr_store rfl 73 _ _ rfl wz.heap.size rfl (vs := [.int .i64 3, .int .i64 1000]) rfl hAl.out (n := 2) (by kernel_rfl) rfl rfl rfl ?_)
        obtain ⟨wB, hwB⟩ : ∃ wB, wB = (wA.alloc (.cells #[.int .i64 10, .int .i64 100, .int .i64 1000] 3)).setCells wz.heap.size 0 [.int .i64 3, .int .i64 1000] := ⟨_, rfl⟩
        have hAB : Arr wB wz.heap.size 73 [.int .i64 3, .int .i64 1000] := by rw [hwB]; exact hAl.out.setAll (vs := [.int .i64 3, .int .i64 1000]) rfl
        have hbB : Below wz.heap.size wz wB := by rw [hwB]; exact Below.setCells _ _ _ _ hbl.out (Nat.le_refl _)
        rw [← hwB]
        clear hwB
        have hown3 := Lib.hid (own_below (own_below hown.out hbB) ((Below.refl _ _).alloc (Nat.le_refl _) (.cells #[.int .i64 3, .int .i64 1000] 73)))
        have hb3 := hb.out.trans ((hbB.trans (((Below.refl _ _).alloc (Nat.le_refl _) (.cells #[.int .i64 3, .int .i64 1000] 73)).mono hbB.size)).mono hb.out.size)
        have hnews : ∀ j u, [.int .i64 3, .int .i64 1000][j]? = some u → (wB.alloc (.cells #[.int .i64 3, .int .i64 1000] 73)).cell? ((⟨wB.heap.size, 0, none⟩ : Addr).add j) = some u := fun j u hu => cells_new wB [.int .i64 3, .int .i64 1000] 73 j u hu
        have b0 := hAB.cell (j := 0) rfl
        have b1 := hAB.cell (j := 1) rfl
        have hsz := hb3.size
        go_wp2_with (at_builtin; refine wpList_append_own _ rfl _ _ 55 rfl w.heap.size 73 i0 (.agg #[.int .i64 0, .int .i64 0]) 2 16 Tryz.underlying55 hi hz0 hz1 hz2 rfl (by decide) _ _ _ rfl hown3.out ⟨wB.heap.size, 0, none⟩ 1 1 [.int .i64 3, .int .i64 1000] rfl rfl hnews (by simp [Value.oneCell']) ?qa ?qb ?qc ?_)
        case qa => unfold maxLen; omega
        case qb => omega
        case qc => simpa using hsz
        intro v' wn hown4 hgrow hnil
        have hend := steps_end (s := (⟨3, 1000⟩ : Stp)) hown3.out hb3 (Nat.le_refl _) hown4 hgrow
        rw [← hst.out _ hr] at hend
        replace hend := Lib.hid hend
        clear hown3 hown4 hgrow hnil hnews
        go_wp2_with fail
        exact ⟨⟨i + 1, by omega, by omega, rfl, hend⟩, by simp [intOf]; omega⟩
     by_cases hp5 : p = 5
     ·
      subst hp5
      by_cases hk : k % 3 = 0
      ·
       have hk1 : (k : Int) % 3 = 0 := by omega
       have hk2 : (k : Int).tmod 3 = 0 := by rw [Int.tmod_eq_emod_of_nonneg (by omega)]; exact hk1
       have hr : stepR 5 x = [(⟨3, 10⟩ : Stp)] := by rw [hpo.out]; rw [if_neg (by decide), if_neg (by decide), if_pos (by decide), if_pos hk]
       have hAl := Lib.hid (hA.out.alloc (.cells #[.int .i64 10, .int .i64 100, .int .i64 1000] 3))
       have hbl := Lib.hid (hbA.out.alloc (Nat.le_trans (Nat.le_refl _) hbA.out.size) (.cells #[.int .i64 10, .int .i64 100, .int .i64 1000] 3))
       go_upto_region 20 with (refine arr_store rfl 73 _ _ rfl wz.heap.size rfl (vs := [.int .i64 3, .int .i64 10]) rfl hAl.out (n := 2) (by kernel_rfl) rfl rfl rfl ?_)
       obtain ⟨wB, hwB⟩ : ∃ wB, wB = (wA.alloc (.cells #[.int .i64 10, .int .i64 100, .int .i64 1000] 3)).setCells wz.heap.size 0 [.int .i64 3, .int .i64 10] := ⟨_, rfl⟩
       have hAB : Arr wB wz.heap.size 73 [.int .i64 3, .int .i64 10] := by rw [hwB]; exact hAl.out.setAll (vs := [.int .i64 3, .int .i64 10]) rfl
       have hbB : Below wz.heap.size wz wB := by rw [hwB]; exact Below.setCells _ _ _ _ hbl.out (Nat.le_refl _)
       rw [← hwB]
       clear hwB
       have hown3 := Lib.hid (own_below (own_below hown.out hbB) ((Below.refl _ _).alloc (Nat.le_refl _) (.cells #[.int .i64 3, .int .i64 10] 73)))
       have hb3 := hb.out.trans ((hbB.trans (((Below.refl _ _).alloc (Nat.le_refl _) (.cells #[.int .i64 3, .int .i64 10] 73)).mono hbB.size)).mono hb.out.size)
       have hnews : ∀ j u, [.int .i64 3, .int .i64 10][j]? = some u → (wB.alloc (.cells #[.int .i64 3, .int .i64 10] 73)).cell? ((⟨wB.heap.size, 0, none⟩ : Addr).add j) = some u := fun j u hu => cells_new wB [.int .i64 3, .int .i64 10] 73 j u hu
       have b0 := hAB.cell (j := 0) rfl
       have b1 := hAB.cell (j := 1) rfl
       have hsz := hb3.size
       go_wp2_with (at_builtin; refine wpList_append_own _ rfl _ _ 55 rfl w.heap.size 73 i0 (.agg #[.int .i64 0, .int .i64 0]) 2 16 Tryz.underlying55 hi hz0 hz1 hz2 rfl (by decide) _ _ _ rfl hown3.out ⟨wB.heap.size, 0, none⟩ 1 1 [.int .i64 3, .int .i64 10] rfl rfl hnews (by simp [Value.oneCell']) ?qa ?qb ?qc ?_)
       case qa => unfold maxLen; omega
       case qb => omega
       case qc => simpa using hsz
       intro v' wn hown4 hgrow hnil
       have hend := steps_end (s := (⟨3, 10⟩ : Stp)) hown3.out hb3 (Nat.le_refl _) hown4 hgrow
       rw [← hst.out _ hr] at hend
       replace hend := Lib.hid hend
       clear hown3 hown4 hgrow hnil hnews
       go_wp2_with fail
       exact ⟨⟨i + 1, by omega, by omega, rfl, hend⟩, by simp [intOf]; omega⟩
      ·
       by_cases hk' : k % 3 = 1
       ·
        have hk1 : (k : Int) % 3 = 1 := by omega
        have hk2 : (k : Int).tmod 3 = 1 := by rw [Int.tmod_eq_emod_of_nonneg (by omega)]; exact hk1
        have hr : stepR 5 x = [(⟨3, 100⟩ : Stp)] := by rw [hpo.out]; rw [if_neg (by decide), if_neg (by decide), if_pos (by decide), if_neg hk, if_pos hk']
        have hAl := Lib.hid (hA.out.alloc (.cells #[.int .i64 10, .int .i64 100, .int .i64 1000] 3))
        have hbl := Lib.hid (hbA.out.alloc (Nat.le_trans (Nat.le_refl _) hbA.out.size) (.cells #[.int .i64 10, .int .i64 100, .int .i64 1000] 3))
        go_upto_region 20 with (refine arr_store rfl 73 _ _ rfl wz.heap.size rfl (vs := [.int .i64 3, .int .i64 100]) rfl hAl.out (n := 2) (by kernel_rfl) rfl rfl rfl ?_)
        obtain ⟨wB, hwB⟩ : ∃ wB, wB = (wA.alloc (.cells #[.int .i64 10, .int .i64 100, .int .i64 1000] 3)).setCells wz.heap.size 0 [.int .i64 3, .int .i64 100] := ⟨_, rfl⟩
        have hAB : Arr wB wz.heap.size 73 [.int .i64 3, .int .i64 100] := by rw [hwB]; exact hAl.out.setAll (vs := [.int .i64 3, .int .i64 100]) rfl
        have hbB : Below wz.heap.size wz wB := by rw [hwB]; exact Below.setCells _ _ _ _ hbl.out (Nat.le_refl _)
        rw [← hwB]
        clear hwB
        have hown3 := Lib.hid (own_below (own_below hown.out hbB) ((Below.refl _ _).alloc (Nat.le_refl _) (.cells #[.int .i64 3, .int .i64 100] 73)))
        have hb3 := hb.out.trans ((hbB.trans (((Below.refl _ _).alloc (Nat.le_refl _) (.cells #[.int .i64 3, .int .i64 100] 73)).mono hbB.size)).mono hb.out.size)
        have hnews : ∀ j u, [.int .i64 3, .int .i64 100][j]? = some u → (wB.alloc (.cells #[.int .i64 3, .int .i64 100] 73)).cell? ((⟨wB.heap.size, 0, none⟩ : Addr).add j) = some u := fun j u hu => cells_new wB [.int .i64 3, .int .i64 100] 73 j u hu
        have b0 := hAB.cell (j := 0) rfl
        have b1 := hAB.cell (j := 1) rfl
        have hsz := hb3.size
        go_wp2_with (at_builtin; refine wpList_append_own _ rfl _ _ 55 rfl w.heap.size 73 i0 (.agg #[.int .i64 0, .int .i64 0]) 2 16 Tryz.underlying55 hi hz0 hz1 hz2 rfl (by decide) _ _ _ rfl hown3.out ⟨wB.heap.size, 0, none⟩ 1 1 [.int .i64 3, .int .i64 100] rfl rfl hnews (by simp [Value.oneCell']) ?qa ?qb ?qc ?_)
        case qa => unfold maxLen; omega
        case qb => omega
        case qc => simpa using hsz
        intro v' wn hown4 hgrow hnil
        have hend := steps_end (s := (⟨3, 100⟩ : Stp)) hown3.out hb3 (Nat.le_refl _) hown4 hgrow
        rw [← hst.out _ hr] at hend
        replace hend := Lib.hid hend
        clear hown3 hown4 hgrow hnil hnews
        go_wp2_with fail
        exact ⟨⟨i + 1, by omega, by omega, rfl, hend⟩, by simp [intOf]; omega⟩
       ·
        have hk1 : (k : Int) % 3 = 2 := by omega
        have hk2 : (k : Int).tmod 3 = 2 := by rw [Int.tmod_eq_emod_of_nonneg (by omega)]; exact hk1
        have hr : stepR 5 x = [(⟨3, 1000⟩ : Stp)] := by rw [hpo.out]; rw [if_neg (by decide), if_neg (by decide), if_pos (by decide), if_neg hk, if_neg hk']
        have hAl := Lib.hid (hA.out.alloc (.cells #[.int .i64 10, .int .i64 100, .int .i64 1000] 3))
        have hbl := Lib.hid (hbA.out.alloc (Nat.le_trans (Nat.le_refl _) hbA.out.size) (.cells #[.int .i64 10, .int .i64 100, .int .i64 1000] 3))
        go_upto_region 20 with (refine arr_store rfl 73 _ _ rfl wz.heap.size rfl (vs := [.int .i64 3, .int .i64 1000]) rfl hAl.out (n := 2) (by kernel_rfl) rfl rfl rfl ?_)
        obtain ⟨wB, hwB⟩ : ∃ wB, wB = (wA.alloc (.cells #[.int .i64 10, .int .i64 100, .int .i64 1000] 3)).setCells wz.heap.size 0 [.int .i64 3, .int .i64 1000] := ⟨_, rfl⟩
        have hAB : Arr wB wz.heap.size 73 [.int .i64 3, .int .i64 1000] := by rw [hwB]; exact hAl.out.setAll (vs := [.int .i64 3, .int .i64 1000]) rfl
        have hbB : Below wz.heap.size wz wB := by rw [hwB]; exact Below.setCells _ _ _ _ hbl.out (Nat.le_refl _)
        rw [← hwB]
        clear hwB
        have hown3 := Lib.hid (own_below (own_below hown.out hbB) ((Below.refl _ _).alloc (Nat.le_refl _) (.cells #[.int .i64 3, .int .i64 1000] 73)))
        have hb3 := hb.out.trans ((hbB.trans (((Below.refl _ _).alloc (Nat.le_refl _) (.cells #[.int .i64 3, .int .i64 1000] 73)).mono hbB.size)).mono hb.out.size)
        have hnews : ∀ j u, [.int .i64 3, .int .i64 1000][j]? = some u → (wB.alloc (.cells #[.int .i64 3, .int .i64 1000] 73)).cell? ((⟨wB.heap.size, 0, none⟩ : Addr).add j) = some u := fun j u hu => cells_new wB [.int .i64 3, .int .i64 1000] 73 j u hu
        have b0 := hAB.cell (j := 0) rfl
        have b1 := hAB.cell (j := 1) rfl
        have hsz := hb3.size
        go_wp2_with (at_builtin; refine wpList_append_own _ rfl _ _ 55 rfl w.heap.size 73 i0 (.agg #[.int .i64 0, .int .i64 0]) 2 16 Tryz.underlying55 hi hz0 hz1 hz2 rfl (by decide) _ _ _ rfl hown3.out ⟨wB.heap.size, 0, none⟩ 1 1 [.int .i64 3, .int .i64 1000] rfl rfl hnews (by simp [Value.oneCell']) ?qa ?qb ?qc ?_)
        case qa => unfold maxLen; omega
        case qb => omega
        case qc => simpa using hsz
        intro v' wn hown4 hgrow hnil
        have hend := steps_end (s := (⟨3, 1000⟩ : Stp)) hown3.out hb3 (Nat.le_refl _) hown4 hgrow
        rw [← hst.out _ hr] at hend
        replace hend := Lib.hid hend
        clear hown3 hown4 hgrow hnil hnews
        go_wp2_with fail
        exact ⟨⟨i + 1, by omega, by omega, rfl, hend⟩, by simp [intOf]; omega⟩
     by_cases hp6 : p = 6
     ·
      subst hp6
      have hr : stepR 6 x = [(⟨5, 0⟩ : Stp)] := by rw [hpo.out]; rw [if_neg (by decide), if_neg (by decide), if_neg (by decide), if_pos (by decide)]
      go_upto_region 20 with (refine arr_store rfl 73 _ _ rfl wz.heap.size rfl (vs := [.int .i64 5, .int .i64 0]) rfl hA.out (n := 2) (by kernel_rfl) rfl rfl rfl ?_)
      obtain ⟨wB, hwB⟩ : ∃ wB, wB = wA.setCells wz.heap.size 0 [.int .i64 5, .int .i64 0] := ⟨_, rfl⟩
      have hAB : Arr wB wz.heap.size 73 [.int .i64 5, .int .i64 0] := by rw [hwB]; exact hA.out.setAll (vs := [.int .i64 5, .int .i64 0]) rfl
      have hbB : Below wz.heap.size wz wB := by rw [hwB]; exact Below.setCells _ _ _ _ hbA.out (Nat.le_refl _)
      rw [← hwB]
      clear hwB
      have hown3 := Lib.hid (own_below (own_below hown.out hbB) ((Below.refl _ _).alloc (Nat.le_refl _) (.cells #[.int .i64 5, .int .i64 0] 73)))
      have hb3 := hb.out.trans ((hbB.trans (((Below.refl _ _).alloc (Nat.le_refl _) (.cells #[.int .i64 5, .int .i64 0] 73)).mono hbB.size)).mono hb.out.size)
      have hnews : ∀ j u, [.int .i64 5, .int .i64 0][j]? = some u → (wB.alloc (.cells #[.int .i64 5, .int .i64 0] 73)).cell? ((⟨wB.heap.size, 0, none⟩ : Addr).add j) = some u := fun j u hu => cells_new wB [.int .i64 5, .int .i64 0] 73 j u hu
      have b0 := hAB.cell (j := 0) rfl
      have b1 := hAB.cell (j := 1) rfl
      have hsz := hb3.size
      go_wp2_with (at_builtin; refine wpList_append_own _ rfl _ _ 55 rfl w.heap.size 73 i0 (.agg #[.int .i64 0, .int .i64 0]) 2 16 Tryz.underlying55 hi hz0 hz1 hz2 rfl (by decide) _ _ _ rfl hown3.out ⟨wB.heap.size, 0, none⟩ 1 1 [.int .i64 5, .int .i64 0] rfl rfl hnews (by simp [Value.oneCell']) ?qa ?qb ?qc ?_)
      case qa => unfold maxLen; omega
      case qb => omega
      case qc => simpa using hsz
      intro v' wn hown4 hgrow hnil
      have hend := steps_end (s := (⟨5, 0⟩ : Stp)) hown3.out hb3 (Nat.le_refl _) hown4 hgrow
      rw [← hst.out _ hr] at hend
      replace hend := Lib.hid hend
      clear hown3 hown4 hgrow hnil hnews
      go_wp2_with fail
      exact ⟨⟨i + 1, by omega, by omega, rfl, hend⟩, by simp [intOf]; omega⟩
     by_cases hp7 : p = 7
     ·
      subst hp7
      have hr : stepR 7 x = [(⟨5, 0⟩ : Stp)] := by rw [hpo.out]; rw [if_neg (by decide), if_neg (by decide), if_neg (by decide), if_pos (by decide)]
      go_upto_region 20 with (refine arr_store rfl 73 _ _ rfl wz.heap.size rfl (vs := [.int .i64 5, .int .i64 0]) rfl hA.out (n := 2) (by kernel_rfl) rfl rfl rfl ?_)
      obtain ⟨wB, hwB⟩ : ∃ wB, wB = wA.setCells wz.heap.size 0 [.int .i64 5, .int .i64 0] := ⟨_, rfl⟩
      have hAB : Arr wB wz.heap.size 73 [.int .i64 5, .int .i64 0] := by rw [hwB]; exact hA.out.setAll (vs := [.int .i64 5, .int .i64 0]) rfl
      have hbB : Below wz.heap.size wz wB := by rw [hwB]; exact Below.setCells _ _ _ _ hbA.out (Nat.le_refl _)
      rw [← hwB]
      clear hwB
      have hown3 := Lib.hid (own_below (own_below hown.out hbB) ((Below.refl _ _).alloc (Nat.le_refl _) (.cells #[.int .i64 5, .int .i64 0] 73)))
      have hb3 := hb.out.trans ((hbB.trans (((Below.refl _ _).alloc (Nat.le_refl _) (.cells #[.int .i64 5, .int .i64 0] 73)).mono hbB.size)).mono hb.out.size)
      have hnews : ∀ j u, [.int .i64 5, .int .i64 0][j]? = some u → (wB.alloc (.cells #[.int .i64 5, .int .i64 0] 73)).cell? ((⟨wB.heap.size, 0, none⟩ : Addr).add j) = some u := fun j u hu => cells_new wB [.int .i64 5, .int .i64 0] 73 j u hu
      have b0 := hAB.cell (j := 0) rfl
      have b1 := hAB.cell (j := 1) rfl
      have hsz := hb3.size
      go_wp2_with (at_builtin; refine wpList_append_own _ rfl _ _ 55 rfl w.heap.size 73 i0 (.agg #[.int .i64 0, .int .i64 0]) 2 16 Tryz.underlying55 hi hz0 hz1 hz2 rfl (by decide) _ _ _ rfl hown3.out ⟨wB.heap.size, 0, none⟩ 1 1 [.int .i64 5, .int .i64 0] rfl rfl hnews (by simp [Value.oneCell']) ?qa ?qb ?qc ?_)
      case qa => unfold maxLen; omega
      case qb => omega
      case qc => simpa using hsz
      intro v' wn hown4 hgrow hnil
      have hend := steps_end (s := (⟨5, 0⟩ : Stp)) hown3.out hb3 (Nat.le_refl _) hown4 hgrow
      rw [← hst.out _ hr] at hend
      replace hend := Lib.hid hend
      clear hown3 hown4 hgrow hnil hnews
      go_wp2_with fail
      exact ⟨⟨i + 1, by omega, by omega, rfl, hend⟩, by simp [intOf]; omega⟩
     have q1 : (p == 1) = false := beq_false_of_ne hp1
     have d1 : decide (p = 1) = false := decide_eq_false hp1
     have q2 : (p == 2) = false := beq_false_of_ne hp2
     have d2 : decide (p = 2) = false := decide_eq_false hp2
     have q3 : (p == 3) = false := beq_false_of_ne hp3
     have d3 : decide (p = 3) = false := decide_eq_false hp3
     have q5 : (p == 5) = false := beq_false_of_ne hp5
     have d5 : decide (p = 5) = false := decide_eq_false hp5
     have q6 : (p == 6) = false := beq_false_of_ne hp6
     have d6 : decide (p = 6) = false := decide_eq_false hp6
     have q7 : (p == 7) = false := beq_false_of_ne hp7
     have d7 : decide (p = 7) = false := decide_eq_false hp7
     have hr : stepR p x = [] := by rw [hpo.out, if_neg hp1, if_neg hp2, if_neg (by omega), if_neg (by omega)]
     have hend := Lib.hid (And.intro (own_below hown.out hbA.out) (hb.out.trans (hbA.out.mono hb.out.size)))
     have hte := hst.out _ hr
     rw [List.append_nil] at hte
     rw [← hte] at hend
     clear hst hpo hte hr hp1 hp2 hp3 hp5 hp6 hp7
     go_wp2_with fail
     exact ⟨⟨i + 1, by omega, by omega, rfl, hend⟩, by simp [intOf]; omega⟩
   ·
    have hno8 : decide ((i : Int) < 8) = false := decide_eq_false (by omega)
    obtain ⟨hown, hb⟩ := hall.out
    have e : stepsR p xs = stepsR p (xs.take i) := by
     obtain rfl : i = 8 := by omega
     unfold stepsR
     rw [List.take_take]
     rfl
    rw [← e] at hown
    replace hown := Lib.hid hown
    replace hb := Lib.hid hb
    clear hall
    go_wp2_with fail
    go_ret
    exact ⟨_, rfl, hown.out, hb.out⟩
  ·
   have hno : decide ((i : Int) < (xs.length : Int)) = false := decide_eq_false (by omega)
   obtain ⟨hown, hb⟩ := hall.out
   have e : stepsR p xs = stepsR p (xs.take i) := by rw [List.take_of_length_le (by omega)]
   rw [← e] at hown
   replace hown := Lib.hid hown
   replace hb := Lib.hid hb
   clear hall
   go_wp2_with fail
   go_ret
   exact ⟨_, rfl, hown.out, hb.out⟩
end Go.Proofs.YtpeandbcdaikbaaGreatDoor
