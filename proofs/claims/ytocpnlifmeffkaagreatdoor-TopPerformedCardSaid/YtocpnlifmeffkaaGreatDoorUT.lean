/-
  Package abstraction: steps; small contracts, the table of kinds.
  Package abstraction: Valid$1.
  Package abstraction: Valid.
-/
import Derived.Test.YtocpnlifmeffkaaGreatDoorUS
import Derived.Deep.MidRow
import Derived.Test.YtocpnlifmeffkaaGreatDoorShelfC
import Derived.Deep.QuietTactic
import Derived.BigQuiet
namespace Go.Proofs.YtocpnlifmeffkaaGreatDoor.Rb
open Go.RowKit Go.Shelf

attribute [local go_sem] Oper.semAt_some

structure Stp where
  kind : Int
  n : Int
deriving DecidableEq, Inhabited
def fitsA (p : Int) (s : Stp) : Bool :=
  if s.kind = 1 ∨ s.kind = 2 then p == 1 && s.n == 0
  else if s.kind = 3 then (p == 3 || p == 5) && (s.n == 10 || s.n == 100 || s.n == 1000)
  else if s.kind = 4 then p == 2 && decide (0 ≤ s.n ∧ s.n ≤ 6)
  else if s.kind = 5 then (p == 6 || p == 7) && s.n == 0
  else if s.kind = 6 then decide (1 ≤ p ∧ p ≤ 8) && s.n == 0
  else false
def validA (p : Int) (l : List Stp) : Bool := decide (1 ≤ p ∧ p ≤ 8) && decide (l.length ≤ 64) && l.all (fitsA p)
def stC (s : Stp) : List Value := [.int .i64 s.kind, .int .i64 s.n]
def stL (l : List Stp) : List Value := l.flatMap stC
theorem stL_len (l : List Stp) : (stL l).length = l.length * 2 := by
  induction l with
  | nil => rfl
  | cons x l ih => simp [stL, stC] at ih ⊢; omega
theorem stL_snoc (l : List Stp) (x : Stp) : stL (l ++ [x]) = stL l ++ stC x := by simp [stL]
theorem stL_app (l m : List Stp) : stL (l ++ m) = stL l ++ stL m := by simp [stL]
theorem stL_at : ∀ (l : List Stp) (i j : Nat), i < l.length → j < 2 → (stL l)[i * 2 + j]? = (stC l[i]!)[j]?
  | [], i, _, h, _ => by simp at h
  | x :: l, 0, j, _, hj => by
    simp only [stL, List.flatMap_cons, Nat.zero_mul, Nat.zero_add, List.getElem!_cons_zero]
    rw [List.getElem?_append_left (by simp [stC]; omega)]
  | x :: l, i + 1, j, h, hj => by
    have ih := stL_at l i j (by simpa using h) hj
    rw [List.getElem!_cons_succ, ← ih]
    simp only [stL, List.flatMap_cons]
    rw [List.getElem?_append_right (by simp [stC]; omega)]
    congr 1
    simp [stC]; omega
theorem stL_one (l : List Stp) : ∀ u ∈ stL l, u.oneCell' = true := by
  intro u hu
  obtain ⟨s, _, hu⟩ := List.mem_flatMap.1 hu
  simp only [stC, List.mem_cons, List.not_mem_nil, or_false] at hu
  rcases hu with rfl | rfl <;> rfl
def StepsAt (w : World) (B : Nat) (v : Value) (l : List Stp) : Prop := SliceAt w B v l.length (stL l)
theorem StepsAt.cells {w : World} {B : Nat} {v : Value} {l : List Stp} (h : StepsAt w B v l) {i : Nat} (hi : i < l.length) : ∃ b o cap, v = .slice (some ⟨b, o, none⟩) l.length cap ∧ b < B ∧ w.cell? ⟨b, o + i * 2, none⟩ = some (.int .i64 l[i]!.kind) ∧ w.cell? ⟨b, o + i * 2 + 1, none⟩ = some (.int .i64 l[i]!.n) := by
  obtain ⟨a, cap, rfl, _, _, hc⟩ := h
  obtain ⟨b, o, rfl, hb, hx⟩ := hc (by omega)
  exact ⟨b, o, cap, rfl, hb, hx (i * 2) _ ((stL_at l i 0 hi (by omega)).trans rfl), hx (i * 2 + 1) _ ((stL_at l i 1 hi (by omega)).trans rfl)⟩
theorem StepsAt.later {w w' : World} {v : Value} {l : List Stp} (h : StepsAt w w.heap.size v l) (hb : Below w.heap.size w w') : StepsAt w' w'.heap.size v l := SliceAt.later h hb
theorem name_k {α : Type} {K : α → World → Prop} {a : α} {W : World} (h : ∀ w', w' = W → K a w') : K a W := h W rfl
def withinZ (a b c : Int) : Bool := decide (b ≤ a) && decide (a ≤ c)
theorem within_any (a b c : Int) (w : World) :
    Calls Tryz.prog 100 #[.int .i64 a, .int .i64 b, .int .i64 c] w fun e w' => e = .returned (.bool (withinZ a b c)) ∧ w' = w := by
  have hv : Hid (withinZ a b c = (decide (b ≤ a) && decide (a ≤ c))) := rfl
  by_cases h : b ≤ a
  · have hd : decide (b ≤ a) = true := by simpa using h
    go_enter Tryz.func100, Tryz.ntmps100
    go_wp2
    go_ret
    exact ⟨by rw [hv.out, hd]; rfl, rfl⟩
  · have hd : decide (b ≤ a) = false := by simpa using h
    go_enter Tryz.func100, Tryz.ntmps100
    go_wp2
    go_ret
    exact ⟨by rw [hv.out, hd]; rfl, rfl⟩
theorem none_any (n : Int) (w : World) :
    Calls Tryz.prog 108 #[.int .i64 n] w fun e w' => e = .returned (.bool (n == 0)) ∧ w' = w := by
  go_enter Tryz.func108, Tryz.ntmps108
  go_wp2
  go_ret
  exact ⟨rfl, rfl⟩
theorem kinds1_any (n : Int) (w : World) :
    Calls Tryz.prog 112 #[.int .i64 n] w fun e w' => e = .returned (.bool (n == 10 || n == 100 || n == 1000)) ∧ w' = w := by
  cases h1 : n == 10 with
  | true =>
    go_enter Tryz.func112, Tryz.ntmps112
    go_wp2
    go_ret
    exact ⟨rfl, rfl⟩
  | false =>
    cases h2 : n == 100 with
    | true =>
      go_enter Tryz.func112, Tryz.ntmps112
      go_wp2
      go_ret
      exact ⟨rfl, rfl⟩
    | false =>
      go_enter Tryz.func112, Tryz.ntmps112
      go_wp2
      go_ret
      exact ⟨rfl, rfl⟩
theorem kinds2_any (n : Int) (w : World) :
    Calls Tryz.prog 114 #[.int .i64 n] w fun e w' => e = .returned (.bool (withinZ n 0 6)) ∧ w' = w := by
  have hc := fun W => Lib.hid (within_any n 0 6 W)
  generalize withinZ n 0 6 = r at *
  go_enter Tryz.func114, Tryz.ntmps114
  go_wp2_with fail
  refine (hc _).out.mono ?_
  rintro e w1 ⟨rfl, rfl⟩
  go_wp2_with fail
  go_ret
  exact ⟨rfl, rfl⟩
def fnV (k : Nat) : Value := .func (.func k) #[] #[]
def eachV (b : Nat) : Value := .func (.func 178) #[] #[.pointer (some ⟨b, 0, none⟩)]
theorem each_any (k : Nat) (w : World) :
    Calls Tryz.prog 109 #[.func (.func k) #[] #[]] w fun e w' => e = .returned (eachV w.heap.size) ∧ w' = w.alloc (.cells #[.func (.func k) #[] #[]] 184) := by
  have hmf : ∀ (fn : Fn) (first cap : Array Value) (w : World), (Instr.makeFunc fn first cap).run Tryz.prog w = .ok (.func fn first cap) w := fun _ _ _ _ => rfl
  go_enter Tryz.func109, Tryz.ntmps109
  go_wp2
  go_ret
  exact ⟨rfl, rfl⟩
def propsOf : Nat → List Int
  | 1 => [1] | 2 => [1] | 3 => [3, 5] | 4 => [2] | 5 => [6, 7] | 6 => [1, 2, 3, 4, 5, 6, 7, 8] | _ => []
def numV : Nat → Value
  | 3 => fnV 112 | 4 => fnV 114 | _ => fnV 108
def rowV (b n : Nat) : Value := .slice (some ⟨b, 0, none⟩) n n
/-- The table's cells: the slices of properties lie in the blocks H + 1, .. -/
def kindsL (H : Nat) : List Value :=
  [.slice none 0 0, .nilFunc, .nilFunc,
   rowV (H + 1) 1, numV 1, eachV (H + 1 + 1),
   rowV (H + 1 + 1 + 1) 1, numV 2, eachV (H + 1 + 1 + 1 + 1),
   rowV (H + 1 + 1 + 1 + 1 + 1) 2, numV 3, eachV (H + 1 + 1 + 1 + 1 + 1 + 1),
   rowV (H + 1 + 1 + 1 + 1 + 1 + 1 + 1) 1, numV 4, eachV (H + 1 + 1 + 1 + 1 + 1 + 1 + 1 + 1),
   rowV (H + 1 + 1 + 1 + 1 + 1 + 1 + 1 + 1 + 1) 2, numV 5, fnV 116,
   rowV (H + 1 + 1 + 1 + 1 + 1 + 1 + 1 + 1 + 1 + 1) 8, numV 6, fnV 117]
def propB (H : Nat) : Nat → Nat
  | 1 => H + 1 | 2 => H + 1 + 1 + 1 | 3 => H + 1 + 1 + 1 + 1 + 1 | 4 => H + 1 + 1 + 1 + 1 + 1 + 1 + 1 | 5 => H + 1 + 1 + 1 + 1 + 1 + 1 + 1 + 1 + 1 | _ => H + 1 + 1 + 1 + 1 + 1 + 1 + 1 + 1 + 1 + 1
def zero21 : List Value := [.slice none 0 0, .nilFunc, .nilFunc, .slice none 0 0, .nilFunc, .nilFunc, .slice none 0 0, .nilFunc, .nilFunc, .slice none 0 0, .nilFunc, .nilFunc, .slice none 0 0, .nilFunc, .nilFunc, .slice none 0 0, .nilFunc, .nilFunc, .slice none 0 0, .nilFunc, .nilFunc]
set_option maxRecDepth 100000 in
set_option maxHeartbeats 4000000 in
theorem kinds_all (w : World) :
    Calls Tryz.prog 54 #[] w fun e w' => e = .returned (.agg (kindsL w.heap.size).toArray) ∧ (∀ k, 1 ≤ k → k ≤ 6 → Arr w' (propB w.heap.size k) 3 ((propsOf k).map (Value.int .i64))) ∧ Below w.heap.size w w' ∧ Arr w' (w.heap.size + 1 + 1) 184 [.func (.func 110) #[] #[]] ∧ Arr w' (w.heap.size + 1 + 1 + 1 + 1) 184 [.func (.func 111) #[] #[]] ∧ Arr w' (w.heap.size + 1 + 1 + 1 + 1 + 1 + 1) 184 [.func (.func 113) #[] #[]] ∧ Arr w' (w.heap.size + 1 + 1 + 1 + 1 + 1 + 1 + 1 + 1) 184 [.func (.func 115) #[] #[]] := by
  have he := fun k W => Lib.hid (each_any k W)
  unfold eachV at he
  go_enter Tryz.func54, Tryz.ntmps54
  go_wp2_with fail
  refine (he _ _).out.mono ?_
  rintro e w1 ⟨rfl, rfl⟩
  go_wp2_with fail
  refine (he _ _).out.mono ?_
  rintro e w1 ⟨rfl, rfl⟩
  go_wp2_with fail
  refine (he _ _).out.mono ?_
  rintro e w1 ⟨rfl, rfl⟩
  go_wp2_with fail
  refine (he _ _).out.mono ?_
  rintro e w1 ⟨rfl, rfl⟩
  simp only [World.size_alloc]
  refine name_k fun W hW => ?_
  have hA : Arr W w.heap.size 135 zero21 := by rw [hW]; repeat (first | exact Arr.new rfl rfl | refine Arr.alloc ?_ _)
  have k1 : Arr W (w.heap.size + 1) 3 [.int .i64 1] := by rw [hW]; exact (((((((Arr.new rfl (by simp)).alloc _).alloc _).alloc _).alloc _).alloc _).alloc _).alloc _
  have k3 : Arr W (w.heap.size + 1 + 1 + 1) 3 [.int .i64 1] := by rw [hW]; exact (((((Arr.new rfl (by simp)).alloc _).alloc _).alloc _).alloc _).alloc _
  have k5 : Arr W (w.heap.size + 1 + 1 + 1 + 1 + 1) 3 [.int .i64 3, .int .i64 5] := by rw [hW]; exact (((Arr.new rfl (by simp)).alloc _).alloc _).alloc _
  have k7 : Arr W (w.heap.size + 1 + 1 + 1 + 1 + 1 + 1 + 1) 3 [.int .i64 2] := by rw [hW]; exact (Arr.new rfl (by simp)).alloc _
  have e2 : Arr W (w.heap.size + 1 + 1) 184 [.func (.func 110) #[] #[]] := by rw [hW]; exact ((((((Arr.new rfl (by simp)).alloc _).alloc _).alloc _).alloc _).alloc _).alloc _
  have e4 : Arr W (w.heap.size + 1 + 1 + 1 + 1) 184 [.func (.func 111) #[] #[]] := by rw [hW]; exact ((((Arr.new rfl (by simp)).alloc _).alloc _).alloc _).alloc _
  have e6 : Arr W (w.heap.size + 1 + 1 + 1 + 1 + 1 + 1) 184 [.func (.func 113) #[] #[]] := by rw [hW]; exact ((Arr.new rfl (by simp)).alloc _).alloc _
  have e8 : Arr W (w.heap.size + 1 + 1 + 1 + 1 + 1 + 1 + 1 + 1) 184 [.func (.func 115) #[] #[]] := by rw [hW]; exact Arr.new rfl (by simp)
  have hsz : W.heap.size = w.heap.size + 1 + 1 + 1 + 1 + 1 + 1 + 1 + 1 + 1 := by rw [hW]; simp
  have hB : Below w.heap.size w W := by rw [hW]; repeat (first | exact Below.refl _ _ | refine Below.alloc ?_ (by (try simp only [World.size_alloc]); omega) _)
  clear hW he
  replace hA := Lib.hid hA
  replace k1 := Lib.hid k1
  replace k3 := Lib.hid k3
  replace k5 := Lib.hid k5
  replace k7 := Lib.hid k7
  replace e2 := Lib.hid e2
  replace e4 := Lib.hid e4
  replace e6 := Lib.hid e6
  replace e8 := Lib.hid e8
  replace hB := Lib.hid hB
  go_wp2_with (refine arr_store rfl 135 _ _ rfl w.heap.size rfl (vs := kindsL w.heap.size) rfl ((hA.out.alloc _).alloc _) (n := 21) (by kernel_rfl) rfl rfl rfl ?_)
  obtain ⟨Wb, hWb⟩ : ∃ Wb, Wb = (W.alloc (.cells #[.int .i64 6, .int .i64 7] 3)).alloc (.cells #[.int .i64 1, .int .i64 2, .int .i64 3, .int .i64 4, .int .i64 5, .int .i64 6, .int .i64 7, .int .i64 8] 3) := ⟨_, rfl⟩
  have hA' : Arr Wb w.heap.size 135 zero21 := by rw [hWb]; exact (hA.out.alloc _).alloc _
  have k1' : Arr Wb (w.heap.size + 1) 3 [.int .i64 1] := by rw [hWb]; exact (k1.out.alloc _).alloc _
  have k3' : Arr Wb (w.heap.size + 1 + 1 + 1) 3 [.int .i64 1] := by rw [hWb]; exact (k3.out.alloc _).alloc _
  have k5' : Arr Wb (w.heap.size + 1 + 1 + 1 + 1 + 1) 3 [.int .i64 3, .int .i64 5] := by rw [hWb]; exact (k5.out.alloc _).alloc _
  have k7' : Arr Wb (w.heap.size + 1 + 1 + 1 + 1 + 1 + 1 + 1) 3 [.int .i64 2] := by rw [hWb]; exact (k7.out.alloc _).alloc _
  have k9' : Arr Wb (w.heap.size + 1 + 1 + 1 + 1 + 1 + 1 + 1 + 1 + 1) 3 [.int .i64 6, .int .i64 7] := by rw [hWb]; exact (Arr.new rfl hsz.symm).alloc _
  have ka' : Arr Wb (w.heap.size + 1 + 1 + 1 + 1 + 1 + 1 + 1 + 1 + 1 + 1) 3 [.int .i64 1, .int .i64 2, .int .i64 3, .int .i64 4, .int .i64 5, .int .i64 6, .int .i64 7, .int .i64 8] := by rw [hWb]; exact Arr.new rfl (by rw [World.size_alloc, hsz])
  have e2' : Arr Wb (w.heap.size + 1 + 1) 184 [.func (.func 110) #[] #[]] := by rw [hWb]; exact (e2.out.alloc _).alloc _
  have e4' : Arr Wb (w.heap.size + 1 + 1 + 1 + 1) 184 [.func (.func 111) #[] #[]] := by rw [hWb]; exact (e4.out.alloc _).alloc _
  have e6' : Arr Wb (w.heap.size + 1 + 1 + 1 + 1 + 1 + 1) 184 [.func (.func 113) #[] #[]] := by rw [hWb]; exact (e6.out.alloc _).alloc _
  have e8' : Arr Wb (w.heap.size + 1 + 1 + 1 + 1 + 1 + 1 + 1 + 1) 184 [.func (.func 115) #[] #[]] := by rw [hWb]; exact (e8.out.alloc _).alloc _
  have hB' : Below w.heap.size w Wb := by rw [hWb]; exact (hB.out.alloc (by omega) _).alloc (by rw [World.size_alloc, hsz]; omega) _
  rw [← hWb]
  refine bodyPost_ret (arr_result (p := 0) (ty := 135) (n := 21) (by kernel_rfl) _ (hA'.setAll (vs := kindsL w.heap.size) rfl) rfl Tryz.underlying135 rfl (by kernel_rfl) rfl) rfl ?_
  refine ⟨rfl, fun k h1 h6 => ?_, Below.setCells _ _ _ _ hB' (Nat.le_refl _), Arr.setCells_other _ _ _ _ e2' (by omega), Arr.setCells_other _ _ _ _ e4' (by omega), Arr.setCells_other _ _ _ _ e6' (by omega), Arr.setCells_other _ _ _ _ e8' (by omega)⟩
  obtain rfl | rfl | rfl | rfl | rfl | rfl : k = 1 ∨ k = 2 ∨ k = 3 ∨ k = 4 ∨ k = 5 ∨ k = 6 := by omega
  · exact Arr.setCells_other _ _ _ _ k1' (by show w.heap.size ≠ propB w.heap.size _; simp only [propB]; omega)
  · exact Arr.setCells_other _ _ _ _ k3' (by show w.heap.size ≠ propB w.heap.size _; simp only [propB]; omega)
  · exact Arr.setCells_other _ _ _ _ k5' (by show w.heap.size ≠ propB w.heap.size _; simp only [propB]; omega)
  · exact Arr.setCells_other _ _ _ _ k7' (by show w.heap.size ≠ propB w.heap.size _; simp only [propB]; omega)
  · exact Arr.setCells_other _ _ _ _ k9' (by show w.heap.size ≠ propB w.heap.size _; simp only [propB]; omega)
  · exact Arr.setCells_other _ _ _ _ ka' (by show w.heap.size ≠ propB w.heap.size _; simp only [propB]; omega)
theorem kinds_any (w : World) :
    Calls Tryz.prog 54 #[] w fun e w' => e = .returned (.agg (kindsL w.heap.size).toArray) ∧ (∀ k, 1 ≤ k → k ≤ 6 → Arr w' (propB w.heap.size k) 3 ((propsOf k).map (Value.int .i64))) ∧ Below w.heap.size w w' :=
  (kinds_all w).mono fun _ _ h => ⟨h.1, h.2.1, h.2.2.1⟩
end Go.Proofs.YtocpnlifmeffkaaGreatDoor.Rb
namespace Go.Proofs.YtocpnlifmeffkaaGreatDoor.Rb
open Go.RowKit Go.Shelf

attribute [local go_sem] Oper.semAt_some

def numOk : Nat → Int → Bool
  | 3, n => n == 10 || n == 100 || n == 1000 | 4, n => withinZ n 0 6 | _, n => n == 0
theorem num_any (k : Nat) (n : Int) (w : World) (f : Nat) (h : numV k = fnV f) : Calls Tryz.prog f #[.int .i64 n] w fun e w' => e = .returned (.bool (numOk k n)) ∧ w' = w := by
  unfold numV at h
  unfold numOk
  split at h
  · injection h with h _ _; injection h with h; subst h; exact kinds1_any n w
  · injection h with h _ _; injection h with h; subst h; exact kinds2_any n w
  · rename_i h3 h4
    injection h with h _ _; injection h with h; subst h
    split
    · exact absurd rfl h3
    · exact absurd rfl h4
    · exact none_any n w
theorem fits_kind (p n : Int) (k : Nat) (h1 : 1 ≤ k) (h6 : k ≤ 6) : fitsA p ⟨k, n⟩ = ((propsOf k).contains p && numOk k n) := by
  obtain rfl | rfl | rfl | rfl | rfl | rfl : k = 1 ∨ k = 2 ∨ k = 3 ∨ k = 4 ∨ k = 5 ∨ k = 6 := by omega
  · unfold fitsA propsOf numOk; simp <;> rfl
  · unfold fitsA propsOf numOk; simp <;> rfl
  · unfold fitsA propsOf numOk; simp <;> rfl
  · unfold fitsA propsOf numOk withinZ; simp <;> rfl
  · unfold fitsA propsOf numOk; simp <;> rfl
  · have hd : decide (1 ≤ p ∧ p ≤ 8) = [1, 2, 3, 4, 5, 6, 7, 8].contains p := by
      rw [Bool.eq_iff_iff, decide_eq_true_eq, List.contains_iff_mem]
      simp only [List.mem_cons, List.not_mem_nil, or_false]
      omega
    unfold fitsA propsOf numOk
    simp only [hd]
    simp
theorem fits_out (p n k : Int) (h : ¬(1 ≤ k ∧ k ≤ 6)) : fitsA p ⟨k, n⟩ = false := by
  unfold fitsA
  dsimp only
  rw [if_neg (by omega), if_neg (by omega), if_neg (by omega), if_neg (by omega), if_neg (by omega)]
/-- The table of kinds in memory. -/
structure KindsAt (w : World) (A H : Nat) : Prop where
  arr : Arr w A 135 (kindsL H)
  props : ∀ k, 1 ≤ k → k ≤ 6 → Arr w (propB H k) 3 ((propsOf k).map (Value.int .i64))
theorem KindsAt.below {w w' : World} {A H : Nat} (h : KindsAt w A H) (hb : Below w.heap.size w w') : KindsAt w' A H := ⟨h.arr.below hb, fun k h1 h6 => (h.props k h1 h6).below hb⟩
theorem contains_props {w : World} {A H k : Nat} (h : KindsAt w A H) (h1 : 1 ≤ k) (h6 : k ≤ 6) (p : Int) {W : World} (hW : ∀ b o, W.cell? ⟨b, o, none⟩ = w.cell? ⟨b, o, none⟩) (n : Nat) (hn : n = (propsOf k).length) :
    Calls Tryz.prog 103 #[rowV (propB H k) n, .int .i64 p] W fun e w' => e = .returned (.bool ((propsOf k).contains p)) ∧ w' = W := by
  subst hn
  have hh := Any.slices_Contains_int Tryz.lays107 (propB H k) 0 (propsOf k).length (propsOf k).length (propsOf k) p W (Nat.le_refl _) (by unfold propsOf; split <;> simp) (fun j hj => by
    rw [Nat.zero_add, hW, (h.props k h1 h6).cell? j, List.getElem?_map, List.getD_eq_getElem?_getD, List.getElem?_eq_getElem hj]
    rfl)
  rwa [List.take_length] at hh
set_option maxRecDepth 100000 in
set_option maxHeartbeats 4000000 in
theorem valid1_1 (p n : Int) (A Bp H : Nat) (w : World) (hK : KindsAt w A H) (hp : Arr w Bp 3 [.int .i64 p]) :
    Calls Tryz.prog 102 #[.agg #[.int .i64 1, .int .i64 n], .pointer (some ⟨A, 0, none⟩), .pointer (some ⟨Bp, 0, none⟩)] w fun e w' => e = .returned (.bool (!((propsOf 1).contains p && numOk 1 n))) ∧ Below w.heap.size w w' := by
  have hal : Below w.heap.size w (w.alloc (.cells #[.int .i64 1, .int .i64 n] 55)) := (Below.refl _ _).alloc (Nat.le_refl _) _
  have c0 : _ = some (Value.slice (some ⟨propB H 1, 0, none⟩) 1 1) := (hK.arr.below hal).cell (j := 3) rfl
  have c1 : _ = some (Value.func (.func 108) #[] #[]) := (hK.arr.below hal).cell (j := 4) rfl
  have cp := (hp.below hal).cell (j := 0) rfl
  have hK' := Lib.hid (hK.below hal)
  have hw : ∀ W, Hid (Calls Tryz.prog 100 #[.int .i64 1, .int .i64 1, .int .i64 6] W fun e w' => e = .returned (.bool true) ∧ w' = W) := fun W => Lib.hid (within_any 1 1 6 W)
  have hn := fun W => Lib.hid (num_any 1 n W _ rfl)
  clear hK hp
  generalize numOk 1 n = r at *
  replace hal := Lib.hid hal
  have hx : ∀ m : Nat, Calls Tryz.prog 103 #[.slice (some ⟨propB H 1, 0, none⟩) 1 1, .int .i64 p] ((w.alloc (.cells #[.int .i64 1, .int .i64 n] 55)).drewN m) fun e w' => e = .returned (.bool ((propsOf 1).contains p)) ∧ w' = ((w.alloc (.cells #[.int .i64 1, .int .i64 n] 55)).drewN m) := fun m => contains_props (k := 1) hK'.out (by omega) (by omega) p (W := (w.alloc (.cells #[.int .i64 1, .int .i64 n] 55)).drewN m) (fun _ _ => rfl) 1 rfl
  replace hx := Lib.hid hx
  clear hK'
  generalize propB H 1 = pb at *
  cases hc : (propsOf 1).contains p with
  | true =>
    rw [hc] at hx
    go_enter Tryz.func102, Tryz.ntmps102
    go_wp2_with fail
    go_quiet (first | (with_reducible refine Calls.quiet_of_same (hw _).out) | (with_reducible refine Calls.quiet_of_same (hx.out _)) | (with_reducible refine Calls.quiet_of_same (hn _).out))
    go_wp2
    go_ret
    exact ⟨by simp, below_drewN hal.out _⟩
  | false =>
    rw [hc] at hx
    go_enter Tryz.func102, Tryz.ntmps102
    go_wp2_with fail
    go_quiet (first | (with_reducible refine Calls.quiet_of_same (hw _).out) | (with_reducible refine Calls.quiet_of_same (hx.out _)) | (with_reducible refine Calls.quiet_of_same (hn _).out))
    go_wp2
    go_ret
    exact ⟨by simp, below_drewN hal.out _⟩
set_option maxRecDepth 100000 in
set_option maxHeartbeats 4000000 in
theorem valid1_2 (p n : Int) (A Bp H : Nat) (w : World) (hK : KindsAt w A H) (hp : Arr w Bp 3 [.int .i64 p]) :
    Calls Tryz.prog 102 #[.agg #[.int .i64 2, .int .i64 n], .pointer (some ⟨A, 0, none⟩), .pointer (some ⟨Bp, 0, none⟩)] w fun e w' => e = .returned (.bool (!((propsOf 2).contains p && numOk 2 n))) ∧ Below w.heap.size w w' := by
  have hal : Below w.heap.size w (w.alloc (.cells #[.int .i64 2, .int .i64 n] 55)) := (Below.refl _ _).alloc (Nat.le_refl _) _
  have c0 : _ = some (Value.slice (some ⟨propB H 2, 0, none⟩) 1 1) := (hK.arr.below hal).cell (j := 6) rfl
  have c1 : _ = some (Value.func (.func 108) #[] #[]) := (hK.arr.below hal).cell (j := 7) rfl
  have cp := (hp.below hal).cell (j := 0) rfl
  have hK' := Lib.hid (hK.below hal)
  have hw : ∀ W, Hid (Calls Tryz.prog 100 #[.int .i64 2, .int .i64 1, .int .i64 6] W fun e w' => e = .returned (.bool true) ∧ w' = W) := fun W => Lib.hid (within_any 2 1 6 W)
  have hn := fun W => Lib.hid (num_any 2 n W _ rfl)
  clear hK hp
  generalize numOk 2 n = r at *
  replace hal := Lib.hid hal
  have hx : ∀ m : Nat, Calls Tryz.prog 103 #[.slice (some ⟨propB H 2, 0, none⟩) 1 1, .int .i64 p] ((w.alloc (.cells #[.int .i64 2, .int .i64 n] 55)).drewN m) fun e w' => e = .returned (.bool ((propsOf 2).contains p)) ∧ w' = ((w.alloc (.cells #[.int .i64 2, .int .i64 n] 55)).drewN m) := fun m => contains_props (k := 2) hK'.out (by omega) (by omega) p (W := (w.alloc (.cells #[.int .i64 2, .int .i64 n] 55)).drewN m) (fun _ _ => rfl) 1 rfl
  replace hx := Lib.hid hx
  clear hK'
  generalize propB H 2 = pb at *
  cases hc : (propsOf 2).contains p with
  | true =>
    rw [hc] at hx
    go_enter Tryz.func102, Tryz.ntmps102
    go_wp2_with fail
    go_quiet (first | (with_reducible refine Calls.quiet_of_same (hw _).out) | (with_reducible refine Calls.quiet_of_same (hx.out _)) | (with_reducible refine Calls.quiet_of_same (hn _).out))
    go_wp2
    go_ret
    exact ⟨by simp, below_drewN hal.out _⟩
  | false =>
    rw [hc] at hx
    go_enter Tryz.func102, Tryz.ntmps102
    go_wp2_with fail
    go_quiet (first | (with_reducible refine Calls.quiet_of_same (hw _).out) | (with_reducible refine Calls.quiet_of_same (hx.out _)) | (with_reducible refine Calls.quiet_of_same (hn _).out))
    go_wp2
    go_ret
    exact ⟨by simp, below_drewN hal.out _⟩
set_option maxRecDepth 100000 in
set_option maxHeartbeats 4000000 in
theorem valid1_3 (p n : Int) (A Bp H : Nat) (w : World) (hK : KindsAt w A H) (hp : Arr w Bp 3 [.int .i64 p]) :
    Calls Tryz.prog 102 #[.agg #[.int .i64 3, .int .i64 n], .pointer (some ⟨A, 0, none⟩), .pointer (some ⟨Bp, 0, none⟩)] w fun e w' => e = .returned (.bool (!((propsOf 3).contains p && numOk 3 n))) ∧ Below w.heap.size w w' := by
  have hal : Below w.heap.size w (w.alloc (.cells #[.int .i64 3, .int .i64 n] 55)) := (Below.refl _ _).alloc (Nat.le_refl _) _
  have c0 : _ = some (Value.slice (some ⟨propB H 3, 0, none⟩) 2 2) := (hK.arr.below hal).cell (j := 9) rfl
  have c1 : _ = some (Value.func (.func 112) #[] #[]) := (hK.arr.below hal).cell (j := 10) rfl
  have cp := (hp.below hal).cell (j := 0) rfl
  have hK' := Lib.hid (hK.below hal)
  have hw : ∀ W, Hid (Calls Tryz.prog 100 #[.int .i64 3, .int .i64 1, .int .i64 6] W fun e w' => e = .returned (.bool true) ∧ w' = W) := fun W => Lib.hid (within_any 3 1 6 W)
  have hn := fun W => Lib.hid (num_any 3 n W _ rfl)
  clear hK hp
  generalize numOk 3 n = r at *
  replace hal := Lib.hid hal
  have hx : ∀ m : Nat, Calls Tryz.prog 103 #[.slice (some ⟨propB H 3, 0, none⟩) 2 2, .int .i64 p] ((w.alloc (.cells #[.int .i64 3, .int .i64 n] 55)).drewN m) fun e w' => e = .returned (.bool ((propsOf 3).contains p)) ∧ w' = ((w.alloc (.cells #[.int .i64 3, .int .i64 n] 55)).drewN m) := fun m => contains_props (k := 3) hK'.out (by omega) (by omega) p (W := (w.alloc (.cells #[.int .i64 3, .int .i64 n] 55)).drewN m) (fun _ _ => rfl) 2 rfl
  replace hx := Lib.hid hx
  clear hK'
  generalize propB H 3 = pb at *
  cases hc : (propsOf 3).contains p with
  | true =>
    rw [hc] at hx
    go_enter Tryz.func102, Tryz.ntmps102
    go_wp2_with fail
    go_quiet (first | (with_reducible refine Calls.quiet_of_same (hw _).out) | (with_reducible refine Calls.quiet_of_same (hx.out _)) | (with_reducible refine Calls.quiet_of_same (hn _).out))
    go_wp2
    go_ret
    exact ⟨by simp, below_drewN hal.out _⟩
  | false =>
    rw [hc] at hx
    go_enter Tryz.func102, Tryz.ntmps102
    go_wp2_with fail
    go_quiet (first | (with_reducible refine Calls.quiet_of_same (hw _).out) | (with_reducible refine Calls.quiet_of_same (hx.out _)) | (with_reducible refine Calls.quiet_of_same (hn _).out))
    go_wp2
    go_ret
    exact ⟨by simp, below_drewN hal.out _⟩
set_option maxRecDepth 100000 in
set_option maxHeartbeats 4000000 in
theorem valid1_4 (p n : Int) (A Bp H : Nat) (w : World) (hK : KindsAt w A H) (hp : Arr w Bp 3 [.int .i64 p]) :
    Calls Tryz.prog 102 #[.agg #[.int .i64 4, .int .i64 n], .pointer (some ⟨A, 0, none⟩), .pointer (some ⟨Bp, 0, none⟩)] w fun e w' => e = .returned (.bool (!((propsOf 4).contains p && numOk 4 n))) ∧ Below w.heap.size w w' := by
  have hal : Below w.heap.size w (w.alloc (.cells #[.int .i64 4, .int .i64 n] 55)) := (Below.refl _ _).alloc (Nat.le_refl _) _
  have c0 : _ = some (Value.slice (some ⟨propB H 4, 0, none⟩) 1 1) := (hK.arr.below hal).cell (j := 12) rfl
  have c1 : _ = some (Value.func (.func 114) #[] #[]) := (hK.arr.below hal).cell (j := 13) rfl
  have cp := (hp.below hal).cell (j := 0) rfl
  have hK' := Lib.hid (hK.below hal)
  have hw : ∀ W, Hid (Calls Tryz.prog 100 #[.int .i64 4, .int .i64 1, .int .i64 6] W fun e w' => e = .returned (.bool true) ∧ w' = W) := fun W => Lib.hid (within_any 4 1 6 W)
  have hn := fun W => Lib.hid (num_any 4 n W _ rfl)
  clear hK hp
  generalize numOk 4 n = r at *
  replace hal := Lib.hid hal
  have hx : ∀ m : Nat, Calls Tryz.prog 103 #[.slice (some ⟨propB H 4, 0, none⟩) 1 1, .int .i64 p] ((w.alloc (.cells #[.int .i64 4, .int .i64 n] 55)).drewN m) fun e w' => e = .returned (.bool ((propsOf 4).contains p)) ∧ w' = ((w.alloc (.cells #[.int .i64 4, .int .i64 n] 55)).drewN m) := fun m => contains_props (k := 4) hK'.out (by omega) (by omega) p (W := (w.alloc (.cells #[.int .i64 4, .int .i64 n] 55)).drewN m) (fun _ _ => rfl) 1 rfl
  replace hx := Lib.hid hx
  clear hK'
  generalize propB H 4 = pb at *
  cases hc : (propsOf 4).contains p with
  | true =>
    rw [hc] at hx
    go_enter Tryz.func102, Tryz.ntmps102
    go_wp2_with fail
    go_quiet (first | (with_reducible refine Calls.quiet_of_same (hw _).out) | (with_reducible refine Calls.quiet_of_same (hx.out _)) | (with_reducible refine Calls.quiet_of_same (hn _).out))
    go_wp2
    go_ret
    exact ⟨by simp, below_drewN hal.out _⟩
  | false =>
    rw [hc] at hx
    go_enter Tryz.func102, Tryz.ntmps102
    go_wp2_with fail
    go_quiet (first | (with_reducible refine Calls.quiet_of_same (hw _).out) | (with_reducible refine Calls.quiet_of_same (hx.out _)) | (with_reducible refine Calls.quiet_of_same (hn _).out))
    go_wp2
    go_ret
    exact ⟨by simp, below_drewN hal.out _⟩
set_option maxRecDepth 100000 in
set_option maxHeartbeats 4000000 in
theorem valid1_5 (p n : Int) (A Bp H : Nat) (w : World) (hK : KindsAt w A H) (hp : Arr w Bp 3 [.int .i64 p]) :
    Calls Tryz.prog 102 #[.agg #[.int .i64 5, .int .i64 n], .pointer (some ⟨A, 0, none⟩), .pointer (some ⟨Bp, 0, none⟩)] w fun e w' => e = .returned (.bool (!((propsOf 5).contains p && numOk 5 n))) ∧ Below w.heap.size w w' := by
  have hal : Below w.heap.size w (w.alloc (.cells #[.int .i64 5, .int .i64 n] 55)) := (Below.refl _ _).alloc (Nat.le_refl _) _
  have c0 : _ = some (Value.slice (some ⟨propB H 5, 0, none⟩) 2 2) := (hK.arr.below hal).cell (j := 15) rfl
  have c1 : _ = some (Value.func (.func 108) #[] #[]) := (hK.arr.below hal).cell (j := 16) rfl
  have cp := (hp.below hal).cell (j := 0) rfl
  have hK' := Lib.hid (hK.below hal)
  have hw : ∀ W, Hid (Calls Tryz.prog 100 #[.int .i64 5, .int .i64 1, .int .i64 6] W fun e w' => e = .returned (.bool true) ∧ w' = W) := fun W => Lib.hid (within_any 5 1 6 W)
  have hn := fun W => Lib.hid (num_any 5 n W _ rfl)
  clear hK hp
  generalize numOk 5 n = r at *
  replace hal := Lib.hid hal
  have hx : ∀ m : Nat, Calls Tryz.prog 103 #[.slice (some ⟨propB H 5, 0, none⟩) 2 2, .int .i64 p] ((w.alloc (.cells #[.int .i64 5, .int .i64 n] 55)).drewN m) fun e w' => e = .returned (.bool ((propsOf 5).contains p)) ∧ w' = ((w.alloc (.cells #[.int .i64 5, .int .i64 n] 55)).drewN m) := fun m => contains_props (k := 5) hK'.out (by omega) (by omega) p (W := (w.alloc (.cells #[.int .i64 5, .int .i64 n] 55)).drewN m) (fun _ _ => rfl) 2 rfl
  replace hx := Lib.hid hx
  clear hK'
  generalize propB H 5 = pb at *
  cases hc : (propsOf 5).contains p with
  | true =>
    rw [hc] at hx
    go_enter Tryz.func102, Tryz.ntmps102
    go_wp2_with fail
    go_quiet (first | (with_reducible refine Calls.quiet_of_same (hw _).out) | (with_reducible refine Calls.quiet_of_same (hx.out _)) | (with_reducible refine Calls.quiet_of_same (hn _).out))
    go_wp2
    go_ret
    exact ⟨by simp, below_drewN hal.out _⟩
  | false =>
    rw [hc] at hx
    go_enter Tryz.func102, Tryz.ntmps102
    go_wp2_with fail
    go_quiet (first | (with_reducible refine Calls.quiet_of_same (hw _).out) | (with_reducible refine Calls.quiet_of_same (hx.out _)) | (with_reducible refine Calls.quiet_of_same (hn _).out))
    go_wp2
    go_ret
    exact ⟨by simp, below_drewN hal.out _⟩
set_option maxRecDepth 100000 in
set_option maxHeartbeats 4000000 in
theorem valid1_6 (p n : Int) (A Bp H : Nat) (w : World) (hK : KindsAt w A H) (hp : Arr w Bp 3 [.int .i64 p]) :
    Calls Tryz.prog 102 #[.agg #[.int .i64 6, .int .i64 n], .pointer (some ⟨A, 0, none⟩), .pointer (some ⟨Bp, 0, none⟩)] w fun e w' => e = .returned (.bool (!((propsOf 6).contains p && numOk 6 n))) ∧ Below w.heap.size w w' := by
  have hal : Below w.heap.size w (w.alloc (.cells #[.int .i64 6, .int .i64 n] 55)) := (Below.refl _ _).alloc (Nat.le_refl _) _
  have c0 : _ = some (Value.slice (some ⟨propB H 6, 0, none⟩) 8 8) := (hK.arr.below hal).cell (j := 18) rfl
  have c1 : _ = some (Value.func (.func 108) #[] #[]) := (hK.arr.below hal).cell (j := 19) rfl
  have cp := (hp.below hal).cell (j := 0) rfl
  have hK' := Lib.hid (hK.below hal)
  have hw : ∀ W, Hid (Calls Tryz.prog 100 #[.int .i64 6, .int .i64 1, .int .i64 6] W fun e w' => e = .returned (.bool true) ∧ w' = W) := fun W => Lib.hid (within_any 6 1 6 W)
  have hn := fun W => Lib.hid (num_any 6 n W _ rfl)
  clear hK hp
  generalize numOk 6 n = r at *
  replace hal := Lib.hid hal
  have hx : ∀ m : Nat, Calls Tryz.prog 103 #[.slice (some ⟨propB H 6, 0, none⟩) 8 8, .int .i64 p] ((w.alloc (.cells #[.int .i64 6, .int .i64 n] 55)).drewN m) fun e w' => e = .returned (.bool ((propsOf 6).contains p)) ∧ w' = ((w.alloc (.cells #[.int .i64 6, .int .i64 n] 55)).drewN m) := fun m => contains_props (k := 6) hK'.out (by omega) (by omega) p (W := (w.alloc (.cells #[.int .i64 6, .int .i64 n] 55)).drewN m) (fun _ _ => rfl) 8 rfl
  replace hx := Lib.hid hx
  clear hK'
  generalize propB H 6 = pb at *
  cases hc : (propsOf 6).contains p with
  | true =>
    rw [hc] at hx
    go_enter Tryz.func102, Tryz.ntmps102
    go_wp2_with fail
    go_quiet (first | (with_reducible refine Calls.quiet_of_same (hw _).out) | (with_reducible refine Calls.quiet_of_same (hx.out _)) | (with_reducible refine Calls.quiet_of_same (hn _).out))
    go_wp2
    go_ret
    exact ⟨by simp, below_drewN hal.out _⟩
  | false =>
    rw [hc] at hx
    go_enter Tryz.func102, Tryz.ntmps102
    go_wp2_with fail
    go_quiet (first | (with_reducible refine Calls.quiet_of_same (hw _).out) | (with_reducible refine Calls.quiet_of_same (hx.out _)) | (with_reducible refine Calls.quiet_of_same (hn _).out))
    go_wp2
    go_ret
    exact ⟨by simp, below_drewN hal.out _⟩
end Go.Proofs.YtocpnlifmeffkaaGreatDoor.Rb
namespace Go.Proofs.YtocpnlifmeffkaaGreatDoor.Rb
open Go.RowKit Go.Shelf

attribute [local go_sem] Oper.semAt_some

set_option maxRecDepth 100000 in
set_option maxHeartbeats 4000000 in
theorem valid1_out (n k : Int) (hk : withinZ k 1 6 = false) (A Bp : Nat) (w : World) :
    Calls Tryz.prog 102 #[.agg #[.int .i64 k, .int .i64 n], .pointer (some ⟨A, 0, none⟩), .pointer (some ⟨Bp, 0, none⟩)] w fun e w' => e = .returned (.bool true) ∧ Below w.heap.size w w' := by
  have hal : Below w.heap.size w (w.alloc (.cells #[.int .i64 k, .int .i64 n] 55)) := (Below.refl _ _).alloc (Nat.le_refl _) _
  have hw : ∀ W, Hid (Calls Tryz.prog 100 #[.int .i64 k, .int .i64 1, .int .i64 6] W fun e w' => e = .returned (.bool false) ∧ w' = W) := fun W => Lib.hid (by have := within_any k 1 6 W; rwa [hk] at this)
  replace hal := Lib.hid hal
  clear hk
  go_enter Tryz.func102, Tryz.ntmps102
  go_wp2_with fail
  go_quiet (with_reducible refine Calls.quiet_of_same (hw _).out)
  go_wp2
  go_ret
  exact ⟨rfl, below_drewN hal.out _⟩
theorem within_iff (a b c : Int) : withinZ a b c = true ↔ b ≤ a ∧ a ≤ c := by
  unfold withinZ
  rw [Bool.and_eq_true, decide_eq_true_eq, decide_eq_true_eq]
theorem valid1_any (p : Int) (s : Stp) (A Bp H : Nat) (w : World) (hK : KindsAt w A H) (hp : Arr w Bp 3 [.int .i64 p]) :
    Calls Tryz.prog 102 #[.agg (stC s).toArray, .pointer (some ⟨A, 0, none⟩), .pointer (some ⟨Bp, 0, none⟩)] w fun e w' => e = .returned (.bool (!fitsA p s)) ∧ Below w.heap.size w w' := by
  obtain ⟨k, n⟩ := s
  show Calls Tryz.prog 102 #[.agg #[.int .i64 k, .int .i64 n], _, _] w _
  by_cases hk : 1 ≤ k ∧ k ≤ 6
  · obtain ⟨m, rfl⟩ : ∃ m : Nat, k = (m : Int) := ⟨k.toNat, by omega⟩
    have h1 : 1 ≤ m := by omega
    have h6 : m ≤ 6 := by omega
    rw [fits_kind p n m h1 h6]
    obtain rfl | rfl | rfl | rfl | rfl | rfl : m = 1 ∨ m = 2 ∨ m = 3 ∨ m = 4 ∨ m = 5 ∨ m = 6 := by omega
    · exact valid1_1 p n A Bp H w hK hp
    · exact valid1_2 p n A Bp H w hK hp
    · exact valid1_3 p n A Bp H w hK hp
    · exact valid1_4 p n A Bp H w hK hp
    · exact valid1_5 p n A Bp H w hK hp
    · exact valid1_6 p n A Bp H w hK hp
  · rw [fits_out p n k hk]
    refine valid1_out n k ?_ A Bp w
    rw [Bool.eq_false_iff]
    intro h
    exact hk ((within_iff _ _ _).1 h)
set_option maxHeartbeats 1000000 in
theorem containsS_nil (a : Option Addr) (c A Bp : Nat) (w : World) :
    Calls Tryz.prog 101 #[.slice a 0 c, .func (.func 102) #[] #[.pointer (some ⟨A, 0, none⟩), .pointer (some ⟨Bp, 0, none⟩)]] w fun e w' => e = .returned (.bool false) ∧ Below w.heap.size w w' := by
  go_enter Tryz.func101, Tryz.ntmps101
  go_wp2
  go_loop [8] (fun i => i = .int .i64 0) (fun _ => 0)
  case atStart => rfl
  case round =>
    subst hrel
    go_wp2
    go_ret
    exact ⟨rfl, Below.refl _ w⟩
theorem containsS_any (v : Value) (l : List Stp) (p : Int) (A Bp H : Nat) (w : World) (hv : StepsAt w w.heap.size v l) (hK : KindsAt w A H) (hp : Arr w Bp 3 [.int .i64 p]) :
    Calls Tryz.prog 101 #[v, .func (.func 102) #[] #[.pointer (some ⟨A, 0, none⟩), .pointer (some ⟨Bp, 0, none⟩)]] w fun e w' => e = .returned (.bool (l.any fun s => !fitsA p s)) ∧ Below w.heap.size w w' := by
  obtain ⟨a, c, rfl, hn1, hn2, hc⟩ := hv
  by_cases h0 : l.length = 0
  · obtain rfl : l = [] := List.eq_nil_of_length_eq_zero h0
    exact containsS_nil a c A Bp w
  · obtain ⟨b, o, rfl, hb, hcell⟩ := hc (by omega)
    have h := AnyQ.slices_ContainsFunc Tryz.laysF8s 2 Tryz.isAgg55 Tryz.sizeOf55 stC (fun _ => rfl) (fun s => !fitsA p s) 102 #[.pointer (some ⟨A, 0, none⟩), .pointer (some ⟨Bp, 0, none⟩)] (enters_of Tryz.func102 (by kernel_rfl) rfl) b o l.length c l w
      (fun W x hb' => (valid1_any p x A Bp H W (hK.below hb') (hp.below hb')).mono fun _ _ h => ⟨h.1, hb'.trans (h.2.mono hb'.size)⟩) (Nat.le_refl _) (by unfold maxLen at hn2; omega) hb
      (fun j hj i u hu => by
        have hi : i < 2 := (List.getElem?_eq_some_iff.1 hu).1
        have := hcell (j * 2 + i) u ((stL_at l j i hj hi).trans hu)
        rwa [← Nat.add_assoc] at this)
    rwa [List.take_length] at h
theorem any_not (p : Int) (l : List Stp) : (l.any fun s => !fitsA p s) = !l.all (fitsA p) := by
  induction l with
  | nil => rfl
  | cons s l ih => rw [List.any_cons, List.all_cons, ih, Bool.not_and]
set_option maxRecDepth 100000 in
set_option maxHeartbeats 4000000 in
theorem validA_any (p : Int) (v : Value) (l : List Stp) (w : World) (hv : StepsAt w w.heap.size v l) :
    Calls Tryz.prog 52 #[.int .i64 p, v] w fun e w' => e = .returned (.bool (validA p l)) ∧ Below w.heap.size w w' := by
  have hmf : ∀ (fn : Fn) (first cap : Array Value) (w : World), (Instr.makeFunc fn first cap).run Tryz.prog w = .ok (.func fn first cap) w := fun _ _ _ _ => rfl
  have hk := fun W => Lib.hid (kinds_any W)
  have hw := fun W => Lib.hid (within_any p 1 8 W)
  have hvd : validA p l = (withinZ p 1 8 && decide ((l.length : Int) ≤ 64) && !(l.any fun s => !fitsA p s)) := by
    have h1 : decide (1 ≤ p ∧ p ≤ 8) = withinZ p 1 8 := by rw [Bool.eq_iff_iff, decide_eq_true_eq, within_iff]
    have h2 : decide (l.length ≤ 64) = decide ((l.length : Int) ≤ 64) := by rw [Bool.eq_iff_iff, decide_eq_true_eq, decide_eq_true_eq]; omega
    unfold validA
    rw [any_not, Bool.not_not, h1, h2]
  have hv0 := hv
  obtain ⟨a, c, rfl, hn1, hn2, _⟩ := hv0
  have hvh := Lib.hid hv
  clear hv
  rw [hvd]
  clear hvd
  go_enter Tryz.func52, Tryz.ntmps52
  go_wp2_with fail
  refine (hk _).out.mono ?_
  rintro e w2 ⟨rfl, hP, hb2⟩
  have hb1 : Below w.heap.size w (w.alloc (.cells #[.int .i64 p] 3)) := (Below.refl _ _).alloc (Nat.le_refl _) _
  have hp1 : Arr (w.alloc (.cells #[.int .i64 p] 3)) w.heap.size 3 [.int .i64 p] := Arr.new rfl rfl
  have hp2 := hp1.below hb2
  have hb12 := hb1.trans (hb2.mono hb1.size)
  clear hk hb2 hb1 hp1
  simp only [World.size_alloc] at hP ⊢
  generalize w.heap.size + 1 = H at *
  obtain ⟨W, hW⟩ : ∃ W, W = w2.alloc (.cells #[.slice none 0 0, .nilFunc, .nilFunc, .slice none 0 0, .nilFunc, .nilFunc, .slice none 0 0, .nilFunc, .nilFunc, .slice none 0 0, .nilFunc, .nilFunc, .slice none 0 0, .nilFunc, .nilFunc, .slice none 0 0, .nilFunc, .nilFunc, .slice none 0 0, .nilFunc, .nilFunc] 135) := ⟨_, rfl⟩
  have hA3 : Arr W w2.heap.size 135 zero21 := by rw [hW]; exact Arr.new rfl rfl
  have hP3 : ∀ k, 1 ≤ k → k ≤ 6 → Arr W (propB H k) 3 ((propsOf k).map (Value.int .i64)) := fun k h1 h6 => by rw [hW]; exact (hP k h1 h6).alloc _
  have hp3 : Arr W w.heap.size 3 [.int .i64 p] := by rw [hW]; exact hp2.alloc _
  have hb3 : Below w.heap.size w W := by rw [hW]; exact hb12.alloc hb12.size _
  obtain ⟨W2, hW2⟩ : ∃ W2, W2 = W.setCells w2.heap.size 0 (kindsL H) := ⟨_, rfl⟩
  have hK4 : KindsAt W2 w2.heap.size H := by rw [hW2]; exact ⟨hA3.setAll rfl, fun k h1 h6 => Arr.setCells_other _ _ _ _ (hP3 k h1 h6) (by have := (hP k h1 h6).lt; omega)⟩
  have hp4 : Arr W2 w.heap.size 3 [.int .i64 p] := by rw [hW2]; exact Arr.setCells_other _ _ _ _ hp3 (by have := hp2.lt; omega)
  have hb4 : Below w.heap.size w W2 := by rw [hW2]; exact Below.setCells _ _ _ _ hb3 hb12.size
  have hS4 := StepsAt.later hvh.out hb4
  have hcs := Lib.hid (containsS_any _ l p w2.heap.size w.heap.size H W2 hS4 hK4 hp4)
  have cp := hp4.cell (j := 0) rfl
  clear hP hP3 hp2 hp3 hb3 hK4 hp4 hS4
  replace hA3 := Lib.hid hA3
  replace hb4 := Lib.hid hb4
  replace hW2 := Lib.hid hW2
  go_wp2_with (rw [← hW]; refine arr_store rfl 135 _ _ rfl w2.heap.size rfl (vs := kindsL H) rfl hA3.out (n := 21) (by kernel_rfl) rfl rfl rfl ?_; rw [← hW2.out])
  clear hW hW2 hA3
  cases hwb : withinZ p 1 8 with
  | false =>
    rw [hwb] at hw
    go_wp2_with fail
    refine (hw _).out.mono ?_
    rintro e w3 ⟨rfl, rfl⟩
    go_wp2_with fail
    go_ret
    exact ⟨by rw [hwb]; rfl, hb4.out⟩
  | true =>
    rw [hwb] at hw
    cases hlb : decide ((l.length : Int) ≤ 64) with
    | false =>
      go_wp2_with fail
      refine (hw _).out.mono ?_
      rintro e w3 ⟨rfl, rfl⟩
      go_wp2_with fail
      go_ret
      exact ⟨by rw [hwb, hlb]; rfl, hb4.out⟩
    | true =>
      go_wp2_with fail
      refine (hw _).out.mono ?_
      rintro e w3 ⟨rfl, rfl⟩
      go_wp2_with fail
      refine hcs.out.mono ?_
      rintro e w4 ⟨rfl, hb5⟩
      go_wp2_with fail
      go_ret
      exact ⟨by rw [hwb, hlb]; rfl, hb4.out.trans (hb5.mono hb4.out.size)⟩
end Go.Proofs.YtocpnlifmeffkaaGreatDoor.Rb
