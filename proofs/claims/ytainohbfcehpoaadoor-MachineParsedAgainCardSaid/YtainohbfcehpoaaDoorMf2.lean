/-
  MachineCalculates, plain: what its two programs do.
-/
import Derived.Test.YtainohbfcehpoaaDoorMf1
import Derived.Test.YtainohbfcehpoaaDoorMbD
namespace Go.Proofs.YtainohbfcehpoaaDoor
open Go.RowKit

theorem runM_next {l : List Ins} {f n : Nat} {c c' : Conf} (h : stepM l c = .go c') : runM l (f + 1) n c = runM l f (n + 1) c' := by
  rw [runM, h]
theorem runM_stop {l : List Ins} {f n : Nat} {c : Conf} (h : stepM l c = .halt) : runM l (f + 1) n c = some (c.out, n) := by
  rw [runM, h]
theorem formed_flat {l : List Ins} (hne : l ≠ []) (hL : Laid 0 l) (hN : ∀ x ∈ l, Neat x) (hs : sizeL l ≤ 1024) (hl : ∀ i, i < l.length → leadOp l[i]!.op = true → ∃ j, idxOf l l[i]!.opd = some j) : formed (flatB l) = some l := by
  have hd := dec_flat l 0 [] hL hN
  rw [List.append_nil, dec, Option.map_some, List.append_nil] at hd
  refine formed_mk (fun e => ?_) (by rw [flatB_len]; exact hs) hd hl
  rw [e, dec] at hd
  injection hd with hd
  exact hne hd.symm
/-- Two numbers and an operation. -/
def calcL (a b o : Nat) : List Ins := [⟨0, 0, a⟩, ⟨3, 0, b⟩, ⟨6, o, 0⟩, ⟨7, 10, 0⟩, ⟨8, 11, 0⟩]
def calcC (a b o : Nat) : List UInt8 := [0, UInt8.ofNat (a / 256), UInt8.ofNat (a % 256), 0, UInt8.ofNat (b / 256), UInt8.ofNat (b % 256), UInt8.ofNat o, 10, 11]
def calcW (a b o : Nat) : Int := if o = 4 then (a : Int) + b else if o = 5 then (a : Int) - b else if a < b then 1 else 0
theorem calc_formed {a b o : Nat} (ha : a < 65536) (hb : b < 65536) (ho : o = 4 ∨ o = 5 ∨ o = 6) : formed (calcC a b o) = some (calcL a b o) := by
  have e : calcC a b o = flatB (calcL a b o) := by rcases ho with rfl | rfl | rfl <;> rfl
  rw [e]
  have hm : ∀ x ∈ calcL a b o, x = ⟨0, 0, a⟩ ∨ x = ⟨3, 0, b⟩ ∨ x = ⟨6, o, 0⟩ ∨ x = ⟨7, 10, 0⟩ ∨ x = ⟨8, 11, 0⟩ := fun x hx => by simpa [calcL] using hx
  refine formed_flat (by simp [calcL]) ?_ (fun x hx => ?_) ?_ (fun i hi hl => ?_)
  · rcases ho with rfl | rfl | rfl <;> exact .cons rfl (Nat.le_of_ble_eq_true rfl) (.cons rfl (Nat.le_of_ble_eq_true rfl) (.cons rfl (Nat.le_of_ble_eq_true rfl) (.cons rfl (Nat.le_of_ble_eq_true rfl) (.cons rfl (Nat.le_of_ble_eq_true rfl) (.nil _)))))
  · rcases hm x hx with rfl | rfl | rfl | rfl | rfl
    · exact ⟨(Nat.le_of_ble_eq_true rfl), ha, fun h => (by cases h)⟩
    · exact ⟨(Nat.le_of_ble_eq_true rfl), hb, fun h => (by cases h)⟩
    · rcases ho with rfl | rfl | rfl <;> exact ⟨(Nat.le_of_ble_eq_true rfl), (Nat.le_of_ble_eq_true rfl), fun _ => rfl⟩
    · exact ⟨(Nat.le_of_ble_eq_true rfl), (Nat.le_of_ble_eq_true rfl), fun _ => rfl⟩
    · exact ⟨(Nat.le_of_ble_eq_true rfl), (Nat.le_of_ble_eq_true rfl), fun _ => rfl⟩
  · rcases ho with rfl | rfl | rfl <;> exact Nat.le_of_ble_eq_true rfl
  · have hi' : i < 5 := hi
    have h5 : i = 0 ∨ i = 1 ∨ i = 2 ∨ i = 3 ∨ i = 4 := by omega
    rcases ho with rfl | rfl | rfl <;> rcases h5 with rfl | rfl | rfl | rfl | rfl <;> exact absurd (show false = true from hl) (by decide)
theorem calc_good {a b o : Nat} (ho : o = 4 ∨ o = 5 ∨ o = 6) : Good (calcL a b o) := by
  refine good_of_closed (fun i => [some 0, some 1, some 2, some 1, some 0].getD i none) rfl fun i d h => ?_
  have hi : i < 5 := by
    rcases Nat.lt_or_ge i 5 with h1 | h1
    · exact h1
    · rw [List.getD_eq_getElem?_getD, List.getElem?_eq_none (by simpa using h1)] at h
      cases h
  have h5 : i = 0 ∨ i = 1 ∨ i = 2 ∨ i = 3 ∨ i = 4 := by omega
  rcases ho with rfl | rfl | rfl <;> rcases h5 with rfl | rfl | rfl | rfl | rfl
  all_goals
    injection h with h
    subst h
    refine ⟨(by show _ < 5; decide), (Nat.le_of_ble_eq_true rfl), (Nat.le_of_ble_eq_true rfl), fun h7 h11 => ?_, fun j hl hj => ?_⟩
  all_goals first
    | rfl
    | exact absurd rfl h7
    | exact absurd rfl h11
    | exact absurd (show false = true from hl) (by decide)
theorem calc_run {a b o : Nat} (ha : a < 65536) (hb : b < 65536) (ho : o = 4 ∨ o = 5 ∨ o = 6) (inp : List UInt8) : runOf (calcL a b o) inp 100 = some ([UInt8.ofNat (calcW a b o % 256).toNat], 5) := by
  have hw1 : w64 ((a : Int) + b) = (a : Int) + b := IntWalk.i64_in _ (by omega)
  have hw2 : w64 ((a : Int) - b) = (a : Int) - b := IntWalk.i64_in _ (by omega)
  have s1 : stepM (calcL a b o) ⟨0, [], inp, []⟩ = .go ⟨1, [(a : Int)], inp, []⟩ := rfl
  have s2 : stepM (calcL a b o) ⟨1, [(a : Int)], inp, []⟩ = .go ⟨2, [(b : Int), (a : Int)], inp, []⟩ := rfl
  have s3 : stepM (calcL a b o) ⟨2, [(b : Int), (a : Int)], inp, []⟩ = .go ⟨3, [calcW a b o], inp, []⟩ := by
    rcases ho with rfl | rfl | rfl
    · show Res.go ⟨3, [w64 ((a : Int) + b)], inp, []⟩ = _
      rw [hw1]; rfl
    · show Res.go ⟨3, [w64 ((a : Int) - b)], inp, []⟩ = _
      rw [hw2]; rfl
    · show Res.go ⟨3, [if (a : Int) < (b : Int) then 1 else 0], inp, []⟩ = Res.go ⟨3, [if a < b then 1 else 0], inp, []⟩
      congr 3
      by_cases h : a < b
      · rw [if_pos h, if_pos (by omega)]
      · rw [if_neg h, if_neg (by omega)]
  have s4 : stepM (calcL a b o) ⟨3, [calcW a b o], inp, []⟩ = .go ⟨4, [], inp, [UInt8.ofNat (calcW a b o % 256).toNat]⟩ := rfl
  have s5 : stepM (calcL a b o) ⟨4, [], inp, [UInt8.ofNat (calcW a b o % 256).toNat]⟩ = .halt := rfl
  unfold runOf
  rw [runM_next s1, runM_next s2, runM_next s3, runM_next s4, runM_stop s5]
/-- The loop. -/
def loopL (a : Nat) : List Ins := [⟨0, 9, 0⟩, ⟨1, 1, 0⟩, ⟨2, 0, 0⟩, ⟨5, 6, 0⟩, ⟨6, 8, 17⟩, ⟨9, 0, a⟩, ⟨12, 4, 0⟩, ⟨13, 10, 0⟩, ⟨14, 7, 0⟩, ⟨17, 3, 0⟩, ⟨18, 11, 0⟩]
def loopC (a : Nat) : List UInt8 := [9, 1, 0, 0, 0, 6, 8, 0, 17, 0, UInt8.ofNat (a / 256), UInt8.ofNat (a % 256), 4, 10, 7, 0, 0, 3, 11]
theorem loop_formed {a : Nat} (ha : a < 65536) : formed (loopC a) = some (loopL a) := by
  have e : loopC a = flatB (loopL a) := rfl
  rw [e]
  refine formed_flat (by simp [loopL]) ?_ (fun x hx => ?_) (Nat.le_of_ble_eq_true rfl) (fun i hi hl => ?_)
  · exact .cons rfl (Nat.le_of_ble_eq_true rfl) (.cons rfl (Nat.le_of_ble_eq_true rfl) (.cons rfl (Nat.le_of_ble_eq_true rfl) (.cons rfl (Nat.le_of_ble_eq_true rfl) (.cons rfl (Nat.le_of_ble_eq_true rfl) (.cons rfl (Nat.le_of_ble_eq_true rfl) (.cons rfl (Nat.le_of_ble_eq_true rfl) (.cons rfl (Nat.le_of_ble_eq_true rfl) (.cons rfl (Nat.le_of_ble_eq_true rfl) (.cons rfl (Nat.le_of_ble_eq_true rfl) (.cons rfl (Nat.le_of_ble_eq_true rfl) (.nil _)))))))))))
  · have hm : x = ⟨0, 9, 0⟩ ∨ x = ⟨1, 1, 0⟩ ∨ x = ⟨2, 0, 0⟩ ∨ x = ⟨5, 6, 0⟩ ∨ x = ⟨6, 8, 17⟩ ∨ x = ⟨9, 0, a⟩ ∨ x = ⟨12, 4, 0⟩ ∨ x = ⟨13, 10, 0⟩ ∨ x = ⟨14, 7, 0⟩ ∨ x = ⟨17, 3, 0⟩ ∨ x = ⟨18, 11, 0⟩ := by simpa [loopL] using hx
    rcases hm with rfl | rfl | rfl | rfl | rfl | rfl | rfl | rfl | rfl | rfl | rfl <;> exact ⟨(Nat.le_of_ble_eq_true rfl), by first | exact Nat.le_of_ble_eq_true rfl | exact ha, fun h => by first | rfl | cases h⟩
  · have hi' : i < 11 := hi
    have h11 : i = 0 ∨ i = 1 ∨ i = 2 ∨ i = 3 ∨ i = 4 ∨ i = 5 ∨ i = 6 ∨ i = 7 ∨ i = 8 ∨ i = 9 ∨ i = 10 := by omega
    rcases h11 with rfl | rfl | rfl | rfl | rfl | rfl | rfl | rfl | rfl | rfl | rfl
    all_goals first
      | exact absurd (show false = true from hl) (by decide)
      | exact ⟨9, rfl⟩
      | exact ⟨0, rfl⟩
theorem loop_good (a : Nat) : Good (loopL a) := by
  refine good_of_closed (fun i => [some 0, some 1, some 2, some 3, some 2, some 1, some 2, some 1, some 0, some 1, some 0].getD i none) rfl fun i d h => ?_
  have hi : i < 11 := by
    rcases Nat.lt_or_ge i 11 with h1 | h1
    · exact h1
    · rw [List.getD_eq_getElem?_getD, List.getElem?_eq_none (by simpa using h1)] at h
      cases h
  have h11 : i = 0 ∨ i = 1 ∨ i = 2 ∨ i = 3 ∨ i = 4 ∨ i = 5 ∨ i = 6 ∨ i = 7 ∨ i = 8 ∨ i = 9 ∨ i = 10 := by omega
  rcases h11 with rfl | rfl | rfl | rfl | rfl | rfl | rfl | rfl | rfl | rfl | rfl
  all_goals
    injection h with h
    subst h
    refine ⟨(by show _ < 11; decide), (Nat.le_of_ble_eq_true rfl), (Nat.le_of_ble_eq_true rfl), fun h7 h11 => ?_, fun j hl hj => ?_⟩
  all_goals first
    | rfl
    | exact absurd rfl h7
    | exact absurd rfl h11
    | exact absurd (show false = true from hl) (by decide)
    | (have e := hj.symm.trans (show idxOf (loopL a) (loopL a)[4]!.opd = some 9 from rfl); injection e with e; subst e; rfl)
    | (have e := hj.symm.trans (show idxOf (loopL a) (loopL a)[8]!.opd = some 0 from rfl); injection e with e; subst e; rfl)
def addB (a : Nat) (x : UInt8) : UInt8 := UInt8.ofNat (((x.toNat : Int) + (a : Int)) % 256).toNat
theorem loop_run (a : Nat) (ha : a < 65536) : ∀ (inp out : List UInt8) (f n : Nat), out.length + inp.length ≤ 60000 → runM (loopL a) (f + (9 * inp.length + 7)) n ⟨0, [], inp, out⟩ = some (out ++ inp.map (addB a), n + 9 * inp.length + 6)
  | [], out, f, n, _ => by
    have s1 : stepM (loopL a) ⟨0, [], [], out⟩ = .go ⟨1, [-1], [], out⟩ := rfl
    have s2 : stepM (loopL a) ⟨1, [-1], [], out⟩ = .go ⟨2, [-1, -1], [], out⟩ := rfl
    have s3 : stepM (loopL a) ⟨2, [-1, -1], [], out⟩ = .go ⟨3, [0, -1, -1], [], out⟩ := rfl
    have s4 : stepM (loopL a) ⟨3, [0, -1, -1], [], out⟩ = .go ⟨4, [1, -1], [], out⟩ := rfl
    have s5 : stepM (loopL a) ⟨4, [1, -1], [], out⟩ = .go ⟨9, [-1], [], out⟩ := rfl
    have s6 : stepM (loopL a) ⟨9, [-1], [], out⟩ = .go ⟨10, [], [], out⟩ := rfl
    have s7 : stepM (loopL a) ⟨10, [], [], out⟩ = .halt := rfl
    show runM (loopL a) (f + 7) n ⟨0, [], [], out⟩ = _
    rw [runM_next s1, runM_next s2, runM_next s3, runM_next s4, runM_next s5, runM_next s6, runM_stop s7]
    simp
  | b :: r, out, f, n, hl => by
    have hb := b.toNat_lt
    have s1 : stepM (loopL a) ⟨0, [], b :: r, out⟩ = .go ⟨1, [(b.toNat : Int)], r, out⟩ := rfl
    have s2 : stepM (loopL a) ⟨1, [(b.toNat : Int)], r, out⟩ = .go ⟨2, [(b.toNat : Int), (b.toNat : Int)], r, out⟩ := rfl
    have s3 : stepM (loopL a) ⟨2, [(b.toNat : Int), (b.toNat : Int)], r, out⟩ = .go ⟨3, [0, (b.toNat : Int), (b.toNat : Int)], r, out⟩ := rfl
    have s4 : stepM (loopL a) ⟨3, [0, (b.toNat : Int), (b.toNat : Int)], r, out⟩ = .go ⟨4, [0, (b.toNat : Int)], r, out⟩ := by
      show Res.go ⟨4, [if (b.toNat : Int) < 0 then 1 else 0, (b.toNat : Int)], r, out⟩ = _
      rw [if_neg (by omega)]
    have s5 : stepM (loopL a) ⟨4, [0, (b.toNat : Int)], r, out⟩ = .go ⟨5, [(b.toNat : Int)], r, out⟩ := rfl
    have s6 : stepM (loopL a) ⟨5, [(b.toNat : Int)], r, out⟩ = .go ⟨6, [(a : Int), (b.toNat : Int)], r, out⟩ := rfl
    have s7 : stepM (loopL a) ⟨6, [(a : Int), (b.toNat : Int)], r, out⟩ = .go ⟨7, [(b.toNat : Int) + a], r, out⟩ := by
      show Res.go ⟨7, [w64 ((b.toNat : Int) + a)], r, out⟩ = _
      rw [show w64 ((b.toNat : Int) + a) = (b.toNat : Int) + a from IntWalk.i64_in _ (by omega)]
    have s8 : stepM (loopL a) ⟨7, [(b.toNat : Int) + a], r, out⟩ = .go ⟨8, [], r, out ++ [addB a b]⟩ := by
      rw [step10 rfl, if_neg (by simp at hl; omega)]
      rfl
    have s9 : stepM (loopL a) ⟨8, [], r, out ++ [addB a b]⟩ = .go ⟨0, [], r, out ++ [addB a b]⟩ := rfl
    have ih := loop_run a ha r (out ++ [addB a b]) f (n + 1 + 1 + 1 + 1 + 1 + 1 + 1 + 1 + 1) (by simp at hl ⊢; omega)
    rw [show f + (9 * (b :: r).length + 7) = (f + (9 * r.length + 7)) + 1 + 1 + 1 + 1 + 1 + 1 + 1 + 1 + 1 by simp; omega]
    rw [runM_next s1, runM_next s2, runM_next s3, runM_next s4, runM_next s5, runM_next s6, runM_next s7, runM_next s8, runM_next s9, ih]
    simp
    omega
theorem loop_runOf (a : Nat) (ha : a < 65536) (inp : List UInt8) (hl : inp.length ≤ 200) : runOf (loopL a) inp 5000 = some (inp.map (addB a), 9 * inp.length + 7) := by
  have h := loop_run a ha inp [] (5000 - (9 * inp.length + 7)) 1 (by simp; omega)
  rw [show 5000 - (9 * inp.length + 7) + (9 * inp.length + 7) = 5000 by omega] at h
  unfold runOf
  rw [h]
  simp
  omega
end Go.Proofs.YtainohbfcehpoaaDoor
