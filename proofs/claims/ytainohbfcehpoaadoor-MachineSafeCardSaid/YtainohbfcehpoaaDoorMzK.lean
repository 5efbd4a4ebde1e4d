/-
  MachineCalculates, plain: what its two programs do.
  MachineCalculates: the walk.
  The contract of the law's helper changed: a text with one byte changed.
  MachineRoundTrip: the walk.
-/
import Derived.Test.YtainohbfcehpoaaDoorMzI
import Derived.Test.YtainohbfcehpoaaDoorMzG
import Derived.Test.YtainohbfcehpoaaDoorMzJ
namespace Go.Proofs.YtainohbfcehpoaaDoor
open Go.RowKit

theorem runM_next {l : List Ins} {f n : Nat} {c c' : Conf} (h : stepM l c = .go c') : runM l (f + 1) n c = runM l f (n + 1) c' := by
  rw [runM, h]
theorem runM_stop {l : List Ins} {f n : Nat} {c : Conf} (h : stepM l c = .halt) : runM l (f + 1) n c = some (c.out, n) := by
  rw [runM, h]
theorem formed_flat {l : List Ins} (hne : l ≠ []) (hL : Laid 0 l) (hN : ∀ x ∈ l, Neat x) (hs : sizeL l ≤ 1024) (hl : ∀ i, i < l.length → leadOp l[i]!.op = true → ∃ j, idxOf l l[i]!.opd = some j) : formed (flatB l) = some l := by
  have hd := dec_flat l 0 [] hL hN
  rw [List.append_nil, dec, Option.map_some, List.append_nil] at hd
  refine formed_mk (fun e => ?_) (by rw [flatB_len]; exact hs) hd hl
  rw [e, dec] at hd
  injection hd with hd
  exact hne hd.symm
/-- Two numbers and an operation. -/
def calcL (a b o : Nat) : List Ins := [⟨0, 0, a⟩, ⟨3, 0, b⟩, ⟨6, o, 0⟩, ⟨7, 10, 0⟩, ⟨8, 11, 0⟩]
def calcC (a b o : Nat) : List UInt8 := [0, UInt8.ofNat (a / 256), UInt8.ofNat (a % 256), 0, UInt8.ofNat (b / 256), UInt8.ofNat (b % 256), UInt8.ofNat o, 10, 11]
def calcW (a b o : Nat) : Int := if o = 4 then (a : Int) + b else if o = 5 then (a : Int) - b else if a < b then 1 else 0
theorem calc_formed {a b o : Nat} (ha : a < 65536) (hb : b < 65536) (ho : o = 4 ∨ o = 5 ∨ o = 6) : formed (calcC a b o) = some (calcL a b o) := by
  have e : calcC a b o = flatB (calcL a b o) := by rcases ho with rfl | rfl | rfl <;> rfl
  rw [e]
  have hm : ∀ x ∈ calcL a b o, x = ⟨0, 0, a⟩ ∨ x = ⟨3, 0, b⟩ ∨ x = ⟨6, o, 0⟩ ∨ x = ⟨7, 10, 0⟩ ∨ x = ⟨8, 11, 0⟩ := fun x hx => by simpa [calcL] using hx
  refine formed_flat (by simp [calcL]) ?_ (fun x hx => ?_) ?_ (fun i hi hl => ?_)
  · rcases ho with rfl | rfl | rfl <;> exact .cons rfl (Nat.le_of_ble_eq_true rfl) (.cons rfl (Nat.le_of_ble_eq_true rfl) (.cons rfl (Nat.le_of_ble_eq_true rfl) (.cons rfl (Nat.le_of_ble_eq_true rfl) (.cons rfl (Nat.le_of_ble_eq_true rfl) (.nil _)))))
  · rcases hm x hx with rfl | rfl | rfl | rfl | rfl
    · exact ⟨(Nat.le_of_ble_eq_true rfl), ha, fun h => (by cases h)⟩
    · exact ⟨(Nat.le_of_ble_eq_true rfl), hb, fun h => (by cases h)⟩
    · rcases ho with rfl | rfl | rfl <;> exact ⟨(Nat.le_of_ble_eq_true rfl), (Nat.le_of_ble_eq_true rfl), fun _ => rfl⟩
    · exact ⟨(Nat.le_of_ble_eq_true rfl), (Nat.le_of_ble_eq_true rfl), fun _ => rfl⟩
    · exact ⟨(Nat.le_of_ble_eq_true rfl), (Nat.le_of_ble_eq_true rfl), fun _ => rfl⟩
  · rcases ho with rfl | rfl | rfl <;> exact Nat.le_of_ble_eq_true rfl
  · have hi' : i < 5 := hi
    have h5 : i = 0 ∨ i = 1 ∨ i = 2 ∨ i = 3 ∨ i = 4 := by omega
    rcases ho with rfl | rfl | rfl <;> rcases h5 with rfl | rfl | rfl | rfl | rfl <;> exact absurd (show false = true from hl) (by decide)
theorem calc_good {a b o : Nat} (ho : o = 4 ∨ o = 5 ∨ o = 6) : Good (calcL a b o) := by
  refine good_of_closed (fun i => [some 0, some 1, some 2, some 1, some 0].getD i none) rfl fun i d h => ?_
  have hi : i < 5 := by
    rcases Nat.lt_or_ge i 5 with h1 | h1
    · exact h1
    · rw [List.getD_eq_getElem?_getD, List.getElem?_eq_none (by simpa using h1)] at h
      cases h
  have h5 : i = 0 ∨ i = 1 ∨ i = 2 ∨ i = 3 ∨ i = 4 := by omega
  rcases ho with rfl | rfl | rfl <;> rcases h5 with rfl | rfl | rfl | rfl | rfl
  all_goals
    injection h with h
    subst h
    refine ⟨(by show _ < 5; decide), (Nat.le_of_ble_eq_true rfl), (Nat.le_of_ble_eq_true rfl), fun h7 h11 => ?_, fun j hl hj => ?_⟩
  all_goals first
    | rfl
    | exact absurd rfl h7
    | exact absurd rfl h11
    | exact absurd (show false = true from hl) (by decide)
theorem calc_run {a b o : Nat} (ha : a < 65536) (hb : b < 65536) (ho : o = 4 ∨ o = 5 ∨ o = 6) (inp : List UInt8) : runOf (calcL a b o) inp 100 = some ([UInt8.ofNat (calcW a b o % 256).toNat], 5) := by
  have hw1 : w64 ((a : Int) + b) = (a : Int) + b := IntWalk.i64_in _ (by omega)
  have hw2 : w64 ((a : Int) - b) = (a : Int) - b := IntWalk.i64_in _ (by omega)
  have s1 : stepM (calcL a b o) ⟨0, [], inp, []⟩ = .go ⟨1, [(a : Int)], inp, []⟩ := rfl
  have s2 : stepM (calcL a b o) ⟨1, [(a : Int)], inp, []⟩ = .go ⟨2, [(b : Int), (a : Int)], inp, []⟩ := rfl
  have s3 : stepM (calcL a b o) ⟨2, [(b : Int), (a : Int)], inp, []⟩ = .go ⟨3, [calcW a b o], inp, []⟩ := by
    rcases ho with rfl | rfl | rfl
    · show Res.go ⟨3, [w64 ((a : Int) + b)], inp, []⟩ = _
      rw [hw1]; rfl
    · show Res.go ⟨3, [w64 ((a : Int) - b)], inp, []⟩ = _
      rw [hw2]; rfl
    · show Res.go ⟨3, [if (a : Int) < (b : Int) then 1 else 0], inp, []⟩ = Res.go ⟨3, [if a < b then 1 else 0], inp, []⟩
      congr 3
      by_cases h : a < b
      · rw [if_pos h, if_pos (by omega)]
      · rw [if_neg h, if_neg (by omega)]
  have s4 : stepM (calcL a b o) ⟨3, [calcW a b o], inp, []⟩ = .go ⟨4, [], inp, [UInt8.ofNat (calcW a b o % 256).toNat]⟩ := rfl
  have s5 : stepM (calcL a b o) ⟨4, [], inp, [UInt8.ofNat (calcW a b o % 256).toNat]⟩ = .halt := rfl
  unfold runOf
  rw [runM_next s1, runM_next s2, runM_next s3, runM_next s4, runM_stop s5]
/-- The loop. -/
def loopL (a : Nat) : List Ins := [⟨0, 9, 0⟩, ⟨1, 1, 0⟩, ⟨2, 0, 0⟩, ⟨5, 6, 0⟩, ⟨6, 8, 17⟩, ⟨9, 0, a⟩, ⟨12, 4, 0⟩, ⟨13, 10, 0⟩, ⟨14, 7, 0⟩, ⟨17, 3, 0⟩, ⟨18, 11, 0⟩]
def loopC (a : Nat) : List UInt8 := [9, 1, 0, 0, 0, 6, 8, 0, 17, 0, UInt8.ofNat (a / 256), UInt8.ofNat (a % 256), 4, 10, 7, 0, 0, 3, 11]
theorem loop_formed {a : Nat} (ha : a < 65536) : formed (loopC a) = some (loopL a) := by
  have e : loopC a = flatB (loopL a) := rfl
  rw [e]
  refine formed_flat (by simp [loopL]) ?_ (fun x hx => ?_) (Nat.le_of_ble_eq_true rfl) (fun i hi hl => ?_)
  · exact .cons rfl (Nat.le_of_ble_eq_true rfl) (.cons rfl (Nat.le_of_ble_eq_true rfl) (.cons rfl (Nat.le_of_ble_eq_true rfl) (.cons rfl (Nat.le_of_ble_eq_true rfl) (.cons rfl (Nat.le_of_ble_eq_true rfl) (.cons rfl (Nat.le_of_ble_eq_true rfl) (.cons rfl (Nat.le_of_ble_eq_true rfl) (.cons rfl (Nat.le_of_ble_eq_true rfl) (.cons rfl (Nat.le_of_ble_eq_true rfl) (.cons rfl (Nat.le_of_ble_eq_true rfl) (.cons rfl (Nat.le_of_ble_eq_true rfl) (.nil _)))))))))))
  · have hm : x = ⟨0, 9, 0⟩ ∨ x = ⟨1, 1, 0⟩ ∨ x = ⟨2, 0, 0⟩ ∨ x = ⟨5, 6, 0⟩ ∨ x = ⟨6, 8, 17⟩ ∨ x = ⟨9, 0, a⟩ ∨ x = ⟨12, 4, 0⟩ ∨ x = ⟨13, 10, 0⟩ ∨ x = ⟨14, 7, 0⟩ ∨ x = ⟨17, 3, 0⟩ ∨ x = ⟨18, 11, 0⟩ := by simpa [loopL] using hx
    rcases hm with rfl | rfl | rfl | rfl | rfl | rfl | rfl | rfl | rfl | rfl | rfl <;> exact ⟨(Nat.le_of_ble_eq_true rfl), by first | exact Nat.le_of_ble_eq_true rfl | exact ha, fun h => by first | rfl | cases h⟩
  · have hi' : i < 11 := hi
    have h11 : i = 0 ∨ i = 1 ∨ i = 2 ∨ i = 3 ∨ i = 4 ∨ i = 5 ∨ i = 6 ∨ i = 7 ∨ i = 8 ∨ i = 9 ∨ i = 10 := by omega
    rcases h11 with rfl | rfl | rfl | rfl | rfl | rfl | rfl | rfl | rfl | rfl | rfl
    all_goals first
      | exact absurd (show false = true from hl) (by decide)
      | exact ⟨9, rfl⟩
      | exact ⟨0, rfl⟩
theorem loop_good (a : Nat) : Good (loopL a) := by
  refine good_of_closed (fun i => [some 0, some 1, some 2, some 3, some 2, some 1, some 2, some 1, some 0, some 1, some 0].getD i none) rfl fun i d h => ?_
  have hi : i < 11 := by
    rcases Nat.lt_or_ge i 11 with h1 | h1
    · exact h1
    · rw [List.getD_eq_getElem?_getD, List.getElem?_eq_none (by simpa using h1)] at h
      cases h
  have h11 : i = 0 ∨ i = 1 ∨ i = 2 ∨ i = 3 ∨ i = 4 ∨ i = 5 ∨ i = 6 ∨ i = 7 ∨ i = 8 ∨ i = 9 ∨ i = 10 := by omega
  rcases h11 with rfl | rfl | rfl | rfl | rfl | rfl | rfl | rfl | rfl | rfl | rfl
  all_goals
    injection h with h
    subst h
    refine ⟨(by show _ < 11; decide), (Nat.le_of_ble_eq_true rfl), (Nat.le_of_ble_eq_true rfl), fun h7 h11 => ?_, fun j hl hj => ?_⟩
  all_goals first
    | rfl
    | exact absurd rfl h7
    | exact absurd rfl h11
    | exact absurd (show false = true from hl) (by decide)
    | (have e := hj.symm.trans (show idxOf (loopL a) (loopL a)[4]!.opd = some 9 from rfl); injection e with e; subst e; rfl)
    | (have e := hj.symm.trans (show idxOf (loopL a) (loopL a)[8]!.opd = some 0 from rfl); injection e with e; subst e; rfl)
def addB (a : Nat) (x : UInt8) : UInt8 := UInt8.ofNat (((x.toNat : Int) + (a : Int)) % 256).toNat
theorem loop_run (a : Nat) (ha : a < 65536) : ∀ (inp out : List UInt8) (f n : Nat), out.length + inp.length ≤ 60000 → runM (loopL a) (f + (9 * inp.length + 7)) n ⟨0, [], inp, out⟩ = some (out ++ inp.map (addB a), n + 9 * inp.length + 6)
  | [], out, f, n, _ => by
    have s1 : stepM (loopL a) ⟨0, [], [], out⟩ = .go ⟨1, [-1], [], out⟩ := rfl
    have s2 : stepM (loopL a) ⟨1, [-1], [], out⟩ = .go ⟨2, [-1, -1], [], out⟩ := rfl
    have s3 : stepM (loopL a) ⟨2, [-1, -1], [], out⟩ = .go ⟨3, [0, -1, -1], [], out⟩ := rfl
    have s4 : stepM (loopL a) ⟨3, [0, -1, -1], [], out⟩ = .go ⟨4, [1, -1], [], out⟩ := rfl
    have s5 : stepM (loopL a) ⟨4, [1, -1], [], out⟩ = .go ⟨9, [-1], [], out⟩ := rfl
    have s6 : stepM (loopL a) ⟨9, [-1], [], out⟩ = .go ⟨10, [], [], out⟩ := rfl
    have s7 : stepM (loopL a) ⟨10, [], [], out⟩ = .halt := rfl
    show runM (loopL a) (f + 7) n ⟨0, [], [], out⟩ = _
    rw [runM_next s1, runM_next s2, runM_next s3, runM_next s4, runM_next s5, runM_next s6, runM_stop s7]
    simp
  | b :: r, out, f, n, hl => by
    have hb := b.toNat_lt
    have s1 : stepM (loopL a) ⟨0, [], b :: r, out⟩ = .go ⟨1, [(b.toNat : Int)], r, out⟩ := rfl
    have s2 : stepM (loopL a) ⟨1, [(b.toNat : Int)], r, out⟩ = .go ⟨2, [(b.toNat : Int), (b.toNat : Int)], r, out⟩ := rfl
    have s3 : stepM (loopL a) ⟨2, [(b.toNat : Int), (b.toNat : Int)], r, out⟩ = .go ⟨3, [0, (b.toNat : Int), (b.toNat : Int)], r, out⟩ := rfl
    have s4 : stepM (loopL a) ⟨3, [0, (b.toNat : Int), (b.toNat : Int)], r, out⟩ = .go ⟨4, [0, (b.toNat : Int)], r, out⟩ := by
      show Res.go ⟨4, [if (b.toNat : Int) < 0 then 1 else 0, (b.toNat : Int)], r, out⟩ = _
      rw [if_neg (by omega)]
    have s5 : stepM (loopL a) ⟨4, [0, (b.toNat : Int)], r, out⟩ = .go ⟨5, [(b.toNat : Int)], r, out⟩ := rfl
    have s6 : stepM (loopL a) ⟨5, [(b.toNat : Int)], r, out⟩ = .go ⟨6, [(a : Int), (b.toNat : Int)], r, out⟩ := rfl
    have s7 : stepM (loopL a) ⟨6, [(a : Int), (b.toNat : Int)], r, out⟩ = .go ⟨7, [(b.toNat : Int) + a], r, out⟩ := by
      show Res.go ⟨7, [w64 ((b.toNat : Int) + a)], r, out⟩ = _
      rw [show w64 ((b.toNat : Int) + a) = (b.toNat : Int) + a from IntWalk.i64_in _ (by omega)]
    have s8 : stepM (loopL a) ⟨7, [(b.toNat : Int) + a], r, out⟩ = .go ⟨8, [], r, out ++ [addB a b]⟩ := by
      rw [step10 rfl, if_neg (by simp at hl; omega)]
      rfl
    have s9 : stepM (loopL a) ⟨8, [], r, out ++ [addB a b]⟩ = .go ⟨0, [], r, out ++ [addB a b]⟩ := rfl
    have ih := loop_run a ha r (out ++ [addB a b]) f (n + 1 + 1 + 1 + 1 + 1 + 1 + 1 + 1 + 1) (by simp at hl ⊢; omega)
    rw [show f + (9 * (b :: r).length + 7) = (f + (9 * r.length + 7)) + 1 + 1 + 1 + 1 + 1 + 1 + 1 + 1 + 1 by simp; omega]
    rw [runM_next s1, runM_next s2, runM_next s3, runM_next s4, runM_next s5, runM_next s6, runM_next s7, runM_next s8, runM_next s9, ih]
    simp
    omega
theorem loop_runOf (a : Nat) (ha : a < 65536) (inp : List UInt8) (hl : inp.length ≤ 200) : runOf (loopL a) inp 5000 = some (inp.map (addB a), 9 * inp.length + 7) := by
  have h := loop_run a ha inp [] (5000 - (9 * inp.length + 7)) 1 (by simp; omega)
  rw [show 5000 - (9 * inp.length + 7) + (9 * inp.length + 7) = 5000 by omega] at h
  unfold runOf
  rw [h]
  simp
  omega
end Go.Proofs.YtainohbfcehpoaaDoor
namespace Go.Proofs.YtainohbfcehpoaaDoor
open Go.RowKit Go.Shelf

theorem extract_take (s : List UInt8) (n : Nat) : (str s).extract 0 n = str (s.take n) := by
  have := extract_mid s 0 n
  simpa using this
theorem conv_new (W : World) (xs : List Int) (n : Nat) (hn : n = xs.length) (g : Nat) (hg : g = W.heap.size) : (convert 46 9 (.slice (some ⟨g, 0, none⟩) n n)).run Tryd.prog (W.alloc (.cells (xs.map (Value.int .u8)).toArray 5)) = .ok (.string (strOfNums xs)) (W.alloc (.cells (xs.map (Value.int .u8)).toArray 5)) := by
  subst hn hg
  refine run_convert_bytes_arg (P := Tryd.prog) _ 46 5 Tryd.underlying46 Tryd.underlying5 W.heap.size 0 xs.length xs.length xs rfl (fun i hi => ?_) 9 Tryd.underlying9
  have hA : Arr (W.alloc (.cells (xs.map (Value.int .u8)).toArray 5)) W.heap.size 5 (xs.map (Value.int .u8)) := Arr.new rfl rfl
  rw [Nat.zero_add]
  refine hA.cell ?_
  rw [List.getElem?_map, List.getElem?_eq_getElem hi, List.getD_eq_getElem?_getD, List.getElem?_eq_getElem hi]
  rfl
theorem strOfNums_one (z : Int) (h : 0 ≤ z) : strOfNums [z] = str [UInt8.ofNat z.toNat] := by
  have := strOfNums_nats [z.toNat]
  simp only [List.map_cons, List.map_nil] at this
  rw [← this, Int.toNat_of_nonneg h]
set_option maxRecDepth 100000 in
set_option maxHeartbeats 8000000 in
theorem Calculates_walk (a b : Nat) (op : Int) (inp : List UInt8) (w : World) (ha : a < 65536) (hb : b < 65536) (hop : I64 op) (hi : inp.length ≤ 9223372036854775807) (hE : Env w) :
    Calls Tryd.prog 10 #[.int .u16 (a : Int), .int .u16 (b : Int), .int .i64 op, .string (str inp)] w fun e w' => e = .returned (.bool true) ∧ Below w.heap.size w w' := by
  have hsn := Lib.hid (sane_any w hE)
  have hex := extract_take inp
  have hps := str_size inp
  have hmn : (min (inp.length : Int) 200).toNat = min inp.length 200 := by omega
  have hm1 : (0 : Int) ≤ min (inp.length : Int) 200 := by omega
  have hm2 : min (inp.length : Int) 200 ≤ (inp.length : Int) := by omega
  have hpk := fun w => pick_any op 3 w hop (by omega) (by omega)
  have hpl := pickv_lt op 3 (by omega)
  obtain ⟨i2, hi2⟩ : ∃ i2, i2 = inp.take (min inp.length 200) := ⟨_, rfl⟩
  have hil : i2.length ≤ 200 := by rw [hi2, List.length_take]; omega
  replace hi2 := Lib.hid hi2
  generalize pickv op 3 = pk at *
  have hc1 := fun W => conv_new W [0, (a : Int) / 256, (a : Int) % 256, 0, (b : Int) / 256, (b : Int) % 256] 6 rfl
  rw [show strOfNums [0, (a : Int) / 256, (a : Int) % 256, 0, (b : Int) / 256, (b : Int) % 256] = str [0, UInt8.ofNat (a / 256), UInt8.ofNat (a % 256), 0, UInt8.ofNat (b / 256), UInt8.ofNat (b % 256)] from strOfNums_nats [0, a / 256, a % 256, 0, b / 256, b % 256]] at hc1
  have hc3 := fun W => conv_new W [9, 1, 0, 0, 0, 6, 8, 0, 17, 0, (a : Int) / 256, (a : Int) % 256, 4, 10, 7, 0, 0, 3, 11] 19 rfl
  rw [show strOfNums [9, 1, 0, 0, 0, 6, 8, 0, 17, 0, (a : Int) / 256, (a : Int) % 256, 4, 10, 7, 0, 0, 3, 11] = str (loopC a) from strOfNums_nats [9, 1, 0, 0, 0, 6, 8, 0, 17, 0, a / 256, a % 256, 4, 10, 7, 0, 0, 3, 11]] at hc3
  simp only [List.map_cons, List.map_nil] at hc1 hc3
  have hR2 := fun w hO => (Run_any (loopC a) i2 5000 w (by show 19 ≤ 1000000; decide) (by omega) hO ⟨by decide, by decide⟩).mono fun e w' h => And.intro (run_yes h (loop_formed ha) (loop_good a) (by decide) (by decide)) h.2
  rw [show (5000 : Int).toNat = 5000 from rfl, loop_runOf a ha i2 hil] at hR2
  unfold runE at hR2
  dsimp only at hR2
  have hR1 := fun o w hO (ho : o = 4 ∨ o = 5 ∨ o = 6) => (Run_any (calcC a b o) i2 100 w (by show 9 ≤ 1000000; decide) (by omega) hO ⟨by decide, by decide⟩).mono fun e w' h => And.intro (run_yes h (calc_formed ha hb ho) (calc_good ho) (by decide) (by decide)) h.2
  simp only [show (100 : Int).toNat = 100 from rfl] at hR1
  have hwA : IntKind.i64.wrap ((a : Int) + (b : Int)) = (a : Int) + (b : Int) := IntWalk.i64_in _ (by omega)
  have hwS : IntKind.i64.wrap ((a : Int) - (b : Int)) = (a : Int) - (b : Int) := IntWalk.i64_in _ (by omega)
  have hadd := fun o => add_str [0, UInt8.ofNat (a / 256), UInt8.ofNat (a % 256), 0, UInt8.ofNat (b / 256), UInt8.ofNat (b % 256)] [UInt8.ofNat o, 10, 11] (by simp only [List.length_cons, List.length_nil]; omega)
  have hcc : ∀ o, [0, UInt8.ofNat (a / 256), UInt8.ofNat (a % 256), 0, UInt8.ofNat (b / 256), UInt8.ofNat (b % 256)] ++ [UInt8.ofNat o, 10, 11] = calcC a b o := fun _ => rfl
  simp only [hcc] at hadd
  have hfm : [0, UInt8.ofNat (a / 256), UInt8.ofNat (a % 256), 0, UInt8.ofNat (b / 256), UInt8.ofNat (b % 256)].length = 6 := rfl
  obtain ⟨p1, hp1⟩ : ∃ p1, p1 = [0, UInt8.ofNat (a / 256), UInt8.ofNat (a % 256), 0, UInt8.ofNat (b / 256), UInt8.ofNat (b % 256)] := ⟨_, rfl⟩
  rw [← hp1] at hc1
  simp only [← hp1] at hadd
  obtain ⟨lc, hlc⟩ : ∃ lc, lc = loopC a := ⟨_, rfl⟩
  rw [← hlc] at hc3
  simp only [← hlc] at hR2
  replace hp1 := Lib.hid hp1
  replace hlc := Lib.hid hlc
  clear hcc hfm
  replace hc3 := Lib.hid hc3
  replace hR2 := Lib.hid hR2
  have hmain : ∀ o, (o = 4 ∨ o = 5 ∨ o = 6) → True := fun _ _ => trivial
  clear hmain
  replace hpk := Lib.hid hpk
  have hpk3 : pk = 0 ∨ pk = 1 ∨ pk = 2 := by omega
  rcases hpk3 with rfl | rfl | rfl
  · skip
    have hR := fun w hO => (hR1 4 w hO (.inl rfl))
    rw [calc_run ha hb (.inl rfl)] at hR
    unfold runE at hR
    dsimp only at hR
    rw [show calcW a b 4 = (a : Int) + (b : Int) from by unfold calcW; rfl] at hR
    have hadd4 := hadd 4
    obtain ⟨cc, hcc⟩ : ∃ cc, cc = calcC a b 4 := ⟨_, rfl⟩
    rw [← hcc] at hadd4
    simp only [← hcc] at hR
    replace hcc := Lib.hid hcc
    have hc2 := fun W => conv_new W [4, 10, 11] 3 rfl
    rw [show strOfNums [4, 10, 11] = str [UInt8.ofNat 4, 10, 11] from strOfNums_nats [4, 10, 11]] at hc2
    have hc4 := fun W => conv_new W [((a : Int) + (b : Int)) % 256] 1 rfl
    rw [strOfNums_one (((a : Int) + (b : Int)) % 256) (by omega)] at hc4
    obtain ⟨p2, hp2⟩ : ∃ p2, p2 = [UInt8.ofNat 4, 10, 11] := ⟨_, rfl⟩
    rw [← hp2] at hadd4 hc2
    replace hp2 := Lib.hid hp2
    simp only [List.map_cons, List.map_nil] at hc2 hc4
    obtain ⟨wb, hwb⟩ : ∃ wb, wb = UInt8.ofNat (((a : Int) + (b : Int)) % 256).toNat := ⟨_, rfl⟩
    rw [← hwb] at hc4
    simp only [← hwb] at hR
    replace hwb := Lib.hid hwb
    replace hR := Lib.hid hR
    clear hR1 hadd
    go_enter Tryd.func10, Tryd.ntmps10
    go_wp2_with fail
    refine hsn.out.mono ?_
    rintro e w1 ⟨rfl, hb1⟩
    have hE1 := hE.below hb1
    go_wp2_with fail
    refine (hpk.out _).mono ?_
    rintro e w2 ⟨rfl, rfl⟩
    rw [← hi2.out]
    have hps2 : (str i2).size = i2.length := str_size i2
    have hPG : ∀ j (h : j < (str i2).size), (((str i2)[j].toNat : Nat) : Int) = (i2[j]!.toNat : Nat) := fun j h => by
      rw [getElem!_pos i2 j (by rw [str_size] at h; exact h)]
      show (((str i2).data[j]'_ : UInt8).toNat : Int) = _
      simp [str]
    generalize str i2 = P at *
    replace hPG := Lib.hid hPG
    go_wp2_with fail
    obtain ⟨w3, hw3⟩ : ∃ w3, w3 = (w2.alloc (.cells #[.int .u8 0, .int .u8 ((a : Int) / 256), .int .u8 ((a : Int) % 256), .int .u8 0, .int .u8 ((b : Int) / 256), .int .u8 ((b : Int) % 256)] 5)).alloc (.cells #[.int .u8 4, .int .u8 10, .int .u8 11] 5) := ⟨_, rfl⟩
    have hB3 : Below w.heap.size w w3 := by rw [hw3]; exact (hb1.alloc hb1.size _).alloc (by have := hb1.size; simp; omega) _
    rw [← hw3]
    clear hw3
    refine (hR.out _ (hE.below hB3).ops).mono ?_
    rintro e w4 ⟨rfl, hb4⟩
    have hB4 := hB3.trans (hb4.mono hB3.size)
    have hc3' := hc3.out
    go_wp2_with fail
    refine name_calls ?_
    intro w5 hw5
    have hB5 : Below w.heap.size w w5 := by rw [hw5]; exact (hB4.alloc hB4.size _).alloc (by have := hB4.size; simp; omega) _
    clear hw5 hc3' hc1 hc2 hc4 hR hadd4
    refine (hR2.out _ (hE.below hB5).ops).mono ?_
    rintro e w6 ⟨rfl, hb6⟩
    have hB6 := hB5.trans (hb6.mono hB5.size)
    go_wp2_with fail
    go_loopw [19, 20] (fun v i wr => ∃ k : Nat, k ≤ i2.length ∧ i = .int .i64 (k : Int) ∧ Hid (wr.ownsRow w.heap.size 5 1 v k (u8C ((i2.take k).map (addB a))) ∧ Below w.heap.size w wr)) (fun _ i _ => i2.length - (intOf i).toNat)
    case atStart => exact ⟨0, Nat.zero_le _, rfl, (show Hid _ from ⟨World.ownsRow_nil _ _ _ _, hB6⟩)⟩
    case round =>
      obtain ⟨k, hk, rfl, hall⟩ := hrel
      obtain ⟨hrow, hBr⟩ := hall.out
      clear hall hB6 hb6
      obtain ⟨vo, vc, rfl⟩ := own_val hrow
      by_cases hlt : k < i2.length
      · have hd : decide ((k : Int) < (i2.length : Int)) = true := by simpa using hlt
        have hj0 : k < P.size := by omega
        have hg := hPG.out k hj0
        have hx := (i2[k]!).toNat_lt
        have htk : (i2.take (k + 1)).map (addB a) = (i2.take k).map (addB a) ++ [addB a i2[k]!] := by
          rw [List.take_succ_eq_append_getElem hlt, List.map_append, getElem!_pos i2 k hlt]
          rfl
        have hbn : (((addB a i2[k]!).toNat : Nat) : Int) = ((i2[k]!.toNat : Int) + (a : Int)) % 256 := by unfold addB; rw [UInt8.toNat_ofNat']; omega
        have hal : Below wr.heap.size wr (wr.alloc (.cells #[.int .u8 ((addB a i2[k]!).toNat : Int)] 5)) := (Below.refl _ _).alloc (Nat.le_refl _) _
        obtain ⟨v', w7, m7, hrun, hm7, hown7, hgr7⟩ := append_bytes (wr.alloc (.cells #[.int .u8 ((addB a i2[k]!).toNat : Int)] 5)) w.heap.size _ ((i2.take k).map (addB a)) [addB a i2[k]!] k (by simp; omega) (own_below hrow hal) wr.heap.size 1 rfl (Arr.new rfl rfl) (by simp; omega) (by simp) (by have := hBr.size; simp; omega)
        have hB7 : Below w.heap.size w w7 := grown_below (hBr.alloc hBr.size _) (own_below hrow hal) hgr7 (Nat.le_refl _) (by have := hBr.size; simp; omega)
        have hmk : m7 = k + 1 := by rw [hm7]; simp; omega
        subst hmk
        rw [← htk] at hown7
        obtain ⟨va7, vc7, rfl⟩ := own_val hown7
        generalize addB a i2[k]! = bz at *
        generalize (i2[k]!).toNat = xz at *
        have hwx : IntKind.i64.wrap ((xz : Int) + (a : Int)) = (xz : Int) + (a : Int) := IntWalk.i64_in _ (by omega)
        have hwy : IntKind.u8.wrap ((xz : Int) + (a : Int)) = (bz.toNat : Int) := by rw [hbn]; simp [IntKind.wrap, IntKind.bits, IntKind.signed]
        have hwz : ((xz : Int) + (a : Int)) % 256 = (bz.toNat : Int) := hbn.symm
        have hw1k : IntKind.i64.wrap ((k : Int) + 1) = ((k + 1 : Nat) : Int) := by rw [Int.natCast_succ]; exact IntWalk.i64_in _ (by omega)
        replace hrun := Lib.hid hrun
        replace hbn := Lib.hid hbn
        replace htk := Lib.hid htk
        replace hown7 := Lib.hid hown7
        clear hrow hgr7 hal hm7
        go_wp2_with (at_builtin; go_loud (refine wpList_append_known rfl _ _ _ _ rfl _ _ rfl rfl hrun.out ?_))
        refine ⟨⟨k + 1, by omega, by first | rfl | go_num, (show Hid _ from ⟨hown7.out, hB7⟩)⟩, by simp [intOf]; omega⟩
      · have hd : decide ((k : Int) < (i2.length : Int)) = false := by simpa using hlt
        obtain rfl : k = i2.length := by omega
        rw [List.take_length] at hrow
        have hcv : (convert 46 9 (.slice vo i2.length vc)).run Tryd.prog wr = .ok (.string (str (i2.map (addB a)))) wr := conv_u8 (out := i2.map (addB a)) (by rw [List.length_map]; exact hrow)
        have hw9 : IntKind.i64.wrap (9 * (i2.length : Int)) = 9 * (i2.length : Int) := IntWalk.i64_in _ (by omega)
        have hw7 : IntKind.i64.wrap (9 * (i2.length : Int) + 7) = 9 * (i2.length : Int) + 7 := IntWalk.i64_in _ (by omega)
        generalize i2.map (addB a) = mp at *
        clear hrow
        go_wp2_with fail
        go_ret
        exact ⟨rfl, hBr⟩
  · skip
    have hR := fun w hO => (hR1 5 w hO (.inr (.inl rfl)))
    rw [calc_run ha hb (.inr (.inl rfl))] at hR
    unfold runE at hR
    dsimp only at hR
    rw [show calcW a b 5 = (a : Int) - (b : Int) from by unfold calcW; rfl] at hR
    have hadd4 := hadd 5
    obtain ⟨cc, hcc⟩ : ∃ cc, cc = calcC a b 5 := ⟨_, rfl⟩
    rw [← hcc] at hadd4
    simp only [← hcc] at hR
    replace hcc := Lib.hid hcc
    have hc2 := fun W => conv_new W [5, 10, 11] 3 rfl
    rw [show strOfNums [5, 10, 11] = str [UInt8.ofNat 5, 10, 11] from strOfNums_nats [5, 10, 11]] at hc2
    have hc4 := fun W => conv_new W [((a : Int) - (b : Int)) % 256] 1 rfl
    rw [strOfNums_one (((a : Int) - (b : Int)) % 256) (by omega)] at hc4
    obtain ⟨p2, hp2⟩ : ∃ p2, p2 = [UInt8.ofNat 5, 10, 11] := ⟨_, rfl⟩
    rw [← hp2] at hadd4 hc2
    replace hp2 := Lib.hid hp2
    simp only [List.map_cons, List.map_nil] at hc2 hc4
    obtain ⟨wb, hwb⟩ : ∃ wb, wb = UInt8.ofNat (((a : Int) - (b : Int)) % 256).toNat := ⟨_, rfl⟩
    rw [← hwb] at hc4
    simp only [← hwb] at hR
    replace hwb := Lib.hid hwb
    replace hR := Lib.hid hR
    clear hR1 hadd
    go_enter Tryd.func10, Tryd.ntmps10
    go_wp2_with fail
    refine hsn.out.mono ?_
    rintro e w1 ⟨rfl, hb1⟩
    have hE1 := hE.below hb1
    go_wp2_with fail
    refine (hpk.out _).mono ?_
    rintro e w2 ⟨rfl, rfl⟩
    rw [← hi2.out]
    have hps2 : (str i2).size = i2.length := str_size i2
    have hPG : ∀ j (h : j < (str i2).size), (((str i2)[j].toNat : Nat) : Int) = (i2[j]!.toNat : Nat) := fun j h => by
      rw [getElem!_pos i2 j (by rw [str_size] at h; exact h)]
      show (((str i2).data[j]'_ : UInt8).toNat : Int) = _
      simp [str]
    generalize str i2 = P at *
    replace hPG := Lib.hid hPG
    go_wp2_with fail
    obtain ⟨w3, hw3⟩ : ∃ w3, w3 = (w2.alloc (.cells #[.int .u8 0, .int .u8 ((a : Int) / 256), .int .u8 ((a : Int) % 256), .int .u8 0, .int .u8 ((b : Int) / 256), .int .u8 ((b : Int) % 256)] 5)).alloc (.cells #[.int .u8 5, .int .u8 10, .int .u8 11] 5) := ⟨_, rfl⟩
    have hB3 : Below w.heap.size w w3 := by rw [hw3]; exact (hb1.alloc hb1.size _).alloc (by have := hb1.size; simp; omega) _
    rw [← hw3]
    clear hw3
    refine (hR.out _ (hE.below hB3).ops).mono ?_
    rintro e w4 ⟨rfl, hb4⟩
    have hB4 := hB3.trans (hb4.mono hB3.size)
    have hc3' := hc3.out
    go_wp2_with fail
    refine name_calls ?_
    intro w5 hw5
    have hB5 : Below w.heap.size w w5 := by rw [hw5]; exact (hB4.alloc hB4.size _).alloc (by have := hB4.size; simp; omega) _
    clear hw5 hc3' hc1 hc2 hc4 hR hadd4
    refine (hR2.out _ (hE.below hB5).ops).mono ?_
    rintro e w6 ⟨rfl, hb6⟩
    have hB6 := hB5.trans (hb6.mono hB5.size)
    go_wp2_with fail
    go_loopw [19, 20] (fun v i wr => ∃ k : Nat, k ≤ i2.length ∧ i = .int .i64 (k : Int) ∧ Hid (wr.ownsRow w.heap.size 5 1 v k (u8C ((i2.take k).map (addB a))) ∧ Below w.heap.size w wr)) (fun _ i _ => i2.length - (intOf i).toNat)
    case atStart => exact ⟨0, Nat.zero_le _, rfl, (show Hid _ from ⟨World.ownsRow_nil _ _ _ _, hB6⟩)⟩
    case round =>
      obtain ⟨k, hk, rfl, hall⟩ := hrel
      obtain ⟨hrow, hBr⟩ := hall.out
      clear hall hB6 hb6
      obtain ⟨vo, vc, rfl⟩ := own_val hrow
      by_cases hlt : k < i2.length
      · have hd : decide ((k : Int) < (i2.length : Int)) = true := by simpa using hlt
        have hj0 : k < P.size := by omega
        have hg := hPG.out k hj0
        have hx := (i2[k]!).toNat_lt
        have htk : (i2.take (k + 1)).map (addB a) = (i2.take k).map (addB a) ++ [addB a i2[k]!] := by
          rw [List.take_succ_eq_append_getElem hlt, List.map_append, getElem!_pos i2 k hlt]
          rfl
        have hbn : (((addB a i2[k]!).toNat : Nat) : Int) = ((i2[k]!.toNat : Int) + (a : Int)) % 256 := by unfold addB; rw [UInt8.toNat_ofNat']; omega
        have hal : Below wr.heap.size wr (wr.alloc (.cells #[.int .u8 ((addB a i2[k]!).toNat : Int)] 5)) := (Below.refl _ _).alloc (Nat.le_refl _) _
        obtain ⟨v', w7, m7, hrun, hm7, hown7, hgr7⟩ := append_bytes (wr.alloc (.cells #[.int .u8 ((addB a i2[k]!).toNat : Int)] 5)) w.heap.size _ ((i2.take k).map (addB a)) [addB a i2[k]!] k (by simp; omega) (own_below hrow hal) wr.heap.size 1 rfl (Arr.new rfl rfl) (by simp; omega) (by simp) (by have := hBr.size; simp; omega)
        have hB7 : Below w.heap.size w w7 := grown_below (hBr.alloc hBr.size _) (own_below hrow hal) hgr7 (Nat.le_refl _) (by have := hBr.size; simp; omega)
        have hmk : m7 = k + 1 := by rw [hm7]; simp; omega
        subst hmk
        rw [← htk] at hown7
        obtain ⟨va7, vc7, rfl⟩ := own_val hown7
        generalize addB a i2[k]! = bz at *
        generalize (i2[k]!).toNat = xz at *
        have hwx : IntKind.i64.wrap ((xz : Int) + (a : Int)) = (xz : Int) + (a : Int) := IntWalk.i64_in _ (by omega)
        have hwy : IntKind.u8.wrap ((xz : Int) + (a : Int)) = (bz.toNat : Int) := by rw [hbn]; simp [IntKind.wrap, IntKind.bits, IntKind.signed]
        have hwz : ((xz : Int) + (a : Int)) % 256 = (bz.toNat : Int) := hbn.symm
        have hw1k : IntKind.i64.wrap ((k : Int) + 1) = ((k + 1 : Nat) : Int) := by rw [Int.natCast_succ]; exact IntWalk.i64_in _ (by omega)
        replace hrun := Lib.hid hrun
        replace hbn := Lib.hid hbn
        replace htk := Lib.hid htk
        replace hown7 := Lib.hid hown7
        clear hrow hgr7 hal hm7
        go_wp2_with (at_builtin; go_loud (refine wpList_append_known rfl _ _ _ _ rfl _ _ rfl rfl hrun.out ?_))
        refine ⟨⟨k + 1, by omega, by first | rfl | go_num, (show Hid _ from ⟨hown7.out, hB7⟩)⟩, by simp [intOf]; omega⟩
      · have hd : decide ((k : Int) < (i2.length : Int)) = false := by simpa using hlt
        obtain rfl : k = i2.length := by omega
        rw [List.take_length] at hrow
        have hcv : (convert 46 9 (.slice vo i2.length vc)).run Tryd.prog wr = .ok (.string (str (i2.map (addB a)))) wr := conv_u8 (out := i2.map (addB a)) (by rw [List.length_map]; exact hrow)
        have hw9 : IntKind.i64.wrap (9 * (i2.length : Int)) = 9 * (i2.length : Int) := IntWalk.i64_in _ (by omega)
        have hw7 : IntKind.i64.wrap (9 * (i2.length : Int) + 7) = 9 * (i2.length : Int) + 7 := IntWalk.i64_in _ (by omega)
        generalize i2.map (addB a) = mp at *
        clear hrow
        go_wp2_with fail
        go_ret
        exact ⟨rfl, hBr⟩
  · by_cases hab : a < b
    · skip
      have hR := fun w hO => (hR1 6 w hO (.inr (.inr rfl)))
      rw [calc_run ha hb (.inr (.inr rfl))] at hR
      unfold runE at hR
      dsimp only at hR
      rw [show calcW a b 6 = (1 : Int) from by unfold calcW; rw [if_neg (by decide), if_neg (by decide), if_pos hab]] at hR
      have hadd4 := hadd 6
      obtain ⟨cc, hcc⟩ : ∃ cc, cc = calcC a b 6 := ⟨_, rfl⟩
      rw [← hcc] at hadd4
      simp only [← hcc] at hR
      replace hcc := Lib.hid hcc
      have hc2 := fun W => conv_new W [6, 10, 11] 3 rfl
      rw [show strOfNums [6, 10, 11] = str [UInt8.ofNat 6, 10, 11] from strOfNums_nats [6, 10, 11]] at hc2
      have hc4 := fun W => conv_new W [(1 : Int)] 1 rfl
      rw [strOfNums_one ((1 : Int)) (by omega)] at hc4
      obtain ⟨p2, hp2⟩ : ∃ p2, p2 = [UInt8.ofNat 6, 10, 11] := ⟨_, rfl⟩
      rw [← hp2] at hadd4 hc2
      replace hp2 := Lib.hid hp2
      simp only [List.map_cons, List.map_nil] at hc2 hc4
      obtain ⟨wb, hwb⟩ : ∃ wb, wb = UInt8.ofNat ((1 : Int)).toNat := ⟨_, rfl⟩
      rw [← hwb] at hc4
      rw [show UInt8.ofNat ((1 : Int) % 256).toNat = wb from hwb.symm] at hR
      replace hwb := Lib.hid hwb
      replace hR := Lib.hid hR
      clear hR1 hadd
      go_enter Tryd.func10, Tryd.ntmps10
      go_wp2_with fail
      refine hsn.out.mono ?_
      rintro e w1 ⟨rfl, hb1⟩
      have hE1 := hE.below hb1
      go_wp2_with fail
      refine (hpk.out _).mono ?_
      rintro e w2 ⟨rfl, rfl⟩
      rw [← hi2.out]
      have hps2 : (str i2).size = i2.length := str_size i2
      have hPG : ∀ j (h : j < (str i2).size), (((str i2)[j].toNat : Nat) : Int) = (i2[j]!.toNat : Nat) := fun j h => by
        rw [getElem!_pos i2 j (by rw [str_size] at h; exact h)]
        show (((str i2).data[j]'_ : UInt8).toNat : Int) = _
        simp [str]
      generalize str i2 = P at *
      replace hPG := Lib.hid hPG
      go_wp2_with fail
      obtain ⟨w3, hw3⟩ : ∃ w3, w3 = (w2.alloc (.cells #[.int .u8 0, .int .u8 ((a : Int) / 256), .int .u8 ((a : Int) % 256), .int .u8 0, .int .u8 ((b : Int) / 256), .int .u8 ((b : Int) % 256)] 5)).alloc (.cells #[.int .u8 6, .int .u8 10, .int .u8 11] 5) := ⟨_, rfl⟩
      have hB3 : Below w.heap.size w w3 := by rw [hw3]; exact (hb1.alloc hb1.size _).alloc (by have := hb1.size; simp; omega) _
      rw [← hw3]
      clear hw3
      refine (hR.out _ (hE.below hB3).ops).mono ?_
      rintro e w4 ⟨rfl, hb4⟩
      have hB4 := hB3.trans (hb4.mono hB3.size)
      have hc3' := hc3.out
      go_wp2_with fail
      refine name_calls ?_
      intro w5 hw5
      have hB5 : Below w.heap.size w w5 := by rw [hw5]; exact (hB4.alloc hB4.size _).alloc (by have := hB4.size; simp; omega) _
      clear hw5 hc3' hc1 hc2 hc4 hR hadd4
      refine (hR2.out _ (hE.below hB5).ops).mono ?_
      rintro e w6 ⟨rfl, hb6⟩
      have hB6 := hB5.trans (hb6.mono hB5.size)
      go_wp2_with fail
      go_loopw [19, 20] (fun v i wr => ∃ k : Nat, k ≤ i2.length ∧ i = .int .i64 (k : Int) ∧ Hid (wr.ownsRow w.heap.size 5 1 v k (u8C ((i2.take k).map (addB a))) ∧ Below w.heap.size w wr)) (fun _ i _ => i2.length - (intOf i).toNat)
      case atStart => exact ⟨0, Nat.zero_le _, rfl, (show Hid _ from ⟨World.ownsRow_nil _ _ _ _, hB6⟩)⟩
      case round =>
        obtain ⟨k, hk, rfl, hall⟩ := hrel
        obtain ⟨hrow, hBr⟩ := hall.out
        clear hall hB6 hb6
        obtain ⟨vo, vc, rfl⟩ := own_val hrow
        by_cases hlt : k < i2.length
        · have hd : decide ((k : Int) < (i2.length : Int)) = true := by simpa using hlt
          have hj0 : k < P.size := by omega
          have hg := hPG.out k hj0
          have hx := (i2[k]!).toNat_lt
          have htk : (i2.take (k + 1)).map (addB a) = (i2.take k).map (addB a) ++ [addB a i2[k]!] := by
            rw [List.take_succ_eq_append_getElem hlt, List.map_append, getElem!_pos i2 k hlt]
            rfl
          have hbn : (((addB a i2[k]!).toNat : Nat) : Int) = ((i2[k]!.toNat : Int) + (a : Int)) % 256 := by unfold addB; rw [UInt8.toNat_ofNat']; omega
          have hal : Below wr.heap.size wr (wr.alloc (.cells #[.int .u8 ((addB a i2[k]!).toNat : Int)] 5)) := (Below.refl _ _).alloc (Nat.le_refl _) _
          obtain ⟨v', w7, m7, hrun, hm7, hown7, hgr7⟩ := append_bytes (wr.alloc (.cells #[.int .u8 ((addB a i2[k]!).toNat : Int)] 5)) w.heap.size _ ((i2.take k).map (addB a)) [addB a i2[k]!] k (by simp; omega) (own_below hrow hal) wr.heap.size 1 rfl (Arr.new rfl rfl) (by simp; omega) (by simp) (by have := hBr.size; simp; omega)
          have hB7 : Below w.heap.size w w7 := grown_below (hBr.alloc hBr.size _) (own_below hrow hal) hgr7 (Nat.le_refl _) (by have := hBr.size; simp; omega)
          have hmk : m7 = k + 1 := by rw [hm7]; simp; omega
          subst hmk
          rw [← htk] at hown7
          obtain ⟨va7, vc7, rfl⟩ := own_val hown7
          generalize addB a i2[k]! = bz at *
          generalize (i2[k]!).toNat = xz at *
          have hwx : IntKind.i64.wrap ((xz : Int) + (a : Int)) = (xz : Int) + (a : Int) := IntWalk.i64_in _ (by omega)
          have hwy : IntKind.u8.wrap ((xz : Int) + (a : Int)) = (bz.toNat : Int) := by rw [hbn]; simp [IntKind.wrap, IntKind.bits, IntKind.signed]
          have hwz : ((xz : Int) + (a : Int)) % 256 = (bz.toNat : Int) := hbn.symm
          have hw1k : IntKind.i64.wrap ((k : Int) + 1) = ((k + 1 : Nat) : Int) := by rw [Int.natCast_succ]; exact IntWalk.i64_in _ (by omega)
          replace hrun := Lib.hid hrun
          replace hbn := Lib.hid hbn
          replace htk := Lib.hid htk
          replace hown7 := Lib.hid hown7
          clear hrow hgr7 hal hm7
          go_wp2_with (at_builtin; go_loud (refine wpList_append_known rfl _ _ _ _ rfl _ _ rfl rfl hrun.out ?_))
          refine ⟨⟨k + 1, by omega, by first | rfl | go_num, (show Hid _ from ⟨hown7.out, hB7⟩)⟩, by simp [intOf]; omega⟩
        · have hd : decide ((k : Int) < (i2.length : Int)) = false := by simpa using hlt
          obtain rfl : k = i2.length := by omega
          rw [List.take_length] at hrow
          have hcv : (convert 46 9 (.slice vo i2.length vc)).run Tryd.prog wr = .ok (.string (str (i2.map (addB a)))) wr := conv_u8 (out := i2.map (addB a)) (by rw [List.length_map]; exact hrow)
          have hw9 : IntKind.i64.wrap (9 * (i2.length : Int)) = 9 * (i2.length : Int) := IntWalk.i64_in _ (by omega)
          have hw7 : IntKind.i64.wrap (9 * (i2.length : Int) + 7) = 9 * (i2.length : Int) + 7 := IntWalk.i64_in _ (by omega)
          generalize i2.map (addB a) = mp at *
          clear hrow
          go_wp2_with fail
          go_ret
          exact ⟨rfl, hBr⟩
    · skip
      have hR := fun w hO => (hR1 6 w hO (.inr (.inr rfl)))
      rw [calc_run ha hb (.inr (.inr rfl))] at hR
      unfold runE at hR
      dsimp only at hR
      rw [show calcW a b 6 = (0 : Int) from by unfold calcW; rw [if_neg (by decide), if_neg (by decide), if_neg hab]] at hR
      have hadd4 := hadd 6
      obtain ⟨cc, hcc⟩ : ∃ cc, cc = calcC a b 6 := ⟨_, rfl⟩
      rw [← hcc] at hadd4
      simp only [← hcc] at hR
      replace hcc := Lib.hid hcc
      have hc2 := fun W => conv_new W [6, 10, 11] 3 rfl
      rw [show strOfNums [6, 10, 11] = str [UInt8.ofNat 6, 10, 11] from strOfNums_nats [6, 10, 11]] at hc2
      have hc4 := fun W => conv_new W [(0 : Int)] 1 rfl
      rw [strOfNums_one ((0 : Int)) (by omega)] at hc4
      obtain ⟨p2, hp2⟩ : ∃ p2, p2 = [UInt8.ofNat 6, 10, 11] := ⟨_, rfl⟩
      rw [← hp2] at hadd4 hc2
      replace hp2 := Lib.hid hp2
      simp only [List.map_cons, List.map_nil] at hc2 hc4
      obtain ⟨wb, hwb⟩ : ∃ wb, wb = UInt8.ofNat ((0 : Int)).toNat := ⟨_, rfl⟩
      rw [← hwb] at hc4
      rw [show UInt8.ofNat ((0 : Int) % 256).toNat = wb from hwb.symm] at hR
      replace hwb := Lib.hid hwb
      replace hR := Lib.hid hR
      clear hR1 hadd
      go_enter Tryd.func10, Tryd.ntmps10
      go_wp2_with fail
      refine hsn.out.mono ?_
      rintro e w1 ⟨rfl, hb1⟩
      have hE1 := hE.below hb1
      go_wp2_with fail
      refine (hpk.out _).mono ?_
      rintro e w2 ⟨rfl, rfl⟩
      rw [← hi2.out]
      have hps2 : (str i2).size = i2.length := str_size i2
      have hPG : ∀ j (h : j < (str i2).size), (((str i2)[j].toNat : Nat) : Int) = (i2[j]!.toNat : Nat) := fun j h => by
        rw [getElem!_pos i2 j (by rw [str_size] at h; exact h)]
        show (((str i2).data[j]'_ : UInt8).toNat : Int) = _
        simp [str]
      generalize str i2 = P at *
      replace hPG := Lib.hid hPG
      go_wp2_with fail
      obtain ⟨w3, hw3⟩ : ∃ w3, w3 = (w2.alloc (.cells #[.int .u8 0, .int .u8 ((a : Int) / 256), .int .u8 ((a : Int) % 256), .int .u8 0, .int .u8 ((b : Int) / 256), .int .u8 ((b : Int) % 256)] 5)).alloc (.cells #[.int .u8 6, .int .u8 10, .int .u8 11] 5) := ⟨_, rfl⟩
      have hB3 : Below w.heap.size w w3 := by rw [hw3]; exact (hb1.alloc hb1.size _).alloc (by have := hb1.size; simp; omega) _
      rw [← hw3]
      clear hw3
      refine (hR.out _ (hE.below hB3).ops).mono ?_
      rintro e w4 ⟨rfl, hb4⟩
      have hB4 := hB3.trans (hb4.mono hB3.size)
      have hc3' := hc3.out
      go_wp2_with fail
      refine name_calls ?_
      intro w5 hw5
      have hB5 : Below w.heap.size w w5 := by rw [hw5]; exact (hB4.alloc hB4.size _).alloc (by have := hB4.size; simp; omega) _
      clear hw5 hc3' hc1 hc2 hc4 hR hadd4
      refine (hR2.out _ (hE.below hB5).ops).mono ?_
      rintro e w6 ⟨rfl, hb6⟩
      have hB6 := hB5.trans (hb6.mono hB5.size)
      go_wp2_with fail
      go_loopw [19, 20] (fun v i wr => ∃ k : Nat, k ≤ i2.length ∧ i = .int .i64 (k : Int) ∧ Hid (wr.ownsRow w.heap.size 5 1 v k (u8C ((i2.take k).map (addB a))) ∧ Below w.heap.size w wr)) (fun _ i _ => i2.length - (intOf i).toNat)
      case atStart => exact ⟨0, Nat.zero_le _, rfl, (show Hid _ from ⟨World.ownsRow_nil _ _ _ _, hB6⟩)⟩
      case round =>
        obtain ⟨k, hk, rfl, hall⟩ := hrel
        obtain ⟨hrow, hBr⟩ := hall.out
        clear hall hB6 hb6
        obtain ⟨vo, vc, rfl⟩ := own_val hrow
        by_cases hlt : k < i2.length
        · have hd : decide ((k : Int) < (i2.length : Int)) = true := by simpa using hlt
          have hj0 : k < P.size := by omega
          have hg := hPG.out k hj0
          have hx := (i2[k]!).toNat_lt
          have htk : (i2.take (k + 1)).map (addB a) = (i2.take k).map (addB a) ++ [addB a i2[k]!] := by
            rw [List.take_succ_eq_append_getElem hlt, List.map_append, getElem!_pos i2 k hlt]
            rfl
          have hbn : (((addB a i2[k]!).toNat : Nat) : Int) = ((i2[k]!.toNat : Int) + (a : Int)) % 256 := by unfold addB; rw [UInt8.toNat_ofNat']; omega
          have hal : Below wr.heap.size wr (wr.alloc (.cells #[.int .u8 ((addB a i2[k]!).toNat : Int)] 5)) := (Below.refl _ _).alloc (Nat.le_refl _) _
          obtain ⟨v', w7, m7, hrun, hm7, hown7, hgr7⟩ := append_bytes (wr.alloc (.cells #[.int .u8 ((addB a i2[k]!).toNat : Int)] 5)) w.heap.size _ ((i2.take k).map (addB a)) [addB a i2[k]!] k (by simp; omega) (own_below hrow hal) wr.heap.size 1 rfl (Arr.new rfl rfl) (by simp; omega) (by simp) (by have := hBr.size; simp; omega)
          have hB7 : Below w.heap.size w w7 := grown_below (hBr.alloc hBr.size _) (own_below hrow hal) hgr7 (Nat.le_refl _) (by have := hBr.size; simp; omega)
          have hmk : m7 = k + 1 := by rw [hm7]; simp; omega
          subst hmk
          rw [← htk] at hown7
          obtain ⟨va7, vc7, rfl⟩ := own_val hown7
          generalize addB a i2[k]! = bz at *
          generalize (i2[k]!).toNat = xz at *
          have hwx : IntKind.i64.wrap ((xz : Int) + (a : Int)) = (xz : Int) + (a : Int) := IntWalk.i64_in _ (by omega)
          have hwy : IntKind.u8.wrap ((xz : Int) + (a : Int)) = (bz.toNat : Int) := by rw [hbn]; simp [IntKind.wrap, IntKind.bits, IntKind.signed]
          have hwz : ((xz : Int) + (a : Int)) % 256 = (bz.toNat : Int) := hbn.symm
          have hw1k : IntKind.i64.wrap ((k : Int) + 1) = ((k + 1 : Nat) : Int) := by rw [Int.natCast_succ]; exact IntWalk.i64_in _ (by omega)
          replace hrun := Lib.hid hrun
          replace hbn := Lib.hid hbn
          replace htk := Lib.hid htk
          replace hown7 := Lib.hid hown7
          clear hrow hgr7 hal hm7
          go_wp2_with (at_builtin; go_loud (refine wpList_append_known rfl _ _ _ _ rfl _ _ rfl rfl hrun.out ?_))
          refine ⟨⟨k + 1, by omega, by first | rfl | go_num, (show Hid _ from ⟨hown7.out, hB7⟩)⟩, by simp [intOf]; omega⟩
        · have hd : decide ((k : Int) < (i2.length : Int)) = false := by simpa using hlt
          obtain rfl : k = i2.length := by omega
          rw [List.take_length] at hrow
          have hcv : (convert 46 9 (.slice vo i2.length vc)).run Tryd.prog wr = .ok (.string (str (i2.map (addB a)))) wr := conv_u8 (out := i2.map (addB a)) (by rw [List.length_map]; exact hrow)
          have hw9 : IntKind.i64.wrap (9 * (i2.length : Int)) = 9 * (i2.length : Int) := IntWalk.i64_in _ (by omega)
          have hw7 : IntKind.i64.wrap (9 * (i2.length : Int) + 7) = 9 * (i2.length : Int) + 7 := IntWalk.i64_in _ (by omega)
          generalize i2.map (addB a) = mp at *
          clear hrow
          go_wp2_with fail
          go_ret
          exact ⟨rfl, hBr⟩
end Go.Proofs.YtainohbfcehpoaaDoor
namespace Go.Proofs.YtainohbfcehpoaaDoor
open Go.RowKit Go.Shelf

theorem conv_one (V : World) (g c : Nat) (h : V.cell? ⟨g, 0, none⟩ = some (.int .u8 (c : Int))) : (convert 46 9 (.slice (some ⟨g, 0, none⟩) 1 1)).run Tryd.prog V = .ok (.string (str [UInt8.ofNat c])) V := by
  have := run_convert_bytes_arg (P := Tryd.prog) V 46 5 Tryd.underlying46 Tryd.underlying5 g 0 1 1 [(c : Int)] rfl (fun i hi => by
    obtain rfl : i = 0 := by simp at hi; omega
    exact h) 9 Tryd.underlying9
  rwa [show strOfNums [(c : Int)] = str [UInt8.ofNat c] from strOfNums_nats [c]] at this
def changedB (l : List UInt8) (at_ : Int) (c : Nat) : List UInt8 := if l = [] then [] else l.take (pickv at_ l.length) ++ [UInt8.ofNat c] ++ l.drop (pickv at_ l.length + 1)
theorem changedB_len (l : List UInt8) (at_ : Int) (c : Nat) : (changedB l at_ c).length = l.length := by
  unfold changedB
  split
  · subst_vars; rfl
  · rename_i h
    have h0 : 1 ≤ l.length := by cases l with | nil => exact absurd rfl h | cons => simp
    have := pickv_lt at_ l.length h0
    simp only [List.length_append, List.length_take, List.length_drop, List.length_singleton]
    omega
set_option maxRecDepth 100000 in
set_option maxHeartbeats 4000000 in
theorem changed_any (l : List UInt8) (at_ : Int) (c : Nat) (w : World) (hl : l.length ≤ 1000000) (ha : I64 at_) :
    Calls Tryd.prog 13 #[.string (str l), .int .i64 at_, .int .u8 (c : Int)] w fun e w' => e = .returned (.string (str (changedB l at_ c))) ∧ Below w.heap.size w w' := by
  by_cases h0 : l = []
  · subst h0
    have hv : Hid (changedB [] at_ c = []) := rfl
    have he : (str []).toList.isEmpty = true := by rw [ByteArray.toList_eq]; rfl
    go_enter Tryd.func13, Tryd.ntmps13
    go_wp2_with fail
    go_ret
    exact ⟨by rw [hv.out]; rfl, Below.refl _ _⟩
  · have hn0 : 1 ≤ l.length := by cases l with | nil => exact absurd rfl h0 | cons => simp
    have hps := str_size l
    have hpk := Lib.hid (pick_any at_ l.length w ha hn0 (by omega))
    have hkl := pickv_lt at_ l.length hn0
    have hv : Hid (changedB l at_ c = l.take (pickv at_ l.length) ++ [UInt8.ofNat c] ++ l.drop (pickv at_ l.length + 1)) := by show _ = _; unfold changedB; rw [if_neg h0]
    generalize pickv at_ l.length = k at *
    have hx1 : (str l).extract 0 k = str (l.take k) := extract_take l k
    have hx2 : (str l).extract (k + 1) l.length = str (l.drop (k + 1)) := by
      have := extract_mid l (k + 1) l.length
      rw [this]
      congr 1
      rw [List.take_of_length_le (by simp)]
    have hcv := fun V g => conv_one V g c
    obtain ⟨t1, g1⟩ : ∃ t, t = l.take k := ⟨_, rfl⟩
    obtain ⟨t2, g2⟩ : ∃ t, t = [UInt8.ofNat c] := ⟨_, rfl⟩
    obtain ⟨t3, g3⟩ : ∃ t, t = l.drop (k + 1) := ⟨_, rfl⟩
    obtain ⟨t4, g4⟩ : ∃ t, t = t1 ++ t2 := ⟨_, rfl⟩
    have hl4 : t4.length ≤ k + 1 := by rw [g4, g1, g2]; simp; omega
    have hl1 : t1.length ≤ k := by rw [g1]; simp; omega
    have hl2 : t2.length = 1 := by rw [g2]; rfl
    have hl3 : t3.length ≤ l.length := by rw [g3]; simp
    rw [← g1, ← g2, ← g3, ← g4] at hv
    rw [← g1] at hx1
    rw [← g2] at hcv
    rw [← g3] at hx2
    have q1 := add_str t1 t2 (by omega)
    rw [← g4] at q1
    have q2 := add_str t4 t3 (by omega)
    have hw1 : IntKind.i64.wrap ((k : Int) + 1) = ((k + 1 : Nat) : Int) := by rw [Int.natCast_succ]; exact IntWalk.i64_in _ (by omega)
    have i1 : (0 : Int) ≤ (k : Int) := by omega
    have i2 : (k : Int) ≤ (l.length : Int) := by omega
    have i3 : (0 : Int) ≤ ((k + 1 : Nat) : Int) := by omega
    have i4 : ((k + 1 : Nat) : Int) ≤ (l.length : Int) := by omega
    have hq : (str l).toList.isEmpty = false := by rw [ByteArray.toList_eq, str_list]; simpa using h0
    replace g1 := Lib.hid g1
    replace g2 := Lib.hid g2
    replace g3 := Lib.hid g3
    replace g4 := Lib.hid g4
    go_enter Tryd.func13, Tryd.ntmps13
    go_wp2_with fail
    refine hpk.out.mono ?_
    rintro e _ ⟨rfl, rfl⟩
    go_wp2_with fail
    go_region
    go_wp2_with fail
    go_ret
    refine ⟨by rw [hv.out]; rfl, ?_⟩
    exact (Below.alloc (Below.refl _ _) (Nat.le_refl _) _).drew
end Go.Proofs.YtainohbfcehpoaaDoor
namespace Go.Proofs.YtainohbfcehpoaaDoor
open Go.RowKit Go.Shelf

theorem conv_two (V : World) (g c d : Nat) (h : V.cell? ⟨g, 0, none⟩ = some (.int .u8 (c : Int))) (h2 : V.cell? ⟨g, 1, none⟩ = some (.int .u8 (d : Int))) : (convert 46 9 (.slice (some ⟨g, 0, none⟩) 2 2)).run Tryd.prog V = .ok (.string (str [UInt8.ofNat c, UInt8.ofNat d])) V := by
  have := run_convert_bytes_arg (P := Tryd.prog) V 46 5 Tryd.underlying46 Tryd.underlying5 g 0 2 2 [(c : Int), (d : Int)] rfl (fun i hi => by
    rcases (show i = 0 ∨ i = 1 by have : i < 2 := hi; omega) with rfl | rfl
    · exact h
    · exact h2) 9 Tryd.underlying9
  rwa [show strOfNums [(c : Int), (d : Int)] = str [UInt8.ofNat c, UInt8.ofNat d] from strOfNums_nats [c, d]] at this
theorem text_len {code : List UInt8} {l : List Ins} (h : formed code = some l) : (textT l).length ≤ 20480 ∧ code.length ≤ 1024 := by
  obtain ⟨hne, hlen, hdec, hLaid, hForm⟩ := formed_parts h
  have hN := (formed_neat h).1
  have hl : l.length ≤ 1024 := by
    have h1 := (evSeq_dec _ code (Nat.le_refl _) 0).1 l hdec
    have h2 := evSeq_len _ code (Nat.le_refl _) 0
    rw [h1, List.length_map] at h2
    omega
  have := prefT_len hForm hN hl l.length (Nat.le_refl _)
  rw [prefT_all] at this
  exact ⟨by omega, hlen⟩
theorem str_neq {a b : List UInt8} (h : a ≠ b) : ((str a).toList == (str b).toList) = false := by
  rw [ByteArray.toList_eq, ByteArray.toList_eq, str_list, str_list]
  simpa using h
theorem str_eqq (a : List UInt8) : ((str a).toList == (str a).toList) = true := beq_self_eq_true _
/-- The made program is formed, good, short. -/
theorem made_facts (zs : List Int) : (∃ l, formed (madeB 0 0 (prs40 zs)) = some l ∧ Good l) ∧ (madeB 0 0 (prs40 zs)).length ≤ 761 := by
  have h := made_formed (prs40 zs) prs40_len prs40_lt
  have h2 := madeB_len (prs40 zs) 0 0
  have h3 := prs40_len (zs := zs)
  exact ⟨⟨_, h.1, h.2⟩, by omega⟩
set_option maxRecDepth 100000 in
set_option maxHeartbeats 8000000 in
theorem RoundTrip_walk (raw : List UInt8) (v : Value) (n : Nat) (zs : List Int) (at_ : Int) (c : Nat) (w : World) (hr : raw.length ≤ 9223372036854775807) (hs : SliceAt w w.heap.size v n (zs.map (Value.int .i64))) (hz : zs.length = n * 2) (hI : ∀ z ∈ zs, I64 z) (ha : I64 at_) (_ : c < 256) (hE : EnvR w) :
    Calls Tryd.prog 8 #[.string (str raw), v, .int .i64 at_, .int .u8 (c : Int)] w fun e w' => e = .returned (.bool true) ∧ Below w.heap.size w w' := by
  have hsn := Lib.hid (sane_any w hE.env)
  have hmd := fun W (hb : Below w.heap.size w W) => Lib.hid (Made_any v n zs W (hs.later hb) hz hI (hE.below hb))
  obtain ⟨⟨ml, hmf, hmg⟩, hml⟩ := made_facts zs
  generalize madeB 0 0 (prs40 zs) = made at *
  have hcl := changedB_len made at_ c
  have hch := fun W => Lib.hid (changed_any made at_ c W (by omega) ha)
  have hex := extract_take raw
  have hps := str_size raw
  have hmn : (min (raw.length : Int) 60).toNat = min raw.length 60 := by omega
  have hm1 : (0 : Int) ≤ min (raw.length : Int) 60 := by omega
  have hm2 : min (raw.length : Int) 60 ≤ (raw.length : Int) := by omega
  have hexm := hex (min raw.length 60)
  have hrl : (raw.take (min raw.length 60)).length ≤ 60 := by rw [List.length_take]; omega
  generalize raw.take (min raw.length 60) = r2 at *
  generalize changedB made at_ c = chg at *
  clear hex
  go_enter Tryd.func8, Tryd.ntmps8
  go_wp2_with fail
  refine hsn.out.mono ?_
  rintro e w1 ⟨rfl, hb1⟩
  go_wp2_with fail
  refine (hmd w1 hb1).out.mono ?_
  rintro e w2 ⟨rfl, hb2⟩
  have hB2 := hb1.trans (hb2.mono hb1.size)
  clear hsn hmd
  go_wp2_with fail
  refine wp_region_held_drew (S := fun w' => True) (by kernel_rfl) (by trivial) (fun hHeld => ?_)
  refine take_l (i := 0) (v := ?_) rfl (by kernel_rfl) (by kernel_rfl) (by kernel_rfl) (fun _ _ _ h => h) (Or.inl ⟨by kernel_rfl, ?_⟩) (by assumption) ?_
  rotate_left
  · intro w hSw; (try dsimp only at hSw); go_simp; (try with_reducible rfl)
  (try simp only [Act.put, List.setIfInBounds_toArray, List.set_cons_zero, List.set_cons_succ])
  refine take_l (i := 1) (v := ?_) rfl (by kernel_rfl) (by kernel_rfl) (by kernel_rfl) (fun _ _ _ h => h) (Or.inl ⟨by kernel_rfl, ?_⟩) (by assumption) ?_
  rotate_left
  · intro w hSw; (try dsimp only at hSw); go_simp; (try with_reducible rfl)
  (try simp only [Act.put, List.setIfInBounds_toArray, List.set_cons_zero, List.set_cons_succ])
  refine take_l (i := 2) (v := ?_) rfl (by kernel_rfl) (by kernel_rfl) (by kernel_rfl) (fun _ _ _ h => h) (Or.inl ⟨by kernel_rfl, ?_⟩) (by assumption) ?_
  rotate_left
  · intro w hSw; (try dsimp only at hSw); go_simp; (try with_reducible rfl)
  (try simp only [Act.put, List.setIfInBounds_toArray, List.set_cons_zero, List.set_cons_succ])
  refine take_l (i := 3) (v := ?_) rfl (by kernel_rfl) (by kernel_rfl) (by kernel_rfl) (fun _ _ _ h => h) (Or.inl ⟨by kernel_rfl, ?_⟩) (by assumption) ?_
  rotate_left
  · intro w hSw; (try dsimp only at hSw); go_simp; (try with_reducible rfl)
  (try simp only [Act.put, List.setIfInBounds_toArray, List.set_cons_zero, List.set_cons_succ])
  refine take_l (i := 4) (v := ?_) rfl (by kernel_rfl) (by kernel_rfl) (by kernel_rfl) (fun _ _ _ h => h) (Or.inl ⟨by kernel_rfl, ?_⟩) (by assumption) ?_
  rotate_left
  · intro w hSw; (try dsimp only at hSw); go_simp; (try with_reducible rfl)
  (try simp only [Act.put, List.setIfInBounds_toArray, List.set_cons_zero, List.set_cons_succ])
  refine take_l (i := 5) (v := ?_) rfl (by kernel_rfl) (by kernel_rfl) (by kernel_rfl) (fun _ _ _ h => h) (Or.inl ⟨by kernel_rfl, ?_⟩) (by assumption) ?_
  rotate_left
  · intro w hSw; (try dsimp only at hSw); go_simp; (try with_reducible rfl)
  (try simp only [Act.put, List.setIfInBounds_toArray, List.set_cons_zero, List.set_cons_succ])
  refine take_l (i := 6) (v := ?_) rfl (by kernel_rfl) (by kernel_rfl) (by kernel_rfl) (fun _ _ _ h => h) (Or.inl ⟨by kernel_rfl, ?_⟩) (by assumption) ?_
  rotate_left
  · intro w hSw; (try dsimp only at hSw); go_simp; (try with_reducible rfl)
  (try simp only [Act.put, List.setIfInBounds_toArray, List.set_cons_zero, List.set_cons_succ])
  refine take_l (i := 7) (v := ?_) rfl (by kernel_rfl) (by kernel_rfl) (by kernel_rfl) (fun _ _ _ h => h) (Or.inl ⟨by kernel_rfl, ?_⟩) (by assumption) ?_
  rotate_left
  · intro w hSw; (try dsimp only at hSw); go_simp; (try with_reducible rfl)
  (try simp only [Act.put, List.setIfInBounds_toArray, List.set_cons_zero, List.set_cons_succ])
  refine take_l (i := 8) (v := ?_) rfl (by kernel_rfl) (by kernel_rfl) (by kernel_rfl) (fun _ _ _ h => h) (Or.inl ⟨by kernel_rfl, ?_⟩) (by assumption) ?_
  rotate_left
  · intro w hSw; (try dsimp only at hSw); go_simp; (try with_reducible rfl)
  (try simp only [Act.put, List.setIfInBounds_toArray, List.set_cons_zero, List.set_cons_succ])
  refine take_l (i := 12) (v := ?_) rfl (by kernel_rfl) (by kernel_rfl) (by kernel_rfl) (fun _ _ _ h => h) (Or.inl ⟨by kernel_rfl, ?_⟩) (by assumption) ?_
  rotate_left
  · intro w hSw; (try dsimp only at hSw); go_simp; (try with_reducible rfl)
  (try simp only [Act.put, List.setIfInBounds_toArray, List.set_cons_zero, List.set_cons_succ])
  refine wpAnyH_ready (rs := [9]) (by kernel_rfl) (by simp) ?_
  refine ready_l rfl (fun K hK => ?_) AllReadyH.nil
  go_simp
  (go_at_call 13; (with_reducible refine ((hch _).out).mono ?_); rintro e vA ⟨rfl, hbvA⟩; have hBvA : Below w2.heap.size w2 vA := Below.trans (by repeat first | with_reducible exact Below.refl _ _ | with_reducible assumption | with_reducible refine below_drewN ?_ _ | with_reducible refine Below.drew ?_ | with_reducible refine Below.setCell ?_ (by first | exact Nat.le_refl _ | (simp; done) | (simp; omega) | omega) _ | with_reducible refine Below.alloc ?_ (by first | exact Nat.le_refl _ | (simp; done) | (simp; omega) | omega) _ | exact Below.refl _ _ | assumption) (hbvA.mono (by first | exact Nat.le_refl _ | assumption | (simp; done) | (simp; omega) | omega)); have hzvA := hbvA.size; )
  refine hK.out _ _ (by trivial) (fun hHeld => ?_)
  clear hK K
  (try simp only [Act.put, List.setIfInBounds_toArray, List.set_cons_zero, List.set_cons_succ])
  refine wpAnyH_ready (rs := [10]) (by kernel_rfl) (by simp) ?_
  refine ready_l rfl (fun K hK => ?_) AllReadyH.nil
  go_simp
  refine hK.out _ _ (by trivial) (fun hHeld => ?_)
  clear hK K
  (try simp only [Act.put, List.setIfInBounds_toArray, List.set_cons_zero, List.set_cons_succ])
  refine take_l (i := 11) (v := ?_) rfl (by kernel_rfl) (by kernel_rfl) (by kernel_rfl) (fun _ _ _ h => h) (Or.inl ⟨by kernel_rfl, ?_⟩) (by assumption) ?_
  rotate_left
  · intro w hSw; (try dsimp only at hSw); go_simp; (try with_reducible rfl)
  (try simp only [Act.put, List.setIfInBounds_toArray, List.set_cons_zero, List.set_cons_succ])
  refine wpAnyH_done (by kernel_rfl) ?_ _
  have hBA : Below w.heap.size w vA := hB2.trans (hBvA.mono hB2.size)
  have hg1 := hBA.size
  obtain ⟨g, hg⟩ : ∃ g, g = vA.heap.size := ⟨_, rfl⟩
  obtain ⟨W, hW⟩ : ∃ W, W = vA.alloc (Obj.cells #[Value.string (str r2), Value.string (str made), Value.string (str chg)] 9) := ⟨_, rfl⟩
  have hA : Arr W g 9 [.string (str r2), .string (str made), .string (str chg)] := by rw [hW, hg]; exact Arr.new rfl rfl
  have hBW : Below w.heap.size w W := by rw [hW]; exact hBA.alloc hBA.size _
  rw [← hW, ← hg]
  clear hW hg hBA hg1 hBvA hB2 hb2 hb1 hch
  have hgW := hA.lt
  go_wp2_with fail
  go_loopw [39] (fun i wr => ∃ k : Nat, k ≤ 3 ∧ i = .int .i64 (k : Int) ∧ Hid (Below W.heap.size W wr)) (fun i _ => 3 - (intOf i).toNat)
  case atStart => exact ⟨0, Nat.zero_le _, rfl, (show Hid _ from Below.refl _ _)⟩
  case round =>
    obtain ⟨k, hk, rfl, hall⟩ := hrel
    have hBr := hall.out
    clear hall
    by_cases hlt : k < 3
    · have hd : decide ((k : Int) < 3) = true := by simp; omega
      have hAr : Arr wr g 9 [.string (str r2), .string (str made), .string (str chg)] := (hBr.block g hgW).trans hA
      obtain ⟨cd, hcd, hcl2⟩ : ∃ cd, wr.cell? ⟨g, k, none⟩ = some (.string (str cd)) ∧ cd.length ≤ 1000 := by
        rcases (show k = 0 ∨ k = 1 ∨ k = 2 by omega) with rfl | rfl | rfl
        · exact ⟨r2, hAr.cell (j := 0) rfl, by omega⟩
        · exact ⟨made, hAr.cell (j := 1) rfl, by omega⟩
        · exact ⟨chg, hAr.cell (j := 2) rfl, by omega⟩
      have i2 : 0 ≤ (k : Int) := by omega
      have hBT := hBW.trans (hBr.mono hBW.size)
      have hP := Lib.hid (Print_any cd wr (by omega) (hE.below hBT).env)
      have hw1k : IntKind.i64.wrap ((k : Int) + 1) = ((k + 1 : Nat) : Int) := by rw [Int.natCast_succ]; exact IntWalk.i64_in _ (by omega)
      replace hA := Lib.hid hA
      clear hAr
      cases hf : formed cd with
      | none =>
        have hpr : print8 cd = ([], 80) := by unfold print8; rw [hf]
        rw [hpr] at hP
        dsimp only at hP
        have hee : (str []).toList.isEmpty = true := by rw [ByteArray.toList_eq]; rfl
        have hne : cd ≠ made := fun e => by rw [e, hmf] at hf; cases hf
        have heq := str_neq hne
        have hnf : Hid (∀ l, formed cd = some l → ¬ Good l) := fun l h => by rw [hf] at h; cases h
        clear hpr
        replace hf := Lib.hid hf
        replace hmf := Lib.hid hmf
        go_wp2_with fail
        refine hP.out.mono ?_
        rintro e w3 ⟨rfl, hb3⟩
        have hB3 := hBr.trans (hb3.mono hBr.size)
        have hBT3 := hBW.trans (hB3.mono hBW.size)
        have hV := Lib.hid (Verify_any cd w3 (by omega) (hE.below hBT3).env.ops)
        clear hP hb3
        go_wp2_with fail
        refine hV.out.mono ?_
        rintro e w4 ⟨hvp, hb4⟩
        obtain rfl := vfy_no hvp hnf.out
        have hB4 := hB3.trans (hb4.mono hB3.size)
        clear hV hvp hb4
        go_wp2_with fail
        exact ⟨⟨k + 1, by omega, by first | rfl | go_num, hB4⟩, by simp [intOf]; omega⟩
      | some l =>
        have hpr : print8 cd = (textT l, 0) := by unfold print8; rw [hf]
        obtain ⟨htl, hcl3⟩ := text_len hf
        have hps8 := parse_text hf
        have hz1 : formed (cd ++ [UInt8.ofNat 0, UInt8.ofNat c]) = none := formed_more hf (fun a => by simp [dec, longOp])
        have hz2 : formed (cd ++ [UInt8.ofNat 12]) = none := formed_more hf (fun a => by simp [dec])
        have hp1 : print8 (cd ++ [UInt8.ofNat 0, UInt8.ofNat c]) = ([], 80) := by unfold print8; rw [hz1]
        have hp2 : print8 (cd ++ [UInt8.ofNat 12]) = ([], 80) := by unfold print8; rw [hz2]
        obtain ⟨d1, hd1⟩ : ∃ d, d = [UInt8.ofNat 0, UInt8.ofNat c] := ⟨_, rfl⟩
        obtain ⟨d2, hd2⟩ : ∃ d, d = [UInt8.ofNat 12] := ⟨_, rfl⟩
        have hcv1 := fun V g => conv_two V g 0 c
        have hcv2 := fun V g => conv_one V g 12
        rw [← hd1] at hcv1 hp1
        rw [← hd2] at hcv2 hp2
        have hl1 : d1.length = 2 := by rw [hd1]; rfl
        have hl2 : d2.length = 1 := by rw [hd2]; rfl
        have q1 := add_str cd d1 (by omega)
        have q2 := add_str cd d2 (by omega)
        obtain ⟨c1, hc1⟩ : ∃ d, d = cd ++ d1 := ⟨_, rfl⟩
        obtain ⟨c2, hc2⟩ : ∃ d, d = cd ++ d2 := ⟨_, rfl⟩
        rw [← hc1] at q1 hp1
        rw [← hc2] at q2 hp2
        have hlc1 : c1.length ≤ 1002 := by rw [hc1, List.length_append]; omega
        have hlc2 : c2.length ≤ 1002 := by rw [hc2, List.length_append]; omega
        have heq := str_eqq cd
        rw [hpr] at hP
        dsimp only at hP
        replace hp1 := Lib.hid hp1
        replace hp2 := Lib.hid hp2
        replace hd1 := Lib.hid hd1
        replace hd2 := Lib.hid hd2
        replace hc1 := Lib.hid hc1
        replace hc2 := Lib.hid hc2
        replace hmf := Lib.hid hmf
        replace hps8 := Lib.hid hps8
        generalize textT l = tx at *
        clear hpr hz1 hz2 hf
        go_wp2_with fail
        refine hP.out.mono ?_
        rintro e w3 ⟨rfl, hb3⟩
        have hB3 := hBr.trans (hb3.mono hBr.size)
        have hBT3 := hBW.trans (hB3.mono hBW.size)
        have hV := Lib.hid (Verify_any cd w3 (by omega) (hE.below hBT3).env.ops)
        clear hP hb3
        go_wp2_with fail
        refine hV.out.mono ?_
        rintro e w4 ⟨hvp, hb4⟩
        obtain ⟨x1, x2, rfl⟩ : ∃ x1 x2 : Int, e = .returned (.tuple #[.int .i64 x1, .int .i64 x2]) := by
          rcases hvp with ⟨_, m, _, _, _, h⟩ | ⟨_, h⟩
          · exact ⟨_, _, h⟩
          · exact ⟨_, _, h⟩
        have hB4 := hB3.trans (hb4.mono hB3.size)
        have hBT4 := hBW.trans (hB4.mono hBW.size)
        have hQ := Parse_any tx w4 (by omega) (hE.below hBT4).env
        rw [hps8.out] at hQ
        unfold parV at hQ
        dsimp only at hQ
        replace hQ := Lib.hid hQ
        clear hV hvp hb4
        go_wp2_with fail
        refine hQ.out.mono ?_
        rintro e w5 ⟨rfl, hb5⟩
        have hB5 := hB4.trans (hb5.mono hB4.size)
        clear hQ hb5
        go_wp2_with fail
        refine name_calls ?_
        intro w6 hw6
        have hB6 : Below W.heap.size W w6 := by rw [hw6]; exact hB5.alloc hB5.size _
        have hBT6 := hBW.trans (hB6.mono hBW.size)
        have hQ := Print_any c1 w6 (by omega) (hE.below hBT6).env
        rw [hp1.out] at hQ
        dsimp only at hQ
        refine hQ.mono ?_
        clear hw6 hQ
        rintro e w7 ⟨rfl, hb7⟩
        have hB7 := hB6.trans (hb7.mono hB6.size)
        clear hb7
        go_wp2_with fail
        refine name_calls ?_
        intro w8 hw8
        have hB8 : Below W.heap.size W w8 := by rw [hw8]; exact hB7.alloc hB7.size _
        have hBT8 := hBW.trans (hB8.mono hBW.size)
        have hQ := Print_any c2 w8 (by omega) (hE.below hBT8).env
        rw [hp2.out] at hQ
        dsimp only at hQ
        refine hQ.mono ?_
        clear hw8 hQ
        rintro e w9 ⟨rfl, hb9⟩
        have hB9 := hB8.trans (hb9.mono hB8.size)
        clear hb9
        go_wp2_with fail
        exact ⟨⟨k + 1, by omega, by first | rfl | go_num, hB9⟩, by simp [intOf]; omega⟩
    · have hd : decide ((k : Int) < 3) = false := by simp; omega
      have hBT := hBW.trans (hBr.mono hBW.size)
      go_wp2_with fail
      go_ret
      exact ⟨rfl, hBT⟩
end Go.Proofs.YtainohbfcehpoaaDoor
