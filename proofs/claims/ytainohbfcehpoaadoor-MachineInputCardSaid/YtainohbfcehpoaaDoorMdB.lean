/-
  The contract of the law's helper changed: a text with one byte changed.
-/
import Derived.Test.YtainohbfcehpoaaDoorMdA
import Derived.Test.YtainohbfcehpoaaDoorMbK
namespace Go.Proofs.YtainohbfcehpoaaDoor
open Go.RowKit Go.Shelf

theorem conv_one (V : World) (g c : Nat) (h : V.cell? ⟨g, 0, none⟩ = some (.int .u8 (c : Int))) : (convert 46 9 (.slice (some ⟨g, 0, none⟩) 1 1)).run Tryd.prog V = .ok (.string (str [UInt8.ofNat c])) V := by
  have := run_convert_bytes_arg (P := Tryd.prog) V 46 5 Tryd.underlying46 Tryd.underlying5 g 0 1 1 [(c : Int)] rfl (fun i hi => by
    obtain rfl : i = 0 := by simp at hi; omega
    exact h) 9 Tryd.underlying9
  rwa [show strOfNums [(c : Int)] = str [UInt8.ofNat c] from strOfNums_nats [c]] at this
def changedB (l : List UInt8) (at_ : Int) (c : Nat) : List UInt8 := if l = [] then [] else l.take (pickv at_ l.length) ++ [UInt8.ofNat c] ++ l.drop (pickv at_ l.length + 1)
theorem changedB_len (l : List UInt8) (at_ : Int) (c : Nat) : (changedB l at_ c).length = l.length := by
  unfold changedB
  split
  · subst_vars; rfl
  · rename_i h
    have h0 : 1 ≤ l.length := by cases l with | nil => exact absurd rfl h | cons => simp
    have := pickv_lt at_ l.length h0
    simp only [List.length_append, List.length_take, List.length_drop, List.length_singleton]
    omega
set_option maxRecDepth 100000 in
set_option maxHeartbeats 4000000 in
theorem changed_any (l : List UInt8) (at_ : Int) (c : Nat) (w : World) (hl : l.length ≤ 1000000) (ha : I64 at_) :
    Calls Tryd.prog 13 #[.string (str l), .int .i64 at_, .int .u8 (c : Int)] w fun e w' => e = .returned (.string (str (changedB l at_ c))) ∧ Below w.heap.size w w' := by
  by_cases h0 : l = []
  · subst h0
    have hv : Hid (changedB [] at_ c = []) := rfl
    have he : (str []).toList.isEmpty = true := by rw [ByteArray.toList_eq]; rfl
    go_enter Tryd.func13, Tryd.ntmps13
    go_wp2_with fail
    go_ret
    exact ⟨by rw [hv.out]; rfl, Below.refl _ _⟩
  · have hn0 : 1 ≤ l.length := by cases l with | nil => exact absurd rfl h0 | cons => simp
    have hps := str_size l
    have hpk := Lib.hid (pick_any at_ l.length w ha hn0 (by omega))
    have hkl := pickv_lt at_ l.length hn0
    have hv : Hid (changedB l at_ c = l.take (pickv at_ l.length) ++ [UInt8.ofNat c] ++ l.drop (pickv at_ l.length + 1)) := by show _ = _; unfold changedB; rw [if_neg h0]
    generalize pickv at_ l.length = k at *
    have hx1 : (str l).extract 0 k = str (l.take k) := extract_take l k
    have hx2 : (str l).extract (k + 1) l.length = str (l.drop (k + 1)) := by
      have := extract_mid l (k + 1) l.length
      rw [this]
      congr 1
      rw [List.take_of_length_le (by simp)]
    have hcv := fun V g => conv_one V g c
    obtain ⟨t1, g1⟩ : ∃ t, t = l.take k := ⟨_, rfl⟩
    obtain ⟨t2, g2⟩ : ∃ t, t = [UInt8.ofNat c] := ⟨_, rfl⟩
    obtain ⟨t3, g3⟩ : ∃ t, t = l.drop (k + 1) := ⟨_, rfl⟩
    obtain ⟨t4, g4⟩ : ∃ t, t = t1 ++ t2 := ⟨_, rfl⟩
    have hl4 : t4.length ≤ k + 1 := by rw [g4, g1, g2]; simp; omega
    have hl1 : t1.length ≤ k := by rw [g1]; simp; omega
    have hl2 : t2.length = 1 := by rw [g2]; rfl
    have hl3 : t3.length ≤ l.length := by rw [g3]; simp
    rw [← g1, ← g2, ← g3, ← g4] at hv
    rw [← g1] at hx1
    rw [← g2] at hcv
    rw [← g3] at hx2
    have q1 := add_str t1 t2 (by omega)
    rw [← g4] at q1
    have q2 := add_str t4 t3 (by omega)
    have hw1 : IntKind.i64.wrap ((k : Int) + 1) = ((k + 1 : Nat) : Int) := by rw [Int.natCast_succ]; exact IntWalk.i64_in _ (by omega)
    have i1 : (0 : Int) ≤ (k : Int) := by omega
    have i2 : (k : Int) ≤ (l.length : Int) := by omega
    have i3 : (0 : Int) ≤ ((k + 1 : Nat) : Int) := by omega
    have i4 : ((k + 1 : Nat) : Int) ≤ (l.length : Int) := by omega
    have hq : (str l).toList.isEmpty = false := by rw [ByteArray.toList_eq, str_list]; simpa using h0
    replace g1 := Lib.hid g1
    replace g2 := Lib.hid g2
    replace g3 := Lib.hid g3
    replace g4 := Lib.hid g4
    go_enter Tryd.func13, Tryd.ntmps13
    go_wp2_with fail
    refine hpk.out.mono ?_
    rintro e _ ⟨rfl, rfl⟩
    go_wp2_with fail
    go_region
    go_wp2_with fail
    go_ret
    refine ⟨by rw [hv.out]; rfl, ?_⟩
    exact (Below.alloc (Below.refl _ _) (Nat.le_refl _) _).drew
end Go.Proofs.YtainohbfcehpoaaDoor
