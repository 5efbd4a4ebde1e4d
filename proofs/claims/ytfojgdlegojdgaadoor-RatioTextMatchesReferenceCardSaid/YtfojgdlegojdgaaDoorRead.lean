/-
  The reference's read and Parse.
-/
import Derived.Test.YtfojgdlegojdgaaDoorRefP
namespace Go.Proofs.YtfojgdlegojdgaaDoor
open Go.RowKit

theorem rdgo_snoc (l : List UInt8) (c : UInt8) : rdgo 0 (l ++ [c]) = if 48 ≤ c.toNat ∧ c.toNat ≤ 57 then 10 * rdgo 0 l + (c.toNat - 48) else rdgo 0 l := by
  simp [rdgo]
theorem rdgo_lt (l : List UInt8) : rdgo 0 l < 10 ^ l.length := by
  have h : ∀ (l : List UInt8) (x : Nat), rdgo x l + 1 ≤ (x + 1) * 10 ^ l.length := by
    intro l
    induction l with
    | nil => intro x; simp [rdgo]
    | cons b r ih =>
      intro x
      have e : rdgo x (b :: r) = rdgo (if 48 ≤ b.toNat ∧ b.toNat ≤ 57 then 10 * x + (b.toNat - 48) else x) r := by simp [rdgo]
      rw [e]
      have h1 := ih (if 48 ≤ b.toNat ∧ b.toNat ≤ 57 then 10 * x + (b.toNat - 48) else x)
      have h2 : (if 48 ≤ b.toNat ∧ b.toNat ≤ 57 then 10 * x + (b.toNat - 48) else x) + 1 ≤ (x + 1) * 10 := by split <;> omega
      have h3 := Nat.mul_le_mul_right (10 ^ r.length) h2
      have h4 : (x + 1) * 10 ^ (b :: r).length = (x + 1) * 10 * 10 ^ r.length := by
        rw [List.length_cons, Nat.pow_succ, Nat.mul_comm (10 ^ r.length) 10, Nat.mul_assoc]
      rw [h4]
      exact Nat.le_trans h1 h3
  have := h l 0
  omega

set_option maxRecDepth 100000 in
set_option maxHeartbeats 1000000 in
theorem read_any (s : ByteArray) (w : World) (hs : s.size ≤ 12) :
    Calls Tryd.prog 44 #[.string s] w fun e w' => e = .returned (.int .i64 (readv s.data.toList)) ∧ w' = w := by
  have hsl : s.data.toList.length = s.size := by simp
  replace hsl := Lib.hid hsl
  go_enter Tryd.func44, Tryd.ntmps44
  go_wp2
  go_loop [3, 4] (fun n i => ∃ k : Nat, k ≤ s.size ∧ i = .int .i64 k ∧ n = .int .i64 (rdgo 0 (s.data.toList.take k) : Nat)) (fun _ i => s.size - (intOf i).toNat)
  case atStart => exact ⟨0, Nat.zero_le _, rfl, rfl⟩
  case round =>
    obtain ⟨k, hk, rfl, rfl⟩ := hrel
    by_cases hlt : k < s.size
    · have hn := rdgo_lt (s.data.toList.take k)
      have hn2 : 10 ^ (s.data.toList.take k).length ≤ 10 ^ 11 := Nat.pow_le_pow_right (by omega) (by rw [List.length_take, hsl.out]; omega)
      have hN : rdgo 0 (s.data.toList.take k) ≤ 100000000000 := by omega
      have hst : rdgo 0 (s.data.toList.take (k + 1)) = if 48 ≤ s[k].toNat ∧ s[k].toNat ≤ 57 then 10 * rdgo 0 (s.data.toList.take k) + (s[k].toNat - 48) else rdgo 0 (s.data.toList.take k) := by
        rw [List.take_succ_eq_append_getElem (by simpa using hlt), rdgo_snoc]; rfl
      clear hn hn2
      have hdl : decide ((k : Int) < (s.size : Int)) = true := by simp; omega
      generalize rdgo 0 (s.data.toList.take k) = x at *
      replace hst := Lib.hid hst
      go_wp2
      all_goals
        refine ⟨⟨k + 1, by omega, by go_num, ?_⟩, by simp [intOf]; omega⟩
        rw [hst.out]
        first
          | (rw [if_pos (by omega)]; exact congrArg _ (by omega))
          | (rw [if_neg (by omega)])
    · obtain rfl : k = s.size := by omega
      have hdl : decide ((s.size : Int) < (s.size : Int)) = false := by simp
      rw [show s.data.toList.take s.size = s.data.toList from List.take_of_length_le (by rw [hsl.out]; exact Nat.le_refl _)]
      have hx := rdgo_lt s.data.toList
      have hx2 : 10 ^ s.data.toList.length ≤ 10 ^ 12 := Nat.pow_le_pow_right (by omega) (by rw [hsl.out]; omega)
      have hN : rdgo 0 s.data.toList ≤ 1000000000000 := by omega
      clear hx hx2
      have hv : Hid (readv s.data.toList = if s.data.toList.head? = some 45 then -(rdgo 0 s.data.toList : Int) else rdgo 0 s.data.toList) := by show _ = _; rfl
      generalize rdgo 0 s.data.toList = x at *
      by_cases h0 : s.size = 0
      · have e1 : s.toList.isEmpty = true := by
          rw [Lib.toList_data, List.isEmpty_iff]; exact List.eq_nil_of_length_eq_zero (by rw [hsl.out, h0])
        have hr : Hid (readv s.data.toList = x) := by
          show _ = _
          rw [hv.out, List.eq_nil_of_length_eq_zero (l := s.data.toList) (by rw [hsl.out, h0])]; simp
        clear h0 hv hlt
        go_wp2
        go_ret
        exact ⟨by rw [hr.out]; rfl, rfl⟩
      · have hpos : 0 < s.size := by omega
        have e1 : s.toList.isEmpty = false := by
          rw [Lib.toList_data]
          cases hc : s.data.toList with
          | nil => have := hsl.out; rw [hc] at this; simp at this; omega
          | cons a b => rfl
        have hh : s.data.toList.head? = some s[0] := by
          rw [List.head?_eq_getElem?, List.getElem?_eq_getElem (by rw [hsl.out]; exact hpos)]; rfl
        rw [hh] at hv
        replace hh := Lib.hid hh
        clear h0 hlt
        by_cases h45 : s[0] = 45
        · have hr : Hid (readv s.data.toList = -(x : Int)) := by
            show _ = _
            rw [hv.out, if_pos (by rw [h45])]
          have q : ((s[0].toNat : Int) == 45) = true := by rw [h45]; rfl
          clear h45 hv
          go_wp2
          go_ret
          exact ⟨by rw [hr.out]; rfl, rfl⟩
        · have hr : Hid (readv s.data.toList = x) := by
            show _ = _
            rw [hv.out, if_neg (by simpa using h45)]
          have q : ((s[0].toNat : Int) == 45) = false := by
            rw [beq_eq_false_iff_ne]
            intro h
            exact h45 (UInt8.toNat_inj.1 (by rw [show (45 : UInt8).toNat = 45 from rfl]; omega))
          clear h45 hv
          go_wp2
          go_ret
          exact ⟨by rw [hr.out]; rfl, rfl⟩
end Go.Proofs.YtfojgdlegojdgaaDoor
