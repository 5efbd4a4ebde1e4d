/-
  The reference of the digest: plain laws, and the contract of evergreenref02.rotated.
-/
import Derived.Test.YtllofogjojlamaaDoorSha7a
import Derived.Deep.QuietTactic
import Derived.BigQuiet
namespace Go.Proofs.YtllofogjojlamaaDoor
open Go.RowKit

theorem bits_or_comm (a b : Int) : bits .or .u32 a b = bits .or .u32 b a := by
  show IntKind.u32.wrap ((BitVec.ofInt 32 a ||| BitVec.ofInt 32 b).toNat : Int) = IntKind.u32.wrap ((BitVec.ofInt 32 b ||| BitVec.ofInt 32 a).toNat : Int)
  rw [BitVec.or_comm]
theorem bits_xor_zero (r : Int) (h : W32 r) : bits .xor .u32 0 r = r := by
  obtain ⟨h1, h2⟩ := h
  obtain ⟨n, rfl⟩ : ∃ n : Nat, r = n := ⟨r.toNat, by omega⟩
  have e : bits .xor .u32 0 (n : Int) = IntKind.u32.wrap ((BitVec.ofInt 32 0 ^^^ BitVec.ofInt 32 (n : Int)).toNat : Int) := rfl
  rw [e, BitVec.ofInt_natCast]
  have e2 : (BitVec.ofInt 32 0 ^^^ BitVec.ofNat 32 n) = BitVec.ofNat 32 n := by
    show 0#32 ^^^ BitVec.ofNat 32 n = _
    rw [BitVec.zero_xor]
  rw [e2, BitVec.toNat_ofNat]
  simp [IntKind.wrap, IntKind.bits, IntKind.signed]; omega
theorem mixd_two (x : Int) (a b : Nat) : mixd x [a, b] = bits .xor .u32 (rotr a x) (rotr b x) := by
  show bits .xor .u32 (bits .xor .u32 0 (rotr a x)) (rotr b x) = _
  rw [bits_xor_zero _ (rotr_w32 _ _)]
theorem mixd_three (x : Int) (a b c : Nat) : mixd x [a, b, c] = bits .xor .u32 (bits .xor .u32 (rotr a x) (rotr b x)) (rotr c x) := by
  show bits .xor .u32 (bits .xor .u32 (bits .xor .u32 0 (rotr a x)) (rotr b x)) (rotr c x) = _
  rw [bits_xor_zero _ (rotr_w32 _ _)]

set_option maxHeartbeats 1000000 in
theorem refRot_any (k : Nat) (hk : k ∈ rots) (x : Int) (w : World) (h : W32 x) :
    Calls Tryd.prog 56 #[.int .u32 x, .int .i64 k] w fun e w' => e = .returned (.int .u32 (rotr k x)) ∧ ∃ q, w' = w.drewN q := by
  obtain ⟨hx, hx2⟩ := h
  simp [rots] at hk
  rcases hk with rfl | rfl | rfl | rfl | rfl | rfl | rfl | rfl | rfl | rfl
  all_goals
    go_enter Tryd.func56, Tryd.ntmps56
    go_wp2
    go_quiet (fail)
    go_wp2
    go_ret
    exact ⟨by rw [bits_or_comm]; rfl, _, rfl⟩
end Go.Proofs.YtllofogjojlamaaDoor
