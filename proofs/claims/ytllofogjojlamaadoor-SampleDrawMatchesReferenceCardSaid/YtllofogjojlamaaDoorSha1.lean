/-
  The contracts of digest's small functions: bits.RotateLeft32, mixed.
-/
import Derived.Test.YtllofogjojlamaaDoorBase
import Derived.IntWalk
namespace Go.Proofs.YtllofogjojlamaaDoor
open Go.RowKit

/-- A word. -/
def W32 (x : Int) : Prop := 0 ≤ x ∧ x < 4294967296
theorem bits_w32 (op : BinOp) (a b : Int) : W32 (bits op .u32 a b) := by
  have h : ∀ n, W32 (IntKind.u32.wrap n) := fun n => by simp [W32, IntKind.wrap, IntKind.bits, IntKind.signed]; omega
  unfold bits
  split <;> exact h _
/-- A word rotated right. -/
def rotr (k : Nat) (x : Int) : Int := bits .or .u32 (x * 2 ^ (32 - k) % 4294967296) (x / 2 ^ k)
theorem rotr_w32 (k : Nat) (x : Int) : W32 (rotr k x) := bits_w32 _ _ _
def rots : List Nat := [2, 6, 7, 11, 13, 17, 18, 19, 22, 25]

set_option maxHeartbeats 1000000 in
theorem rotl_any (k : Nat) (hk : k ∈ rots) (x : Int) (w : World) (h : W32 x) :
    Calls Tryd.prog 60 #[.int .u32 x, .int .i64 (-(k : Int))] w fun e w' => e = .returned (.int .u32 (rotr k x)) ∧ w' = w := by
  obtain ⟨hx, hx2⟩ := h
  simp [rots] at hk
  rcases hk with rfl | rfl | rfl | rfl | rfl | rfl | rfl | rfl | rfl | rfl
  · have e1 : bits BinOp.and IntKind.u64 (IntKind.u64.wrap (-2)) 31 = 30 := by decide
    (go_enter Tryd.func60, Tryd.ntmps60; go_wp2; go_ret; exact ⟨rfl, rfl⟩)
  · have e1 : bits BinOp.and IntKind.u64 (IntKind.u64.wrap (-6)) 31 = 26 := by decide
    (go_enter Tryd.func60, Tryd.ntmps60; go_wp2; go_ret; exact ⟨rfl, rfl⟩)
  · have e1 : bits BinOp.and IntKind.u64 (IntKind.u64.wrap (-7)) 31 = 25 := by decide
    (go_enter Tryd.func60, Tryd.ntmps60; go_wp2; go_ret; exact ⟨rfl, rfl⟩)
  · have e1 : bits BinOp.and IntKind.u64 (IntKind.u64.wrap (-11)) 31 = 21 := by decide
    (go_enter Tryd.func60, Tryd.ntmps60; go_wp2; go_ret; exact ⟨rfl, rfl⟩)
  · have e1 : bits BinOp.and IntKind.u64 (IntKind.u64.wrap (-13)) 31 = 19 := by decide
    (go_enter Tryd.func60, Tryd.ntmps60; go_wp2; go_ret; exact ⟨rfl, rfl⟩)
  · have e1 : bits BinOp.and IntKind.u64 (IntKind.u64.wrap (-17)) 31 = 15 := by decide
    (go_enter Tryd.func60, Tryd.ntmps60; go_wp2; go_ret; exact ⟨rfl, rfl⟩)
  · have e1 : bits BinOp.and IntKind.u64 (IntKind.u64.wrap (-18)) 31 = 14 := by decide
    (go_enter Tryd.func60, Tryd.ntmps60; go_wp2; go_ret; exact ⟨rfl, rfl⟩)
  · have e1 : bits BinOp.and IntKind.u64 (IntKind.u64.wrap (-19)) 31 = 13 := by decide
    (go_enter Tryd.func60, Tryd.ntmps60; go_wp2; go_ret; exact ⟨rfl, rfl⟩)
  · have e1 : bits BinOp.and IntKind.u64 (IntKind.u64.wrap (-22)) 31 = 10 := by decide
    (go_enter Tryd.func60, Tryd.ntmps60; go_wp2; go_ret; exact ⟨rfl, rfl⟩)
  · have e1 : bits BinOp.and IntKind.u64 (IntKind.u64.wrap (-25)) 31 = 7 := by decide
    (go_enter Tryd.func60, Tryd.ntmps60; go_wp2; go_ret; exact ⟨rfl, rfl⟩)

/-- A word combined with rotations of it. -/
def mixd (x : Int) (ks : List Nat) : Int := ks.foldl (fun o k => bits .xor .u32 o (rotr k x)) 0
theorem mixd_snoc (x : Int) (ks : List Nat) (k : Nat) : mixd x (ks ++ [k]) = bits .xor .u32 (mixd x ks) (rotr k x) := by simp [mixd]
theorem mixd_w32 (x : Int) (ks : List Nat) : W32 (mixd x ks) := by
  have h : ∀ (l : List Nat) (o : Int), W32 o → W32 (l.foldl (fun o k => bits .xor .u32 o (rotr k x)) o) := by
    intro l
    induction l with
    | nil => intro o ho; exact ho
    | cons a l ih => intro o _; exact ih _ (bits_w32 _ _ _)
  exact h ks 0 (by simp [W32])
theorem rots_le {k : Nat} (h : k ∈ rots) : k ≤ 25 := by simp [rots] at h; omega

set_option maxHeartbeats 400000 in
theorem mixed_any (x : Int) (ks : List Nat) (b off cap : Nat) (w : World) (hx : Hid (W32 x)) (hks : ∀ k, k ∈ ks → k ∈ rots) (hlen : ks.length ≤ 10)
    (hcs : ∀ i, i < ks.length → w.cell? ⟨b, off + i, none⟩ = some (.int .i64 (ks.getD i 0 : Nat))) :
    Calls Tryd.prog 45 #[.int .u32 x, .slice (some ⟨b, off, none⟩) ks.length cap] w fun e w' => e = .returned (.int .u32 (mixd x ks)) ∧ w' = w := by
  replace hcs := Lib.hid hcs
  go_enter Tryd.func45, Tryd.ntmps45
  go_wp2
  go_loop [5, 10] (fun o i => ∃ k : Nat, k ≤ ks.length ∧ i = .int .i64 k ∧ o = .int .u32 (mixd x (ks.take k))) (fun _ i => ks.length - (intOf i).toNat)
  case atStart => exact ⟨0, Nat.zero_le _, rfl, rfl⟩
  case round =>
    obtain ⟨k, hk, rfl, rfl⟩ := hrel
    by_cases hlt : k < ks.length
    · have hc := hcs.out k hlt
      have hd : decide ((k : Int) < (ks.length : Int)) = true := by simpa using hlt
      have hm : ks.getD k 0 ∈ rots := hks _ (by rw [List.getD_eq_getElem?_getD]; simp [hlt])
      have hs := Lib.hid (show mixd x (ks.take (k + 1)) = bits .xor .u32 (mixd x (ks.take k)) (rotr (ks.getD k 0) x) by
        rw [List.take_succ_eq_append_getElem hlt, mixd_snoc, List.getD_eq_getElem?_getD]; simp [hlt])
      have hq := rots_le hm
      generalize ks.getD k 0 = q at *
      replace hm := Lib.hid hm
      generalize mixd x (ks.take k) = o at *
      go_wp2_with fail
      refine (rotl_any q hm.out x _ hx.out).mono ?_; rintro e w1 ⟨rfl, rfl⟩
      go_wp2
      go_round
      case rel => exact ⟨k + 1, by omega, by go_num, by rw [hs.out]⟩
      case measure => simp [intOf]; omega
    · have hd : decide ((k : Int) < (ks.length : Int)) = false := by simpa using hlt
      obtain rfl : k = ks.length := by omega
      go_wp2
      go_ret
      exact ⟨by simp, rfl⟩
end Go.Proofs.YtllofogjojlamaaDoor
