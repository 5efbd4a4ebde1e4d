/-
  Package abstraction: within, none, must of what is true.
  The contracts of abstraction's reader: number, text.
  The contract of abstraction's reader: text.
-/
import Derived.Test.YtocpnlifmeffkaaGreatDoorUR
namespace Go.Proofs.YtocpnlifmeffkaaGreatDoor
open Go.RowKit Go.Shelf

attribute [local go_sem] Oper.semAt_some

theorem awithin_any (n lo hi : Int) (w : World) :
    Calls Tryz.prog 100 #[.int .i64 n, .int .i64 lo, .int .i64 hi] w fun e w' => e = .returned (.bool (decide (lo ≤ n) && decide (n ≤ hi))) ∧ w' = w := by
  go_enter Tryz.func100, Tryz.ntmps100
  go_wp2
  all_goals (go_ret; exact ⟨by first | (simp_all; done) | (simp_all; omega), rfl⟩)
theorem must_true (w : World) :
    Calls Tryz.prog 51 #[.bool true] w fun e w' => e = .returned (.tuple #[]) ∧ w' = w := by
  go_enter Tryz.func51, Tryz.ntmps51
  go_wp2
  go_end0
  exact ⟨rfl, rfl⟩
theorem anone_any (n : Int) (w : World) :
    Calls Tryz.prog 108 #[.int .i64 n] w fun e w' => e = .returned (.bool (n == 0)) ∧ w' = w := by
  go_enter Tryz.func108, Tryz.ntmps108
  go_wp2
  go_ret
  exact ⟨rfl, rfl⟩
end Go.Proofs.YtocpnlifmeffkaaGreatDoor
namespace Go.Proofs.YtocpnlifmeffkaaGreatDoor
open Go.RowKit Go.Shelf

attribute [local go_sem] Oper.semAt_some

/-- A reader at a place. -/
def ARdAt (w : World) (R : Nat) (s : ByteArray) (at_ : Nat) : Prop := Arr w R 178 [.string s, .int .i64 (at_ : Int)]
set_option maxRecDepth 100000 in
set_option maxHeartbeats 4000000 in
theorem anumber_any (R : Nat) (s : ByteArray) (pre post : List UInt8) (n lo hi : Int) (w : World) (h1 : -(2 ^ 62 - 1) ≤ n) (h2 : n ≤ 2 ^ 62 - 1) (hb : lo ≤ n ∧ n ≤ hi) (hs : s.data.toList = pre ++ (putZ n ++ post)) (hsz : s.size ≤ 1000000) (hR : ARdAt w R s pre.length) :
    Calls Tryz.prog 104 #[.pointer (some ⟨R, 0, none⟩), .int .i64 lo, .int .i64 hi] w fun e w' => e = .returned (.int .i64 n) ∧ ARdAt w' R s (pre ++ putZ n).length ∧ BelowBut w.heap.size R w w' := by
  have hI := Int_any s pre post n
  have hin := in2 hb
  have hwi := Lib.hid awithin_any
  have hmu := Lib.hid must_true
  have hlen : (pre ++ putZ n).length = pre.length + (putZ n).length := by simp
  rw [hlen]
  obtain ⟨p, hp⟩ : ∃ p, p = pre.length := ⟨_, rfl⟩
  obtain ⟨q, hq⟩ : ∃ q, q = pre.length + (putZ n).length := ⟨_, rfl⟩
  have hI2 := Lib.hid fun W => hI W h1 h2 hs hsz
  rw [← hq, ← hp] at hI2
  rw [← hp] at hR
  rw [← hq]
  clear hI hs hlen hp
  replace hq := Lib.hid hq
  unfold ARdAt at *
  have hA := hR
  have c0 := hR.cell (j := 0) rfl
  have c1 := hR.cell (j := 1) rfl
  have f1 := hR.free 1
  go_enter Tryz.func104, Tryz.ntmps104
  go_wp2_with fail
  go_quiet (first | (with_reducible refine Calls.quiet_of_same (hI2.out _)))
  refine name_then ?_
  intro w2 hw2
  have hA2 : Arr w2 R 178 [.string s, .int .i64 (p : Int)] := by rw [hw2]; exact hA
  have hB2 : BelowBut w.heap.size R w w2 := by rw [hw2]; exact (BelowBut.refl _ _ _).drewN _
  clear hw2 c0 c1 f1
  have f1 := hA2.free 1
  have c1 := hA2.cell (j := 1) rfl
  go_wp2_with (first
    | (go_at_call 100; refine (hwi.out _ _ _ _).mono ?_; rintro e w1 ⟨rfl, rfl⟩; simp only [hin])
    | (go_at_call 51; refine (hmu.out _).mono ?_; rintro e w1 ⟨rfl, rfl⟩))
  go_ret
  exact ⟨rfl, hA2.set 1 _, hB2.setCell 1 _⟩
end Go.Proofs.YtocpnlifmeffkaaGreatDoor
namespace Go.Proofs.YtocpnlifmeffkaaGreatDoor
open Go.RowKit Go.Shelf

attribute [local go_sem] Oper.semAt_some

set_option maxRecDepth 100000 in
set_option maxHeartbeats 4000000 in
theorem atext_any (R : Nat) (s : ByteArray) (pre t post : List UInt8) (w : World) (ht : t.length ≤ 65536) (hs : s.data.toList = pre ++ (putSb t ++ post)) (hsz : s.size ≤ 1000000) (hR : ARdAt w R s pre.length) :
    Calls Tryz.prog 105 #[.pointer (some ⟨R, 0, none⟩)] w fun e w' => e = .returned (.string (str t)) ∧ ARdAt w' R s (pre ++ putSb t).length ∧ BelowBut w.heap.size R w w' := by
  have hmu := Lib.hid must_true
  have hlen : (pre ++ putSb t).length = pre.length + (putSb t).length := by simp
  rw [hlen]
  obtain ⟨p, hp⟩ : ∃ p, p = pre.length := ⟨_, rfl⟩
  obtain ⟨q, hq⟩ : ∃ q, q = pre.length + (putSb t).length := ⟨_, rfl⟩
  have hI2 := Lib.hid fun W => String_any s pre t post W ht hs hsz
  rw [← hq, ← hp] at hI2
  rw [← hp] at hR
  rw [← hq]
  clear hs hlen hp
  replace hq := Lib.hid hq
  unfold ARdAt at *
  have hA := hR
  have c0 := hR.cell (j := 0) rfl
  have c1 := hR.cell (j := 1) rfl
  go_enter Tryz.func105, Tryz.ntmps105
  go_wp2_with fail
  go_quiet (first | (with_reducible refine Calls.quiet_of_same (hI2.out _)))
  refine name_then ?_
  intro w2 hw2
  have hA2 : Arr w2 R 178 [.string s, .int .i64 (p : Int)] := by rw [hw2]; exact hA
  have hB2 : BelowBut w.heap.size R w w2 := by rw [hw2]; exact (BelowBut.refl _ _ _).drewN _
  clear hw2 c0 c1
  have f1 := hA2.free 1
  have c1 := hA2.cell (j := 1) rfl
  go_wp2_with (go_at_call 51; refine (hmu.out _).mono ?_; rintro e w1 ⟨rfl, rfl⟩)
  go_ret
  exact ⟨rfl, hA2.set 1 _, hB2.setCell 1 _⟩
end Go.Proofs.YtocpnlifmeffkaaGreatDoor
