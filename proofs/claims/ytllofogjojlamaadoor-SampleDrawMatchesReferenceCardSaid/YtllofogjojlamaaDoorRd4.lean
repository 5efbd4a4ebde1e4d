/-
  The contract of evergreenref16.SameInts at equal lists.
-/
import Derived.Test.YtllofogjojlamaaDoorDraw2
import Derived.Deep.QuietTactic
import Derived.BigQuiet
namespace Go.Proofs.YtllofogjojlamaaDoor
open Go.RowKit Go.Shelf

/-- The value v is a slice of the numbers l. -/
def IntsAt (w : World) (v : Value) (l : List Int) : Prop :=
  ∃ a cap, v = .slice a l.length cap ∧ (l ≠ [] → ∃ b o, a = some ⟨b, o, none⟩ ∧ ∀ j, j < l.length → w.cell? ⟨b, o + j, none⟩ = some (.int .i64 (l.getD j 0)))
theorem IntsAt.of_own {w : World} {B n : Nat} {v : Value} {l : List Int} (h : w.ownsRow B 3 1 v n (ints l)) (hn : n = l.length) : IntsAt w v l := by
  subst hn
  match l, h with
  | [], h =>
    obtain ⟨_, h | ⟨g, cap, cur, rfl, _⟩⟩ := h
    · exact ⟨none, 0, h.1, fun h => absurd rfl h⟩
    · exact ⟨_, cap, rfl, fun h => absurd rfl h⟩
  | x :: r, h =>
    obtain ⟨g, hg, hb⟩ := buf_of_own h
    obtain ⟨cap, hv, _, _⟩ := hb.val
    refine ⟨_, cap, by rw [hv]; simp [ints], fun _ => ⟨g, 0, rfl, fun j hj => ?_⟩⟩
    rw [Nat.zero_add]
    exact hb.cell (ints_at hj)
theorem IntsAt.below {w w' : World} {v : Value} {l : List Int} (h : IntsAt w v l) (hb : Below w.heap.size w w') : IntsAt w' v l := by
  obtain ⟨a, cap, hv, hc⟩ := h
  refine ⟨a, cap, hv, fun hl => ?_⟩
  obtain ⟨b, o, ha, hc⟩ := hc hl
  refine ⟨b, o, ha, fun j hj => ?_⟩
  have h1 := hc j hj
  exact (hb.cell (p := ⟨b, o + j, none⟩) (World.block_lt_of_cell? w _ h1)).trans h1

set_option maxHeartbeats 1000000 in
theorem sameInts_any (a b : Value) (l : List Int) (w : World) (hl : l.length ≤ 1000) (ha : IntsAt w a l) (hb : IntsAt w b l) :
    Calls Tryd.prog 8 #[a, b] w fun e w' => e = .returned (.bool true) ∧ ∃ q, w' = w.drewN q := by
  obtain ⟨pa, ca, rfl, hca⟩ := ha
  obtain ⟨pb, cb, rfl, hcb⟩ := hb
  by_cases h0 : l = []
  · subst h0
    clear hca hcb
    go_enter Tryd.func8, Tryd.ntmps8
    go_wp2
    go_loop [5] (fun i => i = .int .i64 0) (fun _ => 0)
    case atStart => rfl
    case round =>
      subst hrel
      go_wp2
      go_ret
      exact ⟨rfl, 0, rfl⟩
  · obtain ⟨ba, oa, rfl, qa⟩ := hca h0
    obtain ⟨bb, ob, rfl, qb⟩ := hcb h0
    clear hca hcb
    have hca := Lib.hid qa
    have hcb := Lib.hid qb
    clear qa qb
    go_enter Tryd.func8, Tryd.ntmps8
    go_wp2
    go_loopw [5] (fun i wr => ∃ k q : Nat, k ≤ l.length ∧ i = .int .i64 k ∧ wr = w.drewN q) (fun i _ => l.length - (intOf i).toNat)
    case atStart => exact ⟨0, 0, by omega, rfl, rfl⟩
    case round =>
      obtain ⟨k, q, hk, rfl, rfl⟩ := hrel
      by_cases hlt : k < l.length
      · have hd : decide ((k : Int) < (l.length : Int)) = true := by simpa using hlt
        have c1 := hca.out k hlt
        have c2 := hcb.out k hlt
        generalize l.getD k 0 = x at *
        go_wp2
        go_quiet (fail)
        go_wp2
        go_roundw
        case rel => exact ⟨k + 1, _, by omega, by go_num, rfl⟩
        case measure => simp [intOf]; omega
      · have hd : decide ((k : Int) < (l.length : Int)) = false := by simpa using hlt
        obtain rfl : k = l.length := by omega
        go_wp2
        go_ret
        exact ⟨rfl, _, rfl⟩
end Go.Proofs.YtllofogjojlamaaDoor
