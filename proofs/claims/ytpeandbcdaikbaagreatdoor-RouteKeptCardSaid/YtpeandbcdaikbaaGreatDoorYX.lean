/-
  Routes of chapter 11: the law RouteKept's policy (plain), eight lists of integers.
  The arguments of chapter 11's laws, opened: eight lists of integers.
-/
import Derived.Test.YtpeandbcdaikbaaGreatDoorYW
import Derived.Test.YtpeandbcdaikbaaGreatDoorYU
namespace Go.Proofs.YtpeandbcdaikbaaGreatDoor
open Go.RowKit Go.Shelf Go.Maps

/-- The policy's first claims. -/
def polTo (ss : List (List Int)) : Nat → Clms
  | 0 => []
  | i + 1 => polTo ss i ++ (if 0 < (ss[i]!).length then [((i : Int) + 1, stepsR ((i : Int) + 1) ss[i]!)] else [])
theorem polTo_len (ss : List (List Int)) : ∀ i, (polTo ss i).length ≤ i
  | 0 => Nat.le_refl _
  | i + 1 => by
    have := polTo_len ss i
    unfold polTo
    rw [List.length_append]
    split <;> simp <;> omega
theorem polTo_props (ss : List (List Int)) : ∀ i, ∀ c ∈ polTo ss i, 1 ≤ c.1 ∧ c.1 ≤ (i : Int)
  | 0 => by simp [polTo]
  | i + 1 => by
    intro c hc
    unfold polTo at hc
    rcases List.mem_append.1 hc with h | h
    · have := polTo_props ss i c h
      omega
    · split at h
      · rw [List.mem_singleton.1 h]
        exact ⟨by show (1 : Int) ≤ (i : Int) + 1; omega, by show (i : Int) + 1 ≤ ((i + 1 : Nat) : Int); omega⟩
      · cases h
/-- Eight lists of integers by value. -/
def EightIn (w : World) (v : Value) (ss : List (List Int)) : Prop :=
  ∃ v0 v1 v2 v3 v4 v5 v6 v7 : Value, v = .agg #[v0, v1, v2, v3, v4, v5, v6, v7] ∧ ∀ i, i < 8 → NumsAt w w.heap.size [v0, v1, v2, v3, v4, v5, v6, v7][i]! ss[i]! ∧ ∀ x ∈ ss[i]!, I64 x
theorem eight_at (v0 v1 v2 v3 v4 v5 v6 v7 : Value) {i : Nat} (hi : i < 8) : [v0, v1, v2, v3, v4, v5, v6, v7][i]? = some [v0, v1, v2, v3, v4, v5, v6, v7][i]! := by
  obtain rfl | rfl | rfl | rfl | rfl | rfl | rfl | rfl : i = 0 ∨ i = 1 ∨ i = 2 ∨ i = 3 ∨ i = 4 ∨ i = 5 ∨ i = 6 ∨ i = 7 := by omega
  all_goals rfl
/-- Keeps in the shape that the laws' walks want. -/
theorem keeps_law (a : Rou) (ea ca : Option Addr) (ma na : Nat) (pv : Value) (policy : Clms) (w : World) (ha : OkR ⟨a, .slice ea a.edges.length ma, .slice ca a.claims.length na⟩ w) (hp : ClaimsAt w w.heap.size pv policy) (hI : ∀ c ∈ policy, I64 c.1) :
    Calls Tryz.prog 22 #[.agg #[.slice ea a.edges.length ma, .int .i64 a.cost, .int .i64 a.life, .slice ca a.claims.length na], pv] w fun e w' => e = .returned (.bool (keepsP a policy)) ∧ Below w.heap.size w w' :=
  Keeps_any a ea a.edges.length ma _ pv policy w ha.2.at hp hI
end Go.Proofs.YtpeandbcdaikbaaGreatDoor
namespace Go.Proofs.YtpeandbcdaikbaaGreatDoor
open Go.ChangeShapes Go.WideShapes Go.ChangeAt Go.RowKit

section
variable {H : Type} {enc : TypeId × Value → H} {w : World}
theorem okWide_arr {P : Program} {r : Reach} {base : Nat} {t : TypeId} {v : Value} {n : Nat} {e : TypeId} (ht : P.underlying t = some (.array n e)) (h : Value.okWide P w r base t v) : ∃ cs, v = .agg cs ∧ cs.size = P.cellsOf t := by
  simp only [Value.okWide, ht] at h
  obtain ⟨cs, h1, h2, _⟩ := h
  exact ⟨cs, h1, h2⟩
theorem eight_of {l : List Value} (h : l.length = 8) : ∃ a b c d e f g k, l = [a, b, c, d, e, f, g, k] := by
  match l, h with
  | [a, b, c, d, e, f, g, k], _ => exact ⟨a, b, c, d, e, f, g, k, rfl⟩
set_option maxRecDepth 100000 in
theorem open_eight {r : Reach} {b0 : Nat} {v : Value} {d : DataW H} {ps : List MemPlace} (hval : Value.okWide Tryz.prog w r b0 62 v) (hd : DataW.Trod enc Tryz.prog w 0 (fun _ => true) true 62 v d ps) : ∃ ss : List (List Int), EightIn w v ss := by
  obtain ⟨cs, rfl, hsz⟩ := okWide_arr Tryz.underlying62 hval
  rw [show Tryz.prog.cellsOf 62 = 8 from by kernel_rfl] at hsz
  obtain ⟨fuel, hf⟩ := hd
  obtain ⟨l⟩ := cs
  have hl : l.length = 8 := hsz
  obtain ⟨xs, m, _, _, _, hx, hel⟩ := DataW.trod_array Tryz.underlying62 hf
  have hone : ∀ i, i < 8 → ∃ ls : List Int, (∀ z ∈ ls, I64 z) ∧ NumsAt w w.heap.size l[i]! ls := fun i hi => by
    have h := hel i hi
    rw [show Tryz.prog.cellsOf 23 = 1 from by kernel_rfl, Nat.mul_one, List.getElem?_eq_getElem (by omega)] at h
    obtain ⟨v', ls, e, hI, hn⟩ := trod_ints h
    have hd1 : (l.drop i).take 1 = [l[i]!] := by
      rw [getElem!_pos l i (by omega), List.drop_eq_getElem_cons (by omega)]
      rfl
    have e2 : (l.drop i).take 1 = [v'] := e
    rw [hd1] at e2
    injection e2 with e _
    rw [e]
    exact ⟨ls, hI, hn⟩
  obtain ⟨a, b, c, d, e, f, g, k, rfl⟩ := eight_of hl
  have pick : ∃ ss : List (List Int), ∀ i, i < 8 → NumsAt w w.heap.size [a, b, c, d, e, f, g, k][i]! ss[i]! ∧ ∀ x ∈ ss[i]!, I64 x := by
    refine ⟨(List.range 8).attach.map fun i => Classical.choose (hone i.1 (List.mem_range.1 i.2)), fun i hi => ?_⟩
    rw [getElem!_pos ((List.range 8).attach.map fun i => Classical.choose (hone i.1 (List.mem_range.1 i.2))) i (by simpa using hi), List.getElem_map]
    simp only [List.getElem_attach, List.getElem_range]
    exact ⟨(Classical.choose_spec (hone i hi)).2, (Classical.choose_spec (hone i hi)).1⟩
  obtain ⟨ss, h⟩ := pick
  exact ⟨ss, a, b, c, d, e, f, g, k, rfl, h⟩
end
end Go.Proofs.YtpeandbcdaikbaaGreatDoor
