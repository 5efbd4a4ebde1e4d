/-
  The plain law of Needed and Bound (no program in sight).
-/
import Derived.Test.YtjlldolmlfgejaaDoorMath1
import Derived.Test.YtjlldolmlfgejaaDoorLaw1
import Derived.Test.YtjlldolmlfgejaaDoorNeeded2
namespace Go.Proofs.YtjlldolmlfgejaaDoor

theorem I64.of_num {n d : Int} (h : vld n d = true) : I64 n := by have := I64.of_vld_num h; exact ⟨by omega, by omega⟩
theorem I64.of_den {n d : Int} (h : vld n d = true) : I64 d := by have := I64.of_vld_den h; exact ⟨by omega, by omega⟩
theorem detv_in {n bad k : Nat} (h1 : 1 ≤ n) (hn : n ≤ 24) (hb : bad ≤ n) (hk : k ≤ n) : detv n bad k = ((det n bad k).1, (det n bad k).2.1, 0) := by
  have hp : pop (n : Int) [(bad : Int), (k : Int)] = true := by simp [pop, outB]; omega
  simp [detv, hp]
theorem lvl_all : ∀ d, d < 60 → ∀ p, p < 1 + d + 1 → lvl (mk (p : Nat) (1 + d : Nat)).1 (mk (p : Nat) (1 + d : Nat)).2.1 = true := by decide +kernel
theorem levelv_lvl (a b : Int) : lvl (levelv a b).1 (levelv a b).2.1 = true := lvl_all _ (pickv_lt b 60 (by omega)) _ (pickv_lt a _ (by omega))
theorem firstv_of_some {p : Nat → Bool} {n x : Nat} (h : firstv p n = some x) : x ≤ n ∧ p x = true ∧ ∀ y, y < x → p y = false := by
  unfold firstv at h
  rw [List.find?_range_eq_some] at h
  obtain ⟨h1, h2, h3⟩ := h
  simp at h2
  exact ⟨by omega, h1, fun y hy => by simpa using h3 y hy⟩
theorem firstv_of_none {p : Nat → Bool} {n : Nat} (h : firstv p n = none) : ∀ y, y ≤ n → p y = false := by
  unfold firstv at h
  rw [List.find?_eq_none] at h
  intro y hy
  have := h y (by simp; omega)
  simpa using this
theorem needv_in {n bad : Nat} {p q : Int} (h1 : 1 ≤ n) (hn : n ≤ 24) (hb : bad ≤ n) (hl : lvl p q = true) :
    needv n bad p q = (match firstv (fun k => hit n bad k p q) n with | some k => ((k : Int), 0) | none => (0, 160)) := by
  have hp : pop (n : Int) [(bad : Int)] = true := by simp [pop, outB]; omega
  simp only [needv, hp, hl, Bool.and_self, if_true, Int.toNat_natCast]
  cases firstv (fun k => hit n bad k p q) n <;> rfl
theorem boundv_in {n k : Nat} {p q : Int} (h1 : 1 ≤ n) (hn : n ≤ 24) (hk : k ≤ n) (hl : lvl p q = true) (h0 : p ≠ 0) :
    boundv n k p q = (match firstv (fun bad => hit n bad k p q) n with | some bad => ((bad : Int) - 1, 0) | none => ((n : Int), 0)) := by
  have hp : pop (n : Int) [(k : Int)] = true := by simp [pop, outB]; omega
  have h0' : (!(p == 0)) = true := by simpa using h0
  simp only [boundv, hp, hl, h0', Bool.and_self, if_true, Int.toNat_natCast]
  cases firstv (fun bad => hit n bad k p q) n <;> rfl
theorem hit_true {n bad k : Nat} {p q : Int} (h : hit n bad k p q = true) : 0 ≤ cmpr (det n bad k).1 (det n bad k).2.1 p q := by simpa [hit] using h
theorem hit_false {n bad k : Nat} {p q : Int} (h : hit n bad k p q = false) : cmpr (det n bad k).1 (det n bad k).2.1 p q < 0 := by simpa [hit] using h

/-- P16.5: how the bound and what is needed agree. -/
theorem bound_law {n k bad : Nat} {p q : Int} (h1 : 1 ≤ n) (hn : n ≤ 24) (hk : k ≤ n) (hb : bad ≤ n) (hl : lvl p q = true) (h0 : p ≠ 0) :
    (boundv n k p q).2 = 0 ∧ 0 ≤ (boundv n k p q).1 ∧ (boundv n k p q).1 ≤ n ∧
    (((needv n bad p q).2 == 0 && decide ((needv n bad p q).1 ≤ (k : Int))) = hit n bad k p q) ∧ (decide ((boundv n k p q).1 < (bad : Int)) = hit n bad k p q) := by
  rw [boundv_in h1 hn hk hl h0, needv_in h1 hn hb hl]
  have hB : ∀ x, firstv (fun bad => hit n bad k p q) n = x → (match x with | some b => ((b : Int) - 1, (0 : Int)) | none => ((n : Int), 0)).2 = 0 ∧ 0 ≤ (match x with | some b => ((b : Int) - 1, (0 : Int)) | none => ((n : Int), 0)).1 ∧ (match x with | some b => ((b : Int) - 1, (0 : Int)) | none => ((n : Int), 0)).1 ≤ (n : Int) ∧ decide ((match x with | some b => ((b : Int) - 1, (0 : Int)) | none => ((n : Int), 0)).1 < (bad : Int)) = hit n bad k p q := by
    intro x hx
    cases x with
    | none =>
      have := firstv_of_none hx bad hb
      refine ⟨rfl, ?_, ?_, ?_⟩
      · show (0 : Int) ≤ n; omega
      · exact Int.le_refl _
      · rw [this]; show decide ((n : Int) < bad) = false; simp; omega
    | some b =>
      obtain ⟨g1, g2, g3⟩ := firstv_of_some hx
      have hb0 : b ≠ 0 := by rintro rfl; rw [hit_none hn hk hl h0] at g2; cases g2
      refine ⟨rfl, ?_, ?_, ?_⟩
      · show (0 : Int) ≤ b - 1; omega
      · show (b : Int) - 1 ≤ n; omega
      · show decide ((b : Int) - 1 < bad) = _
        by_cases h : b ≤ bad
        · rw [hit_le hn hk h hb hl g2]; simp; omega
        · rw [g3 bad (by omega)]; simp; omega
  have hN : ∀ x, firstv (fun k => hit n bad k p q) n = x → ((match x with | some k => ((k : Int), (0 : Int)) | none => (0, 160)).2 == 0 && decide ((match x with | some k => ((k : Int), (0 : Int)) | none => (0, 160)).1 ≤ (k : Int))) = hit n bad k p q := by
    intro x hx
    cases x with
    | none =>
      have := firstv_of_none hx k hk
      rw [this]; rfl
    | some c =>
      obtain ⟨g1, g2, g3⟩ := firstv_of_some hx
      show (true && decide ((c : Int) ≤ (k : Int))) = _
      by_cases h : c ≤ k
      · have g4 : hit n k bad p q = true := by
          have : hit n c bad p q = true := by rw [← hit_sym hn hb g1]; exact g2
          exact hit_le hn hb h hk hl this
        rw [hit_sym hn hb hk, g4]; simp; omega
      · have := g3 k (by omega)
        rw [this]; simp; omega
  obtain ⟨b1, b2, b3, b4⟩ := hB _ rfl
  exact ⟨b1, b2, b3, hN _ rfl, b4⟩
end Go.Proofs.YtjlldolmlfgejaaDoor
