/-
  The programs that the reference makes (Made): they are well formed and good. Plain.
-/
import Derived.Test.YtainohbfcehpoaaDoorMa4
namespace Go.Proofs.YtainohbfcehpoaaDoor

/-- The bytes of an instruction. -/
def simB (o n : Nat) : List UInt8 := if longOp o then [UInt8.ofNat o, UInt8.ofNat (n / 256), UInt8.ofNat (n % 256)] else [UInt8.ofNat o]
def simLen (o : Nat) : Nat := if longOp o then 3 else 1
theorem simB_len (o n : Nat) : (simB o n).length = simLen o := by unfold simB simLen; split <;> rfl
def simI (a o n : Nat) : Ins := ⟨a, o, if longOp o then n else 0⟩
theorem dec_sim (a o n : Nat) (r : List UInt8) (ho : o < 12) (hn : n < 65536) : dec a (simB o n ++ r) = (dec (a + simLen o) r).map (simI a o n :: ·) := by
  have e1 : (UInt8.ofNat o).toNat = o := by rw [UInt8.toNat_ofNat']; omega
  have e2 : (UInt8.ofNat (n / 256)).toNat = n / 256 := by rw [UInt8.toNat_ofNat']; omega
  have e3 : (UInt8.ofNat (n % 256)).toNat = n % 256 := by rw [UInt8.toNat_ofNat']; omega
  unfold simB simLen simI
  by_cases hl : longOp o = true
  · rw [if_pos hl, if_pos hl, if_pos hl, List.cons_append, List.cons_append, List.cons_append, List.nil_append, dec, e1, e2, e3, if_neg (by omega), if_pos hl, show 256 * (n / 256) + n % 256 = n from by omega]
  · have hl' : longOp o = false := by simpa using hl
    rw [if_neg hl, if_neg hl, if_neg hl, List.cons_append, List.nil_append]
    match r with
    | [] =>
      conv => lhs; rw [dec, e1, if_neg (show ¬ 12 ≤ o by omega), hl']
      rw [dec]
      rfl
    | [b] =>
      conv => lhs; rw [dec, e1, if_neg (show ¬ 12 ≤ o by omega), hl']
      rfl
    | b :: c :: r =>
      conv => lhs; rw [dec, e1, if_neg (show ¬ 12 ≤ o by omega), hl']
      rfl

def madeOp (o d : Nat) : Nat := if 12 ≤ o ∨ o = 7 ∨ o = 8 ∨ o = 11 ∨ d < takesOp o ∨ 16 < afterOp o d then (if d = 16 then 10 else 9) else o
theorem madeOp_ok {o d : Nat} (hd : d ≤ 16) : madeOp o d < 12 ∧ madeOp o d ≠ 7 ∧ madeOp o d ≠ 8 ∧ madeOp o d ≠ 11 ∧ takesOp (madeOp o d) ≤ d ∧ afterOp (madeOp o d) d ≤ 16 := by
  unfold madeOp
  split
  · split
    · subst_vars; decide
    · rename_i h1 h2
      refine ⟨by decide, by decide, by decide, by decide, by simp [takesOp], by simp [afterOp, takesOp, putsOp]; omega⟩
  · omega
/-- A part of a program: its instructions, each with the depth at which it is met. -/
abbrev Ent := Ins × Option Nat
def chunkB (a d o n : Nat) : List UInt8 :=
  if o = 12 ∧ d < 15 then simB 0 (n % 2) ++ (simB 8 (a + 10) ++ (simB 0 n ++ simB 10 0))
  else if o = 13 ∧ d < 13 then simB 9 0 ++ (simB 1 0 ++ (simB 0 0 ++ (simB 6 0 ++ (simB 8 (a + 18) ++ (simB 0 n ++ (simB 4 0 ++ (simB 10 0 ++ (simB 7 a ++ (simB 4 0 ++ simB 3 0)))))))))
  else simB (madeOp o d) n
def chunkE (a d o n : Nat) : List Ent :=
  if o = 12 ∧ d < 15 then [(simI a 0 (n % 2), some d), (simI (a + 3) 8 (a + 10), some (d + 1)), (simI (a + 6) 0 n, some d), (simI (a + 9) 10 0, some (d + 1))]
  else if o = 13 ∧ d < 13 then [(simI a 9 0, some d), (simI (a + 1) 1 0, some (d + 1)), (simI (a + 2) 0 0, some (d + 2)), (simI (a + 5) 6 0, some (d + 3)), (simI (a + 6) 8 (a + 18), some (d + 2)), (simI (a + 9) 0 n, some (d + 1)), (simI (a + 12) 4 0, some (d + 2)), (simI (a + 13) 10 0, some (d + 1)), (simI (a + 14) 7 a, some d), (simI (a + 17) 4 0, none), (simI (a + 18) 3 0, some (d + 1))]
  else [(simI a (madeOp o d) n, some d)]
def chunkN (d o : Nat) : Nat := if o = 12 ∧ d < 15 then 10 else if o = 13 ∧ d < 13 then 19 else simLen (madeOp o d)
def chunkD (d o : Nat) : Nat := if o = 12 ∧ d < 15 then d else if o = 13 ∧ d < 13 then d else afterOp (madeOp o d) d
theorem chunkB_len (a d o n : Nat) : (chunkB a d o n).length = chunkN d o := by
  unfold chunkB chunkN
  split
  · simp [simB_len, simLen, longOp]
  · split
    · simp [simB_len, simLen, longOp]
    · exact simB_len _ _
theorem chunkN_le (d o : Nat) : 1 ≤ chunkN d o ∧ chunkN d o ≤ 19 := by
  unfold chunkN simLen
  split
  · omega
  · split
    · omega
    · split <;> omega
theorem chunkD_le {d : Nat} (o : Nat) (hd : d ≤ 16) : chunkD d o ≤ 16 := by
  unfold chunkD
  split
  · exact hd
  · split
    · exact hd
    · exact (madeOp_ok hd).2.2.2.2.2
theorem dec_chunk (a d o n : Nat) (r : List UInt8) (hd : d ≤ 16) (ha : a ≤ 2000) (hn : n < 300) : dec a (chunkB a d o n ++ r) = (dec (a + chunkN d o) r).map (((chunkE a d o n).map (·.1)) ++ ·) := by
  unfold chunkB chunkE chunkN
  by_cases h1 : o = 12 ∧ d < 15
  · rw [if_pos h1, if_pos h1, if_pos h1]
    simp only [List.append_assoc]
    rw [dec_sim _ _ _ _ (by omega) (by omega), dec_sim _ _ _ _ (by omega) (by omega), dec_sim _ _ _ _ (by omega) (by omega), dec_sim _ _ _ _ (by omega) (by omega)]
    simp only [Option.map_map]
    rfl
  · rw [if_neg h1, if_neg h1, if_neg h1]
    by_cases h2 : o = 13 ∧ d < 13
    · rw [if_pos h2, if_pos h2, if_pos h2]
      simp only [List.append_assoc]
      rw [dec_sim _ _ _ _ (by omega) (by omega), dec_sim _ _ _ _ (by omega) (by omega), dec_sim _ _ _ _ (by omega) (by omega), dec_sim _ _ _ _ (by omega) (by omega), dec_sim _ _ _ _ (by omega) (by omega), dec_sim _ _ _ _ (by omega) (by omega), dec_sim _ _ _ _ (by omega) (by omega), dec_sim _ _ _ _ (by omega) (by omega), dec_sim _ _ _ _ (by omega) (by omega), dec_sim _ _ _ _ (by omega) (by omega), dec_sim _ _ _ _ (by omega) (by omega)]
      simp only [Option.map_map]
      rfl
    · rw [if_neg h2, if_neg h2, if_neg h2, dec_sim _ _ _ _ (madeOp_ok hd).1 (by omega)]
      rfl
def madeB : Nat → Nat → List (Nat × Nat) → List UInt8
  | _, _, [] => [11]
  | a, d, (o, n) :: r => chunkB a d o n ++ madeB (a + chunkN d o) (chunkD d o) r
def madeE : Nat → Nat → List (Nat × Nat) → List Ent
  | a, d, [] => [(simI a 11 0, some d)]
  | a, d, (o, n) :: r => chunkE a d o n ++ madeE (a + chunkN d o) (chunkD d o) r
theorem madeB_len : ∀ (ps : List (Nat × Nat)) (a d : Nat), (madeB a d ps).length ≤ 19 * ps.length + 1
  | [], _, _ => by simp [madeB]
  | (o, n) :: r, a, d => by
    have := madeB_len r (a + chunkN d o) (chunkD d o)
    have := chunkN_le d o
    rw [madeB, List.length_append, chunkB_len, List.length_cons]
    omega
theorem dec_made : ∀ (ps : List (Nat × Nat)) (a d : Nat), d ≤ 16 → a + 19 * ps.length ≤ 2000 → (∀ p ∈ ps, p.2 < 300) → dec a (madeB a d ps) = some ((madeE a d ps).map (·.1))
  | [], a, d, _, _, _ => by simp [madeB, madeE, dec, simI, longOp]
  | (o, n) :: r, a, d, hd, ha, hp => by
    have hN := chunkN_le d o
    simp only [List.length_cons] at ha
    rw [madeB, madeE, dec_chunk a d o n _ hd (by omega) (hp (o, n) (by simp)), dec_made r _ _ (chunkD_le o hd) (by omega) (fun p h => hp p (by simp [h])), List.map_append]
    rfl
end Go.Proofs.YtainohbfcehpoaaDoor
