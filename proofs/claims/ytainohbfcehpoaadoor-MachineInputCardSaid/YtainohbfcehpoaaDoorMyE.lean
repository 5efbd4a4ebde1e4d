/-
  The programs that the reference makes halt soon. Plain.
  What follows an input that is not read to its end makes no difference. Plain.
  MachineInput: the walk.
-/
import Derived.Test.YtainohbfcehpoaaDoorMdA
import Derived.Test.YtainohbfcehpoaaDoorMf2
import Derived.Test.YtainohbfcehpoaaDoorMdB
import Derived.Test.YtainohbfcehpoaaDoorMyH
namespace Go.Proofs.YtainohbfcehpoaaDoor
open Go.RowKit

/-- So many steps lead from here to there. -/
def goK (l : List Ins) : Nat → Conf → Conf → Prop
  | 0, c, c' => c = c'
  | k + 1, c, c' => ∃ c1, stepM l c = .go c1 ∧ goK l k c1 c'
theorem goK_trans {l : List Ins} : ∀ {j k : Nat} {a b c : Conf}, goK l j a b → goK l k b c → goK l (j + k) a c
  | 0, k, a, b, c, h1, h2 => by
    subst h1
    rw [Nat.zero_add]
    exact h2
  | j + 1, k, a, b, c, ⟨x, h1, h2⟩, h3 => by
    rw [Nat.add_right_comm]
    exact ⟨x, h1, goK_trans h2 h3⟩
/-- What a run returns that halts behind so many steps. -/
theorem run_goK {l : List Ins} : ∀ {k : Nat} {c c' : Conf}, goK l k c c' → stepM l c' = .halt → ∀ m n, runM l m n c = if k < m then some (c'.out, n + k) else none
  | 0, c, c', h, hh, m, n => by
    subst h
    cases m with
    | zero => rfl
    | succ m => rw [runM_stop hh, if_pos (by omega)]; rfl
  | k + 1, c, c', ⟨x, h1, h2⟩, hh, m, n => by
    cases m with
    | zero => rfl
    | succ m =>
      rw [runM_next h1, run_goK h2 hh m (n + 1)]
      by_cases h : k < m
      · rw [if_pos h, if_pos (by omega), show n + 1 + k = n + (k + 1) by omega]
      · rw [if_neg h, if_neg (by omega)]
theorem get_some {L : List Ins} {i : Nat} {x : Ins} (h : L[i]? = some x) : L[i]! = x := by
  rw [getElem!_def, h]
theorem to_of {L : List Ins} (hL : Laid 0 L) {x y : Ins} {j : Nat} (hl : leadOp x.op = true) (hy : L[j]? = some y) (ho : y.off = x.opd) : toOf L x = j := by
  have hj : j < L.length := (List.getElem?_eq_some_iff.1 hy).1
  have h := hL.idx hj
  rw [get_some hy, ho] at h
  rw [toOf, if_pos hl, h]
  rfl
/-- The loop. -/
theorem loop_went {L : List Ins} (hL : Laid 0 L) (a d n p : Nat) (h0 : L[p]? = some (simI a 9 0)) (h1 : L[p + 1]? = some (simI (a + 1) 1 0)) (h2 : L[p + 2]? = some (simI (a + 2) 0 0)) (h3 : L[p + 3]? = some (simI (a + 5) 6 0))
    (h4 : L[p + 4]? = some (simI (a + 6) 8 (a + 18))) (h5 : L[p + 5]? = some (simI (a + 9) 0 n)) (h6 : L[p + 6]? = some (simI (a + 12) 4 0)) (h7 : L[p + 7]? = some (simI (a + 13) 10 0)) (h8 : L[p + 8]? = some (simI (a + 14) 7 a))
    (h10 : L[p + 10]? = some (simI (a + 18) 3 0)) : ∀ (inp : List UInt8) (st : List Int) (out : List UInt8), st.length = d → out.length + inp.length ≤ 1000 →
    ∃ k st' inp' out', goK L k ⟨p, st, inp, out⟩ ⟨p + 11, st', inp', out'⟩ ∧ st'.length = d ∧ inp'.length ≤ inp.length ∧ k + 9 * inp'.length ≤ 9 * inp.length + 6 ∧ out'.length + inp'.length ≤ out.length + inp.length + 1
  | [], st, out, hs, ho => by
    have s0 : stepM L ⟨p, st, [], out⟩ = .go ⟨p + 1, -1 :: st, [], out⟩ := by unfold stepM; dsimp only; rw [get_some h0]; rfl
    have s1 : stepM L ⟨p + 1, -1 :: st, [], out⟩ = .go ⟨p + 2, -1 :: -1 :: st, [], out⟩ := by unfold stepM; dsimp only; rw [get_some h1]; rfl
    have s2 : stepM L ⟨p + 2, -1 :: -1 :: st, [], out⟩ = .go ⟨p + 3, 0 :: -1 :: -1 :: st, [], out⟩ := by unfold stepM; dsimp only; rw [get_some h2]; rfl
    have s3 : stepM L ⟨p + 3, 0 :: -1 :: -1 :: st, [], out⟩ = .go ⟨p + 4, 1 :: -1 :: st, [], out⟩ := by unfold stepM; dsimp only; rw [get_some h3]; rfl
    have s4 : stepM L ⟨p + 4, 1 :: -1 :: st, [], out⟩ = .go ⟨p + 10, -1 :: st, [], out⟩ := by
      have ht : toOf L (simI (a + 6) 8 (a + 18)) = p + 10 := to_of hL rfl h10 rfl
      unfold stepM; dsimp only; rw [get_some h4, ht]; rfl
    have s5 : stepM L ⟨p + 10, -1 :: st, [], out⟩ = .go ⟨p + 11, st, [], out⟩ := by unfold stepM; dsimp only; rw [get_some h10]; rfl
    exact ⟨6, st, [], out, ⟨_, s0, _, s1, _, s2, _, s3, _, s4, _, s5, rfl⟩, hs, Nat.le_refl _, by simp, by omega⟩
  | b :: r, st, out, hs, ho => by
    have hb : ¬ ((b.toNat : Int) < 0) := by omega
    have s0 : stepM L ⟨p, st, b :: r, out⟩ = .go ⟨p + 1, (b.toNat : Int) :: st, r, out⟩ := by unfold stepM; dsimp only; rw [get_some h0]; rfl
    have s1 : stepM L ⟨p + 1, (b.toNat : Int) :: st, r, out⟩ = .go ⟨p + 2, (b.toNat : Int) :: (b.toNat : Int) :: st, r, out⟩ := by unfold stepM; dsimp only; rw [get_some h1]; rfl
    have s2 : stepM L ⟨p + 2, (b.toNat : Int) :: (b.toNat : Int) :: st, r, out⟩ = .go ⟨p + 3, 0 :: (b.toNat : Int) :: (b.toNat : Int) :: st, r, out⟩ := by unfold stepM; dsimp only; rw [get_some h2]; rfl
    have s3 : stepM L ⟨p + 3, 0 :: (b.toNat : Int) :: (b.toNat : Int) :: st, r, out⟩ = .go ⟨p + 4, 0 :: (b.toNat : Int) :: st, r, out⟩ := by
      unfold stepM; dsimp only; rw [get_some h3]
      show Res.go ⟨p + 3 + 1, (if (b.toNat : Int) < 0 then 1 else 0) :: (b.toNat : Int) :: st, r, out⟩ = _
      rw [if_neg hb]
    have s4 : stepM L ⟨p + 4, 0 :: (b.toNat : Int) :: st, r, out⟩ = .go ⟨p + 5, (b.toNat : Int) :: st, r, out⟩ := by unfold stepM; dsimp only; rw [get_some h4]; rfl
    have s5 : stepM L ⟨p + 5, (b.toNat : Int) :: st, r, out⟩ = .go ⟨p + 6, (n : Int) :: (b.toNat : Int) :: st, r, out⟩ := by unfold stepM; dsimp only; rw [get_some h5]; rfl
    have s6 : stepM L ⟨p + 6, (n : Int) :: (b.toNat : Int) :: st, r, out⟩ = .go ⟨p + 7, w64 ((b.toNat : Int) + n) :: st, r, out⟩ := by unfold stepM; dsimp only; rw [get_some h6]; rfl
    have s7 : stepM L ⟨p + 7, w64 ((b.toNat : Int) + n) :: st, r, out⟩ = .go ⟨p + 8, st, r, out ++ [UInt8.ofNat (w64 ((b.toNat : Int) + n) % 256).toNat]⟩ := by
      unfold stepM; dsimp only; rw [get_some h7]
      show (if out.length = 65536 then Res.over else Res.go _) = _
      rw [if_neg (by simp at ho; omega)]
    have s8 : stepM L ⟨p + 8, st, r, out ++ [UInt8.ofNat (w64 ((b.toNat : Int) + n) % 256).toNat]⟩ = .go ⟨p, st, r, out ++ [UInt8.ofNat (w64 ((b.toNat : Int) + n) % 256).toNat]⟩ := by
      have ht : toOf L (simI (a + 14) 7 a) = p := to_of hL rfl h0 rfl
      unfold stepM; dsimp only; rw [get_some h8]
      show Res.go ⟨toOf L (simI (a + 14) 7 a), _, _, _⟩ = _
      rw [ht]
    obtain ⟨k, st', inp', out', hg, g1, g2, g3, g4⟩ := loop_went hL a d n p h0 h1 h2 h3 h4 h5 h6 h7 h8 h10 r st (out ++ [UInt8.ofNat (w64 ((b.toNat : Int) + n) % 256).toNat]) hs (by simp at ho ⊢; omega)
    have h9 : goK L 9 ⟨p, st, b :: r, out⟩ ⟨p, st, r, out ++ [UInt8.ofNat (w64 ((b.toNat : Int) + n) % 256).toNat]⟩ := ⟨_, s0, _, s1, _, s2, _, s3, _, s4, _, s5, _, s6, _, s7, _, s8, rfl⟩
    refine ⟨9 + k, st', inp', out', goK_trans h9 hg, g1, by simp; omega, by simp; omega, by simp at g4 ⊢; omega⟩
/-- One instruction that is neither a lead nor the end. -/
theorem one_went {L : List Ins} {a o n p : Nat} (h : L[p]? = some (simI a o n)) (ho : o < 12) (h7 : o ≠ 7) (h8 : o ≠ 8) (h11 : o ≠ 11) (st : List Int) (inp out : List UInt8) (ht : takesOp o ≤ st.length) (hout : out.length + inp.length ≤ 1000) :
    ∃ k st' inp' out', goK L k ⟨p, st, inp, out⟩ ⟨p + 1, st', inp', out'⟩ ∧ st'.length = afterOp o st.length ∧ inp'.length ≤ inp.length ∧ k + 9 * inp'.length ≤ 9 * inp.length + 6 ∧ out'.length + inp'.length ≤ out.length + inp.length + 1 := by
  have hx : L[p]! = simI a o n := get_some h
  have hc : o < 7 ∨ o = 9 ∨ o = 10 := by omega
  rcases hc with hc | rfl | rfl
  · refine ⟨1, calcOp o (simI a o n).opd st, inp, out, ⟨_, ?_, rfl⟩, calc_len hc ht, Nat.le_refl _, by omega, by omega⟩
    unfold stepM
    dsimp only
    rw [hx]
    have h2 : o = 0 ∨ o = 1 ∨ o = 2 ∨ o = 3 ∨ o = 4 ∨ o = 5 ∨ o = 6 := by omega
    rcases h2 with h2 | h2 | h2 | h2 | h2 | h2 | h2 <;> subst h2 <;> rfl
  · cases inp with
    | nil =>
      refine ⟨1, -1 :: st, [], out, ⟨_, ?_, rfl⟩, by simp [afterOp, takesOp, putsOp], Nat.le_refl _, by simp, by simp⟩
      unfold stepM; dsimp only; rw [hx]; rfl
    | cons b r =>
      refine ⟨1, (b.toNat : Int) :: st, r, out, ⟨_, ?_, rfl⟩, by simp [afterOp, takesOp, putsOp], by simp, by simp; omega, by simp; omega⟩
      unfold stepM; dsimp only; rw [hx]; rfl
  · cases st with
    | nil => simp [takesOp] at ht
    | cons b r =>
      refine ⟨1, r, inp, out ++ [UInt8.ofNat (b % 256).toNat], ⟨_, ?_, rfl⟩, by simp [afterOp, takesOp, putsOp], Nat.le_refl _, by omega, by simp; omega⟩
      unfold stepM; dsimp only; rw [hx]
      show (if out.length = 65536 then Res.over else Res.go _) = _
      rw [if_neg (by omega)]
theorem chunk_went {L : List Ins} (hL : Laid 0 L) (a d o n p : Nat) (hE : ∀ j x dd, (chunkE a d o n)[j]? = some (x, dd) → L[p + j]? = some x) (hT : ∃ y, L[p + (chunkE a d o n).length]? = some y ∧ y.off = a + chunkN d o)
    (st : List Int) (inp out : List UInt8) (hs : st.length = d) (hd : d ≤ 16) (hout : out.length + inp.length ≤ 900) :
    ∃ k st' inp' out', goK L k ⟨p, st, inp, out⟩ ⟨p + (chunkE a d o n).length, st', inp', out'⟩ ∧ st'.length = chunkD d o ∧ inp'.length ≤ inp.length ∧ k + 9 * inp'.length ≤ 9 * inp.length + 6 ∧ out'.length + inp'.length ≤ out.length + inp.length + 1 := by
  unfold chunkD
  by_cases h1 : o = 12 ∧ d < 15
  · unfold chunkE at hE hT
    rw [if_pos h1] at hE hT
    unfold chunkN at hT
    rw [if_pos h1] at hT
    rw [if_pos h1]
    have hlen : (chunkE a d o n).length = 4 := by unfold chunkE; rw [if_pos h1]; rfl
    rw [hlen]
    obtain ⟨y, hy, hyo⟩ := hT
    have hy' : L[p + 4]? = some y := hy
    have e0 := hE 0 _ _ rfl
    have e1 := hE 1 _ _ rfl
    have e2 := hE 2 _ _ rfl
    have e3 := hE 3 _ _ rfl
    have s0 : stepM L ⟨p, st, inp, out⟩ = .go ⟨p + 1, ((n % 2 : Nat) : Int) :: st, inp, out⟩ := by unfold stepM; dsimp only; rw [get_some (i := p) e0]; rfl
    have s1 : stepM L ⟨p + 1, ((n % 2 : Nat) : Int) :: st, inp, out⟩ = .go ⟨if ((n % 2 : Nat) : Int) = 0 then p + 1 + 1 else p + 4, st, inp, out⟩ := by
      have ht : toOf L (simI (a + 3) 8 (a + 10)) = p + 4 := to_of hL rfl hy' hyo
      unfold stepM; dsimp only; rw [get_some e1]
      show Res.go ⟨if ((n % 2 : Nat) : Int) = 0 then p + 1 + 1 else toOf L (simI (a + 3) 8 (a + 10)), _, _, _⟩ = _
      rw [ht]
    by_cases hz : ((n % 2 : Nat) : Int) = 0
    · rw [if_pos hz] at s1
      have s2 : stepM L ⟨p + 1 + 1, st, inp, out⟩ = .go ⟨p + 3, (n : Int) :: st, inp, out⟩ := by unfold stepM; dsimp only; rw [get_some (i := p + 1 + 1) e2]; rfl
      have s3 : stepM L ⟨p + 3, (n : Int) :: st, inp, out⟩ = .go ⟨p + 4, st, inp, out ++ [UInt8.ofNat ((n : Int) % 256).toNat]⟩ := by
        unfold stepM; dsimp only; rw [get_some e3]
        show (if out.length = 65536 then Res.over else Res.go _) = _
        rw [if_neg (by omega)]
      exact ⟨4, st, inp, _, ⟨_, s0, _, s1, _, s2, _, s3, rfl⟩, hs, Nat.le_refl _, by omega, by simp; omega⟩
    · rw [if_neg hz] at s1
      exact ⟨2, st, inp, out, ⟨_, s0, _, s1, rfl⟩, hs, Nat.le_refl _, by omega, by omega⟩
  · rw [if_neg h1]
    by_cases h2 : o = 13 ∧ d < 13
    · unfold chunkE at hE
      rw [if_neg h1, if_pos h2] at hE
      rw [if_pos h2]
      have hlen : (chunkE a d o n).length = 11 := by unfold chunkE; rw [if_neg h1, if_pos h2]; rfl
      rw [hlen]
      exact loop_went hL a d n p (hE 0 _ _ rfl) (hE 1 _ _ rfl) (hE 2 _ _ rfl) (hE 3 _ _ rfl) (hE 4 _ _ rfl) (hE 5 _ _ rfl) (hE 6 _ _ rfl) (hE 7 _ _ rfl) (hE 8 _ _ rfl) (hE 10 _ _ rfl) inp st out hs (by omega)
    · unfold chunkE at hE
      rw [if_neg h1, if_neg h2] at hE
      rw [if_neg h2]
      have hlen : (chunkE a d o n).length = 1 := by unfold chunkE; rw [if_neg h1, if_neg h2]; rfl
      rw [hlen]
      obtain ⟨m1, m2, m3, m4, m5, m6⟩ := madeOp_ok (o := o) hd
      have := one_went (hE 0 _ _ rfl) m1 m2 m3 m4 st inp out (by rw [hs]; exact m5) (by omega)
      rw [hs] at this
      exact this
/-- A made program halts soon. -/
theorem made_went {L : List Ins} (hL : Laid 0 L) : ∀ (ps : List (Nat × Nat)) (a d p : Nat), (∀ j x dd, (madeE a d ps)[j]? = some (x, dd) → L[p + j]? = some x) → d ≤ 16 → ∀ (st : List Int) (inp out : List UInt8), st.length = d → out.length + inp.length + ps.length ≤ 900 →
    ∃ k c', goK L k ⟨p, st, inp, out⟩ c' ∧ stepM L c' = .halt ∧ k ≤ 9 * inp.length + 6 * ps.length ∧ c'.out.length ≤ out.length + inp.length + ps.length
  | [], a, d, p, hE, hd, st, inp, out, hs, ho => by
    have e0 := hE 0 _ _ rfl
    refine ⟨0, _, rfl, ?_, by omega, by dsimp only; omega⟩
    unfold stepM; dsimp only; rw [get_some (i := p) e0]; rfl
  | (o, n) :: r, a, d, p, hE, hd, st, inp, out, hs, ho => by
    rw [madeE] at hE
    simp only [List.length_cons] at ho
    have hE1 : ∀ j x dd, (chunkE a d o n)[j]? = some (x, dd) → L[p + j]? = some x := fun j x dd h => hE j x dd (by rw [List.getElem?_append_left (List.getElem?_eq_some_iff.1 h).1]; exact h)
    have hE2 : ∀ j x dd, (madeE (a + chunkN d o) (chunkD d o) r)[j]? = some (x, dd) → L[p + (chunkE a d o n).length + j]? = some x := fun j x dd h => by
      rw [Nat.add_assoc]
      exact hE _ x dd (by rw [List.getElem?_append_right (by omega), Nat.add_sub_cancel_left]; exact h)
    obtain ⟨y, t, hy, hyo⟩ := madeE_head r (a + chunkN d o) (chunkD d o)
    have hT : ∃ y, L[p + (chunkE a d o n).length]? = some y ∧ y.off = a + chunkN d o := ⟨y, hE2 0 y _ (by rw [hy]; rfl), hyo⟩
    obtain ⟨k, st', inp', out', g0, g1, g2, g3, g4⟩ := chunk_went hL a d o n p hE1 hT st inp out hs hd (by omega)
    obtain ⟨k2, c', q0, q1, q2, q3⟩ := made_went hL r (a + chunkN d o) (chunkD d o) (p + (chunkE a d o n).length) hE2 (chunkD_le o hd) st' inp' out' g1 (by omega)
    exact ⟨k + k2, c', goK_trans g0 q0, q1, by simp only [List.length_cons]; omega, by simp only [List.length_cons]; omega⟩
/-- What a run of a made program returns. -/
theorem made_run (ps : List (Nat × Nat)) (hl : ps.length ≤ 40) (hp : ∀ p ∈ ps, p.2 < 300) (inp : List UInt8) (hi : inp.length ≤ 60) : ∃ (k : Nat) (out : List UInt8), 1 ≤ k ∧ k ≤ 1000 ∧ out.length ≤ 1000 ∧
    ∀ m, runOf ((madeE 0 0 ps).map (·.1)) inp m = if k ≤ m then some (out, k) else none := by
  have hd := dec_made ps 0 0 (by omega) (by omega) hp
  have hL := dec_laid _ _ (Nat.le_refl _) _ _ hd
  obtain ⟨k, c', h1, h2, h3, h4⟩ := made_went hL ps 0 0 0 (fun j x dd h => by rw [Nat.zero_add, List.getElem?_map, h]; rfl) (by omega) [] inp [] rfl (by simp; omega)
  refine ⟨k + 1, c'.out, by omega, by omega, by simp at h4; omega, fun m => ?_⟩
  unfold runOf
  rw [run_goK h1 h2 m 1]
  by_cases h : k < m
  · rw [if_pos h, if_pos (by omega), Nat.add_comm]
  · rw [if_neg h, if_neg (by omega)]
end Go.Proofs.YtainohbfcehpoaaDoor
namespace Go.Proofs.YtainohbfcehpoaaDoor
open Go.RowKit

def cnt9 (l : List Ins) : Nat := (l.filter fun x => x.op == 9).length
theorem cnt9_drop (L : List Ins) {p q : Nat} (h : p ≤ q) : cnt9 (L.drop q) ≤ cnt9 (L.drop p) := by
  unfold cnt9
  rw [show q = p + (q - p) by omega, ← List.drop_drop]
  exact ((List.drop_sublist _ _).filter _).length_le
theorem cnt9_at {L : List Ins} {p : Nat} (h : p < L.length) (h9 : L[p]!.op = 9) : cnt9 (L.drop p) = cnt9 (L.drop (p + 1)) + 1 := by
  rw [List.drop_eq_getElem_cons h]
  rw [getElem!_pos L p h] at h9
  unfold cnt9
  rw [List.filter_cons, if_pos (by rw [h9]; rfl), List.length_cons]
theorem cnt9_snoc (l : List Ins) (x : Ins) : cnt9 (l ++ [x]) = cnt9 l + (if x.op = 9 then 1 else 0) := by
  unfold cnt9
  rw [List.filter_append, List.length_append]
  congr 1
  by_cases h : x.op = 9
  · rw [if_pos h, List.filter_cons, if_pos (by rw [h]; rfl)]; rfl
  · rw [if_neg h, List.filter_cons, if_neg (by simpa using h)]; rfl
def addI (c : Conf) (m : List UInt8) : Conf := ⟨c.pc, c.st, c.inp ++ m, c.out⟩
/-- One step of a program that leads only onward: the input need not be read to its end. -/
theorem step_more {L : List Ins} (hf : ∀ i, i < L.length → L[i]!.op = 8 → i < toOf L L[i]!) (h7 : ∀ i, i < L.length → L[i]!.op ≠ 7) (m : List UInt8) {c c1 : Conf} (h : stepM L c = .go c1) (hc : cnt9 (L.drop c.pc) ≤ c.inp.length) :
    stepM L (addI c m) = .go (addI c1 m) ∧ cnt9 (L.drop c1.pc) ≤ c1.inp.length := by
  obtain ⟨pc, st, inp, out⟩ := c
  have hout : L.length ≤ pc → L[pc]!.op = 0 := fun h => by rw [getElem!_def, List.getElem?_eq_none h]; rfl
  have e7 : L[pc]!.op ≠ 7 := by
    by_cases hlt : pc < L.length
    · exact h7 pc hlt
    · rw [hout (by omega)]; decide
  have e8 : L[pc]!.op = 8 → pc < toOf L L[pc]! := fun h8 => by
    by_cases hlt : pc < L.length
    · exact hf pc hlt h8
    · rw [hout (by omega)] at h8; cases h8
  have e9 : L[pc]!.op = 9 → cnt9 (L.drop pc) = cnt9 (L.drop (pc + 1)) + 1 := fun h9 => by
    by_cases hlt : pc < L.length
    · exact cnt9_at hlt h9
    · rw [hout (by omega)] at h9; cases h9
  have hn : cnt9 (L.drop (pc + 1)) ≤ cnt9 (L.drop pc) := cnt9_drop L (Nat.le_succ pc)
  have hto := fun h => cnt9_drop L (Nat.le_of_lt (e8 h))
  unfold stepM at h ⊢
  unfold addI
  dsimp only at h hc ⊢
  generalize L[pc]! = x at *
  obtain ⟨xo, op, opd⟩ := x
  dsimp only at *
  split at h
  · cases h
  · exact absurd rfl e7
  · cases st with
    | nil => cases h
    | cons a r =>
      injection h with h
      subst h
      refine ⟨rfl, ?_⟩
      dsimp only
      split
      · omega
      · have := hto rfl; omega
  · have h9 := e9 rfl
    cases inp with
    | nil => simp at hc; omega
    | cons b r =>
      injection h with h
      subst h
      refine ⟨rfl, ?_⟩
      simp only [List.length_cons] at hc
      dsimp only
      omega
  · cases st with
    | nil => cases h
    | cons a r =>
      dsimp only at h ⊢
      split at h
      · cases h
      · rename_i hne
        injection h with h
        subst h
        rw [if_neg hne]
        exact ⟨rfl, by dsimp only; omega⟩
  · injection h with h
    subst h
    exact ⟨rfl, by dsimp only; omega⟩
theorem goK_more {L : List Ins} (hf : ∀ i, i < L.length → L[i]!.op = 8 → i < toOf L L[i]!) (h7 : ∀ i, i < L.length → L[i]!.op ≠ 7) (m : List UInt8) : ∀ {k : Nat} {c c' : Conf}, goK L k c c' → cnt9 (L.drop c.pc) ≤ c.inp.length → goK L k (addI c m) (addI c' m)
  | 0, c, c', h, _ => by
    have h' : c = c' := h
    subst h'
    exact rfl
  | k + 1, c, c', ⟨c1, h1, h2⟩, hc => by
    obtain ⟨g1, g2⟩ := step_more hf h7 m h1 hc
    exact ⟨_, g1, goK_more hf h7 m h2 g2⟩
theorem halt_more {L : List Ins} {c : Conf} {m : List UInt8} (h : stepM L c = .halt) : stepM L (addI c m) = .halt := by
  obtain ⟨pc, st, inp, out⟩ := c
  unfold stepM at h ⊢
  unfold addI
  dsimp only at h ⊢
  generalize L[pc]! = x at *
  obtain ⟨xo, op, opd⟩ := x
  dsimp only at *
  split at h
  · rfl
  · cases h
  · cases st with
    | nil => rfl
    | cons a r => cases h
  · cases inp <;> cases h
  · cases st with
    | nil => rfl
    | cons a r =>
      dsimp only at h
      split at h <;> cases h
  · cases h
/-- In a made program the conditional leads go onward. -/
theorem made_eight : ∀ (ps : List (Nat × Nat)) (a d : Nat), d ≤ 16 → ∀ x ∈ (madeE a d ps).map (·.1), x.op = 8 → x.off < x.opd
  | [], a, d, _, x, hx, h8 => by
    simp only [madeE, List.map_cons, List.map_nil, List.mem_singleton] at hx
    subst hx
    cases h8
  | (o, n) :: r, a, d, hd, x, hx, h8 => by
    rw [madeE, List.map_append, List.mem_append] at hx
    rcases hx with hx | hx
    · unfold chunkE at hx
      by_cases h1 : o = 12 ∧ d < 15
      · rw [if_pos h1] at hx
        simp only [List.map_cons, List.map_nil, List.mem_cons, List.not_mem_nil, or_false] at hx
        rcases hx with rfl | rfl | rfl | rfl
        · cases h8
        · show a + 3 < a + 10; omega
        · cases h8
        · cases h8
      · rw [if_neg h1] at hx
        by_cases h2 : o = 13 ∧ d < 13
        · rw [if_pos h2] at hx
          simp only [List.map_cons, List.map_nil, List.mem_cons, List.not_mem_nil, or_false] at hx
          rcases hx with rfl | rfl | rfl | rfl | rfl | rfl | rfl | rfl | rfl | rfl | rfl
          all_goals first
            | (cases h8; done)
            | (show a + 6 < a + 18; omega)
        · rw [if_neg h2] at hx
          simp only [List.map_cons, List.map_nil, List.mem_singleton] at hx
          subst hx
          exact absurd h8 (madeOp_ok (o := o) hd).2.2.1
    · exact made_eight r _ _ (chunkD_le o hd) x hx h8
def madeL (ps : List (Nat × Nat)) : List Ins := (madeE 0 0 ps).map (·.1)
/-- A made program without a loop that reads no more than the input holds. -/
theorem made_more (ps : List (Nat × Nat)) (hl : ps.length ≤ 40) (hp : ∀ p ∈ ps, p.2 < 300) (inp more : List UInt8) (hi : inp.length ≤ 30) (h7 : ∀ i, i < (madeL ps).length → (madeL ps)[i]!.op ≠ 7)
    (h9 : cnt9 (madeL ps) ≤ inp.length) (n : Nat) : runOf (madeL ps) (inp ++ more) n = runOf (madeL ps) inp n := by
  unfold madeL at *
  have hd := dec_made ps 0 0 (by omega) (by omega) hp
  have hL := dec_laid _ _ (Nat.le_refl _) _ _ hd
  have hF := (formed_parts (made_formed ps hl hp).1).2.2.2.2
  have h8 := made_eight ps 0 0 (by omega)
  obtain ⟨k, c', h1, h2, _, _⟩ := made_went hL ps 0 0 0 (fun j x dd h => by rw [Nat.zero_add, List.getElem?_map, h]; rfl) (by omega) [] inp [] rfl (by simp; omega)
  generalize (madeE 0 0 ps).map (·.1) = L at *
  have hf : ∀ i, i < L.length → L[i]!.op = 8 → i < toOf L L[i]! := fun i hi h => by
    have hlead : leadOp L[i]!.op = true := by rw [h]; rfl
    obtain ⟨q1, q2⟩ := toOf_lt hF hi hlead
    have hx := h8 L[i]! (by rw [getElem!_pos L i hi]; exact List.getElem_mem hi) h
    rcases Nat.lt_or_ge i (toOf L L[i]!) with hh | hh
    · exact hh
    · exfalso
      rcases Nat.lt_or_ge (toOf L L[i]!) i with h' | h'
      · have := hL.lt _ _ h' hi
        omega
      · have e : toOf L L[i]! = i := by omega
        rw [e] at q2
        omega
  have hg := goK_more hf h7 more h1 (by rw [List.drop_zero]; exact h9)
  unfold runOf
  rw [run_goK h1 h2 n 1]
  have := run_goK hg (halt_more h2) n 1
  exact this
end Go.Proofs.YtainohbfcehpoaaDoor
namespace Go.Proofs.YtainohbfcehpoaaDoor
open Go.RowKit Go.Shelf

theorem str_self (a : List UInt8) : ((str a).toList == (str a).toList) = true := beq_self_eq_true _
def any7 (l : List Ins) : Bool := l.any fun x => x.op == 7
theorem any7_snoc (l : List Ins) (x : Ins) : any7 (l ++ [x]) = (any7 l || x.op == 7) := by simp [any7]
theorem any7_no {l : List Ins} (h : any7 l = false) : ∀ i, i < l.length → l[i]!.op ≠ 7 := fun i hi e => by
  unfold any7 at h
  rw [List.any_eq_false] at h
  have := h l[i]! (by rw [getElem!_pos l i hi]; exact List.getElem_mem hi)
  rw [e] at this
  exact this rfl
set_option maxRecDepth 100000 in
set_option maxHeartbeats 8000000 in
theorem Input_walk (v : Value) (n : Nat) (zs : List Int) (inp more : List UInt8) (w : World) (hs : SliceAt w w.heap.size v n (zs.map (Value.int .i64))) (hz : zs.length = n * 2) (hI : ∀ z ∈ zs, I64 z) (hi : inp.length ≤ 9223372036854775807) (hi2 : more.length ≤ 9223372036854775807) (hE : EnvR w) :
    Calls Tryd.prog 7 #[v, .string (str inp), .string (str more)] w fun e w' => e = .returned (.bool true) ∧ Below w.heap.size w w' := by
  have hsn := Lib.hid (sane_any w hE.env)
  have hmd := fun W (hb : Below w.heap.size w W) => Lib.hid (Made_any v n zs W (hs.later hb) hz hI (hE.below hb))
  have hfm := made_formed (prs40 zs) prs40_len prs40_lt
  have hml := madeB_len (prs40 zs) 0 0
  have hpl := prs40_len (zs := zs)
  have hex := extract_take inp (min inp.length 30)
  have hps := str_size inp
  have hmn : (min (inp.length : Int) 30).toNat = min inp.length 30 := by omega
  have hm1 : (0 : Int) ≤ min (inp.length : Int) 30 := by omega
  have hm2 : min (inp.length : Int) 30 ≤ (inp.length : Int) := by omega
  have hrl : (inp.take (min inp.length 30)).length ≤ 30 := by rw [List.length_take]; omega
  have hex' := extract_take more (min more.length 30)
  have hps' := str_size more
  have hmn' : (min (more.length : Int) 30).toNat = min more.length 30 := by omega
  have hm1' : (0 : Int) ≤ min (more.length : Int) 30 := by omega
  have hm2' : min (more.length : Int) 30 ≤ (more.length : Int) := by omega
  have hrl' : (more.take (min more.length 30)).length ≤ 30 := by rw [List.length_take]; omega
  generalize inp.take (min inp.length 30) = i2 at *
  generalize more.take (min more.length 30) = m2 at *
  obtain ⟨k1, out1, ha1, ha2, _, hrun1⟩ := made_run (prs40 zs) prs40_len prs40_lt i2 (by omega)
  obtain ⟨k2, out2, hc1, hc2, _, hrun2⟩ := made_run (prs40 zs) prs40_len prs40_lt (i2 ++ m2) (by rw [List.length_append]; omega)
  have hmm := made_more (prs40 zs) prs40_len prs40_lt i2 m2 hrl
  unfold madeL at hmm
  generalize (madeE 0 0 (prs40 zs)).map (·.1) = L at *
  generalize madeB 0 0 (prs40 zs) = made at *
  have hsame : any7 L = false → cnt9 L ≤ i2.length → out1 = out2 ∧ k1 = k2 := fun h7 h9 => by
    have := hmm (any7_no h7) h9 1000
    rw [hrun1, hrun2, if_pos (by omega), if_pos (by omega)] at this
    injection this with this
    injection this with q1 q2
    exact ⟨q1.symm, q2.symm⟩
  have hR1 := fun (W : World) (hb : Below w.heap.size w W) => Lib.hid ((Run_any made i2 5000 W (by omega) (by omega) (hE.below hb).env.ops ⟨by omega, by omega⟩).mono (fun e w' h => And.intro (show e = .returned (.tuple #[.string (str out1), .int .i64 (k1 : Int), .int .i64 0]) by rw [run_yes h hfm.1 hfm.2 (by omega) (by omega), hrun1, if_pos (by omega)]; rfl) h.2))
  have hR2 := fun (W : World) (hb : Below w.heap.size w W) => Lib.hid ((Run_any made (i2 ++ m2) 5000 W (by omega) (by rw [List.length_append]; omega) (hE.below hb).env.ops ⟨by omega, by omega⟩).mono (fun e w' h => And.intro (show e = .returned (.tuple #[.string (str out2), .int .i64 (k2 : Int), .int .i64 0]) by rw [run_yes h hfm.1 hfm.2 (by omega) (by omega), hrun2, if_pos (by omega)]; rfl) h.2))
  have hadd := add_str i2 m2 (by omega)
  have hps2 := str_size i2
  have hIns := fun W => Lib.hid (insR_any made W (by omega))
  have hfm1 := Lib.hid hfm.1
  generalize i2 ++ m2 = im at *
  clear hrun1 hrun2 hmm hfm
  go_enter Tryd.func7, Tryd.ntmps7
  go_wp2_with fail
  refine hsn.out.mono ?_
  rintro e w1 ⟨rfl, hb1⟩
  go_wp2_with fail
  refine (hmd w1 hb1).out.mono ?_
  rintro e w2 ⟨rfl, hb2⟩
  have hB2 := hb1.trans (hb2.mono hb1.size)
  clear hsn hmd hb1 hb2
  go_wp2_with fail
  refine (hIns _).out.mono ?_
  rintro e w3 ⟨hyes, _, hb3⟩
  obtain ⟨g, cap, rfl, hg1, hg2, hcap, hcm, hRR⟩ := hyes L hfm1.out
  have hB3 := hB2.trans (hb3.mono hB2.size)
  unfold maxLen at hcm
  clear hyes hB2 hb3 hIns
  go_wp2_with fail
  go_loopw [11, 12, 13] (fun r lp i wr => ∃ k : Nat, k ≤ L.length ∧ r = .int .i64 (cnt9 (L.take k) : Nat) ∧ lp = .bool (any7 (L.take k)) ∧ i = .int .i64 (k : Int) ∧ wr = w3) (fun _ _ i _ => L.length - (intOf i).toNat)
  case atStart => exact ⟨0, Nat.zero_le _, rfl, rfl, rfl, rfl⟩
  case round =>
    obtain ⟨k, hk, rfl, rfl, rfl, rfl⟩ := hrel
    by_cases hkl : k < L.length
    · have hdk : decide ((k : Int) < (L.length : Int)) = true := by simpa using hkl
      obtain ⟨_, m1, _⟩ := hRR k hkl
      simp only [Nat.zero_add] at m1
      have j0 : (0 : Int) ≤ (k : Int) := by omega
      have hw1k : IntKind.i64.wrap ((k : Int) + 1) = ((k + 1 : Nat) : Int) := by rw [Int.natCast_succ]; exact IntWalk.i64_in _ (by omega)
      have hcl : cnt9 (L.take k) ≤ k := by
        unfold cnt9
        exact Nat.le_trans (List.length_filter_le _ _) (by rw [List.length_take]; omega)
      have ht1 : cnt9 (L.take (k + 1)) = cnt9 (L.take k) + (if L[k]!.op = 9 then 1 else 0) := by rw [List.take_succ_eq_append_getElem hkl, cnt9_snoc, getElem!_pos L k hkl]
      have ht2 : any7 (L.take (k + 1)) = (any7 (L.take k) || L[k]!.op == 7) := by rw [List.take_succ_eq_append_getElem hkl, any7_snoc, getElem!_pos L k hkl]
      generalize L[k]!.op = o at *
      generalize hcn : cnt9 (L.take k) = cn at *
      generalize hc2n : cnt9 (L.take (k + 1)) = cn2 at *
      generalize han : any7 (L.take k) = an at *
      generalize han2 : any7 (L.take (k + 1)) = an2 at *
      replace hcn := Lib.hid hcn
      replace hc2n := Lib.hid hc2n
      replace han := Lib.hid han
      replace han2 := Lib.hid han2
      have hw2c : IntKind.i64.wrap ((cn : Int) + 1) = ((cn + 1 : Nat) : Int) := by rw [Int.natCast_succ]; exact IntWalk.i64_in _ (by omega)
      by_cases h9 : o = 9
      · have hq9 : ((o : Int) == 9) = true := by rw [beq_iff_eq]; omega
        have hq7 : ((o : Int) == 7) = false := by rw [beq_eq_false_iff_ne]; omega
        have e1 : cn2 = cn + 1 := by rw [ht1, if_pos h9]
        have e2 : an2 = an := by rw [ht2, h9]; simp
        replace h9 := Lib.hid h9
        clear ht1 ht2
        cases an <;>
        (go_wp2_with fail
         exact ⟨⟨k + 1, by omega, by rw [hc2n.out, e1]; first | rfl | go_num, by rw [han2.out, e2], by first | rfl | go_num, trivial⟩, by simp [intOf]; omega⟩)
      · have hq9 : ((o : Int) == 9) = false := by rw [beq_eq_false_iff_ne]; omega
        have e1 : cn2 = cn := by rw [ht1, if_neg h9]; rfl
        replace h9 := Lib.hid h9
        cases an with
        | true =>
          have e2 : an2 = true := by rw [ht2]; rfl
          clear ht1 ht2
          go_wp2_with fail
          exact ⟨⟨k + 1, by omega, by rw [hc2n.out, e1], by rw [han2.out, e2], by first | rfl | go_num, trivial⟩, by simp [intOf]; omega⟩
        | false =>
          by_cases h7 : o = 7
          · have hq7 : ((o : Int) == 7) = true := by rw [beq_iff_eq]; omega
            have e2 : an2 = true := by rw [ht2, h7]; rfl
            replace h7 := Lib.hid h7
            clear ht1 ht2
            go_wp2_with fail
            exact ⟨⟨k + 1, by omega, by rw [hc2n.out, e1], by rw [han2.out, e2], by first | rfl | go_num, trivial⟩, by simp [intOf]; omega⟩
          · have hq7 : ((o : Int) == 7) = false := by rw [beq_eq_false_iff_ne]; omega
            have e2 : an2 = false := by rw [ht2]; simpa using h7
            replace h7 := Lib.hid h7
            clear ht1 ht2
            go_wp2_with fail
            exact ⟨⟨k + 1, by omega, by rw [hc2n.out, e1], by rw [han2.out, e2], by first | rfl | go_num, trivial⟩, by simp [intOf]; omega⟩
    · have hdk : decide ((k : Int) < (L.length : Int)) = false := by simpa using hkl
      obtain rfl : k = L.length := by omega
      rw [List.take_length]
      generalize hcn : cnt9 L = cn at *
      generalize han : any7 L = an at *
      replace hcn := Lib.hid hcn
      replace han := Lib.hid han
      have hsm := Lib.hid hsame
      clear hsame hkl hk
      go_wp2_with fail
      refine (hR1 _ hB3).out.mono ?_
      rintro e w4 ⟨rfl, hb4⟩
      have hB4 := hB3.trans (hb4.mono hB3.size)
      clear hb4
      go_wp2_with fail
      refine (hR2 _ hB4).out.mono ?_
      rintro e w5 ⟨rfl, hb5⟩
      have hB5 := hB4.trans (hb5.mono hB4.size)
      clear hb5
      cases an with
      | true =>
        go_wp2_with fail
        go_ret
        exact ⟨rfl, hB5⟩
      | false =>
        by_cases hle : cn ≤ i2.length
        · have hdc : decide ((i2.length : Int) < (cn : Int)) = false := by simp; omega
          obtain ⟨rfl, rfl⟩ := hsm.out rfl hle
          have hss := str_self out1
          go_wp2_with fail
          go_ret
          exact ⟨rfl, hB5⟩
        · have hdc : decide ((i2.length : Int) < (cn : Int)) = true := by simp; omega
          go_wp2_with fail
          go_ret
          exact ⟨rfl, hB5⟩
end Go.Proofs.YtainohbfcehpoaaDoor
