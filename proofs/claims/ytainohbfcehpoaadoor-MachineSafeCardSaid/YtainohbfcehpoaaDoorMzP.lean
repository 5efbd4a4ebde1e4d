/-
  The programs that the reference makes halt soon. Plain.
  MachineSafe: plain laws of a run, step by step; at2; a stack that is turned in place.
-/
import Derived.Test.YtainohbfcehpoaaDoorMzJ
import Derived.Test.YtainohbfcehpoaaDoorMzK
import Derived.Test.YtainohbfcehpoaaDoorMzO
namespace Go.Proofs.YtainohbfcehpoaaDoor
open Go.RowKit

/-- So many steps lead from here to there. -/
def goK (l : List Ins) : Nat → Conf → Conf → Prop
  | 0, c, c' => c = c'
  | k + 1, c, c' => ∃ c1, stepM l c = .go c1 ∧ goK l k c1 c'
theorem goK_trans {l : List Ins} : ∀ {j k : Nat} {a b c : Conf}, goK l j a b → goK l k b c → goK l (j + k) a c
  | 0, k, a, b, c, h1, h2 => by
    subst h1
    rw [Nat.zero_add]
    exact h2
  | j + 1, k, a, b, c, ⟨x, h1, h2⟩, h3 => by
    rw [Nat.add_right_comm]
    exact ⟨x, h1, goK_trans h2 h3⟩
/-- What a run returns that halts behind so many steps. -/
theorem run_goK {l : List Ins} : ∀ {k : Nat} {c c' : Conf}, goK l k c c' → stepM l c' = .halt → ∀ m n, runM l m n c = if k < m then some (c'.out, n + k) else none
  | 0, c, c', h, hh, m, n => by
    subst h
    cases m with
    | zero => rfl
    | succ m => rw [runM_stop hh, if_pos (by omega)]; rfl
  | k + 1, c, c', ⟨x, h1, h2⟩, hh, m, n => by
    cases m with
    | zero => rfl
    | succ m =>
      rw [runM_next h1, run_goK h2 hh m (n + 1)]
      by_cases h : k < m
      · rw [if_pos h, if_pos (by omega), show n + 1 + k = n + (k + 1) by omega]
      · rw [if_neg h, if_neg (by omega)]
theorem get_some {L : List Ins} {i : Nat} {x : Ins} (h : L[i]? = some x) : L[i]! = x := by
  rw [getElem!_def, h]
theorem to_of {L : List Ins} (hL : Laid 0 L) {x y : Ins} {j : Nat} (hl : leadOp x.op = true) (hy : L[j]? = some y) (ho : y.off = x.opd) : toOf L x = j := by
  have hj : j < L.length := (List.getElem?_eq_some_iff.1 hy).1
  have h := hL.idx hj
  rw [get_some hy, ho] at h
  rw [toOf, if_pos hl, h]
  rfl
/-- The loop. -/
theorem loop_went {L : List Ins} (hL : Laid 0 L) (a d n p : Nat) (h0 : L[p]? = some (simI a 9 0)) (h1 : L[p + 1]? = some (simI (a + 1) 1 0)) (h2 : L[p + 2]? = some (simI (a + 2) 0 0)) (h3 : L[p + 3]? = some (simI (a + 5) 6 0))
    (h4 : L[p + 4]? = some (simI (a + 6) 8 (a + 18))) (h5 : L[p + 5]? = some (simI (a + 9) 0 n)) (h6 : L[p + 6]? = some (simI (a + 12) 4 0)) (h7 : L[p + 7]? = some (simI (a + 13) 10 0)) (h8 : L[p + 8]? = some (simI (a + 14) 7 a))
    (h10 : L[p + 10]? = some (simI (a + 18) 3 0)) : ∀ (inp : List UInt8) (st : List Int) (out : List UInt8), st.length = d → out.length + inp.length ≤ 1000 →
    ∃ k st' inp' out', goK L k ⟨p, st, inp, out⟩ ⟨p + 11, st', inp', out'⟩ ∧ st'.length = d ∧ inp'.length ≤ inp.length ∧ k + 9 * inp'.length ≤ 9 * inp.length + 6 ∧ out'.length + inp'.length ≤ out.length + inp.length + 1
  | [], st, out, hs, ho => by
    have s0 : stepM L ⟨p, st, [], out⟩ = .go ⟨p + 1, -1 :: st, [], out⟩ := by unfold stepM; dsimp only; rw [get_some h0]; rfl
    have s1 : stepM L ⟨p + 1, -1 :: st, [], out⟩ = .go ⟨p + 2, -1 :: -1 :: st, [], out⟩ := by unfold stepM; dsimp only; rw [get_some h1]; rfl
    have s2 : stepM L ⟨p + 2, -1 :: -1 :: st, [], out⟩ = .go ⟨p + 3, 0 :: -1 :: -1 :: st, [], out⟩ := by unfold stepM; dsimp only; rw [get_some h2]; rfl
    have s3 : stepM L ⟨p + 3, 0 :: -1 :: -1 :: st, [], out⟩ = .go ⟨p + 4, 1 :: -1 :: st, [], out⟩ := by unfold stepM; dsimp only; rw [get_some h3]; rfl
    have s4 : stepM L ⟨p + 4, 1 :: -1 :: st, [], out⟩ = .go ⟨p + 10, -1 :: st, [], out⟩ := by
      have ht : toOf L (simI (a + 6) 8 (a + 18)) = p + 10 := to_of hL rfl h10 rfl
      unfold stepM; dsimp only; rw [get_some h4, ht]; rfl
    have s5 : stepM L ⟨p + 10, -1 :: st, [], out⟩ = .go ⟨p + 11, st, [], out⟩ := by unfold stepM; dsimp only; rw [get_some h10]; rfl
    exact ⟨6, st, [], out, ⟨_, s0, _, s1, _, s2, _, s3, _, s4, _, s5, rfl⟩, hs, Nat.le_refl _, by simp, by omega⟩
  | b :: r, st, out, hs, ho => by
    have hb : ¬ ((b.toNat : Int) < 0) := by omega
    have s0 : stepM L ⟨p, st, b :: r, out⟩ = .go ⟨p + 1, (b.toNat : Int) :: st, r, out⟩ := by unfold stepM; dsimp only; rw [get_some h0]; rfl
    have s1 : stepM L ⟨p + 1, (b.toNat : Int) :: st, r, out⟩ = .go ⟨p + 2, (b.toNat : Int) :: (b.toNat : Int) :: st, r, out⟩ := by unfold stepM; dsimp only; rw [get_some h1]; rfl
    have s2 : stepM L ⟨p + 2, (b.toNat : Int) :: (b.toNat : Int) :: st, r, out⟩ = .go ⟨p + 3, 0 :: (b.toNat : Int) :: (b.toNat : Int) :: st, r, out⟩ := by unfold stepM; dsimp only; rw [get_some h2]; rfl
    have s3 : stepM L ⟨p + 3, 0 :: (b.toNat : Int) :: (b.toNat : Int) :: st, r, out⟩ = .go ⟨p + 4, 0 :: (b.toNat : Int) :: st, r, out⟩ := by
      unfold stepM; dsimp only; rw [get_some h3]
      show Res.go ⟨p + 3 + 1, (if (b.toNat : Int) < 0 then 1 else 0) :: (b.toNat : Int) :: st, r, out⟩ = _
      rw [if_neg hb]
    have s4 : stepM L ⟨p + 4, 0 :: (b.toNat : Int) :: st, r, out⟩ = .go ⟨p + 5, (b.toNat : Int) :: st, r, out⟩ := by unfold stepM; dsimp only; rw [get_some h4]; rfl
    have s5 : stepM L ⟨p + 5, (b.toNat : Int) :: st, r, out⟩ = .go ⟨p + 6, (n : Int) :: (b.toNat : Int) :: st, r, out⟩ := by unfold stepM; dsimp only; rw [get_some h5]; rfl
    have s6 : stepM L ⟨p + 6, (n : Int) :: (b.toNat : Int) :: st, r, out⟩ = .go ⟨p + 7, w64 ((b.toNat : Int) + n) :: st, r, out⟩ := by unfold stepM; dsimp only; rw [get_some h6]; rfl
    have s7 : stepM L ⟨p + 7, w64 ((b.toNat : Int) + n) :: st, r, out⟩ = .go ⟨p + 8, st, r, out ++ [UInt8.ofNat (w64 ((b.toNat : Int) + n) % 256).toNat]⟩ := by
      unfold stepM; dsimp only; rw [get_some h7]
      show (if out.length = 65536 then Res.over else Res.go _) = _
      rw [if_neg (by simp at ho; omega)]
    have s8 : stepM L ⟨p + 8, st, r, out ++ [UInt8.ofNat (w64 ((b.toNat : Int) + n) % 256).toNat]⟩ = .go ⟨p, st, r, out ++ [UInt8.ofNat (w64 ((b.toNat : Int) + n) % 256).toNat]⟩ := by
      have ht : toOf L (simI (a + 14) 7 a) = p := to_of hL rfl h0 rfl
      unfold stepM; dsimp only; rw [get_some h8]
      show Res.go ⟨toOf L (simI (a + 14) 7 a), _, _, _⟩ = _
      rw [ht]
    obtain ⟨k, st', inp', out', hg, g1, g2, g3, g4⟩ := loop_went hL a d n p h0 h1 h2 h3 h4 h5 h6 h7 h8 h10 r st (out ++ [UInt8.ofNat (w64 ((b.toNat : Int) + n) % 256).toNat]) hs (by simp at ho ⊢; omega)
    have h9 : goK L 9 ⟨p, st, b :: r, out⟩ ⟨p, st, r, out ++ [UInt8.ofNat (w64 ((b.toNat : Int) + n) % 256).toNat]⟩ := ⟨_, s0, _, s1, _, s2, _, s3, _, s4, _, s5, _, s6, _, s7, _, s8, rfl⟩
    refine ⟨9 + k, st', inp', out', goK_trans h9 hg, g1, by simp; omega, by simp; omega, by simp at g4 ⊢; omega⟩
/-- One instruction that is neither a lead nor the end. -/
theorem one_went {L : List Ins} {a o n p : Nat} (h : L[p]? = some (simI a o n)) (ho : o < 12) (h7 : o ≠ 7) (h8 : o ≠ 8) (h11 : o ≠ 11) (st : List Int) (inp out : List UInt8) (ht : takesOp o ≤ st.length) (hout : out.length + inp.length ≤ 1000) :
    ∃ k st' inp' out', goK L k ⟨p, st, inp, out⟩ ⟨p + 1, st', inp', out'⟩ ∧ st'.length = afterOp o st.length ∧ inp'.length ≤ inp.length ∧ k + 9 * inp'.length ≤ 9 * inp.length + 6 ∧ out'.length + inp'.length ≤ out.length + inp.length + 1 := by
  have hx : L[p]! = simI a o n := get_some h
  have hc : o < 7 ∨ o = 9 ∨ o = 10 := by omega
  rcases hc with hc | rfl | rfl
  · refine ⟨1, calcOp o (simI a o n).opd st, inp, out, ⟨_, ?_, rfl⟩, calc_len hc ht, Nat.le_refl _, by omega, by omega⟩
    unfold stepM
    dsimp only
    rw [hx]
    have h2 : o = 0 ∨ o = 1 ∨ o = 2 ∨ o = 3 ∨ o = 4 ∨ o = 5 ∨ o = 6 := by omega
    rcases h2 with h2 | h2 | h2 | h2 | h2 | h2 | h2 <;> subst h2 <;> rfl
  · cases inp with
    | nil =>
      refine ⟨1, -1 :: st, [], out, ⟨_, ?_, rfl⟩, by simp [afterOp, takesOp, putsOp], Nat.le_refl _, by simp, by simp⟩
      unfold stepM; dsimp only; rw [hx]; rfl
    | cons b r =>
      refine ⟨1, (b.toNat : Int) :: st, r, out, ⟨_, ?_, rfl⟩, by simp [afterOp, takesOp, putsOp], by simp, by simp; omega, by simp; omega⟩
      unfold stepM; dsimp only; rw [hx]; rfl
  · cases st with
    | nil => simp [takesOp] at ht
    | cons b r =>
      refine ⟨1, r, inp, out ++ [UInt8.ofNat (b % 256).toNat], ⟨_, ?_, rfl⟩, by simp [afterOp, takesOp, putsOp], Nat.le_refl _, by omega, by simp; omega⟩
      unfold stepM; dsimp only; rw [hx]
      show (if out.length = 65536 then Res.over else Res.go _) = _
      rw [if_neg (by omega)]
theorem chunk_went {L : List Ins} (hL : Laid 0 L) (a d o n p : Nat) (hE : ∀ j x dd, (chunkE a d o n)[j]? = some (x, dd) → L[p + j]? = some x) (hT : ∃ y, L[p + (chunkE a d o n).length]? = some y ∧ y.off = a + chunkN d o)
    (st : List Int) (inp out : List UInt8) (hs : st.length = d) (hd : d ≤ 16) (hout : out.length + inp.length ≤ 900) :
    ∃ k st' inp' out', goK L k ⟨p, st, inp, out⟩ ⟨p + (chunkE a d o n).length, st', inp', out'⟩ ∧ st'.length = chunkD d o ∧ inp'.length ≤ inp.length ∧ k + 9 * inp'.length ≤ 9 * inp.length + 6 ∧ out'.length + inp'.length ≤ out.length + inp.length + 1 := by
  unfold chunkD
  by_cases h1 : o = 12 ∧ d < 15
  · unfold chunkE at hE hT
    rw [if_pos h1] at hE hT
    unfold chunkN at hT
    rw [if_pos h1] at hT
    rw [if_pos h1]
    have hlen : (chunkE a d o n).length = 4 := by unfold chunkE; rw [if_pos h1]; rfl
    rw [hlen]
    obtain ⟨y, hy, hyo⟩ := hT
    have hy' : L[p + 4]? = some y := hy
    have e0 := hE 0 _ _ rfl
    have e1 := hE 1 _ _ rfl
    have e2 := hE 2 _ _ rfl
    have e3 := hE 3 _ _ rfl
    have s0 : stepM L ⟨p, st, inp, out⟩ = .go ⟨p + 1, ((n % 2 : Nat) : Int) :: st, inp, out⟩ := by unfold stepM; dsimp only; rw [get_some (i := p) e0]; rfl
    have s1 : stepM L ⟨p + 1, ((n % 2 : Nat) : Int) :: st, inp, out⟩ = .go ⟨if ((n % 2 : Nat) : Int) = 0 then p + 1 + 1 else p + 4, st, inp, out⟩ := by
      have ht : toOf L (simI (a + 3) 8 (a + 10)) = p + 4 := to_of hL rfl hy' hyo
      unfold stepM; dsimp only; rw [get_some e1]
      show Res.go ⟨if ((n % 2 : Nat) : Int) = 0 then p + 1 + 1 else toOf L (simI (a + 3) 8 (a + 10)), _, _, _⟩ = _
      rw [ht]
    by_cases hz : ((n % 2 : Nat) : Int) = 0
    · rw [if_pos hz] at s1
      have s2 : stepM L ⟨p + 1 + 1, st, inp, out⟩ = .go ⟨p + 3, (n : Int) :: st, inp, out⟩ := by unfold stepM; dsimp only; rw [get_some (i := p + 1 + 1) e2]; rfl
      have s3 : stepM L ⟨p + 3, (n : Int) :: st, inp, out⟩ = .go ⟨p + 4, st, inp, out ++ [UInt8.ofNat ((n : Int) % 256).toNat]⟩ := by
        unfold stepM; dsimp only; rw [get_some e3]
        show (if out.length = 65536 then Res.over else Res.go _) = _
        rw [if_neg (by omega)]
      exact ⟨4, st, inp, _, ⟨_, s0, _, s1, _, s2, _, s3, rfl⟩, hs, Nat.le_refl _, by omega, by simp; omega⟩
    · rw [if_neg hz] at s1
      exact ⟨2, st, inp, out, ⟨_, s0, _, s1, rfl⟩, hs, Nat.le_refl _, by omega, by omega⟩
  · rw [if_neg h1]
    by_cases h2 : o = 13 ∧ d < 13
    · unfold chunkE at hE
      rw [if_neg h1, if_pos h2] at hE
      rw [if_pos h2]
      have hlen : (chunkE a d o n).length = 11 := by unfold chunkE; rw [if_neg h1, if_pos h2]; rfl
      rw [hlen]
      exact loop_went hL a d n p (hE 0 _ _ rfl) (hE 1 _ _ rfl) (hE 2 _ _ rfl) (hE 3 _ _ rfl) (hE 4 _ _ rfl) (hE 5 _ _ rfl) (hE 6 _ _ rfl) (hE 7 _ _ rfl) (hE 8 _ _ rfl) (hE 10 _ _ rfl) inp st out hs (by omega)
    · unfold chunkE at hE
      rw [if_neg h1, if_neg h2] at hE
      rw [if_neg h2]
      have hlen : (chunkE a d o n).length = 1 := by unfold chunkE; rw [if_neg h1, if_neg h2]; rfl
      rw [hlen]
      obtain ⟨m1, m2, m3, m4, m5, m6⟩ := madeOp_ok (o := o) hd
      have := one_went (hE 0 _ _ rfl) m1 m2 m3 m4 st inp out (by rw [hs]; exact m5) (by omega)
      rw [hs] at this
      exact this
/-- A made program halts soon. -/
theorem made_went {L : List Ins} (hL : Laid 0 L) : ∀ (ps : List (Nat × Nat)) (a d p : Nat), (∀ j x dd, (madeE a d ps)[j]? = some (x, dd) → L[p + j]? = some x) → d ≤ 16 → ∀ (st : List Int) (inp out : List UInt8), st.length = d → out.length + inp.length + ps.length ≤ 900 →
    ∃ k c', goK L k ⟨p, st, inp, out⟩ c' ∧ stepM L c' = .halt ∧ k ≤ 9 * inp.length + 6 * ps.length ∧ c'.out.length ≤ out.length + inp.length + ps.length
  | [], a, d, p, hE, hd, st, inp, out, hs, ho => by
    have e0 := hE 0 _ _ rfl
    refine ⟨0, _, rfl, ?_, by omega, by dsimp only; omega⟩
    unfold stepM; dsimp only; rw [get_some (i := p) e0]; rfl
  | (o, n) :: r, a, d, p, hE, hd, st, inp, out, hs, ho => by
    rw [madeE] at hE
    simp only [List.length_cons] at ho
    have hE1 : ∀ j x dd, (chunkE a d o n)[j]? = some (x, dd) → L[p + j]? = some x := fun j x dd h => hE j x dd (by rw [List.getElem?_append_left (List.getElem?_eq_some_iff.1 h).1]; exact h)
    have hE2 : ∀ j x dd, (madeE (a + chunkN d o) (chunkD d o) r)[j]? = some (x, dd) → L[p + (chunkE a d o n).length + j]? = some x := fun j x dd h => by
      rw [Nat.add_assoc]
      exact hE _ x dd (by rw [List.getElem?_append_right (by omega), Nat.add_sub_cancel_left]; exact h)
    obtain ⟨y, t, hy, hyo⟩ := madeE_head r (a + chunkN d o) (chunkD d o)
    have hT : ∃ y, L[p + (chunkE a d o n).length]? = some y ∧ y.off = a + chunkN d o := ⟨y, hE2 0 y _ (by rw [hy]; rfl), hyo⟩
    obtain ⟨k, st', inp', out', g0, g1, g2, g3, g4⟩ := chunk_went hL a d o n p hE1 hT st inp out hs hd (by omega)
    obtain ⟨k2, c', q0, q1, q2, q3⟩ := made_went hL r (a + chunkN d o) (chunkD d o) (p + (chunkE a d o n).length) hE2 (chunkD_le o hd) st' inp' out' g1 (by omega)
    exact ⟨k + k2, c', goK_trans g0 q0, q1, by simp only [List.length_cons]; omega, by simp only [List.length_cons]; omega⟩
/-- What a run of a made program returns. -/
theorem made_run (ps : List (Nat × Nat)) (hl : ps.length ≤ 40) (hp : ∀ p ∈ ps, p.2 < 300) (inp : List UInt8) (hi : inp.length ≤ 60) : ∃ (k : Nat) (out : List UInt8), 1 ≤ k ∧ k ≤ 1000 ∧ out.length ≤ 1000 ∧
    ∀ m, runOf ((madeE 0 0 ps).map (·.1)) inp m = if k ≤ m then some (out, k) else none := by
  have hd := dec_made ps 0 0 (by omega) (by omega) hp
  have hL := dec_laid _ _ (Nat.le_refl _) _ _ hd
  obtain ⟨k, c', h1, h2, h3, h4⟩ := made_went hL ps 0 0 0 (fun j x dd h => by rw [Nat.zero_add, List.getElem?_map, h]; rfl) (by omega) [] inp [] rfl (by simp; omega)
  refine ⟨k + 1, c'.out, by omega, by omega, by simp at h4; omega, fun m => ?_⟩
  unfold runOf
  rw [run_goK h1 h2 m 1]
  by_cases h : k < m
  · rw [if_pos h, if_pos (by omega), Nat.add_comm]
  · rw [if_neg h, if_neg (by omega)]
end Go.Proofs.YtainohbfcehpoaaDoor
namespace Go.Proofs.YtainohbfcehpoaaDoor
open Go.RowKit Go.Shelf

theorem goK_snoc {l : List Ins} {s : Nat} {a b c : Conf} (h : goK l s a b) (hs : stepM l b = .go c) : goK l (s + 1) a c := goK_trans h ⟨c, hs, rfl⟩
theorem goK_none {l : List Ins} : ∀ {k : Nat} {c c' : Conf}, goK l k c c' → ∀ n, runM l k n c = none
  | 0, _, _, _, _ => rfl
  | k + 1, c, c', ⟨x, h1, h2⟩, n => by rw [runM_next h1]; exact goK_none h2 (n + 1)
theorem most_le16 {l : List Ins} {m : Nat} (hg : Good l) (hm : MostOf l m) : m ≤ 16 := by
  obtain ⟨i, d, hr, h⟩ := hm.got
  have h1 := reach_le hg hr
  have h2 := hg.room i d hr
  omega
set_option maxRecDepth 100000 in
set_option maxHeartbeats 2000000 in
theorem at2_any (b o c : Nat) (l : List Ins) (t : Nat) (w : World) (hc : l.length ≤ 100000) (hR : RefRow w b o l) :
    Calls Tryd.prog 24 #[.slice (some ⟨b, o, none⟩) l.length c, .int .i64 (t : Int)] w fun e w' => e = .returned (.int .i64 (findZ l t)) ∧ w' = w := by
  go_enter Tryd.func24, Tryd.ntmps24
  go_wp2_with fail
  go_loopw [5] (fun i wr => ∃ x : Nat, x ≤ l.length ∧ i = .int .i64 (x : Int) ∧ Hid (∀ k, k < x → (l[k]!).off ≠ t) ∧ wr = w) (fun i _ => l.length - (intOf i).toNat)
  case atStart => exact ⟨0, Nat.zero_le _, rfl, (show Hid _ from fun k hk => by omega), rfl⟩
  case round =>
    obtain ⟨x, hx, rfl, hno, rfl⟩ := hrel
    by_cases hlt : x < l.length
    · have hd : decide ((x : Int) < (l.length : Int)) = true := by simpa using hlt
      obtain ⟨m0, m1, m2⟩ := hR x hlt
      have hf := fun h => idxOf_first (t := t) hlt h hno.out
      have hno2 : (l[x]!).off ≠ t → ∀ k, k < x + 1 → (l[k]!).off ≠ t := fun h k hk => by
        by_cases e : k = x
        · subst e; exact h
        · exact hno.out k (by omega)
      generalize l[x]! = z at *
      by_cases hz : z.off = t
      · have hq : ((z.off : Int) == (t : Int)) = true := by rw [beq_iff_eq]; omega
        have hv : Hid (findZ l t = (x : Int)) := by show _ = _; rw [findZ, hf hz]
        replace hz := Lib.hid hz
        clear hf hno2
        go_wp2_with fail
        go_ret
        exact ⟨by rw [hv.out]; rfl, rfl⟩
      · have hq : ((z.off : Int) == (t : Int)) = false := by rw [beq_eq_false_iff_ne]; omega
        have hn3 := Lib.hid (hno2 hz)
        clear hf hno2
        go_wp2_with fail
        exact ⟨⟨x + 1, by omega, by go_num, hn3, trivial⟩, by simp [intOf]; omega⟩
    · have hd : decide ((x : Int) < (l.length : Int)) = false := by simpa using hlt
      have hv : Hid (findZ l t = -1) := by
        show _ = _
        rw [findZ, idxOf_none fun k hk => hno.out k (by omega)]
      go_wp2_with fail
      go_ret
      exact ⟨by rw [hv.out]; rfl, rfl⟩
/-- The top, or what lies beneath it, is turned in place. -/
theorem own_topAt {W : World} {B g c : Nat} {st : List Int} {a u : Int} (h : W.ownsRow B 3 1 (.slice (some ⟨g, 0, none⟩) (st.length + 1) c) (st.length + 1) (intC (a :: st).reverse)) :
    (W.setCell ⟨g, st.length, none⟩ (.int .i64 u)).ownsRow B 3 1 (.slice (some ⟨g, 0, none⟩) (st.length + 1) c) (st.length + 1) (intC (u :: st).reverse) ∧ W.frozen? ⟨g, st.length, none⟩ = false := by
  obtain ⟨h1, h2, h3⟩ := own_setAt (u := .int .i64 u) h (i := st.length) (by omega)
  refine ⟨?_, h3⟩
  have e : (intC (a :: st).reverse).set st.length (.int .i64 u) = intC (u :: st).reverse := by
    rw [intC, intC, ← List.map_set]
    congr 1
    rw [List.reverse_cons, List.set_append_right _ _ (by simp)]
    simp
  rw [← e]
  exact h1
theorem own_lowAt {W : World} {B g c : Nat} {st : List Int} {a b u : Int} (h : W.ownsRow B 3 1 (.slice (some ⟨g, 0, none⟩) (st.length + 1 + 1) c) (st.length + 1 + 1) (intC (b :: a :: st).reverse)) :
    (W.setCell ⟨g, st.length, none⟩ (.int .i64 u)).ownsRow B 3 1 (.slice (some ⟨g, 0, none⟩) (st.length + 1 + 1) c) (st.length + 1 + 1) (intC (b :: u :: st).reverse) ∧ W.frozen? ⟨g, st.length, none⟩ = false := by
  obtain ⟨h1, h2, h3⟩ := own_setAt (u := .int .i64 u) h (i := st.length) (by omega)
  refine ⟨?_, h3⟩
  have e : (intC (b :: a :: st).reverse).set st.length (.int .i64 u) = intC (b :: u :: st).reverse := by
    rw [intC, intC, ← List.map_set]
    congr 1
    rw [List.reverse_cons, List.reverse_cons, List.append_assoc, List.set_append_right _ _ (by simp)]
    simp
  rw [← e]
  exact h1
/-- What the law's own machine knows, round for round. -/
structure SafeAt (L : List Ins) (w3 : World) (inp : List UInt8) (rd s : Nat) (c : Conf) (sv : Value) (sn : List Int) (W : World) : Prop where
  two : Two (w3.heap.size + 1) c.st [] sv (.slice none 0 0) W
  seen : Arr W w3.heap.size 3 (intC sn)
  snl : sn.length = L.length
  snr : ∀ i, i < L.length → sn[i]! = 0 ∨ ∃ d : Nat, Reach L i d ∧ sn[i]! = 1 + (d : Int)
  inq : inp.drop rd = c.inp
  rle : rd ≤ inp.length
  rch : Reach L c.pc c.st.length
  went : goK L s ⟨0, [], inp, []⟩ c
  bel : Below w3.heap.size w3 W
  ol : c.out.length ≤ s
  sle : s ≤ 1500
  siz : w3.heap.size + 1 ≤ W.heap.size
theorem seen_at {L : List Ins} (hg : Good L) {sn : List Int} (hl : sn.length = L.length) (h : ∀ i, i < L.length → sn[i]! = 0 ∨ ∃ d : Nat, Reach L i d ∧ sn[i]! = 1 + (d : Int)) {pc d : Nat} (hp : pc < L.length) (hr : Reach L pc d) :
    (sn[pc]! = 0 ∨ sn[pc]! = 1 + (d : Int)) ∧ ((sn.set pc (1 + (d : Int))).length = L.length) ∧ ∀ i, i < L.length → (sn.set pc (1 + (d : Int)))[i]! = 0 ∨ ∃ d' : Nat, Reach L i d' ∧ (sn.set pc (1 + (d : Int)))[i]! = 1 + (d' : Int) := by
  refine ⟨?_, by rw [List.length_set]; exact hl, fun i hi => ?_⟩
  · rcases h pc hp with h0 | ⟨d', h1, h2⟩
    · exact .inl h0
    · rw [hg.one _ _ _ hr h1]; exact .inr h2
  · by_cases e : i = pc
    · subst e
      refine .inr ⟨d, hr, ?_⟩
      rw [getElem!_pos _ i (by rw [List.length_set]; omega), List.getElem_set_self]
    · rw [getElem!_pos _ i (by rw [List.length_set]; omega), List.getElem_set_ne (fun h => e h.symm)]
      have := h i hi
      rwa [getElem!_pos sn i (by omega)] at this
end Go.Proofs.YtainohbfcehpoaaDoor
