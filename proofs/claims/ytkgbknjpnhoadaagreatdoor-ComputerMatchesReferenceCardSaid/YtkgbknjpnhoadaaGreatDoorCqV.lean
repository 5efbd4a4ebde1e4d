/-
  What the echo program performs: plain laws.
-/
import Derived.Test.YtkgbknjpnhoadaaGreatDoorCq1
namespace Go.Proofs.YtkgbknjpnhoadaaGreatDoor

/-- The echo program. -/
def echoB : List UInt8 := [11, 0, 9, 0, 12, 20, 2, 20, 6, 19, 3, 20, 8, 0, 0, 0, 0, 0, 0, 1]
/-- Its memory, the counter at i. -/
def echoM (i : Nat) : List Nat := (loaded echoB).set 20 i
theorem echoM_at (i : Nat) {j : Nat} (h : j ≠ 20) : (echoM i).getD j 0 = (loaded echoB).getD j 0 := by
  unfold echoM
  rw [List.getD_eq_getElem?_getD, List.getElem?_set_ne (by omega), List.getD_eq_getElem?_getD]
theorem echoM_20 (i : Nat) : (echoM i).getD 20 0 = i := by
  unfold echoM
  have hl : (loaded echoB).length = 256 := loaded_len (by decide)
  rw [List.getD_eq_getElem?_getD, List.getElem?_set_self (by omega)]
  rfl
theorem echoM_set (i k : Nat) : (echoM i).set 20 k = echoM k := by unfold echoM; rw [List.set_set]
/-- The computer at the head of the program's loop. -/
def echoX (i a t : Nat) (d : List Nat) (ks : List Ev) : Cpu := ⟨echoM i, d, a, 0, t, ks⟩
theorem runs_step {f : Nat} {x : Cpu} {o n m : Nat} (ho : x.mem.getD x.c 0 = o) (hn : x.mem.getD ((x.c + 1) % 256) 0 = n) (hm : x.mem.getD n 0 = m) (h0 : o ≠ 0) (h17 : o < 17) :
    runs (f + 1) x = (({ x with c := (x.c + 2) % 256 } : Cpu).op o n m).2.toList ++ runs f { (({ x with c := (x.c + 2) % 256 } : Cpu).op o n m).1 with time := x.time + 1 } := by
  rw [runs, ho, hn, hm, if_neg (by omega)]
theorem runs_halt4 {f : Nat} {x : Cpu} {o n : Nat} (ho : x.mem.getD x.c 0 = o) (hn : x.mem.getD ((x.c + 1) % 256) 0 = n) (h : o = 0 ∨ 17 ≤ o) : runs (f + 1) x = [⟨x.time, 4, o, n⟩] := by
  rw [runs, ho, hn, if_pos h]
theorem echo_none (f i a t : Nat) (d : List Nat) (ks : List Ev) (hk : ∀ k r, ks = k :: r → (t : Int) < k.t) : runs (f + 2) (echoX i a t d ks) = runs f (echoX i 0 (t + 2) d ks) := by
  have g : ∀ j, j ≠ 20 → (echoM i).getD j 0 = (loaded echoB).getD j 0 := fun j h => echoM_at i h
  have g0 : (echoM i).getD 0 0 = 11 := (g 0 (by decide)).trans (by decide)
  have g1 : (echoM i).getD 1 0 = 0 := (g 1 (by decide)).trans (by decide)
  have g2 : (echoM i).getD 2 0 = 9 := (g 2 (by decide)).trans (by decide)
  have g3 : (echoM i).getD 3 0 = 0 := (g 3 (by decide)).trans (by decide)
  show runs (f + 2) ⟨echoM i, d, a, 0, t, ks⟩ = _
  rw [runs_step (x := ⟨echoM i, d, a, 0, t, ks⟩) (o := 11) (n := 0) (m := 11) g0 g1 g0 (by decide) (by decide)]
  have htk : (⟨echoM i, d, a, 2, t, ks⟩ : Cpu).take = ⟨echoM i, d, 0, 2, t, ks⟩ := by
    unfold Cpu.take
    cases ks with
    | nil => rfl
    | cons k r =>
      have := hk k r rfl
      show (if ((t : Nat) : Int) < k.t then _ else _) = _
      rw [if_pos this]
  show [] ++ runs (f + 1) { (⟨echoM i, d, a, 2, t, ks⟩ : Cpu).take with time := t + 1 } = _
  rw [htk]
  show [] ++ runs (f + 1) ⟨echoM i, d, 0, 2, t + 1, ks⟩ = _
  rw [List.nil_append, runs_step (x := ⟨echoM i, d, 0, 2, t + 1, ks⟩) (o := 9) (n := 0) (m := 11) g2 g3 g0 (by decide) (by decide)]
  rfl
theorem echo_key (f i a t : Nat) (d : List Nat) (k : Ev) (ks : List Ev) (hk : ¬ (t : Int) < k.t) (hka : 1 ≤ k.a ∧ k.a ≤ 255) (hi : i < 79) :
    runs (f + 7) (echoX i a t d (k :: ks)) = ⟨(t + 2 : Nat), 1, i, k.a⟩ :: runs f (echoX (i + 1) (i + 1) (t + 7) d ks) := by
  have g : ∀ j, j ≠ 20 → (echoM i).getD j 0 = (loaded echoB).getD j 0 := fun j h => echoM_at i h
  obtain ⟨q, hq⟩ : ∃ q : Nat, k.a = q := ⟨k.a.toNat, by omega⟩
  have hqn : k.a.toNat = q := by omega
  show runs (f + 7) ⟨echoM i, d, a, 0, t, k :: ks⟩ = _
  rw [runs_step (x := ⟨echoM i, d, a, 0, t, k :: ks⟩) (o := 11) (n := 0) (m := 11) ((g 0 (by decide)).trans (by decide)) ((g 1 (by decide)).trans (by decide)) ((g 0 (by decide)).trans (by decide)) (by decide) (by decide)]
  have htk : (⟨echoM i, d, a, 2, t, k :: ks⟩ : Cpu).take = ⟨echoM i, d, q, 2, t, ks⟩ := by
    show (if ((t : Nat) : Int) < k.t then _ else _) = _
    rw [if_neg hk, hqn]
  show [] ++ runs (f + 6) { (⟨echoM i, d, a, 2, t, k :: ks⟩ : Cpu).take with time := t + 1 } = _
  rw [htk]
  show [] ++ runs (f + 6) ⟨echoM i, d, q, 2, t + 1, ks⟩ = _
  rw [List.nil_append, runs_step (x := ⟨echoM i, d, q, 2, t + 1, ks⟩) (o := 9) (n := 0) (m := 11) ((g 2 (by decide)).trans (by decide)) ((g 3 (by decide)).trans (by decide)) ((g 0 (by decide)).trans (by decide)) (by decide) (by decide)]
  have hj : (({ (⟨echoM i, d, q, 2, t + 1, ks⟩ : Cpu) with c := 4 } : Cpu).op 9 0 11) = (⟨echoM i, d, q, 4, t + 1, ks⟩, none) := by
    show ((if q = 0 then _ else _), none) = _
    rw [if_neg (by omega)]
  show ((({ (⟨echoM i, d, q, 2, t + 1, ks⟩ : Cpu) with c := 4 } : Cpu).op 9 0 11)).2.toList ++ runs (f + 5) { ((({ (⟨echoM i, d, q, 2, t + 1, ks⟩ : Cpu) with c := 4 } : Cpu).op 9 0 11)).1 with time := t + 2 } = _
  rw [hj]
  show [] ++ runs (f + 5) ⟨echoM i, d, q, 4, t + 2, ks⟩ = _
  rw [List.nil_append, runs_step (x := ⟨echoM i, d, q, 4, t + 2, ks⟩) (o := 12) (n := 20) (m := i) ((g 4 (by decide)).trans (by decide)) ((g 5 (by decide)).trans (by decide)) (echoM_20 i) (by decide) (by decide)]
  show [⟨((t + 2 : Nat) : Int), 1, ((i % 80 : Nat) : Int), (q : Int)⟩] ++ runs (f + 4) ⟨echoM i, d, q, 6, t + 3, ks⟩ = _
  rw [Nat.mod_eq_of_lt (by omega : i < 80), ← hq]
  rw [runs_step (x := ⟨echoM i, d, q, 6, t + 3, ks⟩) (o := 2) (n := 20) (m := i) ((g 6 (by decide)).trans (by decide)) ((g 7 (by decide)).trans (by decide)) (echoM_20 i) (by decide) (by decide)]
  show _ ++ ([] ++ runs (f + 3) ⟨echoM i, d, i, 8, t + 4, ks⟩) = _
  rw [List.nil_append, runs_step (x := ⟨echoM i, d, i, 8, t + 4, ks⟩) (o := 6) (n := 19) (m := 1) ((g 8 (by decide)).trans (by decide)) ((g 9 (by decide)).trans (by decide)) ((g 19 (by decide)).trans (by decide)) (by decide) (by decide)]
  show _ ++ ([] ++ runs (f + 2) ⟨echoM i, d, (i + 1) % 256, 10, t + 5, ks⟩) = _
  rw [Nat.mod_eq_of_lt (by omega : i + 1 < 256)]
  rw [List.nil_append, runs_step (x := ⟨echoM i, d, i + 1, 10, t + 5, ks⟩) (o := 3) (n := 20) (m := i) ((g 10 (by decide)).trans (by decide)) ((g 11 (by decide)).trans (by decide)) (echoM_20 i) (by decide) (by decide)]
  show _ ++ ([] ++ runs (f + 1) ⟨(echoM i).set 20 (i + 1), d, i + 1, 12, t + 6, ks⟩) = _
  have g' : ∀ j, j ≠ 20 → (echoM (i + 1)).getD j 0 = (loaded echoB).getD j 0 := fun j h => echoM_at (i + 1) h
  rw [List.nil_append, echoM_set, runs_step (x := ⟨echoM (i + 1), d, i + 1, 12, t + 6, ks⟩) (o := 8) (n := 0) (m := 11) ((g' 12 (by decide)).trans (by decide)) ((g' 13 (by decide)).trans (by decide)) ((g' 0 (by decide)).trans (by decide)) (by decide) (by decide)]
  rfl
/-- An event of the echo: which key, and not before it. -/
def EchoEv (i : Nat) (k e : Ev) : Prop := e.k = 1 ∧ e.a = (i : Nat) ∧ e.b = k.a ∧ k.t ≤ e.t
theorem echo_idle (d : List Nat) : ∀ (f i a t : Nat), runs f (echoX i a t d []) = []
  | 0, _, _, _ => rfl
  | 1, i, a, t => by
    have g0 : (echoM i).getD 0 0 = 11 := (echoM_at i (by decide)).trans (by decide)
    have g1 : (echoM i).getD 1 0 = 0 := (echoM_at i (by decide)).trans (by decide)
    show runs (0 + 1) ⟨echoM i, d, a, 0, t, []⟩ = _
    rw [runs_step (x := ⟨echoM i, d, a, 0, t, []⟩) (o := 11) (n := 0) (m := 11) g0 g1 g0 (by decide) (by decide)]
    rfl
  | f + 2, i, a, t => by rw [echo_none f i a t d [] (fun k r h => by cases h)]; exact echo_idle d f i 0 (t + 2)
theorem echo_runs (d : List Nat) : ∀ (f : Nat) (i a t : Nat) (ks : List Ev), f + t = 3000 → t ≤ 1182 + 7 * i → i + ks.length ≤ 20 → (∀ k ∈ ks, keyOk k = true ∧ k.t ≤ 1180) →
    (runs f (echoX i a t d ks)).length = ks.length ∧ ∀ (j : Nat) (h1 : j < (runs f (echoX i a t d ks)).length) (h2 : j < ks.length), EchoEv (i + j) ks[j] (runs f (echoX i a t d ks))[j] := by
  intro f
  induction f using Nat.strongRecOn with
  | _ f ih =>
    intro i a t ks hft ht hi hks
    cases ks with
    | nil => rw [echo_idle]; exact ⟨rfl, fun j h1 => absurd h1 (by simp)⟩
    | cons k r =>
      obtain ⟨hk, hkt⟩ := hks k (by simp)
      have hp := keyOk_parts hk
      simp only [List.length_cons] at hi
      by_cases hlt : (t : Int) < k.t
      · obtain ⟨g, rfl⟩ : ∃ g, f = g + 2 := ⟨f - 2, by omega⟩
        rw [echo_none g i a t d (k :: r) (fun k' r' h => by injection h with h _; rw [← h]; exact hlt)]
        exact ih g (by omega) i 0 (t + 2) (k :: r) (by omega) (by omega) (by simpa using hi) hks
      · obtain ⟨g, rfl⟩ : ∃ g, f = g + 7 := ⟨f - 7, by omega⟩
        rw [echo_key g i a t d k r hlt ⟨hp.2.2.2.1, hp.2.2.2.2.1⟩ (by omega)]
        have := ih g (by omega) (i + 1) (i + 1) (t + 7) r (by omega) (by omega) (by omega) (fun k hk => hks k (by simp [hk]))
        refine ⟨by simp [this.1], fun j h1 h2 => ?_⟩
        cases j with
        | zero => exact ⟨rfl, rfl, rfl, by show k.t ≤ ((t + 2 : Nat) : Int); omega⟩
        | succ j =>
          have := this.2 j (by simpa using h1) (by simpa using h2)
          rw [show i + (j + 1) = i + 1 + j from by omega]
          exact this
theorem echo_perf (ks : List Ev) (hl : ks.length ≤ 20) (hks : ∀ k ∈ ks, keyOk k = true ∧ k.t ≤ 1180) :
    (perf echoB [] ks 3000).length = ks.length ∧ ∀ (j : Nat) (h1 : j < (perf echoB [] ks 3000).length) (h2 : j < ks.length), EchoEv j ks[j] (perf echoB [] ks 3000)[j] := by
  have e : perf echoB [] ks 3000 = runs 3000 (echoX 0 0 0 (loaded []) ks) := by
    unfold perf echoX
    have : echoM 0 = loaded echoB := by decide +kernel
    rw [this]
  rw [e]
  have := echo_runs (loaded []) 3000 0 0 0 ks (by omega) (by omega) (by omega) hks
  refine ⟨this.1, fun j h1 h2 => ?_⟩
  have := this.2 j h1 h2
  rwa [Nat.zero_add] at this
end Go.Proofs.YtkgbknjpnhoadaaGreatDoor
