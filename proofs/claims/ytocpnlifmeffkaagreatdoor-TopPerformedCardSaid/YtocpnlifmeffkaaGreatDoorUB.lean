/-
  What the echo program performs: plain laws.
  What a performance has: plain laws (its prefixes, its times, keys that come too late, the disk).
  Integers as bytes and performances as texts, plain.
  Groups of seven bits, plain; the model's operations on bits in plain arithmetic.
  Documents and their properties, plain.
  The values of a document's cells, plain.
-/
import Derived.Test.YtocpnlifmeffkaaGreatDoorUA
namespace Go.Proofs.YtocpnlifmeffkaaGreatDoor

/-- The echo program. -/
def echoB : List UInt8 := [11, 0, 9, 0, 12, 20, 2, 20, 6, 19, 3, 20, 8, 0, 0, 0, 0, 0, 0, 1]
/-- Its memory, the counter at i. -/
def echoM (i : Nat) : List Nat := (loaded echoB).set 20 i
theorem echoM_at (i : Nat) {j : Nat} (h : j ≠ 20) : (echoM i).getD j 0 = (loaded echoB).getD j 0 := by
  unfold echoM
  rw [List.getD_eq_getElem?_getD, List.getElem?_set_ne (by omega), List.getD_eq_getElem?_getD]
theorem echoM_20 (i : Nat) : (echoM i).getD 20 0 = i := by
  unfold echoM
  have hl : (loaded echoB).length = 256 := loaded_len (by decide)
  rw [List.getD_eq_getElem?_getD, List.getElem?_set_self (by omega)]
  rfl
theorem echoM_set (i k : Nat) : (echoM i).set 20 k = echoM k := by unfold echoM; rw [List.set_set]
/-- The computer at the head of the program's loop. -/
def echoX (i a t : Nat) (d : List Nat) (ks : List Ev) : Cpu := ⟨echoM i, d, a, 0, t, ks⟩
theorem runs_step {f : Nat} {x : Cpu} {o n m : Nat} (ho : x.mem.getD x.c 0 = o) (hn : x.mem.getD ((x.c + 1) % 256) 0 = n) (hm : x.mem.getD n 0 = m) (h0 : o ≠ 0) (h17 : o < 17) :
    runs (f + 1) x = (({ x with c := (x.c + 2) % 256 } : Cpu).op o n m).2.toList ++ runs f { (({ x with c := (x.c + 2) % 256 } : Cpu).op o n m).1 with time := x.time + 1 } := by
  rw [runs, ho, hn, hm, if_neg (by omega)]
theorem runs_halt4 {f : Nat} {x : Cpu} {o n : Nat} (ho : x.mem.getD x.c 0 = o) (hn : x.mem.getD ((x.c + 1) % 256) 0 = n) (h : o = 0 ∨ 17 ≤ o) : runs (f + 1) x = [⟨x.time, 4, o, n⟩] := by
  rw [runs, ho, hn, if_pos h]
theorem echo_none (f i a t : Nat) (d : List Nat) (ks : List Ev) (hk : ∀ k r, ks = k :: r → (t : Int) < k.t) : runs (f + 2) (echoX i a t d ks) = runs f (echoX i 0 (t + 2) d ks) := by
  have g : ∀ j, j ≠ 20 → (echoM i).getD j 0 = (loaded echoB).getD j 0 := fun j h => echoM_at i h
  have g0 : (echoM i).getD 0 0 = 11 := (g 0 (by decide)).trans (by decide)
  have g1 : (echoM i).getD 1 0 = 0 := (g 1 (by decide)).trans (by decide)
  have g2 : (echoM i).getD 2 0 = 9 := (g 2 (by decide)).trans (by decide)
  have g3 : (echoM i).getD 3 0 = 0 := (g 3 (by decide)).trans (by decide)
  show runs (f + 2) ⟨echoM i, d, a, 0, t, ks⟩ = _
  rw [runs_step (x := ⟨echoM i, d, a, 0, t, ks⟩) (o := 11) (n := 0) (m := 11) g0 g1 g0 (by decide) (by decide)]
  have htk : (⟨echoM i, d, a, 2, t, ks⟩ : Cpu).take = ⟨echoM i, d, 0, 2, t, ks⟩ := by
    unfold Cpu.take
    cases ks with
    | nil => rfl
    | cons k r =>
      have := hk k r rfl
      show (if ((t : Nat) : Int) < k.t then _ else _) = _
      rw [if_pos this]
  show [] ++ runs (f + 1) { (⟨echoM i, d, a, 2, t, ks⟩ : Cpu).take with time := t + 1 } = _
  rw [htk]
  show [] ++ runs (f + 1) ⟨echoM i, d, 0, 2, t + 1, ks⟩ = _
  rw [List.nil_append, runs_step (x := ⟨echoM i, d, 0, 2, t + 1, ks⟩) (o := 9) (n := 0) (m := 11) g2 g3 g0 (by decide) (by decide)]
  rfl
theorem echo_key (f i a t : Nat) (d : List Nat) (k : Ev) (ks : List Ev) (hk : ¬ (t : Int) < k.t) (hka : 1 ≤ k.a ∧ k.a ≤ 255) (hi : i < 79) :
    runs (f + 7) (echoX i a t d (k :: ks)) = ⟨(t + 2 : Nat), 1, i, k.a⟩ :: runs f (echoX (i + 1) (i + 1) (t + 7) d ks) := by
  have g : ∀ j, j ≠ 20 → (echoM i).getD j 0 = (loaded echoB).getD j 0 := fun j h => echoM_at i h
  obtain ⟨q, hq⟩ : ∃ q : Nat, k.a = q := ⟨k.a.toNat, by omega⟩
  have hqn : k.a.toNat = q := by omega
  show runs (f + 7) ⟨echoM i, d, a, 0, t, k :: ks⟩ = _
  rw [runs_step (x := ⟨echoM i, d, a, 0, t, k :: ks⟩) (o := 11) (n := 0) (m := 11) ((g 0 (by decide)).trans (by decide)) ((g 1 (by decide)).trans (by decide)) ((g 0 (by decide)).trans (by decide)) (by decide) (by decide)]
  have htk : (⟨echoM i, d, a, 2, t, k :: ks⟩ : Cpu).take = ⟨echoM i, d, q, 2, t, ks⟩ := by
    show (if ((t : Nat) : Int) < k.t then _ else _) = _
    rw [if_neg hk, hqn]
  show [] ++ runs (f + 6) { (⟨echoM i, d, a, 2, t, k :: ks⟩ : Cpu).take with time := t + 1 } = _
  rw [htk]
  show [] ++ runs (f + 6) ⟨echoM i, d, q, 2, t + 1, ks⟩ = _
  rw [List.nil_append, runs_step (x := ⟨echoM i, d, q, 2, t + 1, ks⟩) (o := 9) (n := 0) (m := 11) ((g 2 (by decide)).trans (by decide)) ((g 3 (by decide)).trans (by decide)) ((g 0 (by decide)).trans (by decide)) (by decide) (by decide)]
  have hj : (({ (⟨echoM i, d, q, 2, t + 1, ks⟩ : Cpu) with c := 4 } : Cpu).op 9 0 11) = (⟨echoM i, d, q, 4, t + 1, ks⟩, none) := by
    show ((if q = 0 then _ else _), none) = _
    rw [if_neg (by omega)]
  show ((({ (⟨echoM i, d, q, 2, t + 1, ks⟩ : Cpu) with c := 4 } : Cpu).op 9 0 11)).2.toList ++ runs (f + 5) { ((({ (⟨echoM i, d, q, 2, t + 1, ks⟩ : Cpu) with c := 4 } : Cpu).op 9 0 11)).1 with time := t + 2 } = _
  rw [hj]
  show [] ++ runs (f + 5) ⟨echoM i, d, q, 4, t + 2, ks⟩ = _
  rw [List.nil_append, runs_step (x := ⟨echoM i, d, q, 4, t + 2, ks⟩) (o := 12) (n := 20) (m := i) ((g 4 (by decide)).trans (by decide)) ((g 5 (by decide)).trans (by decide)) (echoM_20 i) (by decide) (by decide)]
  show [⟨((t + 2 : Nat) : Int), 1, ((i % 80 : Nat) : Int), (q : Int)⟩] ++ runs (f + 4) ⟨echoM i, d, q, 6, t + 3, ks⟩ = _
  rw [Nat.mod_eq_of_lt (by omega : i < 80), ← hq]
  rw [runs_step (x := ⟨echoM i, d, q, 6, t + 3, ks⟩) (o := 2) (n := 20) (m := i) ((g 6 (by decide)).trans (by decide)) ((g 7 (by decide)).trans (by decide)) (echoM_20 i) (by decide) (by decide)]
  show _ ++ ([] ++ runs (f + 3) ⟨echoM i, d, i, 8, t + 4, ks⟩) = _
  rw [List.nil_append, runs_step (x := ⟨echoM i, d, i, 8, t + 4, ks⟩) (o := 6) (n := 19) (m := 1) ((g 8 (by decide)).trans (by decide)) ((g 9 (by decide)).trans (by decide)) ((g 19 (by decide)).trans (by decide)) (by decide) (by decide)]
  show _ ++ ([] ++ runs (f + 2) ⟨echoM i, d, (i + 1) % 256, 10, t + 5, ks⟩) = _
  rw [Nat.mod_eq_of_lt (by omega : i + 1 < 256)]
  rw [List.nil_append, runs_step (x := ⟨echoM i, d, i + 1, 10, t + 5, ks⟩) (o := 3) (n := 20) (m := i) ((g 10 (by decide)).trans (by decide)) ((g 11 (by decide)).trans (by decide)) (echoM_20 i) (by decide) (by decide)]
  show _ ++ ([] ++ runs (f + 1) ⟨(echoM i).set 20 (i + 1), d, i + 1, 12, t + 6, ks⟩) = _
  have g' : ∀ j, j ≠ 20 → (echoM (i + 1)).getD j 0 = (loaded echoB).getD j 0 := fun j h => echoM_at (i + 1) h
  rw [List.nil_append, echoM_set, runs_step (x := ⟨echoM (i + 1), d, i + 1, 12, t + 6, ks⟩) (o := 8) (n := 0) (m := 11) ((g' 12 (by decide)).trans (by decide)) ((g' 13 (by decide)).trans (by decide)) ((g' 0 (by decide)).trans (by decide)) (by decide) (by decide)]
  rfl
/-- An event of the echo: which key, and not before it. -/
def EchoEv (i : Nat) (k e : Ev) : Prop := e.k = 1 ∧ e.a = (i : Nat) ∧ e.b = k.a ∧ k.t ≤ e.t
theorem echo_idle (d : List Nat) : ∀ (f i a t : Nat), runs f (echoX i a t d []) = []
  | 0, _, _, _ => rfl
  | 1, i, a, t => by
    have g0 : (echoM i).getD 0 0 = 11 := (echoM_at i (by decide)).trans (by decide)
    have g1 : (echoM i).getD 1 0 = 0 := (echoM_at i (by decide)).trans (by decide)
    show runs (0 + 1) ⟨echoM i, d, a, 0, t, []⟩ = _
    rw [runs_step (x := ⟨echoM i, d, a, 0, t, []⟩) (o := 11) (n := 0) (m := 11) g0 g1 g0 (by decide) (by decide)]
    rfl
  | f + 2, i, a, t => by rw [echo_none f i a t d [] (fun k r h => by cases h)]; exact echo_idle d f i 0 (t + 2)
theorem echo_runs (d : List Nat) : ∀ (f : Nat) (i a t : Nat) (ks : List Ev), f + t = 3000 → t ≤ 1182 + 7 * i → i + ks.length ≤ 20 → (∀ k ∈ ks, keyOk k = true ∧ k.t ≤ 1180) →
    (runs f (echoX i a t d ks)).length = ks.length ∧ ∀ (j : Nat) (h1 : j < (runs f (echoX i a t d ks)).length) (h2 : j < ks.length), EchoEv (i + j) ks[j] (runs f (echoX i a t d ks))[j] := by
  intro f
  induction f using Nat.strongRecOn with
  | _ f ih =>
    intro i a t ks hft ht hi hks
    cases ks with
    | nil => rw [echo_idle]; exact ⟨rfl, fun j h1 => absurd h1 (by simp)⟩
    | cons k r =>
      obtain ⟨hk, hkt⟩ := hks k (by simp)
      have hp := keyOk_parts hk
      simp only [List.length_cons] at hi
      by_cases hlt : (t : Int) < k.t
      · obtain ⟨g, rfl⟩ : ∃ g, f = g + 2 := ⟨f - 2, by omega⟩
        rw [echo_none g i a t d (k :: r) (fun k' r' h => by injection h with h _; rw [← h]; exact hlt)]
        exact ih g (by omega) i 0 (t + 2) (k :: r) (by omega) (by omega) (by simpa using hi) hks
      · obtain ⟨g, rfl⟩ : ∃ g, f = g + 7 := ⟨f - 7, by omega⟩
        rw [echo_key g i a t d k r hlt ⟨hp.2.2.2.1, hp.2.2.2.2.1⟩ (by omega)]
        have := ih g (by omega) (i + 1) (i + 1) (t + 7) r (by omega) (by omega) (by omega) (fun k hk => hks k (by simp [hk]))
        refine ⟨by simp [this.1], fun j h1 h2 => ?_⟩
        cases j with
        | zero => exact ⟨rfl, rfl, rfl, by show k.t ≤ ((t + 2 : Nat) : Int); omega⟩
        | succ j =>
          have := this.2 j (by simpa using h1) (by simpa using h2)
          rw [show i + (j + 1) = i + 1 + j from by omega]
          exact this
theorem echo_perf (ks : List Ev) (hl : ks.length ≤ 20) (hks : ∀ k ∈ ks, keyOk k = true ∧ k.t ≤ 1180) :
    (perf echoB [] ks 3000).length = ks.length ∧ ∀ (j : Nat) (h1 : j < (perf echoB [] ks 3000).length) (h2 : j < ks.length), EchoEv j ks[j] (perf echoB [] ks 3000)[j] := by
  have e : perf echoB [] ks 3000 = runs 3000 (echoX 0 0 0 (loaded []) ks) := by
    unfold perf echoX
    have : echoM 0 = loaded echoB := by decide +kernel
    rw [this]
  rw [e]
  have := echo_runs (loaded []) 3000 0 0 0 ks (by omega) (by omega) (by omega) hks
  refine ⟨this.1, fun j h1 h2 => ?_⟩
  have := this.2 j h1 h2
  rwa [Nat.zero_add] at this
end Go.Proofs.YtocpnlifmeffkaaGreatDoor
namespace Go.Proofs.YtocpnlifmeffkaaGreatDoor

theorem op_time' (x : Cpu) (o n m : Nat) : (x.op o n m).1.time = x.time := by
  unfold Cpu.op
  split <;> first | rfl | (dsimp only; split <;> rfl) | (unfold Cpu.take; split <;> first | rfl | (split <;> rfl))
theorem op_ev (x : Cpu) (o n m : Nat) : ∀ e ∈ (x.op o n m).2.toList, e.t = x.time ∧ e.k ≠ 4 := by
  unfold Cpu.op
  split <;> simp <;> exact ⟨rfl, by decide⟩
theorem op_evs (x : Cpu) (o n m : Nat) : ((x.op o n m).2.toList).Pairwise (fun a b => a.t < b.t ∧ a.k ≠ 4) := by
  cases (x.op o n m).2 <;> simp
/-- The step that does not halt. -/
def Cpu.evs (x : Cpu) : List Ev := (({ x with c := (x.c + 2) % 256 } : Cpu).op (x.mem.getD x.c 0) (x.mem.getD ((x.c + 1) % 256) 0) (x.mem.getD (x.mem.getD ((x.c + 1) % 256) 0) 0)).2.toList
def Cpu.nx (x : Cpu) : Cpu := { (({ x with c := (x.c + 2) % 256 } : Cpu).op (x.mem.getD x.c 0) (x.mem.getD ((x.c + 1) % 256) 0) (x.mem.getD (x.mem.getD ((x.c + 1) % 256) 0) 0)).1 with time := x.time + 1 }
def Cpu.halts (x : Cpu) : Prop := x.mem.getD x.c 0 = 0 ∨ 17 ≤ x.mem.getD x.c 0
instance (x : Cpu) : Decidable x.halts := by unfold Cpu.halts; exact inferInstance
def Cpu.halt (x : Cpu) : Ev := ⟨x.time, 4, x.mem.getD x.c 0, x.mem.getD ((x.c + 1) % 256) 0⟩
theorem runs_succ (f : Nat) (x : Cpu) : runs (f + 1) x = if x.halts then [x.halt] else x.evs ++ runs f x.nx := rfl
theorem evs_ev (x : Cpu) : ∀ e ∈ x.evs, e.t = x.time ∧ e.k ≠ 4 := op_ev ({ x with c := (x.c + 2) % 256 } : Cpu) _ _ _
theorem nx_time (x : Cpu) : x.nx.time = x.time + 1 := rfl

theorem runs_times : ∀ (f : Nat) (x : Cpu), ∀ e ∈ runs f x, (x.time : Int) ≤ e.t ∧ e.t < ((x.time + f : Nat) : Int)
  | 0, _, e, h => absurd h (by simp [runs])
  | f + 1, x, e, h => by
    rw [runs_succ] at h
    split at h
    · obtain rfl := List.mem_singleton.1 h
      exact ⟨Int.le_refl _, by show ((x.time : Nat) : Int) < _; omega⟩
    · rcases List.mem_append.1 h with h | h
      · have := evs_ev x e h
        omega
      · have := runs_times f x.nx e h
        rw [nx_time] at this
        omega
theorem runs_pair : ∀ (f : Nat) (x : Cpu), (runs f x).Pairwise (fun a b => a.t < b.t ∧ a.k ≠ 4)
  | 0, _ => by simp [runs]
  | f + 1, x => by
    rw [runs_succ]
    split
    · simp
    · refine List.pairwise_append.2 ⟨op_evs _ _ _ _, runs_pair f x.nx, fun a ha b hb => ?_⟩
      have h1 := evs_ev x a ha
      have h2 := runs_times f x.nx b hb
      rw [nx_time] at h2
      exact ⟨by omega, h1.2⟩
theorem runs_split : ∀ (f g : Nat) (x : Cpu), ∃ r, runs (f + g) x = runs f x ++ r ∧ (∀ e ∈ r, ((x.time + f : Nat) : Int) ≤ e.t) ∧ ((∃ e ∈ runs f x, e.k = 4) → r = [])
  | 0, g, x => by
    rw [Nat.zero_add]
    exact ⟨runs g x, rfl, fun e h => by have := runs_times g x e h; omega, fun ⟨e, h, _⟩ => absurd h (by simp [runs])⟩
  | f + 1, g, x => by
    rw [show f + 1 + g = f + g + 1 from by omega, runs_succ, runs_succ]
    by_cases h : x.halts
    · rw [if_pos h, if_pos h]
      exact ⟨[], by simp, fun e h => absurd h (by simp), fun _ => rfl⟩
    · rw [if_neg h, if_neg h]
      obtain ⟨r, h1, h2, h3⟩ := runs_split f g x.nx
      refine ⟨r, by rw [h1, List.append_assoc], fun e he => by have := h2 e he; rw [nx_time] at this; omega, fun ⟨e, he, hk⟩ => ?_⟩
      rcases List.mem_append.1 he with he | he
      · exact absurd hk (evs_ev x e he).2
      · exact h3 ⟨e, he, hk⟩

/-- Keys that come at the end or later make no difference. -/
theorem runs_late (more : List Ev) : ∀ (f : Nat) (x : Cpu), (∀ k ∈ more, ((x.time + f : Nat) : Int) ≤ k.t) → runs f { x with keys := x.keys ++ more } = runs f x
  | 0, _, _ => rfl
  | f + 1, x, h => by
    have key : ∀ (y : Cpu) (o n m : Nat), y.time = x.time → ((({ y with keys := y.keys ++ more } : Cpu).op o n m).2 = (y.op o n m).2) ∧ ((({ y with keys := y.keys ++ more } : Cpu).op o n m).1 = { (y.op o n m).1 with keys := (y.op o n m).1.keys ++ more }) := by
      intro y o n m hy
      unfold Cpu.op
      split
      case h_11 =>
        refine ⟨rfl, ?_⟩
        unfold Cpu.take
        cases hks : y.keys with
        | nil =>
          dsimp only
          rw [List.nil_append]
          cases more with
          | nil => simp
          | cons k r =>
            have := h k (by simp)
            dsimp only
            rw [if_pos (by omega)]
        | cons k r =>
          dsimp only [List.cons_append]
          split
          · rfl
          · rfl
      case h_9 => dsimp only; split <;> exact ⟨rfl, rfl⟩
      case h_10 => dsimp only; split <;> exact ⟨rfl, rfl⟩
      all_goals exact ⟨rfl, rfl⟩
    have k2 := key { x with c := (x.c + 2) % 256 } (x.mem.getD x.c 0) (x.mem.getD ((x.c + 1) % 256) 0) (x.mem.getD (x.mem.getD ((x.c + 1) % 256) 0) 0) rfl
    rw [runs_succ, runs_succ]
    show (if x.halts then [x.halt] else _) = _
    split
    · rfl
    · have e1 : ({ x with keys := x.keys ++ more } : Cpu).evs = x.evs := congrArg Option.toList k2.1
      have e2 : ({ x with keys := x.keys ++ more } : Cpu).nx = { x.nx with keys := x.nx.keys ++ more } := by
        show ({ (({ ({ x with c := (x.c + 2) % 256 } : Cpu) with keys := x.keys ++ more } : Cpu).op _ _ _).1 with time := x.time + 1 } : Cpu) = _
        rw [k2.2]
        rfl
      rw [e1, e2, runs_late more f x.nx (fun k hk => by have := h k hk; rw [nx_time]; omega)]
theorem perf_late (p d : List UInt8) (ks more : List Ev) (f : Nat) (h : ∀ k ∈ more, ((f : Nat) : Int) ≤ k.t) : perf p d (ks ++ more) f = perf p d ks f := by
  have := runs_late more f ⟨loaded p, loaded d, 0, 0, 0, ks⟩ (fun k hk => by have := h k hk; show ((0 + f : Nat) : Int) ≤ _; omega)
  exact this

/-- A memory whose even bytes are HALT, LDI, TXT or PIX. -/
def Plain4 (M : List Nat) : Prop := ∀ j, M.getD (2 * j) 0 = 0 ∨ M.getD (2 * j) 0 = 1 ∨ M.getD (2 * j) 0 = 12 ∨ M.getD (2 * j) 0 = 13
theorem runs_disk (M : List Nat) (hM : Plain4 M) (d d' : List Nat) : ∀ (f a c t : Nat) (ks : List Ev), c % 2 = 0 → runs f ⟨M, d, a, c, t, ks⟩ = runs f ⟨M, d', a, c, t, ks⟩
  | 0, _, _, _, _, _ => rfl
  | f + 1, a, c, t, ks, hc => by
    obtain ⟨j, rfl⟩ : ∃ j, c = 2 * j := ⟨c / 2, by omega⟩
    have hc' : ((2 * j + 2) % 256) % 2 = 0 := by omega
    rcases hM j with h | h | h | h
    · rw [runs_halt4 (x := ⟨M, d, a, 2 * j, t, ks⟩) h rfl (Or.inl rfl), runs_halt4 (x := ⟨M, d', a, 2 * j, t, ks⟩) h rfl (Or.inl rfl)]
    · rw [runs_step (x := ⟨M, d, a, 2 * j, t, ks⟩) h rfl rfl (by decide) (by decide), runs_step (x := ⟨M, d', a, 2 * j, t, ks⟩) h rfl rfl (by decide) (by decide)]
      exact congrArg _ (runs_disk M hM d d' f _ _ (t + 1) ks hc')
    · rw [runs_step (x := ⟨M, d, a, 2 * j, t, ks⟩) h rfl rfl (by decide) (by decide), runs_step (x := ⟨M, d', a, 2 * j, t, ks⟩) h rfl rfl (by decide) (by decide)]
      exact congrArg _ (runs_disk M hM d d' f _ _ (t + 1) ks hc')
    · rw [runs_step (x := ⟨M, d, a, 2 * j, t, ks⟩) h rfl rfl (by decide) (by decide), runs_step (x := ⟨M, d', a, 2 * j, t, ks⟩) h rfl rfl (by decide) (by decide)]
      exact congrArg _ (runs_disk M hM d d' f _ _ (t + 1) ks hc')
theorem perf_disk (p d d' : List UInt8) (ks : List Ev) (f : Nat) (hM : Plain4 (loaded p)) : perf p d ks f = perf p d' ks f :=
  runs_disk (loaded p) hM (loaded d) (loaded d') f 0 0 0 ks rfl
end Go.Proofs.YtocpnlifmeffkaaGreatDoor
namespace Go.Proofs.YtocpnlifmeffkaaGreatDoor

/-- The number that stands for an integer. -/
def zig (n : Int) : Nat := if 0 ≤ n then (2 * n).toNat else (-2 * n - 1).toNat
/-- Groups of seven bits, at most f of them. -/
def lebF : Nat → Nat → List UInt8
  | 0, _ => []
  | f + 1, z => if z < 128 then [UInt8.ofNat z] else UInt8.ofNat (z % 128 + 128) :: lebF f (z / 128)
def putZ (n : Int) : List UInt8 := lebF 9 (zig n)
theorem lebF_lt (f : Nat) {z : Nat} (h : z < 128) : lebF (f + 1) z = [UInt8.ofNat z] := by rw [lebF, if_pos h]
theorem lebF_ge (f : Nat) {z : Nat} (h : ¬ z < 128) : lebF (f + 1) z = UInt8.ofNat (z % 128 + 128) :: lebF f (z / 128) := by rw [lebF, if_neg h]
theorem zig_lt {n : Int} (h1 : -(2 ^ 62 - 1) ≤ n) (h2 : n ≤ 2 ^ 62 - 1) : zig n < 2 ^ 63 := by
  unfold zig
  split <;> omega
theorem lebF_len : ∀ (f z : Nat), (lebF f z).length ≤ f
  | 0, _ => Nat.le_refl _
  | f + 1, z => by
    rw [lebF]
    split
    · simp
    · simpa using lebF_len f (z / 128)
theorem lebF_pos (f z : Nat) : 0 < (lebF (f + 1) z).length := by
  rw [lebF]
  split <;> simp
theorem putZ_len (n : Int) : (putZ n).length ≤ 9 := lebF_len 9 _
theorem putZ_pos (n : Int) : 0 < (putZ n).length := lebF_pos 8 _
theorem putZ_small {n : Int} (h0 : 0 ≤ n) (h : n < 64) : putZ n = [UInt8.ofNat (2 * n).toNat] := by
  unfold putZ zig
  rw [if_pos h0, lebF_lt]
  omega
/-- What is read of so many bytes. -/
theorem lebF_at : ∀ (f z : Nat), z < 128 ^ f → ∀ i, i < (lebF f z).length → (lebF f z)[i]! = if i + 1 = (lebF f z).length then UInt8.ofNat (z / 128 ^ i) else UInt8.ofNat (z / 128 ^ i % 128 + 128)
  | 0, z, h, i, hi => by simp [lebF] at hi
  | f + 1, z, h, i, hi => by
    by_cases hz : z < 128
    · rw [lebF_lt f hz] at hi ⊢
      simp only [List.length_singleton] at hi ⊢
      obtain rfl : i = 0 := by omega
      simp
    · rw [lebF_ge f hz] at hi ⊢
      have hz2 : z / 128 < 128 ^ f := by
        rw [Nat.div_lt_iff_lt_mul (by omega)]
        rwa [Nat.pow_succ] at h
      have hf : 0 < f := by
        rcases Nat.eq_zero_or_pos f with rfl | hf
        · simp at h; omega
        · exact hf
      have hp : 0 < (lebF f (z / 128)).length := by
        obtain ⟨g, rfl⟩ := Nat.exists_eq_add_one_of_ne_zero (by omega : f ≠ 0)
        exact lebF_pos g _
      cases i with
      | zero =>
        rw [List.getElem!_cons_zero, if_neg (by simp only [List.length_cons]; omega), Nat.pow_zero, Nat.div_one]
      | succ i =>
        rw [List.getElem!_cons_succ, lebF_at f (z / 128) hz2 i (by simpa using hi), Nat.div_div_eq_div_mul, ← Nat.pow_succ']
        simp only [List.length_cons, Nat.add_right_cancel_iff]
/-- The last group ends it. -/
theorem lebF_last : ∀ (f z : Nat), z < 128 ^ f → 0 < f → z / 128 ^ ((lebF f z).length - 1) < 128
  | 0, _, _, h => absurd h (Nat.lt_irrefl 0)
  | f + 1, z, h, _ => by
    by_cases hz : z < 128
    · rw [lebF_lt f hz]
      simpa using hz
    · have hz2 : z / 128 < 128 ^ f := by
        rw [Nat.div_lt_iff_lt_mul (by omega)]
        rwa [Nat.pow_succ] at h
      have hf : 0 < f := by
        rcases Nat.eq_zero_or_pos f with rfl | hf
        · simp at h; omega
        · exact hf
      have hp : 0 < (lebF f (z / 128)).length := by
        obtain ⟨g, rfl⟩ := Nat.exists_eq_add_one_of_ne_zero (by omega : f ≠ 0)
        exact lebF_pos g _
      have ih := lebF_last f (z / 128) hz2 hf
      rw [lebF_ge f hz, List.length_cons, Nat.add_sub_cancel]
      obtain ⟨k, hk⟩ : ∃ k, (lebF f (z / 128)).length = k + 1 := ⟨_, (Nat.sub_add_cancel hp).symm⟩
      rw [hk, Nat.add_sub_cancel, Nat.div_div_eq_div_mul, ← Nat.pow_succ'] at ih
      rw [hk]
      exact ih
/-- Groups ahead of the last one are not all. -/
theorem lebF_more : ∀ (f z i : Nat), z < 128 ^ f → i + 1 < (lebF f z).length → 128 ≤ z / 128 ^ i
  | 0, z, i, _, h => by simp [lebF] at h
  | f + 1, z, i, h, hi => by
    by_cases hz : z < 128
    · rw [lebF_lt f hz] at hi
      simp at hi
    · have hz2 : z / 128 < 128 ^ f := by
        rw [Nat.div_lt_iff_lt_mul (by omega)]
        rwa [Nat.pow_succ] at h
      rw [lebF_ge f hz, List.length_cons] at hi
      cases i with
      | zero => simp; omega
      | succ i =>
        have := lebF_more f (z / 128) i hz2 (by omega)
        rwa [Nat.div_div_eq_div_mul, ← Nat.pow_succ'] at this

/-! Performances. -/
def evOk (e : Ev) : Prop := (0 ≤ e.t ∧ e.t ≤ 20000) ∧ (1 ≤ e.k ∧ e.k ≤ 5) ∧ (0 ≤ e.a ∧ e.a ≤ 65535) ∧ (0 ≤ e.b ∧ e.b ≤ 65535)
structure EvsOk (l : List Ev) : Prop where
  len : l.length ≤ 1000
  ord : inOrder l = true
  all : ∀ e ∈ l, evOk e
def encE : Int → List Ev → List UInt8
  | _, [] => []
  | last, e :: l => (putZ (e.t - last) ++ (putZ e.k ++ (putZ e.a ++ putZ e.b))) ++ encE e.t l
def encP (l : List Ev) : List UInt8 := putZ l.length ++ encE 0 l
theorem encE_len : ∀ (last : Int) (l : List Ev), (encE last l).length ≤ 36 * l.length
  | _, [] => Nat.le_refl _
  | last, e :: l => by
    have := encE_len e.t l
    have := putZ_len (e.t - last)
    have := putZ_len e.k
    have := putZ_len e.a
    have := putZ_len e.b
    simp only [encE, List.length_append, List.length_cons]
    omega
theorem encP_len {l : List Ev} (h : EvsOk l) : (encP l).length ≤ 36009 := by
  have := encE_len 0 l
  have := putZ_len l.length
  have := h.len
  simp only [encP, List.length_append]
  omega
theorem inOrder_tail {e : Ev} {l : List Ev} (h : inOrder (e :: l) = true) : inOrder l = true := by
  cases l with
  | nil => rfl
  | cons f l => simp only [inOrder, Bool.and_eq_true] at h; exact h.2
theorem inOrder_head {e f : Ev} {l : List Ev} (h : inOrder (e :: f :: l) = true) : e.t ≤ f.t := by
  simp only [inOrder, Bool.and_eq_true, decide_eq_true_eq] at h; exact h.1
theorem inOrder_pair : ∀ {l : List Ev}, l.Pairwise (fun a b => a.t < b.t ∧ a.k ≠ 4) → inOrder l = true
  | [], _ => rfl
  | [_], _ => rfl
  | a :: b :: l, h => by
    rw [List.pairwise_cons] at h
    have h1 := (h.1 b (by simp)).1
    simp only [inOrder, Bool.and_eq_true, decide_eq_true_eq]
    exact ⟨by omega, inOrder_pair h.2⟩
theorem op_small {x : Cpu} (hx : x.WF) {o n m : Nat} (_hn : n < 256) (hm : m < 256) : ∀ e ∈ (x.op o n m).2.toList, (1 ≤ e.k ∧ e.k ≤ 5) ∧ (0 ≤ e.a ∧ e.a ≤ 65535) ∧ (0 ≤ e.b ∧ e.b ≤ 65535) := by
  have h1 := hx.a
  intro e he
  unfold Cpu.op at he
  split at he <;> simp at he
  all_goals subst he; dsimp only; omega
theorem runs_le : ∀ (f : Nat) (x : Cpu), (runs f x).length ≤ f
  | 0, _ => Nat.le_refl _
  | f + 1, x => by
    rw [runs_succ]
    split
    · simp
    · have h1 : x.evs.length ≤ 1 := by
        unfold Cpu.evs
        cases (Cpu.op _ _ _ _).2 <;> simp
      have := runs_le f x.nx
      rw [List.length_append]
      omega
theorem runs_small : ∀ (f : Nat) (x : Cpu), x.WF → ∀ e ∈ runs f x, (1 ≤ e.k ∧ e.k ≤ 5) ∧ (0 ≤ e.a ∧ e.a ≤ 65535) ∧ (0 ≤ e.b ∧ e.b ≤ 65535)
  | 0, _, _, e, he => by simp [runs] at he
  | f + 1, x, hx, e, he => by
    have hm : ∀ i, x.mem.getD i 0 < 256 := getD_lt hx.memB
    have hy : ({ x with c := (x.c + 2) % 256 } : Cpu).WF := ⟨hx.mem, hx.disk, hx.memB, hx.diskB, hx.a, Nat.mod_lt _ (by omega), hx.keys⟩
    rw [runs_succ] at he
    split at he
    · obtain rfl := List.mem_singleton.1 he
      have := hm x.c
      have := hm ((x.c + 1) % 256)
      unfold Cpu.halt
      dsimp only
      omega
    · rcases List.mem_append.1 he with he | he
      · exact op_small hy (hm _) (hm _) e he
      · exact runs_small f x.nx ((hy.op _ (hm _) (hm _)).at _ _ (hy.op _ (hm _) (hm _)).c) e he
theorem perf_ok {p d : List UInt8} {ks : List Ev} {f : Nat} (hp : progOk p d = true) (hk : ∀ k ∈ ks, keyOk k = true) (hf : f ≤ 1000) : EvsOk (perf p d ks f) := by
  simp only [progOk, Bool.and_eq_true, decide_eq_true_eq] at hp
  have hw : (⟨loaded p, loaded d, 0, 0, 0, ks⟩ : Cpu).WF := ⟨loaded_len hp.1.1, loaded_len hp.2, loaded_lt p, loaded_lt d, by simp, by simp, hk⟩
  refine ⟨Nat.le_trans (runs_le _ _) hf, inOrder_pair (runs_pair _ _), fun e he => ?_⟩
  have h1 := runs_small f _ hw e he
  have h2 := runs_times f _ e he
  dsimp only at h2
  exact ⟨by omega, h1⟩
theorem keys_ok {ks : List Ev} (h : keysOk ks = true) : EvsOk ks := by
  simp only [keysOk, Bool.and_eq_true, decide_eq_true_eq, List.all_eq_true] at h
  refine ⟨by omega, h.2, fun e he => ?_⟩
  have := keyOk_parts (h.1.2 e he)
  unfold evOk
  omega
end Go.Proofs.YtocpnlifmeffkaaGreatDoor
namespace Go.Proofs.YtocpnlifmeffkaaGreatDoor
open Go.RowKit

/-- The groups of a number, the least one first, each with whether it is the last. -/
def grpF : Nat → Nat → List (Fin 128 × Bool)
  | 0, _ => []
  | f + 1, z => (⟨z % 128, Nat.mod_lt _ (by omega)⟩, decide (z < 128)) :: if z < 128 then [] else grpF f (z / 128)
def grpB (x : Fin 128 × Bool) : UInt8 := UInt8.ofNat (if x.2 then x.1.1 else x.1.1 + 128)
theorem grp_leb : ∀ (f z : Nat), (grpF f z).map grpB = lebF f z
  | 0, _ => rfl
  | f + 1, z => by
    rw [grpF, lebF]
    by_cases h : z < 128
    · rw [if_pos h, if_pos h, List.map_cons, grpB, decide_eq_true h, if_pos rfl]
      dsimp only
      rw [Nat.mod_eq_of_lt h]
      rfl
    · rw [if_neg h, if_neg h, List.map_cons, grp_leb f (z / 128), grpB, decide_eq_false h]
      rfl
theorem grpF_len : ∀ (f z : Nat), (grpF f z).length ≤ f
  | 0, _ => Nat.le_refl _
  | f + 1, z => by
    have := grpF_len f (z / 128)
    rw [grpF, List.length_cons]
    split
    · simp
    · omega
theorem and127q (z : Nat) (h : z < 2 ^ 63) : bits .and .u64 (z : Int) 127 = ((z % 128 : Nat) : Int) := by
  have h := bits_and_u64_nat z 127 (by omega) (by omega)
  rw [show (127 : Nat) = 2 ^ 7 - 1 from rfl, Nat.and_two_pow_sub_one_eq_mod] at h
  exact h
theorem or128 (g : Nat) (h : g < 128) : bits .or .u8 (g : Int) 128 = ((g + 128 : Nat) : Int) := by
  have key : ∀ k : Fin 128, bits .or .u8 (k.1 : Int) 128 = ((k.1 + 128 : Nat) : Int) := by decide +kernel
  exact key ⟨g, h⟩
theorem and127b (g : Nat) (h : g < 256) : bits .and .u8 (g : Int) 127 = ((g % 128 : Nat) : Int) := by
  have key : ∀ k : Fin 256, bits .and .u8 (k.1 : Int) 127 = ((k.1 % 128 : Nat) : Int) := by decide +kernel
  exact key ⟨g, h⟩
theorem u64_of {x : Int} (h0 : 0 ≤ x) (h1 : x < 18446744073709551616) : IntKind.u64.wrap x = x := by
  simp only [IntKind.wrap, IntKind.signed, IntKind.bits]
  simp
  omega
theorem bv64_toNat (k : Nat) (h : k < 2 ^ 64) : (BitVec.ofInt 64 (k : Int)).toNat = k := by
  rw [BitVec.toNat_ofInt]
  omega
theorem xor_zero_u64 (k : Nat) (h : k < 2 ^ 64) : bits .xor .u64 (k : Int) 0 = (k : Int) := by
  show IntKind.u64.wrap ((BitVec.ofInt 64 (k : Int) ^^^ BitVec.ofInt 64 0).toNat : Int) = _
  rw [show BitVec.ofInt 64 0 = 0#64 from rfl, BitVec.xor_zero, bv64_toNat k h, u64_of (by omega) (by omega)]
theorem xor_ones_u64 (k : Nat) (h : k < 2 ^ 64) : bits .xor .u64 (k : Int) 18446744073709551615 = ((2 ^ 64 - 1 - k : Nat) : Int) := by
  show IntKind.u64.wrap ((BitVec.ofInt 64 (k : Int) ^^^ BitVec.ofInt 64 18446744073709551615).toNat : Int) = _
  rw [show BitVec.ofInt 64 18446744073709551615 = BitVec.allOnes 64 from by decide, BitVec.xor_allOnes, BitVec.toNat_not, bv64_toNat k h, u64_of (by omega) (by omega)]
/-- The number of an integer, as the program reckons it. -/
theorem zig_bits (n : Int) (h1 : -(2 ^ 62 - 1) ≤ n) (h2 : n ≤ 2 ^ 62 - 1) : bits .xor .u64 (IntKind.u64.wrap (IntKind.u64.wrap n * 2)) (IntKind.u64.wrap (n / 9223372036854775808)) = (zig n : Int) := by
  by_cases h0 : 0 ≤ n
  · have e1 : n / 9223372036854775808 = 0 := by omega
    have e2 : n * 2 = (((2 * n).toNat : Nat) : Int) := by omega
    rw [e1, u64_of h0 (by omega), u64_of (x := n * 2) (by omega) (by omega), u64_of (x := 0) (by omega) (by omega), e2, xor_zero_u64 _ (by omega)]
    unfold zig
    rw [if_pos h0]
  · have e1 : n / 9223372036854775808 = -1 := by omega
    have w1 : IntKind.u64.wrap n = n + 18446744073709551616 := by
      simp only [IntKind.wrap, IntKind.signed, IntKind.bits]
      simp
      omega
    have w2 : IntKind.u64.wrap (-1) = 18446744073709551615 := by decide
    have w3 : IntKind.u64.wrap ((n + 18446744073709551616) * 2) = (((n * 2 + 18446744073709551616).toNat : Nat) : Int) := by
      simp only [IntKind.wrap, IntKind.signed, IntKind.bits]
      simp
      omega
    rw [e1, w1, w2, w3, xor_ones_u64 _ (by omega)]
    unfold zig
    rw [if_neg h0]
    omega
theorem bv64_int (x : Int) : (BitVec.ofInt 64 x).toNat = (x % 2 ^ 64).toNat := by rw [BitVec.toNat_ofInt]; rfl
theorem i64_of {x : Int} (h0 : -9223372036854775808 ≤ x) (h1 : x < 9223372036854775808) : IntKind.i64.wrap x = x := IntWalk.i64_in _ (by omega)
/-- And back. -/
theorem unzig_bits (n : Int) (h1 : -(2 ^ 62 - 1) ≤ n) (h2 : n ≤ 2 ^ 62 - 1) : bits .xor .i64 ((zig n : Int) / 2) (-((zig n : Int) % 2)) = n := by
  by_cases h0 : 0 ≤ n
  · have e0 : (zig n : Int) = 2 * n := by unfold zig; rw [if_pos h0]; omega
    have e1 : (zig n : Int) / 2 = ((n.toNat : Nat) : Int) := by omega
    have e2 : (zig n : Int) % 2 = 0 := by omega
    rw [e1, e2]
    show IntKind.i64.wrap ((BitVec.ofInt 64 ((n.toNat : Nat) : Int) ^^^ BitVec.ofInt 64 (-0)).toNat : Int) = _
    rw [show BitVec.ofInt 64 (-0) = 0#64 from rfl, BitVec.xor_zero, bv64_toNat _ (by omega), i64_of (by omega) (by omega)]
    omega
  · have e0 : (zig n : Int) = -2 * n - 1 := by unfold zig; rw [if_neg h0]; omega
    have e1 : (zig n : Int) / 2 = (((-n - 1).toNat : Nat) : Int) := by omega
    have e2 : (zig n : Int) % 2 = 1 := by omega
    rw [e1, e2]
    show IntKind.i64.wrap ((BitVec.ofInt 64 (((-n - 1).toNat : Nat) : Int) ^^^ BitVec.ofInt 64 (-1)).toNat : Int) = _
    rw [show BitVec.ofInt 64 (-1) = BitVec.allOnes 64 from by decide, BitVec.xor_allOnes, BitVec.toNat_not, bv64_toNat _ (by omega)]
    simp only [IntKind.wrap, IntKind.signed, IntKind.bits]
    simp
    omega
/-- One group more. -/
theorem or_group (z i : Nat) (hz : z < 2 ^ 63) : bits .or .u64 ((z % 128 ^ i : Nat) : Int) (((z / 128 ^ i % 128 * 128 ^ i : Nat)) : Int) = ((z % 128 ^ (i + 1) : Nat) : Int) := by
  have hp : 128 ^ i = 2 ^ (7 * i) := by rw [show (128 : Nat) = 2 ^ 7 from rfl, ← Nat.pow_mul]
  have hlt : z % 128 ^ i < 2 ^ (7 * i) := by rw [← hp]; exact Nat.mod_lt _ (by rw [hp]; exact Nat.two_pow_pos _)
  have hm : z % 128 ^ (i + 1) = z % 128 ^ i + 128 ^ i * (z / 128 ^ i % 128) := by rw [Nat.pow_succ, Nat.mod_mul]
  have hle : z % 128 ^ (i + 1) ≤ z := Nat.mod_le _ _
  have hb : z / 128 ^ i % 128 * 128 ^ i ≤ z := by
    have : 128 ^ i * (z / 128 ^ i % 128) ≤ z := by omega
    rwa [Nat.mul_comm]
  have ha : z % 128 ^ i ≤ z := Nat.mod_le _ _
  show IntKind.u64.wrap ((BitVec.ofInt 64 ((z % 128 ^ i : Nat) : Int) ||| BitVec.ofInt 64 ((z / 128 ^ i % 128 * 128 ^ i : Nat) : Int)).toNat : Int) = _
  rw [BitVec.toNat_or, bv64_toNat _ (by omega), bv64_toNat _ (by omega), Nat.or_comm]
  have key : z / 128 ^ i % 128 * 128 ^ i ||| z % 128 ^ i = z % 128 ^ (i + 1) := by
    rw [hm, Nat.mul_comm (z / 128 ^ i % 128), Nat.add_comm]
    rw [hp] at *
    exact (Nat.two_pow_add_eq_or_of_lt hlt _).symm
  rw [key, u64_of (by omega) (by omega)]
end Go.Proofs.YtocpnlifmeffkaaGreatDoor
namespace Go.Proofs.YtocpnlifmeffkaaGreatDoor

structure Lin where
  text : List UInt8
  mark : Int
deriving DecidableEq, Inhabited
structure Cel where
  row : Int
  col : Int
  sum : Bool
  val : Int
  top : Int
  left : Int
deriving DecidableEq, Inhabited
structure Dc where
  lines : List Lin
  cells : List Cel
  width : Int
  bits : List UInt8
deriving DecidableEq, Inhabited
def Dc.height (d : Dc) : Int := if d.width < 1 then 0 else ((d.bits.length : Int) / d.width)
def linOk (l : Lin) : Bool := decide (l.text.length ≤ 80) && l.text.all (fun c => decide (32 ≤ c ∧ c ≤ 126)) && decide (0 ≤ l.mark ∧ l.mark ≤ 7)
def celOk (c : Cel) : Bool := decide (0 ≤ c.row ∧ c.row ≤ 31) && decide (0 ≤ c.col ∧ c.col ≤ 31) &&
  if c.sum then c.val == 0 && decide (0 ≤ c.top ∧ c.top ≤ c.row) && decide (0 ≤ c.left ∧ c.left ≤ c.col)
  else decide (-1000000 ≤ c.val ∧ c.val ≤ 1000000) && c.top == 0 && c.left == 0
def celLt (a b : Cel) : Bool := decide (a.row < b.row) || (a.row == b.row && decide (a.col < b.col))
def celsUp : List Cel → Bool
  | a :: b :: r => celLt a b && celsUp (b :: r)
  | _ => true
def rasOk (d : Dc) : Bool := decide (0 ≤ d.width ∧ d.width ≤ 32) && d.bits.all (fun c => c == 48 || c == 49) &&
  ((d.width == 0 && decide (d.bits = [])) || (decide (0 < d.width) && decide ((d.bits.length : Int) = d.width * d.height) && decide (1 ≤ d.height ∧ d.height ≤ 32)))
def docOk (d : Dc) : Bool := decide (d.lines.length ≤ 64) && decide (d.cells.length ≤ 64) && celsUp d.cells && d.lines.all linOk && d.cells.all celOk && rasOk d
def clampV (n : Int) : Int := min (max n (-1000000000000)) 1000000000000
def inRect (c e : Cel) : Bool := decide (c.top ≤ e.row ∧ e.row ≤ c.row) && decide (c.left ≤ e.col ∧ e.col ≤ c.col)
/-- The value of a cell behind others whose values are out. -/
def valC (before : List Cel) (out : List Int) (c : Cel) : Int :=
  clampV (if c.sum then (before.zip out).foldl (fun n e => if inRect c e.1 then n + e.2 else n) c.val else c.val)
def valsF : List Cel → List Cel → List Int → List Int
  | _, [], out => out
  | before, c :: r, out => valsF (before ++ [c]) r (out ++ [valC before out c])
def valsD (l : List Cel) : List Int := valsF [] l []

/-! What a property says. -/
structure VLin where
  text : List UInt8
  n : List Int
deriving DecidableEq, Inhabited
structure Vl where
  lost : Bool
  lines : List VLin
  width : Int
  height : Int
  bits : List UInt8
deriving DecidableEq, Inhabited
def putS (s : List UInt8) : List UInt8 := putZ s.length ++ s
def putLn (p : Int) (l : VLin) : List UInt8 := (if p = 1 then putS l.text else []) ++ l.n.flatMap putZ
def writeV (p : Int) (v : Vl) : List UInt8 :=
  if v.lost then [] else if 6 ≤ p then putZ v.width ++ putZ v.height ++ (if p = 7 then putS v.bits else [])
  else putZ v.lines.length ++ v.lines.flatMap (putLn p)
def vLines (l : List VLin) : Vl := ⟨false, l, 0, 0, []⟩
def valOf (p : Int) (d : Dc) : Vl :=
  if p = 1 then vLines (d.lines.map fun l => ⟨l.text, []⟩)
  else if p = 2 then vLines (d.lines.map fun l => ⟨[], [l.mark]⟩)
  else if p = 3 then vLines ((d.cells.filter fun c => !c.sum).map fun c => ⟨[], [c.row, c.col, c.val]⟩)
  else if p = 4 then vLines ((d.cells.filter fun c => c.sum).map fun c => ⟨[], [c.row, c.col, c.top, c.left]⟩)
  else if p = 5 then vLines ((d.cells.zip (valsD d.cells)).map fun c => ⟨[], [c.1.row, c.1.col, c.2]⟩)
  else if p = 6 then ⟨false, [], d.width, d.height, []⟩
  else if p = 7 then ⟨false, [], d.width, d.height, d.bits⟩
  else ⟨false, [], d.lines.length, d.cells.length, []⟩
end Go.Proofs.YtocpnlifmeffkaaGreatDoor
namespace Go.Proofs.YtocpnlifmeffkaaGreatDoor

/-- The values of the first k cells. -/
def valsK (l : List Cel) (k : Nat) : List Int := valsF [] (l.take k) []
theorem valsF_snoc : ∀ (xs before : List Cel) (c : Cel) (out : List Int), valsF before (xs ++ [c]) out = valsF before xs out ++ [valC (before ++ xs) (valsF before xs out) c]
  | [], before, c, out => by simp [valsF]
  | x :: xs, before, c, out => by
    rw [List.cons_append, valsF, valsF, valsF_snoc xs]
    simp
theorem valsF_len : ∀ (xs before : List Cel) (out : List Int), (valsF before xs out).length = out.length + xs.length
  | [], _, out => by simp [valsF]
  | x :: xs, before, out => by
    rw [valsF, valsF_len xs]
    simp
    omega
theorem valsK_succ (l : List Cel) {k : Nat} (hk : k < l.length) : valsK l (k + 1) = valsK l k ++ [valC (l.take k) (valsK l k) l[k]!] := by
  unfold valsK
  rw [List.take_succ_eq_append_getElem hk, valsF_snoc, List.nil_append, getElem!_pos l k hk]
theorem valsK_len (l : List Cel) {k : Nat} (hk : k ≤ l.length) : (valsK l k).length = k := by
  unfold valsK
  rw [valsF_len]
  simp
  omega
theorem valsK_all (l : List Cel) : valsK l l.length = valsD l := by
  unfold valsK valsD
  rw [List.take_length]
/-- What the first k cells give to a sum. -/
def sumTo (c : Cel) (before : List Cel) (out : List Int) (k : Nat) : Int := ((before.zip out).take k).foldl (fun n e => if inRect c e.1 then n + e.2 else n) c.val
theorem sumTo_zero (c : Cel) (before : List Cel) (out : List Int) : sumTo c before out 0 = c.val := by simp [sumTo]
theorem sumTo_succ (c : Cel) (before : List Cel) (out : List Int) {k : Nat} (hk : k < before.length) (hl : out.length = before.length) :
    sumTo c before out (k + 1) = if inRect c before[k]! then sumTo c before out k + out[k]! else sumTo c before out k := by
  unfold sumTo
  rw [List.take_succ_eq_append_getElem (by simp; omega), List.foldl_append, List.foldl_cons, List.foldl_nil, List.getElem_zip, getElem!_pos before k hk, getElem!_pos out k (by omega)]
theorem valC_sum (c : Cel) (before : List Cel) (out : List Int) (hl : out.length = before.length) (h : c.sum = true) : valC before out c = clampV (sumTo c before out before.length) := by
  unfold valC sumTo
  rw [if_pos h, List.take_of_length_le (by simp; omega)]
theorem valC_val (c : Cel) (before : List Cel) (out : List Int) (h : c.sum = false) : valC before out c = clampV c.val := by
  unfold valC
  rw [h, if_neg (by simp)]
theorem clampV_in (n : Int) : -1000000000000 ≤ clampV n ∧ clampV n ≤ 1000000000000 := by unfold clampV; omega
theorem valC_in (c : Cel) (before : List Cel) (out : List Int) : -1000000000000 ≤ valC before out c ∧ valC before out c ≤ 1000000000000 := by unfold valC; exact clampV_in _
theorem valsF_in : ∀ (xs before : List Cel) (out : List Int), (∀ n ∈ out, -1000000000000 ≤ n ∧ n ≤ 1000000000000) → ∀ n ∈ valsF before xs out, -1000000000000 ≤ n ∧ n ≤ 1000000000000
  | [], _, _, h => by rw [valsF]; exact h
  | x :: xs, before, out, h => by
    rw [valsF]
    refine valsF_in xs _ _ fun n hn => ?_
    rcases List.mem_append.1 hn with q | q
    · exact h n q
    · rw [List.mem_singleton] at q
      subst q
      exact valC_in _ _ _
theorem valsK_in (l : List Cel) (k : Nat) : ∀ n ∈ valsK l k, -1000000000000 ≤ n ∧ n ≤ 1000000000000 := valsF_in _ _ _ (by simp)
theorem sumTo_in (c : Cel) (before : List Cel) (out : List Int) (hl : out.length = before.length) (ho : ∀ n ∈ out, -1000000000000 ≤ n ∧ n ≤ 1000000000000) : ∀ k : Nat, k ≤ before.length →
    c.val - k * 1000000000000 ≤ sumTo c before out k ∧ sumTo c before out k ≤ c.val + k * 1000000000000
  | 0, _ => by rw [sumTo_zero]; omega
  | k + 1, h => by
    have ih := sumTo_in c before out hl ho k (by omega)
    rw [sumTo_succ c before out (by omega) hl]
    have hm := ho out[k]! (by rw [getElem!_pos out k (by omega)]; exact List.getElem_mem _)
    split <;> omega
end Go.Proofs.YtocpnlifmeffkaaGreatDoor
