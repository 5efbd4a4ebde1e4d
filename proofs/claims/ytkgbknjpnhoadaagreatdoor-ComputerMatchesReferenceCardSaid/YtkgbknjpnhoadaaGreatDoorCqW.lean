/-
  What a performance has: plain laws (its prefixes, its times, keys that come too late, the disk).
-/
import Derived.Test.YtkgbknjpnhoadaaGreatDoorCqV
namespace Go.Proofs.YtkgbknjpnhoadaaGreatDoor

theorem op_time' (x : Cpu) (o n m : Nat) : (x.op o n m).1.time = x.time := by
  unfold Cpu.op
  split <;> first | rfl | (dsimp only; split <;> rfl) | (unfold Cpu.take; split <;> first | rfl | (split <;> rfl))
theorem op_ev (x : Cpu) (o n m : Nat) : ∀ e ∈ (x.op o n m).2.toList, e.t = x.time ∧ e.k ≠ 4 := by
  unfold Cpu.op
  split <;> simp <;> exact ⟨rfl, by decide⟩
theorem op_evs (x : Cpu) (o n m : Nat) : ((x.op o n m).2.toList).Pairwise (fun a b => a.t < b.t ∧ a.k ≠ 4) := by
  cases (x.op o n m).2 <;> simp
/-- The step that does not halt. -/
def Cpu.evs (x : Cpu) : List Ev := (({ x with c := (x.c + 2) % 256 } : Cpu).op (x.mem.getD x.c 0) (x.mem.getD ((x.c + 1) % 256) 0) (x.mem.getD (x.mem.getD ((x.c + 1) % 256) 0) 0)).2.toList
def Cpu.nx (x : Cpu) : Cpu := { (({ x with c := (x.c + 2) % 256 } : Cpu).op (x.mem.getD x.c 0) (x.mem.getD ((x.c + 1) % 256) 0) (x.mem.getD (x.mem.getD ((x.c + 1) % 256) 0) 0)).1 with time := x.time + 1 }
def Cpu.halts (x : Cpu) : Prop := x.mem.getD x.c 0 = 0 ∨ 17 ≤ x.mem.getD x.c 0
instance (x : Cpu) : Decidable x.halts := by unfold Cpu.halts; exact inferInstance
def Cpu.halt (x : Cpu) : Ev := ⟨x.time, 4, x.mem.getD x.c 0, x.mem.getD ((x.c + 1) % 256) 0⟩
theorem runs_succ (f : Nat) (x : Cpu) : runs (f + 1) x = if x.halts then [x.halt] else x.evs ++ runs f x.nx := rfl
theorem evs_ev (x : Cpu) : ∀ e ∈ x.evs, e.t = x.time ∧ e.k ≠ 4 := op_ev ({ x with c := (x.c + 2) % 256 } : Cpu) _ _ _
theorem nx_time (x : Cpu) : x.nx.time = x.time + 1 := rfl

theorem runs_times : ∀ (f : Nat) (x : Cpu), ∀ e ∈ runs f x, (x.time : Int) ≤ e.t ∧ e.t < ((x.time + f : Nat) : Int)
  | 0, _, e, h => absurd h (by simp [runs])
  | f + 1, x, e, h => by
    rw [runs_succ] at h
    split at h
    · obtain rfl := List.mem_singleton.1 h
      exact ⟨Int.le_refl _, by show ((x.time : Nat) : Int) < _; omega⟩
    · rcases List.mem_append.1 h with h | h
      · have := evs_ev x e h
        omega
      · have := runs_times f x.nx e h
        rw [nx_time] at this
        omega
theorem runs_pair : ∀ (f : Nat) (x : Cpu), (runs f x).Pairwise (fun a b => a.t < b.t ∧ a.k ≠ 4)
  | 0, _ => by simp [runs]
  | f + 1, x => by
    rw [runs_succ]
    split
    · simp
    · refine List.pairwise_append.2 ⟨op_evs _ _ _ _, runs_pair f x.nx, fun a ha b hb => ?_⟩
      have h1 := evs_ev x a ha
      have h2 := runs_times f x.nx b hb
      rw [nx_time] at h2
      exact ⟨by omega, h1.2⟩
theorem runs_split : ∀ (f g : Nat) (x : Cpu), ∃ r, runs (f + g) x = runs f x ++ r ∧ (∀ e ∈ r, ((x.time + f : Nat) : Int) ≤ e.t) ∧ ((∃ e ∈ runs f x, e.k = 4) → r = [])
  | 0, g, x => by
    rw [Nat.zero_add]
    exact ⟨runs g x, rfl, fun e h => by have := runs_times g x e h; omega, fun ⟨e, h, _⟩ => absurd h (by simp [runs])⟩
  | f + 1, g, x => by
    rw [show f + 1 + g = f + g + 1 from by omega, runs_succ, runs_succ]
    by_cases h : x.halts
    · rw [if_pos h, if_pos h]
      exact ⟨[], by simp, fun e h => absurd h (by simp), fun _ => rfl⟩
    · rw [if_neg h, if_neg h]
      obtain ⟨r, h1, h2, h3⟩ := runs_split f g x.nx
      refine ⟨r, by rw [h1, List.append_assoc], fun e he => by have := h2 e he; rw [nx_time] at this; omega, fun ⟨e, he, hk⟩ => ?_⟩
      rcases List.mem_append.1 he with he | he
      · exact absurd hk (evs_ev x e he).2
      · exact h3 ⟨e, he, hk⟩

/-- Keys that come at the end or later make no difference. -/
theorem runs_late (more : List Ev) : ∀ (f : Nat) (x : Cpu), (∀ k ∈ more, ((x.time + f : Nat) : Int) ≤ k.t) → runs f { x with keys := x.keys ++ more } = runs f x
  | 0, _, _ => rfl
  | f + 1, x, h => by
    have key : ∀ (y : Cpu) (o n m : Nat), y.time = x.time → ((({ y with keys := y.keys ++ more } : Cpu).op o n m).2 = (y.op o n m).2) ∧ ((({ y with keys := y.keys ++ more } : Cpu).op o n m).1 = { (y.op o n m).1 with keys := (y.op o n m).1.keys ++ more }) := by
      intro y o n m hy
      unfold Cpu.op
      split
      case h_11 =>
        refine ⟨rfl, ?_⟩
        unfold Cpu.take
        cases hks : y.keys with
        | nil =>
          dsimp only
          rw [List.nil_append]
          cases more with
          | nil => simp
          | cons k r =>
            have := h k (by simp)
            dsimp only
            rw [if_pos (by omega)]
        | cons k r =>
          dsimp only [List.cons_append]
          split
          · rfl
          · rfl
      case h_9 => dsimp only; split <;> exact ⟨rfl, rfl⟩
      case h_10 => dsimp only; split <;> exact ⟨rfl, rfl⟩
      all_goals exact ⟨rfl, rfl⟩
    have k2 := key { x with c := (x.c + 2) % 256 } (x.mem.getD x.c 0) (x.mem.getD ((x.c + 1) % 256) 0) (x.mem.getD (x.mem.getD ((x.c + 1) % 256) 0) 0) rfl
    rw [runs_succ, runs_succ]
    show (if x.halts then [x.halt] else _) = _
    split
    · rfl
    · have e1 : ({ x with keys := x.keys ++ more } : Cpu).evs = x.evs := congrArg Option.toList k2.1
      have e2 : ({ x with keys := x.keys ++ more } : Cpu).nx = { x.nx with keys := x.nx.keys ++ more } := by
        show ({ (({ ({ x with c := (x.c + 2) % 256 } : Cpu) with keys := x.keys ++ more } : Cpu).op _ _ _).1 with time := x.time + 1 } : Cpu) = _
        rw [k2.2]
        rfl
      rw [e1, e2, runs_late more f x.nx (fun k hk => by have := h k hk; rw [nx_time]; omega)]
theorem perf_late (p d : List UInt8) (ks more : List Ev) (f : Nat) (h : ∀ k ∈ more, ((f : Nat) : Int) ≤ k.t) : perf p d (ks ++ more) f = perf p d ks f := by
  have := runs_late more f ⟨loaded p, loaded d, 0, 0, 0, ks⟩ (fun k hk => by have := h k hk; show ((0 + f : Nat) : Int) ≤ _; omega)
  exact this

/-- A memory whose even bytes are HALT, LDI, TXT or PIX. -/
def Plain4 (M : List Nat) : Prop := ∀ j, M.getD (2 * j) 0 = 0 ∨ M.getD (2 * j) 0 = 1 ∨ M.getD (2 * j) 0 = 12 ∨ M.getD (2 * j) 0 = 13
theorem runs_disk (M : List Nat) (hM : Plain4 M) (d d' : List Nat) : ∀ (f a c t : Nat) (ks : List Ev), c % 2 = 0 → runs f ⟨M, d, a, c, t, ks⟩ = runs f ⟨M, d', a, c, t, ks⟩
  | 0, _, _, _, _, _ => rfl
  | f + 1, a, c, t, ks, hc => by
    obtain ⟨j, rfl⟩ : ∃ j, c = 2 * j := ⟨c / 2, by omega⟩
    have hc' : ((2 * j + 2) % 256) % 2 = 0 := by omega
    rcases hM j with h | h | h | h
    · rw [runs_halt4 (x := ⟨M, d, a, 2 * j, t, ks⟩) h rfl (Or.inl rfl), runs_halt4 (x := ⟨M, d', a, 2 * j, t, ks⟩) h rfl (Or.inl rfl)]
    · rw [runs_step (x := ⟨M, d, a, 2 * j, t, ks⟩) h rfl rfl (by decide) (by decide), runs_step (x := ⟨M, d', a, 2 * j, t, ks⟩) h rfl rfl (by decide) (by decide)]
      exact congrArg _ (runs_disk M hM d d' f _ _ (t + 1) ks hc')
    · rw [runs_step (x := ⟨M, d, a, 2 * j, t, ks⟩) h rfl rfl (by decide) (by decide), runs_step (x := ⟨M, d', a, 2 * j, t, ks⟩) h rfl rfl (by decide) (by decide)]
      exact congrArg _ (runs_disk M hM d d' f _ _ (t + 1) ks hc')
    · rw [runs_step (x := ⟨M, d, a, 2 * j, t, ks⟩) h rfl rfl (by decide) (by decide), runs_step (x := ⟨M, d', a, 2 * j, t, ks⟩) h rfl rfl (by decide) (by decide)]
      exact congrArg _ (runs_disk M hM d d' f _ _ (t + 1) ks hc')
theorem perf_disk (p d d' : List UInt8) (ks : List Ev) (f : Nat) (hM : Plain4 (loaded p)) : perf p d ks f = perf p d' ks f :=
  runs_disk (loaded p) hM (loaded d) (loaded d') f 0 0 0 ks rfl
end Go.Proofs.YtkgbknjpnhoadaaGreatDoor
