/-
  The programs that the reference makes are well formed and good; general laws of formed. Plain.
-/
import Derived.Test.YtainohbfcehpoaaDoorMa6
namespace Go.Proofs.YtainohbfcehpoaaDoor

theorem Laid.ops {a : Nat} {l : List Ins} (h : Laid a l) : ∀ i, i < l.length → l[i]!.op < 12 := by
  induction h with
  | nil => intro i hi; simp at hi
  | @cons a x l _ ho _ ih =>
    intro i hi
    cases i with
    | zero => exact ho
    | succ i =>
      rw [List.getElem!_cons_succ]
      exact ih i (by simpa using hi)
theorem formed_parts {code : List UInt8} {l : List Ins} (h : formed code = some l) : code ≠ [] ∧ code.length ≤ 1024 ∧ dec 0 code = some l ∧ Laid 0 l ∧ Form l := by
  unfold formed at h
  split at h
  · cases h
  · rename_i h1
    cases hd : dec 0 code with
    | none => rw [hd] at h; cases h
    | some l' =>
      rw [hd] at h
      dsimp only at h
      split at h
      · rename_i h2
        injection h with h
        subst h
        have hL := dec_laid _ code (Nat.le_refl _) _ _ hd
        refine ⟨fun e => h1 (.inl e), by omega, rfl, hL, hL.ops, fun i hi hl => ?_⟩
        rw [List.all_eq_true] at h2
        have h3 := h2 l'[i]! (by rw [getElem!_pos l' i hi]; exact List.getElem_mem hi)
        rw [hl] at h3
        exact Option.isSome_iff_exists.1 (by simpa using h3)
      · cases h
theorem formed_mk {code : List UInt8} {l : List Ins} (h1 : code ≠ []) (h2 : code.length ≤ 1024) (h3 : dec 0 code = some l) (h4 : ∀ i, i < l.length → leadOp l[i]!.op = true → ∃ j, idxOf l l[i]!.opd = some j) : formed code = some l := by
  unfold formed
  rw [if_neg (by rintro (h | h); exact h1 h; omega), h3]
  dsimp only
  rw [if_pos]
  rw [List.all_eq_true]
  intro x hx
  obtain ⟨i, hi, rfl⟩ := List.getElem_of_mem hx
  cases hl : leadOp l[i].op with
  | false => rfl
  | true =>
    obtain ⟨j, hj⟩ := h4 i hi (by rw [getElem!_pos l i hi]; exact hl)
    rw [getElem!_pos l i hi] at hj
    rw [hj]
    rfl
theorem made_formed (ps : List (Nat × Nat)) (hl : ps.length ≤ 40) (hp : ∀ p ∈ ps, p.2 < 300) : formed (madeB 0 0 ps) = some ((madeE 0 0 ps).map (·.1)) ∧ Good ((madeE 0 0 ps).map (·.1)) := by
  have hd := dec_made ps 0 0 (by omega) (by omega) hp
  have hL := dec_laid _ _ (Nat.le_refl _) _ _ hd
  have hlen := madeB_len ps 0 0
  have hok := made_ok ps 0 0 (by omega)
  obtain ⟨x0, t0, hh, _⟩ := madeE_head ps 0 0
  have hne : madeB 0 0 ps ≠ [] := fun e => by
    rw [e, hh, dec] at hd
    simp at hd
  generalize madeE 0 0 ps = L at *
  have hget : ∀ i, i < (L.map (·.1)).length → ∃ dd, L[i]? = some ((L.map (·.1))[i]!, dd) := fun i hi => by
    have hi' : i < L.length := by simpa using hi
    refine ⟨L[i].2, ?_⟩
    rw [getElem!_pos _ i hi, List.getElem_map, List.getElem?_eq_getElem hi']
  have hidx : ∀ j y dd, L[j]? = some (y, dd) → idxOf (L.map (·.1)) y.off = some j := fun j y dd hy => by
    obtain ⟨hj, e⟩ := List.getElem?_eq_some_iff.1 hy
    have hj' : j < (L.map (·.1)).length := by simpa using hj
    have := hL.idx hj'
    rw [getElem!_pos _ j hj', List.getElem_map, e] at this
    exact this
  refine ⟨formed_mk hne (by omega) hd fun i hi hlead => ?_, good_of_closed (fun i => (L[i]?).bind (·.2)) (by rw [hh]; rfl) fun i d hdep => ?_⟩
  · obtain ⟨dd, hx⟩ := hget i hi
    obtain ⟨h1, h2⟩ := hok i _ _ hx
    cases dd with
    | none => exact absurd rfl (h1 hlead)
    | some e =>
      obtain ⟨j, y, hy, ho⟩ := (h2 e rfl).2.2.2 hlead
      exact ⟨j, by rw [← ho]; exact hidx j y _ hy⟩
  · cases hx : L[i]? with
    | none => rw [hx] at hdep; cases hdep
    | some xd =>
      obtain ⟨x, dd⟩ := xd
      rw [hx] at hdep
      have hdd : dd = some d := hdep
      subst hdd
      obtain ⟨hi, _⟩ := List.getElem?_eq_some_iff.1 hx
      have hi' : i < (L.map (·.1)).length := by simpa using hi
      obtain ⟨dd, hx2⟩ := hget i hi'
      rw [hx] at hx2
      injection hx2 with hx2
      injection hx2 with hx3 _
      obtain ⟨_, h2⟩ := hok i _ _ hx
      obtain ⟨a, b, c, e⟩ := h2 d rfl
      rw [← hx3]
      refine ⟨hi', a, b, fun h7 h11 => ?_, fun j hl hj => ?_⟩
      · obtain ⟨y, hy⟩ := c h7 h11
        show (L[i + 1]?).bind (·.2) = _
        rw [hy]
        rfl
      · obtain ⟨j', y, hy, ho⟩ := e hl
        have := hidx j' y _ hy
        rw [ho, hj] at this
        injection this with this
        subst this
        show (L[j]?).bind (·.2) = _
        rw [hy]
        rfl
end Go.Proofs.YtainohbfcehpoaaDoor
