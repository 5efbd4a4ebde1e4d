/-
  A round of verified's worklist, plain.
-/
import Derived.Test.YtainohbfcehpoaaDoorMb8
namespace Go.Proofs.YtainohbfcehpoaaDoor
open Go.RowKit Go.Shelf

theorem depOf_at {ds : List Int} {i : Nat} (h : i < ds.length) : depOf ds i = if ds[i]! < 0 then none else some ds[i]!.toNat := by
  unfold depOf
  rw [List.getElem?_eq_getElem h, getElem!_pos ds i h]
theorem depOf_some {ds : List Int} {i d : Nat} (h : depOf ds i = some d) : i < ds.length ∧ ds[i]! = (d : Int) := by
  unfold depOf at h
  cases hq : ds[i]? with
  | none => rw [hq] at h; cases h
  | some z =>
    rw [hq] at h
    dsimp only at h
    split at h
    · cases h
    · injection h with h
      obtain ⟨h1, h2⟩ := List.getElem?_eq_some_iff.1 hq
      refine ⟨h1, ?_⟩
      rw [getElem!_pos ds i h1, h2]
      omega
def negC (ds : List Int) : Nat := ds.countP fun z => decide (z < 0)
def mu (ds : List Int) (td : List Nat) : Nat := 2 * negC ds + td.length
theorem negC_set {ds : List Int} {i : Nat} (h : i < ds.length) (hn : ds[i]! < 0) (a : Nat) : negC (ds.set i (a : Int)) + 1 = negC ds := by
  induction ds generalizing i with
  | nil => simp at h
  | cons z l ih =>
    cases i with
    | zero =>
      simp only [List.getElem!_cons_zero] at hn
      simp [negC, hn]
    | succ i =>
      rw [List.getElem!_cons_succ] at hn
      have := ih (by simpa using h) hn
      simp only [negC, List.set_cons_succ, List.countP_cons] at this ⊢
      omega
/-- Number j has been reached at depth a. -/
structure Ext (ds : List Int) (td : List Nat) (ds' : List Int) (td' : List Nat) (j a : Nat) : Prop where
  ext : ∀ k e, depOf ds k = some e → depOf ds' k = some e
  got : depOf ds' j = some a
  new : ∀ k e, depOf ds' k = some e → depOf ds k = some e ∨ (k = j ∧ e = a ∧ k ∈ td')
  sub : ∀ k ∈ td, k ∈ td'
  sup : ∀ k ∈ td', k ∈ td ∨ k = j
  mu : mu ds' td' ≤ mu ds td
theorem reach_split {b5 b7 b10 g cap dB n : Nat} {ds : List Int} {td : List Nat} {j a : Nat} {W W' : World} {e : Ending} (h : ReachPost b5 b7 b10 g cap dB n ds td j (a : Int) W e W') (hlen : ds.length = n + 1) (hj : j ≤ n) :
    ∃ ds' td' b, VS b5 b7 b10 g cap dB n ds' td' W' ∧ KeepVS dB W W' ∧ e = .returned (.bool b) ∧ ((b = true ∧ j < n ∧ Ext ds td ds' td' j a) ∨ (b = false ∧ (j = n ∨ ∃ e, depOf ds j = some e ∧ e ≠ a))) := by
  have hjl : j < ds.length := by omega
  rcases h with ⟨hneg, hV, hK, rfl⟩ | ⟨hpos, hV, hK, rfl⟩
  · refine ⟨_, _, _, hV, hK, rfl, ?_⟩
    by_cases hjn : j < n
    · refine .inl ⟨by simpa using hjn, hjn, ?_⟩
      have hnone : depOf ds j = none := by rw [depOf_at hjl, if_pos hneg]
      refine ⟨fun k e hk => ?_, ?_, fun k e hk => ?_, fun k hk => by simp [hk], fun k hk => ?_, ?_⟩
      · rw [depOf_set ds j k a hjl]
        by_cases hkj : k = j
        · subst hkj
          rw [hnone] at hk
          cases hk
        · rw [if_neg hkj]; exact hk
      · rw [depOf_set ds j j a hjl, if_pos rfl]
      · rw [depOf_set ds j k a hjl] at hk
        by_cases hkj : k = j
        · rw [if_pos hkj] at hk
          injection hk with hk
          exact .inr ⟨hkj, hk.symm, by simp [hkj]⟩
        · rw [if_neg hkj] at hk
          exact .inl hk
      · rcases List.mem_append.1 hk with hk | hk
        · exact .inl hk
        · exact .inr (List.mem_singleton.1 hk)
      · have := negC_set hjl hneg a
        simp only [mu, List.length_append, List.length_singleton]
        omega
    · exact .inr ⟨by simpa using hjn, .inl (by omega)⟩
  · refine ⟨_, _, _, hV, hK, rfl, ?_⟩
    have hsome : depOf ds j = some ds[j]!.toNat := by rw [depOf_at hjl, if_neg (by omega)]
    by_cases hda : ds[j]! = (a : Int)
    · by_cases hjn : j < n
      · refine .inl ⟨by simp [hda, hjn], hjn, ?_⟩
        exact ⟨fun _ _ h => h, by rw [hsome, hda]; rfl, fun _ _ h => .inl h, fun _ h => h, fun _ h => .inl h, Nat.le_refl _⟩
      · exact .inr ⟨by simp [hjn], .inl (by omega)⟩
    · exact .inr ⟨by rw [beq_eq_false_iff_ne.2 hda, Bool.false_and], .inr ⟨_, hsome, by omega⟩⟩
/-- What is reached from an instruction. -/
def ExtO (ds : List Int) (td : List Nat) (ds' : List Int) (td' : List Nat) : Option Nat → Nat → Prop
  | none, _ => ds' = ds ∧ td' = td
  | some j, a => Ext ds td ds' td' j a
theorem ExtO.facts {ds ds' : List Int} {td td' : List Nat} {o : Option Nat} {a : Nat} (h : ExtO ds td ds' td' o a) :
    (∀ k e, depOf ds k = some e → depOf ds' k = some e) ∧ (∀ j, o = some j → depOf ds' j = some a) ∧ (∀ k e, depOf ds' k = some e → depOf ds k = some e ∨ (o = some k ∧ e = a ∧ k ∈ td')) ∧ (∀ k ∈ td, k ∈ td') ∧ (∀ k ∈ td', k ∈ td ∨ o = some k) ∧ mu ds' td' ≤ mu ds td := by
  cases o with
  | none =>
    obtain ⟨rfl, rfl⟩ := h
    exact ⟨fun _ _ h => h, fun _ h => (by cases h), fun _ _ h => .inl h, fun _ h => h, fun _ h => .inl h, Nat.le_refl _⟩
  | some j =>
    exact ⟨h.ext, fun _ e => by injection e with e; subst e; exact h.got, fun k e hk => (h.new k e hk).imp id fun ⟨h1, h2, h3⟩ => ⟨by rw [h1], h2, h3⟩, h.sub, fun k hk => (h.sup k hk).imp id fun h1 => by rw [h1], h.mu⟩
def leadO (L : List Ins) (i : Nat) : Option Nat := if leadOp L[i]!.op then some (toOf L L[i]!) else none
def nextO (L : List Ins) (i : Nat) : Option Nat := if L[i]!.op ≠ 7 ∧ L[i]!.op ≠ 11 then some (i + 1) else none
/-- What a worklist has found so far. -/
structure VM (L : List Ins) (ds : List Int) (td : List Nat) (m : Nat) : Prop where
  marks : Marks L (depOf ds) td m
  got : ∃ i d, Reach L i d ∧ (m = d ∨ m = afterOp L[i]!.op d)
  ins : ∀ i ∈ td, i < L.length
  le : ∀ i d, depOf ds i = some d → d ≤ 16
theorem VM.round {L : List Ins} {ds ds1 ds2 : List Int} {td0 td1 td2 : List Nat} {i m d : Nat} (hF : Form L) (h : VM L ds (td0 ++ [i]) m) (hd : depOf ds i = some d) (ht : takesOp L[i]!.op ≤ d) (hr : afterOp L[i]!.op d ≤ 16)
    (h1 : ExtO ds td0 ds1 td1 (leadO L i) (afterOp L[i]!.op d)) (h2 : ExtO ds1 td1 ds2 td2 (nextO L i) (afterOp L[i]!.op d)) (hn : ∀ j, nextO L i = some j → j < L.length) :
    VM L ds2 td2 (max (max m d) (afterOp L[i]!.op d)) ∧ mu ds2 td2 < mu ds (td0 ++ [i]) := by
  have hin := h.ins i (by simp)
  have hR := h.marks.reach i d hd
  obtain ⟨a1, a2, a3, a4, a5, a6⟩ := h1.facts
  obtain ⟨b1, b2, b3, b4, b5, b6⟩ := h2.facts
  have hto : ∀ j, leadO L i = some j → leadOp L[i]!.op = true ∧ idxOf L L[i]!.opd = some j := fun j hj => by
    unfold leadO at hj
    split at hj
    · rename_i hl
      injection hj with hj
      subst hj
      exact ⟨hl, hF.to hin hl⟩
    · cases hj
  have hnx : ∀ j, nextO L i = some j → j = i + 1 ∧ L[i]!.op ≠ 7 ∧ L[i]!.op ≠ 11 := fun j hj => by
    unfold nextO at hj
    split at hj
    · rename_i hl
      injection hj with hj
      exact ⟨hj.symm, hl.1, hl.2⟩
    · cases hj
  have hkn : ∀ k ∈ td0, ∃ e, depOf ds k = some e := fun k hk => h.marks.known k (by simp [hk])
  refine ⟨⟨?_, ?_, ?_, ?_⟩, ?_⟩
  · refine h.marks.step hd hin ht hr (fun k e hk => b1 k e (a1 k e hk)) (fun k e hk => ?_) (fun h7 h11 => ?_) (fun j hl hj => ?_) (fun k hk => ?_) (fun k hk => ?_) (by omega) (by omega) (by omega)
    · rcases b3 k e hk with hk | ⟨ho, he, hm⟩
      · rcases a3 k e hk with hk | ⟨ho, he, hm⟩
        · exact .inl hk
        · exact .inr ⟨he, b4 k hm, .inr (hto k ho)⟩
      · exact .inr ⟨he, hm, .inl (hnx k ho)⟩
    · exact b2 _ (by rw [nextO, if_pos ⟨h7, h11⟩])
    · refine b1 _ _ (a2 j ?_)
      rw [leadO, if_pos hl]
      have := hF.to hin hl
      rw [hj] at this
      exact this.symm
    · rcases List.mem_append.1 hk with hk | hk
      · exact .inr (b4 k (a4 k hk))
      · exact .inl (List.mem_singleton.1 hk)
    · rcases b5 k hk with hk | ho
      · rcases a5 k hk with hk | ho
        · obtain ⟨e, he⟩ := hkn k hk
          exact ⟨e, b1 _ _ (a1 _ _ he)⟩
        · exact ⟨_, b1 _ _ (a2 k ho)⟩
      · exact ⟨_, b2 k ho⟩
  · obtain ⟨i0, d0, r0, e0⟩ := h.got
    rcases Nat.le_total (max m d) (afterOp L[i]!.op d) with hle | hle
    · exact ⟨i, d, hR, .inr (by omega)⟩
    · rcases Nat.le_total m d with hmd | hmd
      · exact ⟨i, d, hR, .inl (by omega)⟩
      · refine ⟨i0, d0, r0, ?_⟩
        rw [Nat.max_eq_left hle, Nat.max_eq_left hmd]
        exact e0
  · intro k hk
    rcases b5 k hk with hk | ho
    · rcases a5 k hk with hk | ho
      · exact h.ins k (by simp [hk])
      · exact (idxOf_some (hto k ho).2).1
    · exact hn k ho
  · intro k e hk
    rcases b3 k e hk with hk | ⟨_, he, _⟩
    · rcases a3 k e hk with hk | ⟨_, he, _⟩
      · exact h.le k e hk
      · omega
    · omega
  · have : mu ds td0 < mu ds (td0 ++ [i]) := by simp [mu]
    omega
theorem VM.start (L : List Ins) (n : Nat) (hn : 0 < L.length) : VM L ((List.replicate (n + 1) (-1 : Int)).set 0 0) [0] 0 := by
  have hdep : ∀ k, depOf ((List.replicate (n + 1) (-1 : Int)).set 0 0) k = if k = 0 then some 0 else none := fun k => by
    have := depOf_set (List.replicate (n + 1) (-1 : Int)) 0 k 0 (by simp)
    rw [show ((0 : Nat) : Int) = 0 from rfl] at this
    rw [this]
    split
    · rfl
    · unfold depOf
      rw [List.getElem?_replicate]
      by_cases hk : k < n + 1
      · rw [if_pos hk]
        rfl
      · rw [if_neg hk]
  refine ⟨⟨fun i d h => ?_, by rw [hdep]; rfl, fun i hi => ?_, fun i d h hi => ?_⟩, ⟨0, 0, .zero, .inl rfl⟩, fun i hi => ?_, fun i d h => ?_⟩
  · rw [hdep] at h
    split at h
    · injection h with h
      subst h
      rename_i h0
      subst h0
      exact .zero
    · cases h
  · rw [List.mem_singleton.1 hi]
    exact ⟨0, by rw [hdep]; rfl⟩
  · rw [hdep] at h
    split at h
    · rename_i h0
      exact absurd (by simp [h0]) hi
    · cases h
  · rw [List.mem_singleton.1 hi]
    exact hn
  · rw [hdep] at h
    split at h
    · injection h with h
      omega
    · cases h
end Go.Proofs.YtainohbfcehpoaaDoor
