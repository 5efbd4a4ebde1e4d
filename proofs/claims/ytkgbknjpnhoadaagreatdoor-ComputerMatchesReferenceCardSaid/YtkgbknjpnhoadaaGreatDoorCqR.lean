/-
  What is shown at a place: plain laws (Shows, Echo).
-/
import Derived.Test.YtkgbknjpnhoadaaGreatDoorCqM
import Derived.Test.YtkgbknjpnhoadaaGreatDoorCqV
namespace Go.Proofs.YtkgbknjpnhoadaaGreatDoor

/-- The last word about a place. -/
def lastAt (kind : Int) (empty : Nat) (of : Int → Nat) (at_ : Nat) (l : List Ev) : Nat := l.foldl (fun (s : Nat) (e : Ev) => if e.a = ((at_ : Nat) : Int) ∧ e.k = kind then of e.b else s) empty
theorem lastAt_snoc (kind : Int) (empty : Nat) (of : Int → Nat) (at_ : Nat) (l : List Ev) (e : Ev) : lastAt kind empty of at_ (l ++ [e]) = if e.a = ((at_ : Nat) : Int) ∧ e.k = kind then of e.b else lastAt kind empty of at_ l := by
  simp [lastAt, List.foldl_append]
theorem shown_at (kind : Int) (places : Nat) (of : Int → Nat) (at_ : Nat) (hat : at_ < places) : ∀ (l : List Ev) (out : List Nat), out.length = places →
    (l.foldl (shownStep kind places of) out).getD at_ 0 = l.foldl (fun (s : Nat) (e : Ev) => if e.a = ((at_ : Nat) : Int) ∧ e.k = kind then of e.b else s) (out.getD at_ 0)
  | [], _, _ => rfl
  | e :: l, out, ho => by
    rw [List.foldl_cons, List.foldl_cons, shown_at kind places of at_ hat l _ (by rw [shownStep_len]; exact ho)]
    congr 1
    unfold shownStep
    by_cases h : e.k = kind ∧ 0 ≤ e.a ∧ e.a < places
    · rw [if_pos h]
      by_cases h2 : e.a = at_
      · rw [if_pos ⟨h2, h.1⟩, List.getD_eq_getElem?_getD, List.getElem?_set, if_pos (by omega), if_pos (by omega)]
        try rfl
      · rw [if_neg (fun c => h2 c.1), List.getD_eq_getElem?_getD, List.getElem?_set, if_neg (by omega), List.getD_eq_getElem?_getD]
    · rw [if_neg h, if_neg (fun c => h ⟨c.2, by omega, by omega⟩)]
theorem shownL_at (kind : Int) (empty places : Nat) (of : Int → Nat) (at_ : Nat) (hat : at_ < places) (l : List Ev) : (shownL kind empty places of l).getD at_ 0 = lastAt kind empty of at_ l := by
  unfold shownL lastAt
  rw [shown_at kind places of at_ hat l _ (by simp)]
  congr 1
  simp [List.getD_eq_getElem?_getD, hat]
/-- The screen of the echo: the keys, then blanks. -/
theorem echo_last (E ks : List Ev) (hl : E.length = ks.length) (hE : ∀ (j : Nat) (h1 : j < E.length) (h2 : j < ks.length), EchoEv j ks[j] E[j]) (at_ : Nat) :
    ∀ m, m ≤ E.length → lastAt 1 32 ofS at_ (E.take m) = if at_ < m then ofS (ks[at_]!.a) else 32 := by
  intro m
  induction m with
  | zero => intro _; rfl
  | succ m ih =>
    intro hm
    rw [take_snoc E m (by omega), lastAt_snoc, ih (by omega), getElem!_pos E m (by omega)]
    obtain ⟨h1, h2, h3, _⟩ := hE m (by omega) (by omega)
    rw [h1, h2, h3]
    by_cases e : at_ = m
    · subst e
      rw [if_pos ⟨rfl, rfl⟩, if_pos (by omega), getElem!_pos ks at_ (by omega)]
    · rw [if_neg (by omega)]
      by_cases h : at_ < m
      · rw [if_pos h, if_pos (by omega)]
      · rw [if_neg h, if_neg (by omega)]
def echoS (ks : List Ev) : List UInt8 := (ks.map fun k => UInt8.ofNat (ofS k.a)) ++ List.replicate (80 - ks.length) 32
theorem echo_screen (E ks : List Ev) (hl : E.length = ks.length) (hn : ks.length ≤ 80) (hE : ∀ (j : Nat) (h1 : j < E.length) (h2 : j < ks.length), EchoEv j ks[j] E[j]) : bytesOf (screenL E) = echoS ks := by
  have hsl : (screenL E).length = 80 := shownL_len 1 32 80 ofS E
  have hll : (bytesOf (screenL E)).length = 80 := by unfold bytesOf; rw [List.length_map, hsl]
  refine List.ext_getElem (by rw [hll]; unfold echoS; simp; omega) (fun j h1 h2 => ?_)
  have hj : j < 80 := by omega
  have hlast := echo_last E ks hl hE j E.length (Nat.le_refl _)
  rw [List.take_length, ← shownL_at 1 32 80 ofS j hj E] at hlast
  have hg : (screenL E)[j]'(by omega) = if j < E.length then ofS (ks[j]!.a) else 32 := by
    rw [← hlast]
    show _ = (screenL E).getD j 0
    rw [List.getD_eq_getElem?_getD, List.getElem?_eq_getElem (by omega)]
    rfl
  have hm : (bytesOf (screenL E))[j] = UInt8.ofNat ((screenL E)[j]'(by omega)) := List.getElem_map _
  rw [hm, hg]
  refine Option.some.inj ?_
  rw [← List.getElem?_eq_getElem h2]
  unfold echoS
  by_cases h : j < ks.length
  · rw [if_pos (by omega), List.getElem?_append_left (by simpa using h), List.getElem?_map, List.getElem?_eq_getElem h, getElem!_pos ks j h]
    rfl
  · rw [if_neg (by omega), List.getElem?_append_right (by simpa using h), List.getElem?_replicate, if_pos (by simp; omega)]
    rfl
end Go.Proofs.YtkgbknjpnhoadaaGreatDoor
