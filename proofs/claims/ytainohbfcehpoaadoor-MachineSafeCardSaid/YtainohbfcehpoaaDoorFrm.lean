/-
  A frame as a function of its slots: a loop, a cut, each side a declaration of its own; general.
-/
import Derived.Deep.LoopGhost
namespace Go.Proofs.YtainohbfcehpoaaDoor
open Go

/-- What lies in a slot. -/
def slotOf (a : Act) (i : Nat) : Value := a.tmps.getD i undef
/-- The frame of n slots that a function says. -/
def frameOf (n : Nat) (u : Nat → Value) : Act := ⟨((List.range n).map u).toArray, []⟩
theorem act_frame {a : Act} {n : Nat} (hd : a.defers = []) (hn : a.tmps.size = n) : a = frameOf n (slotOf a) := by
  obtain ⟨ts, ds⟩ := a
  dsimp only at hd hn
  subst hd hn
  unfold frameOf
  congr 1
  apply Array.ext
  · simp
  · intro i h1 h2
    simp [slotOf, Array.getD, h1]
/-- What a round hands on: behind a name that the walk does not open. -/
def HandF (n : Nat) (keep : List Nat) (u : Nat → Value) (J : Nat → (Nat → Value) → World → Prop) (k : Nat) (a : Act) (w : World) : Prop :=
  a.defers = [] ∧ a.tmps.size = n ∧ keep.map (slotOf a) = keep.map u ∧ ∃ k', k' < k ∧ J k' (slotOf a) w
/-- What a way out hands on. -/
def ExF (n : Nat) (keep : List Nat) (u : Nat → Value) (J : (Nat → Value) → World → Prop) (a : Act) (w : World) : Prop :=
  a.defers = [] ∧ a.tmps.size = n ∧ keep.map (slotOf a) = keep.map u ∧ J (slotOf a) w
theorem ExF.mk {n : Nat} {keep : List Nat} {u : Nat → Value} {J : (Nat → Value) → World → Prop} {a : Act} {w : World} (h1 : a.defers = []) (h2 : a.tmps.size = n) (h3 : keep.map (slotOf a) = keep.map u) (h4 : J (slotOf a) w) : ExF n keep u J a w := ⟨h1, h2, h3, h4⟩
theorem HandF.mk {n : Nat} {keep : List Nat} {u : Nat → Value} {J : Nat → (Nat → Value) → World → Prop} {k : Nat} {a : Act} {w : World} (k' : Nat) (h1 : a.defers = []) (h2 : a.tmps.size = n) (h3 : keep.map (slotOf a) = keep.map u) (hlt : k' < k) (h4 : J k' (slotOf a) w) : HandF n keep u J k a w := ⟨h1, h2, h3, k', hlt, h4⟩
theorem keep_at {keep : List Nat} {u v : Nat → Value} (h : keep.map u = keep.map v) {i : Nat} (hi : i ∈ keep) : u i = v i := List.map_inj_left.1 h i hi
theorem keep_sub {keep keep' : List Nat} {u v : Nat → Value} (h : keep.map u = keep.map v) (hs : ∀ i ∈ keep', i ∈ keep) : keep'.map u = keep'.map v := List.map_inj_left.2 fun i hi => keep_at h (hs i hi)
/-- A loop: the relation bears a number, which every round lowers. -/
theorem wp_loop_frame {P : Program} {c : Code} {Q : Exit → Act → World → Prop} {a : Act} {w : World} (n : Nat) (keep : List Nat) (R : Nat → (Nat → Value) → World → Prop) (k0 : Nat) (hd : a.defers = []) (hn : a.tmps.size = n) (h0 : R k0 (slotOf a) w)
    (round : ∀ k u w', R k u w' → keep.map u = keep.map (slotOf a) → ∀ (J : Nat → (Nat → Value) → World → Prop) (K : Act → World → Prop), (∀ k u w, R k u w → J k u w) → (∀ a' w'', HandF n keep u J k a' w'' → K a' w'') → c.wp P (Exit.then K Q) (frameOf n u) w') :
    (Code.loop c).wp P Q a w := by
  refine wp_loop_ghost (fun k a' w' => ∃ u, a' = frameOf n u ∧ keep.map u = keep.map (slotOf a) ∧ R k u w') k0 ⟨_, act_frame hd hn, rfl, h0⟩ ?_
  rintro k _ w' ⟨u, rfl, hk, hR⟩
  refine round k u w' hR hk R _ (fun _ _ _ h => h) ?_
  rintro a' w'' ⟨h1, h2, h3, k', hlt, hR'⟩
  exact ⟨k', hlt, _, act_frame h1 h2, h3.trans hk, hR'⟩
/-- A statement's ways meet: v says what lies in the slots that are kept. -/
theorem wp_cut_frame {P : Program} {s : Code} {K : Act → World → Prop} {Q' : Exit → Act → World → Prop} {a : Act} {w : World} (n : Nat) (keep : List Nat) (v : Nat → Value) (R : (Nat → Value) → World → Prop)
    (first : ∀ (J : (Nat → Value) → World → Prop) (K' : Act → World → Prop), (∀ u w, R u w → J u w) → (∀ a' w', ExF n keep v J a' w' → K' a' w') → s.wp P (Exit.then K' Q') a w)
    (rest : ∀ u w', keep.map u = keep.map v → R u w' → K (frameOf n u) w') : s.wp P (Exit.then K Q') a w := by
  refine wp_mono (first R (fun a' w' => ExF n keep v R a' w') (fun _ _ h => h) (fun _ _ h => h)) ?_
  intro e a' w' hq
  cases e with
  | normal =>
    obtain ⟨h1, h2, h3, h4⟩ := hq
    have := rest _ w' h3 h4
    rw [← act_frame h1 h2] at this
    exact this
  | exit id => exact hq
  | goto l => exact hq
  | ret => exact hq
  | panic ch => exact hq
  | outgrown => exact hq
/-- The body of the first loop. -/
def firstLoop : Code → Option Code
  | .loop c => some c
  | .seq a b => match firstLoop a with
    | some c => some c
    | none => firstLoop b
  | .block _ c => firstLoop c
  | .scope c => firstLoop c
  | .cond _ a b => match firstLoop a with
    | some c => some c
    | none => firstLoop b
  | _ => none
/-- The statement of block n. -/
def blockAt (n : Nat) : Code → Option Code
  | .loop c => blockAt n c
  | .seq a b => match blockAt n a with
    | some c => some c
    | none => blockAt n b
  | .block m c => if m = n then some c else blockAt n c
  | .scope c => blockAt n c
  | .cond _ a b => match blockAt n a with
    | some c => some c
    | none => blockAt n b
  | _ => none
end Go.Proofs.YtainohbfcehpoaaDoor
