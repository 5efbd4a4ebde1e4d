/-
  MachineSafe: what lies behind a round's beginning, and behind a round; the upper numbers are turned in place.
-/
import Derived.Test.YtainohbfcehpoaaDoorMzP
namespace Go.Proofs.YtainohbfcehpoaaDoor
open Go.RowKit Go.Shelf

/-- Behind a round's beginning: the instruction lies in a box, the depth is noted. -/
theorem SafeAt.mark {L : List Ins} {w3 : World} {inp : List UInt8} {rd s : Nat} {c : Conf} {sv : Value} {sn : List Int} {W : World} (h : SafeAt L w3 inp rd s c sv sn W) (cs : Array Value) (z : Value) :
    Two (w3.heap.size + 1) c.st [] sv (.slice none 0 0) ((W.alloc (.cells cs 43)).setCell ⟨w3.heap.size, c.pc, none⟩ z) ∧ Arr ((W.alloc (.cells cs 43)).setCell ⟨w3.heap.size, c.pc, none⟩ z) w3.heap.size 3 ((intC sn).set c.pc z) ∧
      Below w3.heap.size w3 ((W.alloc (.cells cs 43)).setCell ⟨w3.heap.size, c.pc, none⟩ z) ∧ ((W.alloc (.cells cs 43)).setCell ⟨w3.heap.size, c.pc, none⟩ z).heap.size = W.heap.size + 1 ∧
      Arr ((W.alloc (.cells cs 43)).setCell ⟨w3.heap.size, c.pc, none⟩ z) W.heap.size 43 cs.toList := by
  have hal : Below W.heap.size W (W.alloc (.cells cs 43)) := (Below.refl _ _).alloc (Nat.le_refl _) _
  have hT := h.two.below hal
  have hS := h.seen.below hal
  have hne : w3.heap.size ≠ W.heap.size := by have := h.siz; omega
  have hN : Arr (W.alloc (.cells cs 43)) W.heap.size 43 cs.toList := Arr.new (by simp) rfl
  refine ⟨⟨ownsRow_setCell_below hT.stk (by simp) _, ownsRow_setCell_below hT.out (by simp) _⟩, hS.set _ _, (h.bel.alloc h.bel.size _).setCell (p := ⟨w3.heap.size, c.pc, none⟩) (Nat.le_refl _) _, by simp [World.setCell], hN.other _ hne⟩
theorem SafeAt.next {L : List Ins} (hf : Form L) (hg : Good L) {w3 : World} {inp : List UInt8} {rd rd' s : Nat} {c c' : Conf} {sv sv' : Value} {sn : List Int} {W V W' : World} (h : SafeAt L w3 inp rd s c sv sn W)
    (hV : Arr V w3.heap.size 3 ((intC sn).set c.pc (.int .i64 (1 + (c.st.length : Int))))) (hB : Below w3.heap.size w3 V) (hk : Below (w3.heap.size + 1) V W') (hT : Two (w3.heap.size + 1) c'.st [] sv' (.slice none 0 0) W')
    (hs : stepM L c = .go c') (hin : inp.drop rd' = c'.inp) (hrd : rd' ≤ inp.length) (hol : c'.out.length ≤ s + 1) (h15 : s < 1500) : SafeAt L w3 inp rd' (s + 1) c' sv' (sn.set c.pc (1 + (c.st.length : Int))) W' := by
  have hin2 := hg.inside _ _ h.rch
  obtain ⟨_, h2, h3⟩ := seen_at hg h.snl h.snr hin2 h.rch
  refine ⟨hT, ?_, h2, h3, hin, hrd, step_reach hf hg h.rch hs, goK_snoc h.went hs, hB.trans (hk.mono (Nat.le_succ _)), hol, by omega, ?_⟩
  · have := hV.belowAt hk (Nat.lt_succ_self _)
    rw [intC, List.map_set]
    exact this
  · have h1 := hV.lt
    have h2 := hk.size
    omega
theorem own_ge {W : World} {B g n c s m : Nat} {e : TypeId} {xs : List Value} (h : W.ownsRow B e s (.slice (some ⟨g, 0, none⟩) n c) m xs) : B ≤ g := by
  obtain ⟨_, h⟩ := h
  rcases h with ⟨h, _⟩ | ⟨g', cap, cur, hv, h1, _⟩
  · cases h
  · injection hv with e1 _ _
    injection e1 with e1
    injection e1 with e1
    omega
theorem below_self_set {B g j : Nat} (V : World) (u : Value) (h : B ≤ g) : Below B V (V.setCell ⟨g, j, none⟩ u) := (Below.refl _ _).setCell (p := ⟨g, j, none⟩) h _
theorem own_nil (B : Nat) (W : World) : W.ownsRow B 5 1 (.slice none 0 0) ([] : List UInt8).length (u8C []) := World.ownsRow_nil _ _ _ _
/-- The two upper numbers are exchanged. -/
theorem Two.swap {B g c : Nat} {st : List Int} {a b : Int} {V : World} (h : Two B (b :: a :: st) [] (.slice (some ⟨g, 0, none⟩) (st.length + 1 + 1) c) (.slice none 0 0) V) :
    Two B (a :: b :: st) [] (.slice (some ⟨g, 0, none⟩) (st.length + 1 + 1) c) (.slice none 0 0) ((V.setCell ⟨g, st.length + 1, none⟩ (.int .i64 a)).setCell ⟨g, st.length, none⟩ (.int .i64 b)) ∧ Below B V ((V.setCell ⟨g, st.length + 1, none⟩ (.int .i64 a)).setCell ⟨g, st.length, none⟩ (.int .i64 b)) ∧ V.frozen? ⟨g, st.length, none⟩ = false ∧ V.frozen? ⟨g, st.length + 1, none⟩ = false := by
  have e1 : V.ownsRow B 3 1 (.slice (some ⟨g, 0, none⟩) (st.length + 1 + 1) c) (st.length + 1 + 1) (intC (b :: a :: st).reverse) := h.stk
  have hge := own_ge e1
  obtain ⟨t1, f1⟩ := own_topAt (st := a :: st) (u := a) e1
  obtain ⟨t2, f2⟩ := own_lowAt (u := b) t1
  exact ⟨⟨t2, own_nil _ _⟩, (below_self_set V _ hge).trans (below_self_set _ _ hge), (own_lowAt (u := b) e1).2, f1⟩
/-- The lower one is turned, the upper one is taken. -/
theorem Two.calc {B g c : Nat} {st : List Int} {a b : Int} {V : World} (u : Int) (h : Two B (b :: a :: st) [] (.slice (some ⟨g, 0, none⟩) (st.length + 1 + 1) c) (.slice none 0 0) V) :
    Two B (u :: st) [] (.slice (some ⟨g, 0, none⟩) (st.length + 1) c) (.slice none 0 0) (V.setCell ⟨g, st.length, none⟩ (.int .i64 u)) ∧ Below B V (V.setCell ⟨g, st.length, none⟩ (.int .i64 u)) ∧ V.frozen? ⟨g, st.length, none⟩ = false := by
  have e1 : V.ownsRow B 3 1 (.slice (some ⟨g, 0, none⟩) (st.length + 1 + 1) c) (st.length + 1 + 1) (intC (b :: a :: st).reverse) := h.stk
  have hge := own_ge e1
  obtain ⟨t1, f1⟩ := own_lowAt (u := u) e1
  exact ⟨⟨own_popI (st := u :: st) (a := b) t1, own_nil _ _⟩, below_self_set V _ hge, f1⟩
theorem halt_run {L : List Ins} {inp : List UInt8} {s : Nat} {c : Conf} (hw : goK L s ⟨0, [], inp, []⟩ c) (hh : stepM L c = .halt) (m : Nat) (hm : s < m) : runOf L inp m = some (c.out, s + 1) := by
  unfold runOf
  rw [run_goK hw hh m 1, if_pos hm, Nat.add_comm]
theorem none_run {L : List Ins} {inp : List UInt8} {m : Nat} {c : Conf} (hw : goK L m ⟨0, [], inp, []⟩ c) : runOf L inp m = none := goK_none hw 1
theorem int1500 : (1500 : Int).toNat = 1500 := by decide
/-- What Run answers where the own machine has halted. -/
theorem run_halts {code inp : List UInt8} {L : List Ins} {w w' : World} {e : Ending} (h : RunPost code inp 1500 w e w') (hf : formed code = some L) (hg : Good L) {s : Nat} {c : Conf} (hw : goK L s ⟨0, [], inp, []⟩ c) (hh : stepM L c = .halt) (hm : s < 1500) :
    e = .returned (.tuple #[.string (str c.out), .int .i64 ((s : Int) + 1), .int .i64 0]) := by
  rw [run_yes h hf hg (by decide) (by decide), int1500, halt_run hw hh _ hm]
  rfl
theorem run_goes_on {code inp : List UInt8} {L : List Ins} {w w' : World} {e : Ending} (h : RunPost code inp 1500 w e w') (hf : formed code = some L) (hg : Good L) {s : Nat} {c : Conf} (hw : goK L s ⟨0, [], inp, []⟩ c) (hs : s = 1500) :
    e = .returned (.tuple #[.string (str []), .int .i64 0, .int .i64 80]) := by
  subst hs
  rw [run_yes h hf hg (by decide) (by decide), int1500, none_run hw]
  rfl
theorem SafeAt.start (L : List Ins) (w4 : World) (inp : List UInt8) : SafeAt L w4 inp 0 0 ⟨0, [], inp, []⟩ (.slice none 0 0) (List.replicate L.length 0) (w4.alloc (.cells (intC (List.replicate L.length 0)).toArray 3)) :=
  ⟨Two.nil _ _, Arr.new rfl rfl, List.length_replicate, fun i hi => .inl (by rw [getElem!_pos _ i (by simpa using hi)]; simp), rfl, Nat.zero_le _, .zero, rfl, (Below.refl _ _).alloc (Nat.le_refl _) _, Nat.zero_le _, Nat.zero_le _, by simp⟩
theorem SafeAt.cellSeen {L : List Ins} {w3 : World} {inp : List UInt8} {rd s : Nat} {c : Conf} {sv : Value} {sn : List Int} {W : World} (h : SafeAt L w3 inp rd s c sv sn W) (hg : Good L) :
    ∃ z : Int, (z = 0 ∨ z = 1 + (c.st.length : Int)) ∧ W.cell? ⟨w3.heap.size, c.pc, none⟩ = some (.int .i64 z) ∧ W.frozen? ⟨w3.heap.size, c.pc, none⟩ = false := by
  have hin2 := hg.inside _ _ h.rch
  obtain ⟨h1, _⟩ := seen_at hg h.snl h.snr hin2 h.rch
  refine ⟨sn[c.pc]!, h1, h.seen.cell ?_, h.seen.free _⟩
  have hl : c.pc < sn.length := by rw [h.snl]; exact hin2
  rw [intC, List.getElem?_map, List.getElem?_eq_getElem hl, getElem!_pos sn c.pc hl]
  rfl
end Go.Proofs.YtainohbfcehpoaaDoor
