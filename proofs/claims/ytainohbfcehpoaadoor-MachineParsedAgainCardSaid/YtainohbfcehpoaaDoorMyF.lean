/-
  A text that Parse refuses has a line that is wrong. Plain.
  MachineParsedAgain: the walk.
-/
import Derived.Test.YtainohbfcehpoaaDoorMe3
import Derived.Test.YtainohbfcehpoaaDoorMyP
namespace Go.Proofs.YtainohbfcehpoaaDoor

def cnt10 (s : List UInt8) : Nat := (s.filter fun x => x == 10).length
/-- How many lines a text has. -/
def linesOf (s : List UInt8) : Nat := 1 + cnt10 s.dropLast
theorem cnt10_snoc (s : List UInt8) (x : UInt8) : cnt10 (s ++ [x]) = cnt10 s + (if x = 10 then 1 else 0) := by
  unfold cnt10
  rw [List.filter_append, List.length_append]
  congr 1
  by_cases h : x = 10
  · rw [if_pos h, List.filter_cons, if_pos (by rw [h]; rfl)]; rfl
  · rw [if_neg h, List.filter_cons, if_neg (by simpa using h)]; rfl
theorem cutAll_count (s : List UInt8) : (cutAll 10 s).length = 1 + cnt10 s := by
  induction s with
  | nil => rfl
  | cons b l ih =>
    rw [cutAll]
    unfold cnt10 at ih ⊢
    by_cases h : b = 10
    · rw [if_pos h, List.length_cons, ih, List.filter_cons, if_pos (by rw [h]; rfl), List.length_cons]; omega
    · rw [if_neg h, List.filter_cons, if_neg (by simpa using h)]
      cases hc : cutAll 10 l with
      | nil => exact absurd hc (cutAll_ne _ _)
      | cons p r => rw [hc] at ih; simpa using ih
theorem cutAll_end (s : List UInt8) : cutAll 10 (s ++ [10]) = cutAll 10 s ++ [[]] := by
  induction s with
  | nil => rfl
  | cons b l ih =>
    rw [List.cons_append, cutAll, cutAll, ih]
    by_cases h : b = 10
    · rw [if_pos h, if_pos h]; rfl
    · rw [if_neg h, if_neg h]
      cases hc : cutAll 10 l with
      | nil => exact absurd hc (cutAll_ne _ _)
      | cons p r => rfl
/-- What is known of a scan's end. -/
def ScanEnd (n m : Nat) (last : Option (List UInt8)) : Nat ⊕ List Ins → Prop
  | .inl k => n + 1 ≤ k ∧ k ≤ n + m ∧ (last = some [] → k + 1 ≤ n + m)
  | .inr l => l.length + 1 = n + m ∧ last = some []
theorem scan_end : ∀ (ps : List (List UInt8)) (size : Nat) (acc : List Ins), ps ≠ [] → ScanEnd acc.length ps.length ps.getLast? (scan ps size acc)
  | [], _, _, h => absurd rfl h
  | [p], size, acc, _ => by
    rw [scan]
    by_cases h : p = []
    · rw [if_pos h]; exact ⟨rfl, by rw [h]; rfl⟩
    · rw [if_neg h]
      refine ⟨Nat.le_refl _, Nat.le_refl _, fun e => ?_⟩
      simp at e
      exact absurd e h
  | p :: q :: r, size, acc, _ => by
    have hbad : ScanEnd acc.length (p :: q :: r).length (p :: q :: r).getLast? (.inl (acc.length + 1)) := ⟨Nat.le_refl _, by simp, fun _ => by simp only [List.length_cons]; omega⟩
    rw [scan]
    cases hr : readT p with
    | none => exact hbad
    | some x =>
      dsimp only
      by_cases h : 1024 < size + simLen x.1
      · rw [if_pos h]; exact hbad
      · rw [if_neg h]
        have ih := scan_end (q :: r) (size + simLen x.1) (acc ++ [⟨size, x.1, x.2⟩]) (by simp)
        rw [List.getLast?_cons_cons]
        generalize scan (q :: r) (size + simLen x.1) (acc ++ [⟨size, x.1, x.2⟩]) = R at *
        generalize (q :: r).getLast? = la at *
        rw [List.length_append, List.length_singleton] at ih
        rw [List.length_cons (a := p)]
        cases R with
        | inl k =>
          obtain ⟨h1, h2, h3⟩ := ih
          exact ⟨by omega, by omega, fun e => by have := h3 e; omega⟩
        | inr l =>
          obtain ⟨h1, h2⟩ := ih
          exact ⟨by omega, h2⟩
theorem lines_cut (s : List UInt8) : (s = [] ∧ (cutAll 10 s).length = 1) ∨ (linesOf s + 1 = (cutAll 10 s).length ∧ (cutAll 10 s).getLast? = some []) ∨ linesOf s = (cutAll 10 s).length := by
  rcases List.eq_nil_or_concat s with rfl | ⟨t, x, rfl⟩
  · exact .inl ⟨rfl, rfl⟩
  · right
    rw [List.concat_eq_append, cutAll_count, cnt10_snoc]
    unfold linesOf
    rw [List.dropLast_concat]
    by_cases h : x = 10
    · subst h
      left
      rw [if_pos rfl, cutAll_end]
      exact ⟨by omega, by simp⟩
    · right
      rw [if_neg h]; rfl
theorem linesOf_pos (s : List UInt8) : 1 ≤ linesOf s := by unfold linesOf; omega
/-- P8.4: what Parse refuses. -/
theorem parse_err {s c : List UInt8} {k : Nat} {e : Int} (h : parse8 s = (c, k, e)) (he : e ≠ 0) : c = [] ∧ e = 80 ∧ 1 ≤ k ∧ k ≤ linesOf s := by
  have hs := scan_end (cutAll 10 s) 0 [] (cutAll_ne _ _)
  have hl := lines_cut s
  have hp := linesOf_pos s
  have hc : s = [] → linesOf s = 1 := fun e => by rw [e]; rfl
  unfold parse8 at h
  generalize scan (cutAll 10 s) 0 [] = R at *
  rw [List.length_nil] at hs
  cases R with
  | inl k' =>
    obtain ⟨h1, h2, h3⟩ := hs
    injection h with q1 h; injection h with q2 q3
    subst q1 q2 q3
    refine ⟨rfl, rfl, by omega, ?_⟩
    rcases hl with ⟨g1, g2⟩ | ⟨g1, g2⟩ | g1
    · have := hc g1; omega
    · have := h3 g2; omega
    · omega
  | inr l =>
    obtain ⟨h1, h2⟩ := hs
    dsimp only at h
    by_cases hn : l = []
    · rw [if_pos hn] at h
      injection h with q1 h; injection h with q2 q3
      subst q1 q2 q3
      exact ⟨rfl, rfl, Nat.le_refl _, hp⟩
    · rw [if_neg hn] at h
      cases hb : badLead l with
      | none =>
        rw [hb] at h
        injection h with q1 h; injection h with q2 q3
        exact absurd q3.symm he
      | some i =>
        rw [hb] at h
        injection h with q1 h; injection h with q2 q3
        subst q1 q2 q3
        have hi : i < l.length := by
          unfold badLead at hb
          rw [List.findIdx?_eq_some_iff_getElem] at hb
          exact hb.1
        refine ⟨rfl, rfl, by omega, ?_⟩
        rcases hl with ⟨g1, g2⟩ | ⟨g1, g2⟩ | g1
        · have := hc g1; omega
        · omega
        · omega
end Go.Proofs.YtainohbfcehpoaaDoor
namespace Go.Proofs.YtainohbfcehpoaaDoor
open Go.RowKit Go.Shelf

theorem nat10 {x : UInt8} (h : x.toNat = 10) : x = 10 := UInt8.toNat_inj.1 h
set_option maxRecDepth 100000 in
set_option maxHeartbeats 8000000 in
theorem ParsedAgain_walk (raw : List UInt8) (v : Value) (n : Nat) (zs : List Int) (at_ : Int) (c : Nat) (size : Int) (w : World) (hr : raw.length ≤ 9223372036854775807) (hs : SliceAt w w.heap.size v n (zs.map (Value.int .i64))) (hz : zs.length = n * 2) (hI : ∀ z ∈ zs, I64 z) (ha : I64 at_) (_ : c < 256) (hsz : I64 size) (hE : EnvN w) :
    Calls Tryd.prog 9 #[.string (str raw), v, .int .i64 at_, .int .u8 (c : Int), .int .i64 size] w fun e w' => e = .returned (.bool true) ∧ Below w.heap.size w w' := by
  have hsn := Lib.hid (sane_any w hE.envr.env)
  have hmd := fun W (hb : Below w.heap.size w W) => Lib.hid (Made_any v n zs W (hs.later hb) hz hI (hE.envr.below hb))
  obtain ⟨⟨ml, hmf, hmg⟩, hml⟩ := made_facts zs
  generalize madeB 0 0 (prs40 zs) = made at *
  have hPr := fun W (hb : Below w.heap.size w W) => printR_any made W (by omega) (hE.below hb)
  have hp8 : print8 made = (textT ml, 0) := by unfold print8; rw [hmf]
  rw [hp8] at hPr
  dsimp only at hPr
  have hPr2 := fun W hb => Lib.hid (hPr W hb)
  obtain ⟨htl, _⟩ := text_len hmf
  have htp := parse_text hmf
  generalize textT ml = text at *
  have hcl := changedB_len text at_ c
  have hch := fun W => Lib.hid (changed_any text at_ c W (by omega) ha)
  have hpk : ∀ W, Hid (Calls Tryd.prog 16 #[.int .i64 size, .int .i64 ((text.length : Int) + 1)] W fun e w' => e = .returned (.int .i64 (pickv size (text.length + 1) : Nat)) ∧ Below W.heap.size W w') := fun W => by
    have h := pick_any size (text.length + 1) W hsz (by omega) (by omega)
    rw [Int.natCast_succ] at h
    exact h.mono fun e w' h => ⟨h.1, by rw [h.2]; exact Below.refl _ _⟩
  have hpl := pickv_lt size (text.length + 1) (by omega)
  have hexp := extract_take text (pickv size (text.length + 1))
  have hpt := str_size text
  have hex := extract_take raw
  have hps := str_size raw
  have hmn : (min (raw.length : Int) 100).toNat = min raw.length 100 := by omega
  have hm1 : (0 : Int) ≤ min (raw.length : Int) 100 := by omega
  have hm2 : min (raw.length : Int) 100 ≤ (raw.length : Int) := by omega
  have hexm := hex (min raw.length 100)
  have hrl : (raw.take (min raw.length 100)).length ≤ 100 := by rw [List.length_take]; omega
  have hql : (text.take (pickv size (text.length + 1))).length ≤ 20480 := by rw [List.length_take]; omega
  generalize raw.take (min raw.length 100) = r2 at *
  generalize text.take (pickv size (text.length + 1)) = t2 at *
  generalize pickv size (text.length + 1) = pk at *
  generalize changedB text at_ c = chg at *
  have hwl : IntKind.i64.wrap ((text.length : Int) + 1) = ((text.length + 1 : Nat) : Int) := by rw [Int.natCast_succ]; exact IntWalk.i64_in _ (by omega)
  have hwl2 : IntKind.i64.wrap ((text.length : Int) + 1) = (text.length : Int) + 1 := IntWalk.i64_in _ (by omega)
  have k1 : (0 : Int) ≤ (pk : Int) := by omega
  have k2 : (pk : Int) ≤ (text.length : Int) := by omega
  clear hex hp8 hPr hwl
  go_enter Tryd.func9, Tryd.ntmps9
  go_wp2_with fail
  refine hsn.out.mono ?_
  rintro e w1 ⟨rfl, hb1⟩
  go_wp2_with fail
  refine (hmd w1 hb1).out.mono ?_
  rintro e wm ⟨rfl, hbm⟩
  have hBm := hb1.trans (hbm.mono hb1.size)
  go_wp2_with fail
  refine (hPr2 _ hBm).out.mono ?_
  rintro e w2 ⟨rfl, hb2⟩
  have hB2 := hBm.trans (hb2.mono hBm.size)
  clear hsn hmd hPr2 hb1 hbm hBm hb2
  go_wp2_with fail
  refine wp_region_held_drew (S := fun w' => True) (by kernel_rfl) (by trivial) (fun hHeld => ?_)
  refine take_l (i := 0) (v := ?_) rfl (by kernel_rfl) (by kernel_rfl) (by kernel_rfl) (fun _ _ _ h => h) (Or.inl ⟨by kernel_rfl, ?_⟩) (by assumption) ?_
  rotate_left
  · intro w hSw; (try dsimp only at hSw); go_simp; (try with_reducible rfl)
  (try simp only [Act.put, List.setIfInBounds_toArray, List.set_cons_zero, List.set_cons_succ])
  refine take_l (i := 1) (v := ?_) rfl (by kernel_rfl) (by kernel_rfl) (by kernel_rfl) (fun _ _ _ h => h) (Or.inl ⟨by kernel_rfl, ?_⟩) (by assumption) ?_
  rotate_left
  · intro w hSw; (try dsimp only at hSw); go_simp; (try with_reducible rfl)
  (try simp only [Act.put, List.setIfInBounds_toArray, List.set_cons_zero, List.set_cons_succ])
  refine take_l (i := 2) (v := ?_) rfl (by kernel_rfl) (by kernel_rfl) (by kernel_rfl) (fun _ _ _ h => h) (Or.inl ⟨by kernel_rfl, ?_⟩) (by assumption) ?_
  rotate_left
  · intro w hSw; (try dsimp only at hSw); go_simp; (try with_reducible rfl)
  (try simp only [Act.put, List.setIfInBounds_toArray, List.set_cons_zero, List.set_cons_succ])
  refine take_l (i := 3) (v := ?_) rfl (by kernel_rfl) (by kernel_rfl) (by kernel_rfl) (fun _ _ _ h => h) (Or.inl ⟨by kernel_rfl, ?_⟩) (by assumption) ?_
  rotate_left
  · intro w hSw; (try dsimp only at hSw); go_simp; (try with_reducible rfl)
  (try simp only [Act.put, List.setIfInBounds_toArray, List.set_cons_zero, List.set_cons_succ])
  refine take_l (i := 4) (v := ?_) rfl (by kernel_rfl) (by kernel_rfl) (by kernel_rfl) (fun _ _ _ h => h) (Or.inl ⟨by kernel_rfl, ?_⟩) (by assumption) ?_
  rotate_left
  · intro w hSw; (try dsimp only at hSw); go_simp; (try with_reducible rfl)
  (try simp only [Act.put, List.setIfInBounds_toArray, List.set_cons_zero, List.set_cons_succ])
  refine take_l (i := 5) (v := ?_) rfl (by kernel_rfl) (by kernel_rfl) (by kernel_rfl) (fun _ _ _ h => h) (Or.inl ⟨by kernel_rfl, ?_⟩) (by assumption) ?_
  rotate_left
  · intro w hSw; (try dsimp only at hSw); go_simp; (try with_reducible rfl)
  (try simp only [Act.put, List.setIfInBounds_toArray, List.set_cons_zero, List.set_cons_succ])
  refine take_l (i := 6) (v := ?_) rfl (by kernel_rfl) (by kernel_rfl) (by kernel_rfl) (fun _ _ _ h => h) (Or.inl ⟨by kernel_rfl, ?_⟩) (by assumption) ?_
  rotate_left
  · intro w hSw; (try dsimp only at hSw); go_simp; (try with_reducible rfl)
  (try simp only [Act.put, List.setIfInBounds_toArray, List.set_cons_zero, List.set_cons_succ])
  refine take_l (i := 7) (v := ?_) rfl (by kernel_rfl) (by kernel_rfl) (by kernel_rfl) (fun _ _ _ h => h) (Or.inl ⟨by kernel_rfl, ?_⟩) (by assumption) ?_
  rotate_left
  · intro w hSw; (try dsimp only at hSw); go_simp; (try with_reducible rfl)
  (try simp only [Act.put, List.setIfInBounds_toArray, List.set_cons_zero, List.set_cons_succ])
  refine take_l (i := 8) (v := ?_) rfl (by kernel_rfl) (by kernel_rfl) (by kernel_rfl) (fun _ _ _ h => h) (Or.inl ⟨by kernel_rfl, ?_⟩) (by assumption) ?_
  rotate_left
  · intro w hSw; (try dsimp only at hSw); go_simp; (try with_reducible rfl)
  (try simp only [Act.put, List.setIfInBounds_toArray, List.set_cons_zero, List.set_cons_succ])
  refine take_l (i := 10) (v := ?_) rfl (by kernel_rfl) (by kernel_rfl) (by kernel_rfl) (fun _ _ _ h => h) (Or.inl ⟨by kernel_rfl, ?_⟩) (by assumption) ?_
  rotate_left
  · intro w hSw; (try dsimp only at hSw); go_simp; (try with_reducible rfl)
  (try simp only [Act.put, List.setIfInBounds_toArray, List.set_cons_zero, List.set_cons_succ])
  refine take_l (i := 11) (v := ?_) rfl (by kernel_rfl) (by kernel_rfl) (by kernel_rfl) (fun _ _ _ h => h) (Or.inl ⟨by kernel_rfl, ?_⟩) (by assumption) ?_
  rotate_left
  · intro w hSw; (try dsimp only at hSw); go_simp; (try with_reducible rfl)
  (try simp only [Act.put, List.setIfInBounds_toArray, List.set_cons_zero, List.set_cons_succ])
  refine take_l (i := 12) (v := ?_) rfl (by kernel_rfl) (by kernel_rfl) (by kernel_rfl) (fun _ _ _ h => h) (Or.inl ⟨by kernel_rfl, ?_⟩) (by assumption) ?_
  rotate_left
  · intro w hSw; (try dsimp only at hSw); go_simp; (try with_reducible rfl)
  (try simp only [Act.put, List.setIfInBounds_toArray, List.set_cons_zero, List.set_cons_succ])
  refine take_l (i := 13) (v := ?_) rfl (by kernel_rfl) (by kernel_rfl) (by kernel_rfl) (fun _ _ _ h => h) (Or.inl ⟨by kernel_rfl, ?_⟩) (by assumption) ?_
  rotate_left
  · intro w hSw; (try dsimp only at hSw); go_simp; (try with_reducible rfl)
  (try simp only [Act.put, List.setIfInBounds_toArray, List.set_cons_zero, List.set_cons_succ])
  refine take_l (i := 14) (v := ?_) rfl (by kernel_rfl) (by kernel_rfl) (by kernel_rfl) (fun _ _ _ h => h) (Or.inl ⟨by kernel_rfl, ?_⟩) (by assumption) ?_
  rotate_left
  · intro w hSw; (try dsimp only at hSw); go_simp; (try with_reducible rfl)
  (try simp only [Act.put, List.setIfInBounds_toArray, List.set_cons_zero, List.set_cons_succ])
  refine take_l (i := 19) (v := ?_) rfl (by kernel_rfl) (by kernel_rfl) (by kernel_rfl) (fun _ _ _ h => h) (Or.inl ⟨by kernel_rfl, ?_⟩) (by assumption) ?_
  rotate_left
  · intro w hSw; (try dsimp only at hSw); go_simp; (try with_reducible rfl)
  (try simp only [Act.put, List.setIfInBounds_toArray, List.set_cons_zero, List.set_cons_succ])
  refine wpAnyH_ready (rs := [9]) (by kernel_rfl) (by simp) ?_
  refine ready_l rfl (fun K hK => ?_) AllReadyH.nil
  go_simp
  first | (go_at_call 13; (with_reducible refine ((hch _).out).mono ?_); rintro e vA ⟨rfl, hbvA⟩; have hBvA : Below w2.heap.size w2 vA := Below.trans (by repeat first | with_reducible exact Below.refl _ _ | with_reducible assumption | with_reducible refine below_drewN ?_ _ | with_reducible refine Below.drew ?_ | with_reducible refine Below.setCell ?_ (by first | exact Nat.le_refl _ | (simp; done) | (simp; omega) | omega) _ | with_reducible refine Below.alloc ?_ (by first | exact Nat.le_refl _ | (simp; done) | (simp; omega) | omega) _ | exact Below.refl _ _ | assumption) (hbvA.mono (by first | exact Nat.le_refl _ | assumption | (simp; done) | (simp; omega) | omega)); have hzvA := hbvA.size; ) | (go_at_call 16; (with_reducible refine ((hpk _).out).mono ?_); rintro e vB ⟨rfl, hbvB⟩; have hBvB : Below w2.heap.size w2 vB := Below.trans (by repeat first | with_reducible exact Below.refl _ _ | with_reducible assumption | with_reducible refine below_drewN ?_ _ | with_reducible refine Below.drew ?_ | with_reducible refine Below.setCell ?_ (by first | exact Nat.le_refl _ | (simp; done) | (simp; omega) | omega) _ | with_reducible refine Below.alloc ?_ (by first | exact Nat.le_refl _ | (simp; done) | (simp; omega) | omega) _ | exact Below.refl _ _ | assumption) (hbvB.mono (by first | exact Nat.le_refl _ | assumption | (simp; done) | (simp; omega) | omega)); have hzvB := hbvB.size; )
  refine hK.out _ _ (by trivial) (fun hHeld => ?_)
  clear hK K
  (try simp only [Act.put, List.setIfInBounds_toArray, List.set_cons_zero, List.set_cons_succ])
  refine wpAnyH_ready (rs := [15]) (by kernel_rfl) (by simp) ?_
  refine ready_l rfl (fun K hK => ?_) AllReadyH.nil
  go_simp
  first | (go_at_call 13; (with_reducible refine ((hch _).out).mono ?_); rintro e vA ⟨rfl, hbvA⟩; have hBvA : Below w2.heap.size w2 vA := Below.trans (by repeat first | with_reducible exact Below.refl _ _ | with_reducible assumption | with_reducible refine below_drewN ?_ _ | with_reducible refine Below.drew ?_ | with_reducible refine Below.setCell ?_ (by first | exact Nat.le_refl _ | (simp; done) | (simp; omega) | omega) _ | with_reducible refine Below.alloc ?_ (by first | exact Nat.le_refl _ | (simp; done) | (simp; omega) | omega) _ | exact Below.refl _ _ | assumption) (hbvA.mono (by first | exact Nat.le_refl _ | assumption | (simp; done) | (simp; omega) | omega)); have hzvA := hbvA.size; ) | (go_at_call 16; (with_reducible refine ((hpk _).out).mono ?_); rintro e vB ⟨rfl, hbvB⟩; have hBvB : Below w2.heap.size w2 vB := Below.trans (by repeat first | with_reducible exact Below.refl _ _ | with_reducible assumption | with_reducible refine below_drewN ?_ _ | with_reducible refine Below.drew ?_ | with_reducible refine Below.setCell ?_ (by first | exact Nat.le_refl _ | (simp; done) | (simp; omega) | omega) _ | with_reducible refine Below.alloc ?_ (by first | exact Nat.le_refl _ | (simp; done) | (simp; omega) | omega) _ | exact Below.refl _ _ | assumption) (hbvB.mono (by first | exact Nat.le_refl _ | assumption | (simp; done) | (simp; omega) | omega)); have hzvB := hbvB.size; )
  refine hK.out _ _ (by trivial) (fun hHeld => ?_)
  clear hK K
  (try simp only [Act.put, List.setIfInBounds_toArray, List.set_cons_zero, List.set_cons_succ])
  refine take_l (i := 16) (v := ?_) rfl (by kernel_rfl) (by kernel_rfl) (by kernel_rfl) (fun _ _ _ h => h) (Or.inl ⟨by kernel_rfl, ?_⟩) (by assumption) ?_
  rotate_left
  · intro w hSw; (try dsimp only at hSw); go_simp; (try with_reducible rfl)
  (try simp only [Act.put, List.setIfInBounds_toArray, List.set_cons_zero, List.set_cons_succ])
  refine wpAnyH_ready (rs := [17]) (by kernel_rfl) (by simp) ?_
  refine ready_l rfl (fun K hK => ?_) AllReadyH.nil
  go_simp
  refine hK.out _ _ (by trivial) (fun hHeld => ?_)
  clear hK K
  (try simp only [Act.put, List.setIfInBounds_toArray, List.set_cons_zero, List.set_cons_succ])
  refine take_l (i := 18) (v := ?_) rfl (by kernel_rfl) (by kernel_rfl) (by kernel_rfl) (fun _ _ _ h => h) (Or.inl ⟨by kernel_rfl, ?_⟩) (by assumption) ?_
  rotate_left
  · intro w hSw; (try dsimp only at hSw); go_simp; (try with_reducible rfl)
  (try simp only [Act.put, List.setIfInBounds_toArray, List.set_cons_zero, List.set_cons_succ])
  refine wpAnyH_done (by kernel_rfl) ?_ _
  have hBA : Below w.heap.size w vB := hB2.trans (hBvB.mono hB2.size)
  obtain ⟨g, hg⟩ : ∃ g, g = vB.heap.size := ⟨_, rfl⟩
  obtain ⟨W, hW⟩ : ∃ W, W = vB.alloc (Obj.cells #[Value.string (str r2), Value.string (str text), Value.string (str chg), Value.string (str t2)] 9) := ⟨_, rfl⟩
  have hA : Arr W g 9 [.string (str r2), .string (str text), .string (str chg), .string (str t2)] := by rw [hW, hg]; exact Arr.new rfl rfl
  have hBW : Below w.heap.size w W := by rw [hW]; exact hBA.alloc hBA.size _
  rw [← hW, ← hg]
  clear hW hg hBA hBvA hBvB hbvA hbvB hB2 hch hpk
  have hgW := hA.lt
  go_wp2_with fail
  go_loopw [49] (fun i wr => ∃ k : Nat, k ≤ 4 ∧ i = .int .i64 (k : Int) ∧ Hid (Below W.heap.size W wr)) (fun i _ => 4 - (intOf i).toNat)
  case atStart => exact ⟨0, Nat.zero_le _, rfl, (show Hid _ from Below.refl _ _)⟩
  case round =>
    obtain ⟨k, hk, rfl, hall⟩ := hrel
    have hBr := hall.out
    clear hall
    by_cases hlt : k < 4
    · have hd : decide ((k : Int) < 4) = true := by simp; omega
      have hAr : Arr wr g 9 [.string (str r2), .string (str text), .string (str chg), .string (str t2)] := (hBr.block g hgW).trans hA
      obtain ⟨s, hcd, hsl⟩ : ∃ s, wr.cell? ⟨g, k, none⟩ = some (.string (str s)) ∧ s.length ≤ 30000 := by
        rcases (show k = 0 ∨ k = 1 ∨ k = 2 ∨ k = 3 by omega) with rfl | rfl | rfl | rfl
        · exact ⟨r2, hAr.cell (j := 0) rfl, by omega⟩
        · exact ⟨text, hAr.cell (j := 1) rfl, by omega⟩
        · exact ⟨chg, hAr.cell (j := 2) rfl, by omega⟩
        · exact ⟨t2, hAr.cell (j := 3) rfl, by omega⟩
      have i2 : 0 ≤ (k : Int) := by omega
      have hBT := hBW.trans (hBr.mono hBW.size)
      have hQ := Parse_any s wr (by omega) (hE.below hBT).envr.env
      have hw1k : IntKind.i64.wrap ((k : Int) + 1) = ((k + 1 : Nat) : Int) := by rw [Int.natCast_succ]; exact IntWalk.i64_in _ (by omega)
      replace hA := Lib.hid hA
      clear hAr
      have herr := fun c k e (h : parse8 s = (c, k, e)) (he : e ≠ 0) => parse_err h he
      have hok := fun c k (h : parse8 s = (c, k, 0)) => text_parse h
      have hst : s = text → (parse8 s).2.2 = 0 := fun e => by rw [e, htp]
      obtain ⟨⟨cc, kk, ec⟩, hpq⟩ : ∃ r, r = parse8 s := ⟨_, rfl⟩
      rw [← hpq] at hQ hst
      have herr := herr cc kk ec hpq.symm
      have hok : ec = 0 → _ := fun e => hok cc kk (by rw [← hpq, e])
      unfold parV at hQ
      dsimp only at hQ hst
      replace hpq := Lib.hid hpq
      replace hQ := Lib.hid hQ
      have hPS := str_size s
      have hneq := fun h : s ≠ text => str_neq h
      have hPG : ∀ j (h : j < (str s).size), (((str s)[j].toNat : Nat) : Int) = (s[j]!.toNat : Nat) := fun j h => by
        rw [getElem!_pos s j (by rw [str_size] at h; exact h)]
        show (((str s).data[j]'_ : UInt8).toNat : Int) = _
        simp [str]
      have hprt : ∀ (l : List Ins) W', formed cc = some l → textT l = s → Below w.heap.size w W' → Hid (Calls Tryd.prog 19 #[.string (str cc)] W' fun e w' => e = .returned (.tuple #[.string (str s), .int .i64 0]) ∧ Below W'.heap.size W' w') := fun l W' hf ht hb => by
        have h := Print_any cc W' (by have := (text_len hf).2; omega) (hE.below hb).envr.env
        rw [show print8 cc = (s, 0) by unfold print8; rw [hf, ← ht]] at h
        exact h
      have hself := beq_self_eq_true (str s).toList
      generalize str s = P at *
      replace hPG := Lib.hid hPG
      replace htp := Lib.hid htp
      replace hok := Lib.hid hok
      replace herr := Lib.hid herr
      replace hst := Lib.hid hst
      replace hneq := Lib.hid hneq
      go_wp2_with fail
      refine hQ.out.mono ?_
      rintro e w3 ⟨rfl, hb3⟩
      have hB3 := hBr.trans (hb3.mono hBr.size)
      have hBT3 := hBW.trans (hB3.mono hBW.size)
      have hwm : IntKind.i64.wrap ((s.length : Int) - 1) = (s.length : Int) - 1 := IntWalk.i64_in _ (by omega)
      clear hQ hb3
      go_wp2_with fail
      go_loopw [19, 20] (fun li i wr => ∃ j : Nat, j ≤ s.length - 1 ∧ li = .int .i64 (1 + ((cnt10 (s.take j) : Nat) : Int)) ∧ i = .int .i64 (j : Int) ∧ wr = w3) (fun _ i _ => s.length - 1 - (intOf i).toNat)
      case atStart => exact ⟨0, Nat.zero_le _, rfl, rfl, rfl⟩
      case round =>
        obtain ⟨j, hj, rfl, rfl, rfl⟩ := hrel
        by_cases hjl : (j : Int) < (s.length : Int) - 1
        · have hdj : decide ((j : Int) < (s.length : Int) - 1) = true := by simpa using hjl
          have hj0 : j < P.size := by omega
          have hjs : j < s.length := by omega
          have hx := hPG.out j hj0
          have j0 : (0 : Int) ≤ (j : Int) := by omega
          have j1 : (j : Int) < (s.length : Int) := by omega
          have hcnt : cnt10 (s.take (j + 1)) = cnt10 (s.take j) + (if s[j]! = 10 then 1 else 0) := by rw [List.take_succ_eq_append_getElem hjs, cnt10_snoc, getElem!_pos s j hjs]
          have hcl : cnt10 (s.take j) ≤ j := by
            unfold cnt10
            exact Nat.le_trans (List.length_filter_le _ _) (by rw [List.length_take]; omega)
          have hw1j : IntKind.i64.wrap ((j : Int) + 1) = ((j + 1 : Nat) : Int) := by rw [Int.natCast_succ]; exact IntWalk.i64_in _ (by omega)
          generalize hcn : cnt10 (s.take j) = cn at *
          generalize hcn2 : cnt10 (s.take (j + 1)) = cn2 at *
          replace hcn := Lib.hid hcn
          replace hcn2 := Lib.hid hcn2
          have hwc : IntKind.i64.wrap (1 + (cn : Int) + 1) = 1 + ((cn + 1 : Nat) : Int) := by rw [show 1 + ((cn + 1 : Nat) : Int) = 1 + (cn : Int) + 1 by omega]; exact IntWalk.i64_in _ (by omega)
          have hxc : s[j]!.toNat = 10 → s[j]! = 10 := nat10
          have hxd : s[j]! = 10 → s[j]!.toNat = 10 := fun e => by rw [e]; rfl
          generalize s[j]! = xb at *
          by_cases h10 : xb = 10
          · have hq : ((xb.toNat : Int) == 10) = true := by rw [beq_iff_eq]; have := hxd h10; omega
            rw [if_pos h10] at hcnt
            replace hxc := Lib.hid hxc
            replace hxd := Lib.hid hxd
            replace h10 := Lib.hid h10
            replace hcnt := Lib.hid hcnt
            go_wp2_with fail
            exact ⟨⟨j + 1, by omega, by rw [hcn2.out, hcnt.out, Int.natCast_succ], by first | rfl | go_num, trivial⟩, by simp [intOf]; omega⟩
          · have hq : ((xb.toNat : Int) == 10) = false := by rw [beq_eq_false_iff_ne]; intro e; exact h10 (hxc (by omega))
            rw [if_neg h10] at hcnt
            replace hxc := Lib.hid hxc
            replace hxd := Lib.hid hxd
            replace h10 := Lib.hid h10
            replace hcnt := Lib.hid hcnt
            go_wp2_with fail
            exact ⟨⟨j + 1, by omega, by rw [hcn2.out, hcnt.out]; rfl, by first | rfl | go_num, trivial⟩, by simp [intOf]; omega⟩
        · have hdj : decide ((j : Int) < (s.length : Int) - 1) = false := by simpa using hjl
          obtain rfl : j = s.length - 1 := by omega
          have hln : linesOf s = 1 + cnt10 (s.take (s.length - 1)) := by unfold linesOf; rw [List.dropLast_eq_take]
          generalize cnt10 (s.take (s.length - 1)) = cn at *
          by_cases hec : ec = 0
          · obtain ⟨rfl, l, hf, ht⟩ := hok.out hec
            have hP := hprt l _ hf ht hBT3
            subst hec
            replace hf := Lib.hid hf
            replace ht := Lib.hid ht
            replace hln := Lib.hid hln
            clear hprt
            go_wp2_with fail
            refine hP.out.mono ?_
            rintro e w5 ⟨rfl, hb5⟩
            have hB5 := hB3.trans (hb5.mono hB3.size)
            go_wp2_with fail
            exact ⟨⟨k + 1, by omega, by first | rfl | go_num, hB5⟩, by simp [intOf]; omega⟩
          · obtain ⟨rfl, rfl, q1, q2⟩ := herr.out hec
            have hne : s ≠ text := fun e => hec (hst.out e)
            have heq := hneq.out hne
            have hee : (str []).toList.isEmpty = true := by rw [ByteArray.toList_eq]; rfl
            have hd1 : decide ((kk : Int) < 1) = false := by simp; omega
            have hd2 : decide (1 + (cn : Int) < (kk : Int)) = false := by simp; omega
            replace hln := Lib.hid hln
            replace hne := Lib.hid hne
            clear hprt
            go_wp2_with fail
            exact ⟨⟨k + 1, by omega, by first | rfl | go_num, hB3⟩, by simp [intOf]; omega⟩
    · have hd : decide ((k : Int) < 4) = false := by simp; omega
      have hBT := hBW.trans (hBr.mono hBW.size)
      go_wp2_with fail
      go_ret
      exact ⟨rfl, hBT⟩
end Go.Proofs.YtainohbfcehpoaaDoor
