/-
 Routes of chapter 11: package migrate: small contracts.
 Routes of chapter 11: migrate.isKeep.
 Routes of chapter 11: migrate.Valid.
 Routes of chapter 11: migrate.Valid, the walk.
 Routes of chapter 11: slices.Clone of steps; plan.steps, touches, claim.
 Routes of chapter 11: plan.claim, migrate.Claims.
 Routes of chapter 11: migrate.Claims.
-/
import Derived.Test.YtpeandbcdaikbaaGreatDoorYG
import Derived.Maps.OwnOps
import Derived.Maps.OwnSet
import Derived.Maps.Views
open List (setIfInBounds_toArray set_cons_zero set_cons_succ)
namespace Go.Proofs.YtpeandbcdaikbaaGreatDoor
open Go.RowKit Go.Shelf Go.Maps

attribute [local go_sem] Oper.semAt_some

theorem isID_any (n : Int) (w : World) :
  Calls Tryz.prog 65 #[.int .i64 n] w fun e w' => e = .returned (.bool (isIdM n)) ∧ w' = w := by
 have hv : Hid (isIdM n = (decide (1 ≤ n) && decide (n ≤ 1000000))) := by show _ = _; unfold isIdM; rw [Bool.decide_and]
 by_cases h : 1 ≤ n
 ·
  have hd : decide (1 ≤ n) = true := by simpa using h
  have hd2 : decide (n ≥ 1) = true := by simpa using h
  go_enter Tryz.func65, Tryz.ntmps65
  go_wp2
  go_ret
  exact ⟨by rw [hv.out, hd]; rfl, rfl⟩
 ·
  have hd : decide (1 ≤ n) = false := by simpa using h
  have hd2 : decide (n ≥ 1) = false := by simpa using h
  go_enter Tryz.func65, Tryz.ntmps65
  go_wp2
  go_ret
  exact ⟨by rw [hv.out, hd]; rfl, rfl⟩
def lostL : List Stp := [⟨6, 0⟩]
theorem lost_any (w : World) :
  Calls Tryz.prog 96 #[] w fun e w' => ∃ v, e = .returned v ∧ StepsT w' v lostL ∧ Below w.heap.size w w' := by
 go_enter Tryz.func96, Tryz.ntmps96
 go_wp2
 go_ret
 refine ⟨_, rfl, ⟨_, _, rfl, Nat.le_refl _, by unfold maxLen; decide, fun _ => ⟨w.heap.size, 0, #[.int .i64 6, .int .i64 0], (0, 0), rfl, World.alloc_heap_new w _, fun j u hu => by rw [Nat.zero_add]; simpa [lostL, stL, stC] using hu⟩⟩, (Below.refl _ _).alloc (Nat.le_refl _) _⟩
theorem isLost_any (v : Value) (l : List Stp) (w : World) (hv : StepsAt w w.heap.size v l) :
  Calls Tryz.prog 98 #[v] w fun e w' => e = .returned (.bool (decide (l = lostL))) ∧ Below w.heap.size w w' := by
 have hl := fun W => Lib.hid (lost_any W)
 have heq := Lib.hid fun (w1 : World) (u : Value) (hb : Below w.heap.size w w1) (hu : StepsT w1 u lostL) => equalS_any v u l lostL w1 _ _ (hv.later hb) hu.at
 obtain ⟨a, c, rfl, _, _, _⟩ := hv
 generalize decide (l = lostL) = r at *
 go_enter Tryz.func98, Tryz.ntmps98
 go_wp2_with fail
 refine (hl _).out.mono ?_
 rintro e w1 ⟨u, rfl, hu, hb1⟩
 obtain ⟨ua, uc, rfl, _, _, _⟩ := id hu
 have hq := Lib.hid (heq.out _ _ hb1 hu)
 go_wp2_with fail
 refine hq.out.mono ?_
 rintro e w2 ⟨rfl, hb2⟩
 go_wp2_with fail
 go_ret
 exact ⟨rfl, hb1.trans (hb2.mono hb1.size)⟩
theorem keyedI : Keyed Tryz.prog 3 := int_keyed Tryz.underlying3
theorem zeroS (w : World) : (zeroValue 9).run Tryz.prog w = .ok (.string ByteArray.empty) w := by kernel_rfl
theorem wf_i64' {a : Int} (h : I64 a) : (Lit.int .i64 a).wf = true := by
 obtain ⟨h1, h2⟩ := h
 simp [Lit.wf, IntKind.min, IntKind.max, IntKind.signed, IntKind.bits]
 omega
theorem keyI {a : Int} (h : I64 a) : keyOf Tryz.prog 3 (.int .i64 a) = some (.int .i64 a) := keyOf_int_mk Tryz.underlying3 (wf_i64' h)
/-- Block b is a map of at most n entries, from numbers to texts; m says which keys it has. -/
def MapHas (w : World) (b n : Nat) (m : Int → Bool) : Prop :=
 ∃ D : DataW Unit, w.ownsMap Tryz.prog 3 (plainElem Tryz.prog 9) b n D ∧ ∀ k, Maps.has D (.int .i64 k) = m k
theorem MapHas.of_block {w w' : World} {b n : Nat} {m : Int → Bool} (h : MapHas w b n m) (hb : w'.heap[b]? = w.heap[b]?) : MapHas w' b n m := by
 obtain ⟨D, ⟨es, clock, h1, h2⟩, h3⟩ := h
 exact ⟨D, ⟨es, clock, hb.trans h1, h2⟩, h3⟩
theorem MapHas.lt {w : World} {b n : Nat} {m : Int → Bool} (h : MapHas w b n m) : b < w.heap.size := by obtain ⟨D, h1, _⟩ := h; exact h1.lt
theorem MapHas.below {w w' : World} {b n : Nat} {m : Int → Bool} (h : MapHas w b n m) (hb : Below w.heap.size w w') : MapHas w' b n m := h.of_block (hb.block b h.lt)
theorem MapHas.made (w : World) : MapHas (w.alloc (.map #[] 0)) w.heap.size 0 (fun _ => false) :=
 ⟨.map [], World.ownsMap_made _ _ _ _, fun _ => rfl⟩
set_option maxRecDepth 100000 in
theorem MapHas.lookOk {w : World} {b n : Nat} {m : Int → Bool} (h : MapHas w b n m) {k : Int} (hk : I64 k) : ∃ v, (Instr.lookup 134 (.map (some b)) (.int .i64 k) true).run Tryz.prog w = .ok (.tuple #[v, .bool (m k)]) w := by
 obtain ⟨D, h1, h2⟩ := h
 obtain ⟨v, ps, hrun, _⟩ := h1.look_ok keyedI Tryz.underlying134 (zeroS _) (plainElem_string Tryz.underlying9 (by unfold maxLen; decide)) (keyI hk)
 exact ⟨v, by rw [hrun, h2 k]⟩
set_option maxRecDepth 100000 in
theorem MapHas.put {w : World} {b n : Nat} {m : Int → Bool} (h : MapHas w b n m) (hn : n < maxLen) {k : Int} (hk : I64 k) (s : ByteArray) (hs : s.size ≤ maxLen) : ∃ w', (Instr.mapUpdate 134 (.map (some b)) (.int .i64 k) (.string s)).run Tryz.prog w = .ok () w' ∧ MapHas w' b (n + 1) (fun j => j == k || m j) ∧ w.grownBy w' (some b) := by
 obtain ⟨D, h1, h2⟩ := h
 obtain ⟨w', hrun, r1, r2⟩ := h1.update keyedI Tryz.underlying134 hn (keyI hk) (plainElem_string Tryz.underlying9 hs)
 refine ⟨w', hrun, ⟨_, r1, fun j => ?_⟩, r2⟩
 by_cases e : j = k
 ·
  subst e
  have hl : WideAt.IsKeyLit (Lit.int .i64 j) := trivial
  rw [has_put_same h1.isMap hl]; simp
 ·
  have hne : (Lit.int .i64 j) ≠ (Lit.int .i64 k) := by intro h; injection h with _ h; exact e h
  rw [has_put_other hne, h2 j]; simp [e]
def knownP (k : Int) : Bool := k == 1 || k == 2 || k == 3 || k == 4 || k == 7
set_option maxRecDepth 100000 in
set_option maxHeartbeats 4000000 in
theorem names_any (w : World) :
  Calls Tryz.prog 97 #[] w fun e w' => e = .returned (.map (some w.heap.size)) ∧ MapHas w' w.heap.size 5 knownP ∧ Below w.heap.size w w' := by
 have hmm := @run_makeMap Tryz.prog
 have h0 := MapHas.made w
 obtain ⟨w1, r1, h1, g1⟩ := h0.put (by unfold maxLen; omega) (k := 1) ⟨by omega, by omega⟩ { data := #[116, 101, 120, 116] } (by unfold maxLen; decide)
 obtain ⟨w2, r2, h2, g2⟩ := h1.put (by unfold maxLen; omega) (k := 2) ⟨by omega, by omega⟩ { data := #[109, 97, 114, 107, 115] } (by unfold maxLen; decide)
 obtain ⟨w3, r3, h3, g3⟩ := h2.put (by unfold maxLen; omega) (k := 3) ⟨by omega, by omega⟩ { data := #[99, 111, 110, 115, 116, 97, 110, 116, 115] } (by unfold maxLen; decide)
 obtain ⟨w4, r4, h4, g4⟩ := h3.put (by unfold maxLen; omega) (k := 4) ⟨by omega, by omega⟩ { data := #[102, 111, 114, 109, 117, 108, 97, 115] } (by unfold maxLen; decide)
 obtain ⟨w5, r5, h5, g5⟩ := h4.put (by unfold maxLen; omega) (k := 7) ⟨by omega, by omega⟩ { data := #[98, 105, 116, 115] } (by unfold maxLen; decide)
 have hB : Below w.heap.size w w5 := by
  have b0 : Below w.heap.size w (w.alloc (.map #[] 0)) := (Below.refl _ _).alloc (Nat.le_refl _) _
  have hr : ∀ k, some w.heap.size = some k → w.heap.size ≤ k := fun k e => by injection e with e; omega
  have b1 := b0.grown g1 b0.size hr
  have b2 := b1.grown g2 b1.size hr
  have b3 := b2.grown g3 b2.size hr
  have b4 := b3.grown g4 b3.size hr
  exact b4.grown g5 b4.size hr
 have hfin : MapHas w5 w.heap.size 5 knownP := by
  obtain ⟨D, q1, q2⟩ := h5
  refine ⟨D, q1, fun k => (q2 k).trans ?_⟩
  unfold knownP
  simp only [Bool.or_false]
  rw [Bool.eq_iff_iff]
  simp only [Bool.or_eq_true, beq_iff_eq]
  omega
 replace hB := Lib.hid hB
 replace hfin := Lib.hid hfin
 clear h0 h1 h2 h3 h4 h5 g1 g2 g3 g4 g5
 go_enter Tryz.func97, Tryz.ntmps97
 go_wp2_with fail
 go_ret
 exact ⟨rfl, hfin.out, hB.out⟩
/-- What isKeep says, in the order of the code. -/
theorem isKeepM_eq (k : Kp) : isKeepM k = (knownP k.1 && decide (0 < (k.2.length : Int)) && (errA (validA k.1 k.2) == 0) && decide ((if validA k.1 k.2 then normalA k.2 else []) = k.2) && (!(k.1 == 4) || decide (k.2 = lostL))) := by
 obtain ⟨p, l⟩ := k
 have h1 : decide (0 < (l.length : Int)) = decide (l ≠ []) := by
  rw [Bool.eq_iff_iff, decide_eq_true_eq, decide_eq_true_eq, ← List.length_pos_iff]; omega
 unfold isKeepM knownP errA Kp.prop Kp.steps
 dsimp only
 rw [h1]
 cases hv : validA p l with
 | true => simp [lostL, bne] <;> rfl
 | false => simp
end Go.Proofs.YtpeandbcdaikbaaGreatDoor
namespace Go.Proofs.YtpeandbcdaikbaaGreatDoor
open Go.RowKit Go.Shelf Go.Maps

attribute [local go_sem] Oper.semAt_some

set_option maxRecDepth 100000 in
set_option maxHeartbeats 4000000 in
theorem isKeep_any (p : Int) (l : List Stp) (v : Value) (w : World) (hp : I64 p) (hv : StepsAt w w.heap.size v l) :
  Calls Tryz.prog 64 #[.agg #[.int .i64 p, v]] w fun e w' => e = .returned (.bool (isKeepM (p, l))) ∧ Below w.heap.size w w' := by
 obtain ⟨R, hR⟩ : ∃ R, R = isKeepM (p, l) := ⟨_, rfl⟩
 rw [← hR]
 rw [isKeepM_eq] at hR
 replace hR := Lib.hid hR
 have hna := fun W => Lib.hid (names_any W)
 have hNo := Lib.hid fun w1 (hb : Below w.heap.size w w1) => NormalF_any p v l w1 (hv.later hb)
 have hEq := Lib.hid fun (w1 : World) (u : Value) (m : List Stp) (hb : Below w.heap.size w w1) (hu : StepsT w1 u m) => equalS_any u v m l w1 _ _ hu.at (hv.later hb)
 have hLo := Lib.hid fun w1 (hb : Below w.heap.size w w1) => isLost_any v l w1 (hv.later hb)
 obtain ⟨a, c, rfl, _, _, _⟩ := hv
 obtain ⟨W, hW⟩ : ∃ W, W = w.alloc (.cells #[.int .i64 p, .slice a l.length c] 104) := ⟨_, rfl⟩
 have hA : Arr W w.heap.size 104 [.int .i64 p, .slice a l.length c] := by rw [hW]; exact Arr.new rfl rfl
 have hbW : Below w.heap.size w W := by rw [hW]; exact (Below.refl _ _).alloc (Nat.le_refl _) _
 have d0 : W.drew.cell? ⟨w.heap.size, 0, none⟩ = some (.int .i64 p) := hA.cell rfl
 replace hbW := Lib.hid hbW
 go_enter Tryz.func64, Tryz.ntmps64
 go_wp2_with fail
 rw [← hW]
 clear hW
 replace hA := Lib.hid hA
 refine wp_region_held_drew (S := fun w' => w'.cell? ⟨w.heap.size, 0, none⟩ = some (.int .i64 p)) (by kernel_rfl) (by exact d0) (fun hHeld => ?_)
 refine tk 1 ?_ rfl ?_ ?_
 rotate_left
 ·
  intro w hSw; (try dsimp only at hSw); go_simp; (try with_reducible rfl)
 (try simp only [Act.put, setIfInBounds_toArray, set_cons_zero, set_cons_succ])
 refine tk 2 ?_ rfl ?_ ?_
 rotate_left
 ·
  intro w hSw; (try dsimp only at hSw); go_simp; (try with_reducible rfl)
 (try simp only [Act.put, setIfInBounds_toArray, set_cons_zero, set_cons_succ])
 refine wpAnyH_ready (rs := [0]) (by kernel_rfl) (by simp) ?_
 refine ready_l rfl (fun K hK => ?_) AllReadyH.nil
 go_simp
 ((with_reducible refine (((hna W.drew).out)).mono ?_); rintro e vA ⟨rfl, hMap, hbvA⟩; have hBvA : Below W.heap.size W vA := Below.trans (by repeat first | with_reducible exact Below.refl _ _ | with_reducible assumption | with_reducible refine below_drewN ?_ _ | with_reducible refine Below.drew ?_ | with_reducible refine Below.setCell ?_ (by first | exact Nat.le_refl _ | (simp; done) | (simp; omega) | omega) _ | with_reducible refine Below.alloc ?_ (by first | exact Nat.le_refl _ | (simp; done) | (simp; omega) | omega) _ | exact Below.refl _ _ | assumption) (hbvA.mono (by first | exact Nat.le_refl _ | assumption | (simp; done) | (simp; omega) | omega)); have hzvA := hbvA.size; have hA1 : Arr vA w.heap.size 104 [.int .i64 p, .slice a l.length c] := hA.out.drew.below hbvA; have e0 := hA1.cell (j := 0) rfl; obtain ⟨nv, hlk⟩ := hMap.lookOk hp; simp only [World.size_drew] at hlk; have hb1 : Below w.heap.size w vA := hbW.out.drew.trans (hbvA.mono hbW.out.drew.size); clear hMap hbvA)
 refine hK.out _ _ (by exact e0) (fun hHeld => ?_)
 clear hK K
 (try simp only [Act.put, setIfInBounds_toArray, set_cons_zero, set_cons_succ])
 refine wpAnyH_ready (rs := [3]) (by kernel_rfl) (by simp) ?_
 refine ready_l rfl (fun K hK => ?_) AllReadyH.nil
 go_simp
 refine hK.out _ _ (by exact e0) (fun hHeld => ?_)
 clear hK K
 (try simp only [Act.put, setIfInBounds_toArray, set_cons_zero, set_cons_succ])
 refine tk 4 ?_ rfl ?_ ?_
 rotate_left
 ·
  intro w hSw; (try dsimp only at hSw); go_simp; (try with_reducible rfl)
 (try simp only [Act.put, setIfInBounds_toArray, set_cons_zero, set_cons_succ])
 refine tk 5 ?_ rfl ?_ ?_
 rotate_left
 ·
  intro w hSw; (try dsimp only at hSw); go_simp; (try with_reducible rfl)
 (try simp only [Act.put, setIfInBounds_toArray, set_cons_zero, set_cons_succ])
 refine tk 6 ?_ rfl ?_ ?_
 rotate_left
 ·
  intro w hSw; (try dsimp only at hSw); go_simp; (try with_reducible rfl)
 (try simp only [Act.put, setIfInBounds_toArray, set_cons_zero, set_cons_succ])
 refine tk 7 ?_ rfl ?_ ?_
 rotate_left
 ·
  intro w hSw; (try dsimp only at hSw); go_simp; (try with_reducible rfl)
 (try simp only [Act.put, setIfInBounds_toArray, set_cons_zero, set_cons_succ])
 refine tk 8 ?_ rfl ?_ ?_
 rotate_left
 ·
  intro w hSw; (try dsimp only at hSw); go_simp; (try with_reducible rfl)
 (try simp only [Act.put, setIfInBounds_toArray, set_cons_zero, set_cons_succ])
 refine wpAnyH_done (by kernel_rfl) ?_ _
 have e1 := hA1.cell (j := 1) rfl
 have hA1' := Lib.hid hA1
 clear hA1 hlk d0
 go_wp2_with fail
 refine (hNo.out vA hb1).mono ?_
 rintro e w2 ⟨nv2, rfl, hN, hb2⟩
 have hb12 := hb1.trans (hb2.mono hb1.size)
 have hA2 := hA1'.out.below hb2
 have f0 := hA2.cell (j := 0) rfl
 have f1 := hA2.cell (j := 1) rfl
 obtain ⟨na, nc, rfl, _, _, _⟩ := id hN
 have hq := Lib.hid (hEq.out w2 _ _ hb12 hN)
 generalize hX : (if validA p l then normalA l else []) = X at *
 generalize hE : errA (validA p l) = E at *
 replace hA2 := Lib.hid hA2
 replace hb12 := Lib.hid hb12
 clear hb1 hb2 e0 e1 hN hX hE
 cases hk1 : knownP p with
 | false =>
  have hres : Hid (R = false) := by show _ = _; rw [hR.out, hk1]; rfl
  go_wp2_with fail
  go_ret
  exact ⟨by rw [hres.out]; rfl, hb12.out⟩
 | true =>
  by_cases hpos : 0 < l.length
  rotate_left
  ·
   have hk2' : decide (0 < (l.length : Int)) = false := decide_eq_false (by omega)
   have hres : Hid (R = false) := by show _ = _; rw [hR.out, hk1, hk2']; rfl
   go_wp2_with fail
   go_ret
   exact ⟨by rw [hres.out]; rfl, hb12.out⟩
  ·
   have hk2' : decide (0 < (l.length : Int)) = true := decide_eq_true (by omega)
   cases hk3 : E == 0 with
   | false =>
    have hres : Hid (R = false) := by show _ = _; rw [hR.out, hk1, hk2', hk3]; rfl
    go_wp2_with fail
    go_ret
    exact ⟨by rw [hres.out]; rfl, hb12.out⟩
   | true =>
    cases hk4 : decide (X = l) with
    | false =>
     have hres : Hid (R = false) := by show _ = _; rw [hR.out, hk1, hk2', hk3, hk4]; rfl
     rw [hk4] at hq
     replace hk4 := Lib.hid hk4
     go_wp2_with fail
     refine hq.out.mono ?_
     rintro e w3 ⟨rfl, hb3⟩
     go_wp2_with fail
     go_ret
     exact ⟨by rw [hres.out]; rfl, hb12.out.trans (hb3.mono hb12.out.size)⟩
    | true =>
     rw [hk4] at hq
     replace hk4 := Lib.hid hk4
     go_wp2_with fail
     refine hq.out.mono ?_
     rintro e w3 ⟨rfl, hb3⟩
     have hb13 := hb12.out.trans (hb3.mono hb12.out.size)
     have hA3 := hA2.out.below hb3
     have g0 := hA3.cell (j := 0) rfl
     have g1 := hA3.cell (j := 1) rfl
     have hl3 := Lib.hid (hLo.out w3 hb13)
     cases hk5 : p == 4 with
     | false =>
      have hk5' : (p != 4) = true := by simp [bne, hk5]
      have hres : Hid (R = true) := by show _ = _; rw [hR.out, hk1, hk2', hk3, hk4.out, hk5]; rfl
      go_wp2_with fail
      go_ret
      exact ⟨by rw [hres.out]; rfl, hb13⟩
     | true =>
      have hk5' : (p != 4) = false := by simp [bne, hk5]
      have hres : Hid (R = decide (l = lostL)) := by show _ = _; rw [hR.out, hk1, hk2', hk3, hk4.out, hk5]; simp
      replace hk5 := Lib.hid hk5
      go_wp2_with fail
      refine hl3.out.mono ?_
      rintro e w4 ⟨rfl, hb4⟩
      go_wp2_with fail
      go_ret
      exact ⟨by rw [hres.out]; rfl, hb13.trans (hb4.mono hb13.size)⟩
end Go.Proofs.YtpeandbcdaikbaaGreatDoor
namespace Go.Proofs.YtpeandbcdaikbaaGreatDoor
open Go.RowKit Go.Shelf Go.Maps

attribute [local go_sem] Oper.semAt_some

/-- A claim (or an element of Keep) whose steps lie in w. -/
abbrev KpIn (w : World) := { z : Kp × Value // I64 z.1.1 ∧ StepsAt w w.heap.size z.2 z.1.2 }
instance (w : World) : Inhabited (KpIn w) := ⟨⟨((0, []), .slice none 0 0), (show I64 0 from ⟨by omega, by omega⟩), (StepsT.nil w none 0 (Nat.zero_le _)).at⟩⟩
def encK {w : World} (z : KpIn w) : List Value := [.int .i64 z.1.1.1, z.1.2]
theorem claims_in {w : World} {v : Value} {l : Clms} (h : ClaimsAt w w.heap.size v l) (hI : ∀ c ∈ l, I64 c.1) :
  ∃ lz : List (KpIn w), lz.map (fun z => z.1.1) = l ∧ ∃ a cap, v = .slice a l.length cap ∧ l.length ≤ cap ∧ cap ≤ maxLen ∧ (0 < l.length → ∃ b o, a = some ⟨b, o, none⟩ ∧ b < w.heap.size ∧ ∀ j, j < lz.length → ∀ i u, (encK lz[j]!)[i]? = some u → w.cell? ⟨b, o + j * 2 + i, none⟩ = some u) := by
 obtain ⟨vs, h1, ⟨a, cap, hv, c1, c2, hc⟩, h3⟩ := h
 have hall : ∀ i : Fin l.length, I64 l[i.1].1 ∧ StepsAt w w.heap.size vs[i.1]! l[i.1].2 := fun i => ⟨hI _ (List.getElem_mem i.2), by have := h3 i.1 i.2; rwa [getElem!_pos l i.1 i.2] at this⟩
 refine ⟨List.ofFn fun i : Fin l.length => ⟨(l[i.1], vs[i.1]!), hall i⟩, ?_, a, cap, hv, c1, c2, fun hn => ?_⟩
 ·
  apply List.ext_getElem
  ·
   simp
  ·
   intro i q1 q2
   simp
 ·
  obtain ⟨b, o, ha, hb, hx⟩ := hc hn
  refine ⟨b, o, ha, hb, fun j hj i u hu => ?_⟩
  have hj' : j < l.length := by simpa using hj
  obtain ⟨p1, p2⟩ := clC_at l vs h1 j hj'
  rw [getElem!_pos _ j hj, List.getElem_ofFn] at hu
  rw [getElem!_pos l j hj'] at p1
  match i, hu with
  | 0, hu => injection hu with hu; rw [← hu]; exact hx _ _ p1
  | 1, hu => injection hu with hu; rw [← hu, Nat.add_assoc]; exact hx _ _ p2
set_option maxHeartbeats 1000000 in
theorem mvalid1_any (p : Int) (l : List Stp) (v : Value) (w : World) (hp : I64 p) (hv : StepsAt w w.heap.size v l) :
  Calls Tryz.prog 63 #[.agg #[.int .i64 p, v]] w fun e w' => e = .returned (.bool (!isKeepM (p, l))) ∧ Below w.heap.size w w' := by
 have hb0 : Below w.heap.size w (w.alloc (.cells #[.int .i64 p, v] 104)) := (Below.refl _ _).alloc (Nat.le_refl _) _
 have hk := Lib.hid (isKeep_any p l v _ hp (hv.later hb0))
 generalize isKeepM (p, l) = r at *
 obtain ⟨a, c, rfl, _, _, _⟩ := hv
 replace hb0 := Lib.hid hb0
 go_enter Tryz.func63, Tryz.ntmps63
 go_wp2_with fail
 refine hk.out.mono ?_
 rintro e w1 ⟨rfl, hb1⟩
 go_wp2_with fail
 go_ret
 exact ⟨rfl, hb0.out.trans (hb1.mono hb0.out.size)⟩
set_option maxHeartbeats 1000000 in
theorem containsK_nil (a : Option Addr) (c : Nat) (w : World) :
  Calls Tryz.prog 66 #[.slice a 0 c, .func (.func 63) #[] #[]] w fun e w' => e = .returned (.bool false) ∧ Below w.heap.size w w' := by
 go_enter Tryz.func66, Tryz.ntmps66
 go_wp2
 go_loop [8] (fun i => i = .int .i64 0) (fun _ => 0)
 case atStart => rfl
 case round =>
  subst hrel
  go_wp2
  go_ret
  exact ⟨rfl, Below.refl _ w⟩
theorem containsK_any (v : Value) (l : Clms) (w : World) (hv : ClaimsAt w w.heap.size v l) (hI : ∀ c ∈ l, I64 c.1) :
  Calls Tryz.prog 66 #[v, .func (.func 63) #[] #[]] w fun e w' => e = .returned (.bool (l.any fun k => !isKeepM k)) ∧ Below w.heap.size w w' := by
 obtain ⟨lz, hlz, a, c, rfl, hn1, hn2, hc⟩ := claims_in hv hI
 have hlen : lz.length = l.length := by rw [← hlz, List.length_map]
 by_cases h0 : l.length = 0
 ·
  obtain rfl : l = [] := List.eq_nil_of_length_eq_zero h0
  exact containsK_nil a c w
 ·
  obtain ⟨b, o, rfl, hb, hcell⟩ := hc (by omega)
  have h := AnyQ.slices_ContainsFunc Tryz.laysF8k 2 Tryz.isAgg104 Tryz.sizeOf104 (encK (w := w)) (fun _ => rfl) (fun z => !isKeepM z.1.1) 63 #[] (enters_of Tryz.func63 (by kernel_rfl) rfl) b o lz.length c lz w
   (fun W x hb' => (mvalid1_any x.1.1.1 x.1.1.2 x.1.2 W x.2.1 (x.2.2.later hb')).mono fun _ _ h => ⟨h.1, hb'.trans (h.2.mono hb'.size)⟩) (Nat.le_refl _) (by unfold maxLen at hn2; omega) hb hcell
  rw [List.take_length] at h
  rw [← hlen]
  have hany : (l.any fun k => !isKeepM k) = lz.any fun z => !isKeepM z.1.1 := by rw [← hlz, List.any_map]; rfl
  rw [hany]
  exact h
theorem asc_iff : ∀ l : Clms, ascM l = true ↔ ∀ i, 0 < i → i < l.length → l[i - 1]!.1 < l[i]!.1
 | [] => by simp [ascM]
 | [x] => by
  simp only [ascM, true_iff]
  intro i h1 h2
  simp at h2
  omega
 | x :: y :: r => by
  rw [ascM, Bool.and_eq_true, asc_iff (y :: r), decide_eq_true_eq]
  constructor
  ·
   rintro ⟨h0, h1⟩ i hi hl
   match i, hi with
   | 1, _ => exact h0
   | i + 2, _ => exact h1 (i + 1) (by omega) (by simpa using hl)
  ·
   intro h
   exact ⟨h 1 (by omega) (by simp), fun i hi hl => by
    have := h (i + 1) (by omega) (by simpa using hl)
    match i, hi with
    | i + 1, _ => exact this⟩
theorem any_keep (l : Clms) : (l.any fun k => !isKeepM k) = !l.all isKeepM := by
 induction l with
 | nil => rfl
 | cons s l ih => rw [List.any_cons, List.all_cons, ih, Bool.not_and]
/-- A migration's values, that came in. -/
structure MigIn (m : Mig) : Prop where
 id : I64 m.id
 frm : I64 m.frm
 to : I64 m.to
 keep : ∀ c ∈ m.keep, I64 c.1
end Go.Proofs.YtpeandbcdaikbaaGreatDoor
namespace Go.Proofs.YtpeandbcdaikbaaGreatDoor
open Go.RowKit Go.Shelf Go.Maps

attribute [local go_sem] Oper.semAt_some

def migV (m : Mig) (v : Value) : Value := .agg #[.int .i64 m.id, .int .i64 m.frm, .int .i64 m.to, .bool m.back, v]
set_option maxRecDepth 100000 in
set_option maxHeartbeats 4000000 in
theorem mValid_any (m : Mig) (v : Value) (w : World) (hm : MigIn m) (hv : ClaimsAt w w.heap.size v m.keep) :
  Calls Tryz.prog 37 #[migV m v] w fun e w' => e = .returned (.bool (validM m)) ∧ Below w.heap.size w w' := by
 obtain ⟨R, hR⟩ : ∃ R, R = validM m := ⟨_, rfl⟩
 rw [← hR]
 have hI := hm.keep
 have hco := Lib.hid fun w1 (hb : Below w.heap.size w w1) => containsK_any v m.keep w1 (hv.later hb) hI
 have hid := fun n W => Lib.hid (isID_any n W)
 have hcell := Lib.hid fun i (hi : i < m.keep.length) => ClaimsAt.cells hv hi
 obtain ⟨id, frm, to, back, l⟩ := m
 unfold validM isIdM at hR
 dsimp only at hv hI hco hcell hR
 unfold migV
 dsimp only
 have hasc := asc_iff l
 have hall : (l.any fun k => !isKeepM k) = !l.all isKeepM := any_keep l
 generalize (l.any fun k => !isKeepM k) = anyB at *
 have hbk : decide (l ≠ []) = decide (0 < (l.length : Int)) := by
  rw [Bool.eq_iff_iff, decide_eq_true_eq, decide_eq_true_eq, ← List.length_pos_iff]; omega
 rw [hbk, show l.all isKeepM = !anyB by rw [hall, Bool.not_not]] at hR
 obtain ⟨vs, hvl, ⟨a, c, rfl, hn1, hn2, _⟩, _⟩ := hv
 unfold maxLen at hn2
 replace hR := Lib.hid hR
 replace hasc := Lib.hid hasc
 clear hall hbk hI hm
 obtain ⟨W, hW⟩ : ∃ W, W = w.alloc (.cells #[.int .i64 id, .int .i64 frm, .int .i64 to, .bool back, .slice a l.length c] 28) := ⟨_, rfl⟩
 have hA : Arr W w.heap.size 28 [.int .i64 id, .int .i64 frm, .int .i64 to, .bool back, .slice a l.length c] := by rw [hW]; exact Arr.new rfl rfl
 have hbW : Below w.heap.size w W := by rw [hW]; exact (Below.refl _ _).alloc (Nat.le_refl _) _
 replace hbW := Lib.hid hbW
 go_enter Tryz.func37, Tryz.ntmps37
 go_wp2_with fail
 rw [← hW]
 clear hW
 go_loopw [4] (fun iv wr => ∃ i : Nat, iv = .int .i64 (i : Int) ∧ Hid (0 < i ∧ (∀ j, 0 < j → j < i → j < l.length → l[j - 1]!.1 < l[j]!.1)) ∧ Hid (Arr wr w.heap.size 28 [.int .i64 id, .int .i64 frm, .int .i64 to, .bool back, .slice a l.length c] ∧ Below w.heap.size w wr)) (fun iv _ => l.length - (intOf iv).toNat)
 case atStart => exact ⟨1, rfl, (show Hid _ from ⟨by omega, fun j h1 h2 _ => by omega⟩), (show Hid _ from ⟨hA, hbW.out⟩)⟩
 case round =>
  obtain ⟨i, rfl, hI, hq⟩ := hrel
  obtain ⟨hAq, hbq⟩ := hq.out
  clear hq hA hbW
  have c0 := hAq.cell (j := 0) rfl
  have c1 := hAq.cell (j := 1) rfl
  have c2 := hAq.cell (j := 2) rfl
  have c3 := hAq.cell (j := 3) rfl
  have c4 := hAq.cell (j := 4) rfl
  by_cases hlt : i < l.length
  ·
   obtain ⟨k, rfl⟩ : ∃ k, i = k + 1 := ⟨i - 1, by have := hI.out.1; omega⟩
   obtain ⟨b, o, cp, u, hv1, hb, x0, _, _⟩ := hcell.out k (by omega)
   injection hv1 with hv1 _ hv3
   subst hv1 hv3
   obtain ⟨b', o', cp', u', hv1, hb', y0, _, _⟩ := hcell.out (k + 1) hlt
   injection hv1 with hv1 _ hv6
   subst hv6
   injection hv1 with hv1
   injection hv1 with hv4 hv5
   subst hv4 hv5
   have x0q := (hbq.cell (p := ⟨b, o + k * 2, none⟩) hb).trans x0
   have y0q := (hbq.cell (p := ⟨b, o + (k + 1) * 2, none⟩) hb).trans y0
   have hascF : l[k + 1]!.1 ≤ l[k]!.1 → ascM l = false := fun h => by
    rw [Bool.eq_false_iff]
    intro h2
    have := hasc.out.1 h2 (k + 1) (by omega) hlt
    rw [Nat.add_sub_cancel] at this
    omega
   have hnext : ¬ l[k + 1]!.1 ≤ l[k]!.1 → Hid (0 < k + 1 + 1 ∧ (∀ j, 0 < j → j < k + 1 + 1 → j < l.length → l[j - 1]!.1 < l[j]!.1)) := fun h => ⟨by omega, fun j h1 h2 h3 => by
    by_cases e : j = k + 1
    ·
     subst e; rw [Nat.add_sub_cancel]; omega
    ·
     exact hI.out.2 j h1 (by omega) h3⟩
   clear x0 y0 hcell hI
   generalize l[k]!.1 = px at *
   generalize l[k + 1]!.1 = py at *
   have k0 : (0 : Int) ≤ (k : Int) := by omega
   have k1 : (k : Int) < (l.length : Int) := by omega
   have k2 : (0 : Int) ≤ ((k + 1 : Nat) : Int) := by omega
   have k3 : ((k + 1 : Nat) : Int) < (l.length : Int) := by omega
   have hw0 : IntKind.i64.wrap (((k + 1 : Nat) : Int) - 1) = (k : Int) := by rw [show ((k + 1 : Nat) : Int) - 1 = (k : Int) by omega]; exact IntWalk.i64_in _ (by omega)
   have hw1 : IntKind.i64.wrap (((k + 1 : Nat) : Int) + 1) = ((k + 1 + 1 : Nat) : Int) := by rw [show ((k + 1 : Nat) : Int) + 1 = ((k + 1 + 1 : Nat) : Int) by omega]; exact IntWalk.i64_in _ (by omega)
   by_cases hge : py ≤ px
   ·
    have hres : Hid (R = false) := by show _ = _; rw [hR.out, hascF hge]; rfl
    have hd : decide (px ≥ py) = true := by simpa using hge
    clear hascF hnext
    go_wp2_with fail
    go_quiet (fail)
    go_wp2_with fail
    go_ret
    exact ⟨by rw [hres.out]; rfl, below_drewN hbq _⟩
   ·
    have hd : decide (px ≥ py) = false := by simpa using hge
    have hn := hnext hge
    clear hascF hnext
    go_wp2_with fail
    go_quiet (fail)
    have hqq : Hid (Arr (wr.drewN nq) w.heap.size 28 [.int .i64 id, .int .i64 frm, .int .i64 to, .bool back, .slice (some ⟨b, o, none⟩) l.length c] ∧ Below w.heap.size w (wr.drewN nq)) := ⟨hAq.drewN nq, below_drewN hbq nq⟩
    go_wp2_with fail
    exact ⟨⟨k + 1 + 1, by first | rfl | go_num, hn, hqq⟩, by simp [intOf]; omega⟩
  ·
   have hascT : ascM l = true := hasc.out.2 fun j h1 h2 => hI.out.2 j h1 (by omega) h2
   have hR' : R = (decide (1 ≤ id ∧ id ≤ 1000000) && decide (1 ≤ frm ∧ frm ≤ 1000000) && decide (1 ≤ to ∧ to ≤ 1000000) && !(back && decide (0 < (l.length : Int))) && !anyB) := by rw [hR.out, hascT, Bool.true_and]
   have hc1 := fun W => (show Hid (Calls Tryz.prog 65 #[.int .i64 id] W fun e w' => e = .returned (.bool (decide (1 ≤ id ∧ id ≤ 1000000))) ∧ w' = W) from hid id W)
   have hc2 := fun W => (show Hid (Calls Tryz.prog 65 #[.int .i64 frm] W fun e w' => e = .returned (.bool (decide (1 ≤ frm ∧ frm ≤ 1000000))) ∧ w' = W) from hid frm W)
   have hc3 := fun W => (show Hid (Calls Tryz.prog 65 #[.int .i64 to] W fun e w' => e = .returned (.bool (decide (1 ≤ to ∧ to ≤ 1000000))) ∧ w' = W) from hid to W)
   have hno : decide ((i : Int) < (l.length : Int)) = false := by simpa using hlt
   have hcq := Lib.hid (hco.out wr hbq)
   generalize decide (1 ≤ id ∧ id ≤ 1000000) = b1 at *
   generalize decide (1 ≤ frm ∧ frm ≤ 1000000) = b2 at *
   generalize decide (1 ≤ to ∧ to ≤ 1000000) = b3 at *
   replace hR' := Lib.hid hR'
   clear hcell hI hasc hascT hR hid hco
   cases b1 with
   | false =>
    have hres : Hid (R = false) := by show _ = _; rw [hR'.out]; rfl
    go_wp2_with fail
    refine (hc1 _).out.mono ?_
    rintro e w1 ⟨rfl, rfl⟩
    go_wp2_with fail
    go_ret
    exact ⟨by rw [hres.out]; rfl, hbq⟩
   | true =>
    cases b2 with
    | false =>
     have hres : Hid (R = false) := by show _ = _; rw [hR'.out]; rfl
     go_wp2_with fail
     refine (hc1 _).out.mono ?_
     rintro e w1 ⟨rfl, rfl⟩
     go_wp2_with fail
     refine (hc2 _).out.mono ?_
     rintro e w1 ⟨rfl, rfl⟩
     go_wp2_with fail
     go_ret
     exact ⟨by rw [hres.out]; rfl, hbq⟩
    | true =>
     cases b3 with
     | false =>
      have hres : Hid (R = false) := by show _ = _; rw [hR'.out]; rfl
      go_wp2_with fail
      refine (hc1 _).out.mono ?_
      rintro e w1 ⟨rfl, rfl⟩
      go_wp2_with fail
      refine (hc2 _).out.mono ?_
      rintro e w1 ⟨rfl, rfl⟩
      go_wp2_with fail
      refine (hc3 _).out.mono ?_
      rintro e w1 ⟨rfl, rfl⟩
      go_wp2_with fail
      go_ret
      exact ⟨by rw [hres.out]; rfl, hbq⟩
     | true =>
      cases back with
      | false =>
       have hres : Hid (R = !anyB) := by show _ = _; rw [hR'.out]; simp
       go_wp2_with fail
       refine (hc1 _).out.mono ?_
       rintro e w1 ⟨rfl, rfl⟩
       go_wp2_with fail
       refine (hc2 _).out.mono ?_
       rintro e w1 ⟨rfl, rfl⟩
       go_wp2_with fail
       refine (hc3 _).out.mono ?_
       rintro e w1 ⟨rfl, rfl⟩
       go_wp2_with fail
       refine hcq.out.mono ?_
       rintro e w2 ⟨rfl, hb2⟩
       go_wp2_with fail
       go_ret
       exact ⟨by rw [hres.out]; rfl, hbq.trans (hb2.mono hbq.size)⟩
      | true =>
       by_cases hpos : 0 < l.length
       ·
        have hdp : decide (0 < (l.length : Int)) = true := decide_eq_true (by omega)
        have hres : Hid (R = false) := by show _ = _; rw [hR'.out, hdp]; rfl
        go_wp2_with fail
        refine (hc1 _).out.mono ?_
        rintro e w1 ⟨rfl, rfl⟩
        go_wp2_with fail
        refine (hc2 _).out.mono ?_
        rintro e w1 ⟨rfl, rfl⟩
        go_wp2_with fail
        refine (hc3 _).out.mono ?_
        rintro e w1 ⟨rfl, rfl⟩
        go_wp2_with fail
        go_ret
        exact ⟨by rw [hres.out]; rfl, hbq⟩
       ·
        have hdp : decide (0 < (l.length : Int)) = false := decide_eq_false (by omega)
        have hres : Hid (R = !anyB) := by show _ = _; rw [hR'.out, hdp]; simp
        go_wp2_with fail
        refine (hc1 _).out.mono ?_
        rintro e w1 ⟨rfl, rfl⟩
        go_wp2_with fail
        refine (hc2 _).out.mono ?_
        rintro e w1 ⟨rfl, rfl⟩
        go_wp2_with fail
        refine (hc3 _).out.mono ?_
        rintro e w1 ⟨rfl, rfl⟩
        go_wp2_with fail
        refine hcq.out.mono ?_
        rintro e w2 ⟨rfl, hb2⟩
        go_wp2_with fail
        go_ret
        exact ⟨by rw [hres.out]; rfl, hbq.trans (hb2.mono hbq.size)⟩
end Go.Proofs.YtpeandbcdaikbaaGreatDoor
namespace Go.Proofs.YtpeandbcdaikbaaGreatDoor
open Go.RowKit Go.Shelf Go.Maps

attribute [local go_sem] Oper.semAt_some

set_option maxRecDepth 100000 in
set_option maxHeartbeats 2000000 in
theorem cloneS_any (v : Value) (l : List Stp) (w : World) (hv : StepsAt w w.heap.size v l) (hl : l.length ≤ 1000) :
  Calls Tryz.prog 123 #[v] w fun e w' => ∃ v', e = .returned v' ∧ StepsT w' v' l ∧ Below w.heap.size w w' := by
 obtain ⟨i0, hi, hz0, hz1, hz2⟩ := info_parts Tryz.info_step
 have hv' := Lib.hid (hv.later ((Below.refl _ w).alloc (Nat.le_refl _) (.cells #[] 73)))
 have hlen := Lib.hid (stL_len l)
 have hone := Lib.hid (stL_one l)
 obtain ⟨a, cap, rfl, _, _, hc⟩ := hv
 have q22 : ∀ (w : World) (a : Option Addr) (n c n' c' : Nat), (binOp .eql 55 (.slice a n c) (.slice none n' c')).run Tryz.prog w = .ok (.bool a.isNone) w := fun w a n c n' c' => Lib.run_eql_slice_nil w _ _ a n c n' c' Tryz.underlying55
 cases a with
 | none =>
  have h0 : l = [] := by
   cases l with
   | nil => rfl
   | cons x r => obtain ⟨_, _, h, _⟩ := hc (by simp); cases h
  subst h0
  exact (AnyE.slices_Clone_nil Tryz.laysE41s 0 cap w).mono fun e w' h => by
   obtain ⟨rfl, rfl⟩ := h
   exact ⟨_, rfl, StepsT.nil _ _ _ (Nat.zero_le _), Below.refl _ _⟩
 | some p =>
  clear hc
  go_enter Tryz.func123, Tryz.ntmps123
  go_wp2_with (at_builtin; refine wpList_append_src rfl _ _ 55 rfl w.heap.size 73 i0 (.agg #[.int .i64 0, .int .i64 0]) 2 16 Tryz.underlying55 hi hz0 hz1 hz2 rfl (by decide) _ _ _ rfl (World.ownsRow_made w #[] 0 (Nat.le_refl _) (Nat.zero_le _) (by simp)) _ l.length _ (stL l) rfl hv'.out hlen.out hone.out ?qc4 ?qc5 ?qc6 ?_)
  case qc4 => unfold maxLen; omega
  case qc5 => omega
  case qc6 => simp
  intro v' w1 hown hgrow
  go_wp2
  go_ret
  refine ⟨v', rfl, RowT.of_own (B := w.heap.size) (s := 2) (by simpa using hown), ?_⟩
  exact ((Below.refl _ w).alloc (Nat.le_refl _) _).grown hgrow (by simp) (by intro k hk; simp [Value.ownBlock] at hk; omega)
theorem stepsM_at {m : Mig} {p : Int} {i : Nat} (hi : i < m.keep.length) (hp : m.keep[i]!.1 = p) (hb : ∀ j, j < i → m.keep[j]!.1 ≠ p) : stepsM m p = m.keep[i]!.2 := by
 unfold stepsM
 have : m.keep.find? (·.prop == p) = some m.keep[i]! := by
  rw [List.find?_eq_some_iff_append]
  refine ⟨by simpa [Kp.prop] using hp, m.keep.take i, m.keep.drop (i + 1), ?_, fun a ha => ?_⟩
  ·
   rw [getElem!_pos m.keep i hi, ← List.drop_eq_getElem_cons hi, List.take_append_drop]
  ·
   obtain ⟨j, hj, rfl⟩ := List.getElem_of_mem ha
   have hj' : j < i := by simp at hj; omega
   rw [List.getElem_take]
   have := hb j hj'
   rw [getElem!_pos m.keep j (by omega)] at this
   simpa [Kp.prop] using this
 rw [this]
theorem stepsM_none {m : Mig} {p : Int} (hb : ∀ j, j < m.keep.length → m.keep[j]!.1 ≠ p) : stepsM m p = [] := by
 unfold stepsM
 have : m.keep.find? (·.prop == p) = none := by
  rw [List.find?_eq_none]
  intro a ha
  obtain ⟨j, hj, rfl⟩ := List.getElem_of_mem ha
  have := hb j hj
  rw [getElem!_pos m.keep j hj] at this
  simpa [Kp.prop] using this
 rw [this]
/-- The steps of a migration are few. -/
def FewK (m : Mig) : Prop := ∀ c ∈ m.keep, c.2.length ≤ 64
set_option maxRecDepth 100000 in
set_option maxHeartbeats 4000000 in
theorem psteps_any (m : Mig) (p : Int) (v : Value) (w : World) (hf : FewK m) (hlen : m.keep.length ≤ 1000000) (hv : ClaimsAt w w.heap.size v m.keep) :
  Calls Tryz.prog 94 #[.agg #[.int .i64 m.id, .int .i64 m.frm, .int .i64 m.to, .bool m.back, v], .int .i64 p] w fun e w' => ∃ v', e = .returned v' ∧ StepsT w' v' (stepsM m p) ∧ Below w.heap.size w w' := by
 have hcell := Lib.hid fun i (hi : i < m.keep.length) => ClaimsAt.cells hv hi
 have hat := Lib.hid fun i (hi : i < m.keep.length) h1 h2 => stepsM_at (m := m) (p := p) (i := i) hi h1 h2
 have hnone := Lib.hid (stepsM_none (m := m) (p := p))
 replace hf := Lib.hid hf
 obtain ⟨R, hR⟩ : ∃ R, R = stepsM m p := ⟨_, rfl⟩
 rw [← hR] at hat hnone ⊢
 clear hR
 obtain ⟨id, frm, to, back, l⟩ := m
 dsimp only at hv hcell hat hnone hlen ⊢
 obtain ⟨vs, hvl, ⟨a, c, rfl, hn1, hn2, _⟩, _⟩ := hv
 obtain ⟨W, hW⟩ : ∃ W, W = w.alloc (.cells #[.int .i64 id, .int .i64 frm, .int .i64 to, .bool back, .slice a l.length c] 102) := ⟨_, rfl⟩
 have hA : Arr W w.heap.size 102 [.int .i64 id, .int .i64 frm, .int .i64 to, .bool back, .slice a l.length c] := by rw [hW]; exact Arr.new rfl rfl
 have hbW : Below w.heap.size w W := by rw [hW]; exact (Below.refl _ _).alloc (Nat.le_refl _) _
 have c4 := hA.cell (j := 4) rfl
 replace hbW := Lib.hid hbW
 clear hA
 go_enter Tryz.func94, Tryz.ntmps94
 go_wp2_with (rw [← hW])
 clear hW c4
 go_loopw [11] (fun iv wr => ∃ i : Nat, i ≤ l.length ∧ iv = .int .i64 (i : Int) ∧ Hid ((∀ j, j < i → l[j]!.1 ≠ p) ∧ Below w.heap.size w wr)) (fun iv _ => l.length - (intOf iv).toNat)
 case atStart => exact ⟨0, Nat.zero_le _, rfl, (show Hid _ from ⟨fun j hj => by omega, hbW.out⟩)⟩
 case round =>
  obtain ⟨i, hi, rfl, hall⟩ := hrel
  obtain ⟨hno, hbr⟩ := hall.out
  clear hall hbW
  by_cases hlt : i < l.length
  ·
   obtain ⟨b, o, cp, u, hv1, hb, x0, x1, hs⟩ := hcell.out i hlt
   injection hv1 with hv1 _ hv3
   subst hv1 hv3
   have y0 := (hbr.cell (p := ⟨b, o + i * 2, none⟩) hb).trans x0
   have y1 := (hbr.cell (p := ⟨b, o + i * 2 + 1, none⟩) hb).trans x1
   have hmem : l[i]! ∈ l := by rw [getElem!_pos l i hlt]; exact List.getElem_mem hlt
   have hf1 := hf.out l[i]! hmem
   have hr : l[i]!.1 = p → R = l[i]!.2 := fun e => hat.out i hlt e hno
   have hnx : l[i]!.1 ≠ p → ∀ j, j < i + 1 → l[j]!.1 ≠ p := fun e j hj => by
    by_cases h : j = i
    ·
     rw [h]; exact e
    ·
     exact hno j (by omega)
   have hsW : Below w.heap.size w (wr.alloc (.cells #[.int .i64 l[i]!.1, u] 104)) := hbr.alloc hbr.size _
   have hsu : StepsAt (wr.alloc (.cells #[.int .i64 l[i]!.1, u] 104)) (wr.alloc (.cells #[.int .i64 l[i]!.1, u] 104)).heap.size u l[i]!.2 := hs.later hsW
   have hcl := Lib.hid (cloneS_any u l[i]!.2 _ hsu (by omega))
   obtain ⟨ua, uc, rfl, _, _, _⟩ := hs
   clear x0 x1 hcell hat hnone hsu
   generalize l[i]!.1 = px at *
   generalize l[i]!.2 = pl at *
   have k0 : (0 : Int) ≤ (i : Int) := by omega
   have k1 : (i : Int) < (l.length : Int) := by omega
   have hw1 : IntKind.i64.wrap ((i : Int) + 1) = ((i + 1 : Nat) : Int) := by rw [Int.natCast_succ]; exact IntWalk.i64_in _ (by omega)
   by_cases hp : px = p
   ·
    have hd : (px == p) = true := by simpa using hp
    have hres := Lib.hid (hr hp)
    replace hp := Lib.hid hp
    replace hsW := Lib.hid hsW
    go_wp2_with fail
    refine hcl.out.mono ?_
    rintro e w2 ⟨v', rfl, hs2, hb2⟩
    go_wp2_with fail
    go_ret
    exact ⟨v', rfl, by rw [hres.out]; exact hs2, hsW.out.trans (hb2.mono hsW.out.size)⟩
   ·
    have hd : (px == p) = false := by simpa using hp
    have hn := Lib.hid (hnx hp)
    have hkk : Hid ((∀ j, j < i + 1 → l[j]!.1 ≠ p) ∧ Below w.heap.size w (wr.alloc (.cells #[.int .i64 px, .slice ua pl.length uc] 104))) := ⟨hn.out, hsW⟩
    clear hcl hsW hr hnx
    go_wp2_with fail
    exact ⟨⟨i + 1, by omega, by first | rfl | go_num, hkk⟩, by simp [intOf]; omega⟩
  ·
   have hres := Lib.hid (hnone.out fun j hj => hno j (by omega))
   have hd : decide ((i : Int) < (l.length : Int)) = false := by simpa using hlt
   clear hcell hat hnone
   go_wp2_with fail
   go_ret
   exact ⟨_, rfl, by rw [hres.out]; exact StepsT.nil _ _ _ (Nat.zero_le _), hbr⟩
def planV (m : Mig) (v : Value) : Value := .agg #[.int .i64 m.id, .int .i64 m.frm, .int .i64 m.to, .bool m.back, v]
set_option maxRecDepth 100000 in
set_option maxHeartbeats 2000000 in
theorem touches_any (m : Mig) (p : Int) (v : Value) (w : World) (hf : FewK m) (hlen : m.keep.length ≤ 1000000) (hv : ClaimsAt w w.heap.size v m.keep) :
  Calls Tryz.prog 95 #[.agg #[.int .i64 m.id, .int .i64 m.frm, .int .i64 m.to, .bool m.back, v], .int .i64 p] w fun e w' => e = .returned (.bool (decide (stepsM m p ≠ []))) ∧ Below w.heap.size w w' := by
 obtain ⟨W, hW⟩ : ∃ W, W = w.alloc (.cells #[.int .i64 m.id, .int .i64 m.frm, .int .i64 m.to, .bool m.back, v] 102) := ⟨_, rfl⟩
 have hbW : Below w.heap.size w W := by rw [hW]; exact (Below.refl _ _).alloc (Nat.le_refl _) _
 have hA : Arr W w.heap.size 102 [.int .i64 m.id, .int .i64 m.frm, .int .i64 m.to, .bool m.back, v] := by rw [hW]; exact Arr.new rfl rfl
 have hst := Lib.hid (psteps_any m p v W hf hlen (hv.later hbW))
 have hdec : decide (stepsM m p ≠ []) = decide (0 < (stepsM m p).length) := by
  rw [Bool.eq_iff_iff, decide_eq_true_eq, decide_eq_true_eq, ← List.length_pos_iff]
 rw [hdec]
 obtain ⟨vs, _, ⟨a, c, rfl, _, _, _⟩, _⟩ := hv
 obtain ⟨id, frm, to, back, l⟩ := m
 dsimp only at hA hW hst ⊢
 generalize stepsM _ p = X at *
 have c0 := hA.cell (j := 0) rfl
 have c1 := hA.cell (j := 1) rfl
 have c2 := hA.cell (j := 2) rfl
 have c3 := hA.cell (j := 3) rfl
 have c4 := hA.cell (j := 4) rfl
 replace hbW := Lib.hid hbW
 clear hA
 go_enter Tryz.func95, Tryz.ntmps95
 go_wp2_with (rw [← hW])
 refine hst.out.mono ?_
 rintro e w2 ⟨v', rfl, hs2, hb2⟩
 obtain ⟨xa, xc, rfl, _, _, _⟩ := hs2
 go_wp2_with fail
 go_ret
 exact ⟨by first | rfl | simp, hbW.out.trans (hb2.mono hbW.out.size)⟩
end Go.Proofs.YtpeandbcdaikbaaGreatDoor
namespace Go.Proofs.YtpeandbcdaikbaaGreatDoor
open Go.RowKit Go.Shelf Go.Maps

attribute [local go_sem] Oper.semAt_some

theorem claim_lost3 {m : Mig} (h : stepsM m 4 ≠ []) : claimM m 3 = lostL := by unfold claimM; rw [if_pos (.inl ⟨rfl, h⟩)]; rfl
theorem claim_lost5 {m : Mig} (h : stepsM m 3 ≠ []) : claimM m 5 = lostL := by unfold claimM; rw [if_pos (.inr ⟨rfl, h⟩)]; rfl
theorem claim_3 {m : Mig} (h : stepsM m 4 = []) : claimM m 3 = stepsM m 3 := by unfold claimM; rw [if_neg (by simp [h]), if_neg (by decide)]
theorem claim_5 {m : Mig} (h : stepsM m 3 = []) : claimM m 5 = stepsM m 5 := by unfold claimM; rw [if_neg (by simp [h]), if_neg (by decide)]
theorem claim_6 (m : Mig) : claimM m 6 = stepsM m 7 := by unfold claimM; rw [if_neg (by simp), if_pos rfl]
theorem claim_p (m : Mig) {p : Int} (h3 : p ≠ 3) (h5 : p ≠ 5) (h6 : p ≠ 6) : claimM m p = stepsM m p := by unfold claimM; rw [if_neg (by simp [h3, h5]), if_neg h6]
theorem heap_setCells_other (b k : Nat) (hk : k ≠ b) : ∀ (vs : List Value) (o : Nat) (W : World), (W.setCells b o vs).heap[k]? = W.heap[k]?
 | [], _, _ => rfl
 | v :: vs, o, W => by
  rw [World.setCells, heap_setCells_other b k hk vs (o + 1) _]
  exact Below.heap_setCell W ⟨b, o, none⟩ v k hk
theorem KeepTy.setArrs {X : List TypeId} {W : World} {b : Nat} {t : TypeId} {L : List Value} (h : Arr W b t L) (he : t ∈ X) (o : Nat) (vs : List Value) : KeepTy X W (W.setCells b o vs) := fun j cur s fz hs hj => by
 refine (heap_setCells_other b j (fun ej => ?_) vs o W).trans hj
 subst ej
 rw [show W.heap[j]? = _ from h] at hj
 injection hj with hj
 injection hj with _ hT
 exact hs (hT ▸ he)
set_option maxRecDepth 100000 in
set_option maxHeartbeats 8000000 in
theorem claim_any (m : Mig) (p : Int) (v : Value) (w : World) (hf : FewK m) (hlen : m.keep.length ≤ 1000000) (hv : ClaimsAt w w.heap.size v m.keep) :
  Calls Tryz.prog 61 #[.agg #[.int .i64 m.id, .int .i64 m.frm, .int .i64 m.to, .bool m.back, v], .int .i64 p] w fun e w' => ∃ v', e = .returned (.agg #[.int .i64 p, v']) ∧ StepsT w' v' (claimM m p) ∧ Below w.heap.size w w' := by
 have hst := fun q => Lib.hid fun w1 (hb : Below w.heap.size w w1) => psteps_any m q v w1 hf hlen (hv.later hb)
 have htc := fun q => Lib.hid fun w1 (hb : Below w.heap.size w w1) => touches_any m q v w1 hf hlen (hv.later hb)
 have hlo := fun W => Lib.hid (lost_any W)
 have e3 := Lib.hid (claim_lost3 (m := m))
 have e5 := Lib.hid (claim_lost5 (m := m))
 have e3' := Lib.hid (claim_3 (m := m))
 have e5' := Lib.hid (claim_5 (m := m))
 have e6 := Lib.hid (claim_6 m)
 have ep := fun (h3 : p ≠ 3) (h5 : p ≠ 5) (h6 : p ≠ 6) => Lib.hid (claim_p m h3 h5 h6)
 obtain ⟨vs, _, ⟨a, c, rfl, _, _, _⟩, _⟩ := hv
 generalize stepsM m = S at *
 generalize claimM m = Cl at *
 obtain ⟨id, frm, to, back, l⟩ := m
 dsimp only at hst htc hlen ⊢
 obtain ⟨W, hW⟩ : ∃ W, W = (w.alloc (.cells #[.int .i64 id, .int .i64 frm, .int .i64 to, .bool back, .slice a l.length c] 102)).alloc (.cells #[.int .i64 0, .slice none 0 0] 59) := ⟨_, rfl⟩
 have hA : Arr W w.heap.size 102 [.int .i64 id, .int .i64 frm, .int .i64 to, .bool back, .slice a l.length c] := by rw [hW]; exact (Arr.new rfl rfl).alloc _
 have hC : Arr W (w.heap.size + 1) 59 [.int .i64 0, .slice none 0 0] := by rw [hW]; exact Arr.new rfl (by simp)
 have hbW : Below w.heap.size w W := by rw [hW]; exact ((Below.refl _ _).alloc (Nat.le_refl _) _).alloc (by simp) _
 have hst' := Lib.hid fun q w1 (hb : Below w.heap.size w w1) => (hst q).out w1 hb
 have htc' := Lib.hid fun q w1 (hb : Below w.heap.size w w1) => (htc q).out w1 hb
 clear hst htc hf
 have hA0 := hA
 have hC0 := hC
 have hb0 := hbW
 clear hA hC hbW
 by_cases hp3 : p = 3
 ·
  obtain rfl := hp3
  have hn4 : decide (S 4 ≠ []) = true ∨ decide (S 4 ≠ []) = false := by cases decide (S 4 ≠ []) <;> simp
  by_cases hq : S 4 = []
  ·
   have hdq : decide (S 4 ≠ []) = false := by simp [hq]
   have hres := Lib.hid (e3'.out hq)
   replace hq := Lib.hid hq
   have c0 := hA0.cell (j := 0) rfl
   have c1 := hA0.cell (j := 1) rfl
   have c2 := hA0.cell (j := 2) rfl
   have c3 := hA0.cell (j := 3) rfl
   have c4 := hA0.cell (j := 4) rfl
   have hb0h := Lib.hid hb0
   go_enter Tryz.func61, Tryz.ntmps61
   go_wp2_with (rw [← hW])
   clear hW
   refine (hst'.out (3) _ hb0).mono ?_
   rintro e w1 ⟨v1, rfl, hX, hq⟩
   obtain ⟨ya, yc, hyv, _, _, _⟩ := _root_.id hX
   subst hyv
   have hb1 := hb0.trans (hq.mono hb0.size)
   have hA1 := hA0.below hq
   have hC1 := hC0.below hq
   clear c0 c1 c2 c3 c4
   have c0 := hA1.cell (j := 0) rfl
   have c1 := hA1.cell (j := 1) rfl
   have c2 := hA1.cell (j := 2) rfl
   have c3 := hA1.cell (j := 3) rfl
   have c4 := hA1.cell (j := 4) rfl
   clear hq
   clear hb0h
   go_wp2_with fail
   refine (htc'.out (4) _ hb1).mono ?_
   rintro e w2 ⟨rfl, hq⟩
   have hX2 := hX.below hq
   simp only [hdq]
   have hb2 := hb1.trans (hq.mono hb1.size)
   have hA2 := hA1.below hq
   have hC2 := hC1.below hq
   clear c0 c1 c2 c3 c4
   have c0 := hA2.cell (j := 0) rfl
   have c1 := hA2.cell (j := 1) rfl
   have c2 := hA2.cell (j := 2) rfl
   have c3 := hA2.cell (j := 3) rfl
   have c4 := hA2.cell (j := 4) rfl
   clear hq
   replace hA2 := Lib.hid hA2
   have hCh := Lib.hid hC2
   have hb := Lib.hid hb2
   have hXh := Lib.hid hX2
   go_wp2_with (refine arr_store rfl 59 _ _ rfl (w.heap.size + 1) rfl (vs := [.int .i64 3, .slice ya (S 3).length yc]) rfl hCh.out (n := 2) (by kernel_rfl) rfl rfl rfl ?_)
   refine bodyPost_ret (arr_result (p := 4) (ty := 59) (n := 2) (by kernel_rfl) _ (hCh.out.setAll (vs := [.int .i64 3, .slice ya (S 3).length yc]) rfl) rfl Tryz.underlying59 rfl (by kernel_rfl) rfl) rfl ?_
   refine ⟨_, rfl, ?_, Below.setCells _ _ _ _ hb.out (Nat.le_succ _)⟩
   rw [hres.out]
   exact hXh.out.keepTy (X := [59]) (by decide) (KeepTy.setArrs hCh.out (by decide) _ _)
  ·
   have hdq : decide (S 4 ≠ []) = true := by simpa using hq
   have hres := Lib.hid (e3.out hq)
   replace hq := Lib.hid hq
   have c0 := hA0.cell (j := 0) rfl
   have c1 := hA0.cell (j := 1) rfl
   have c2 := hA0.cell (j := 2) rfl
   have c3 := hA0.cell (j := 3) rfl
   have c4 := hA0.cell (j := 4) rfl
   have hb0h := Lib.hid hb0
   go_enter Tryz.func61, Tryz.ntmps61
   go_wp2_with (rw [← hW])
   clear hW
   refine (hst'.out (3) _ hb0).mono ?_
   rintro e w1 ⟨v1, rfl, hX, hq⟩
   obtain ⟨ya, yc, hyv, _, _, _⟩ := _root_.id hX
   subst hyv
   have hb1 := hb0.trans (hq.mono hb0.size)
   have hA1 := hA0.below hq
   have hC1 := hC0.below hq
   clear c0 c1 c2 c3 c4
   have c0 := hA1.cell (j := 0) rfl
   have c1 := hA1.cell (j := 1) rfl
   have c2 := hA1.cell (j := 2) rfl
   have c3 := hA1.cell (j := 3) rfl
   have c4 := hA1.cell (j := 4) rfl
   clear hq
   clear hb0h
   go_wp2_with fail
   refine (htc'.out (4) _ hb1).mono ?_
   rintro e w2 ⟨rfl, hq⟩
   simp only [hdq]
   have hb2 := hb1.trans (hq.mono hb1.size)
   have hA2 := hA1.below hq
   have hC2 := hC1.below hq
   clear c0 c1 c2 c3 c4
   have c0 := hA2.cell (j := 0) rfl
   have c1 := hA2.cell (j := 1) rfl
   have c2 := hA2.cell (j := 2) rfl
   have c3 := hA2.cell (j := 3) rfl
   have c4 := hA2.cell (j := 4) rfl
   clear hq
   go_wp2_with fail
   refine ((hlo _).out).mono ?_
   rintro e w3 ⟨v3, rfl, hX3, hq⟩
   have hb3 := hb2.trans (hq.mono hb2.size)
   have hA3 := hA2.below hq
   have hC3 := hC2.below hq
   clear c0 c1 c2 c3 c4
   have c0 := hA3.cell (j := 0) rfl
   have c1 := hA3.cell (j := 1) rfl
   have c2 := hA3.cell (j := 2) rfl
   have c3 := hA3.cell (j := 3) rfl
   have c4 := hA3.cell (j := 4) rfl
   clear hq
   replace hA3 := Lib.hid hA3
   have hCh := Lib.hid hC3
   have hb := Lib.hid hb3
   obtain ⟨xa, xc, hxv, _, _, _⟩ := _root_.id hX3
   subst hxv
   have hXh := Lib.hid hX3
   go_wp2_with (refine arr_store rfl 59 _ _ rfl (w.heap.size + 1) rfl (vs := [.int .i64 3, .slice xa lostL.length xc]) rfl hCh.out (n := 2) (by kernel_rfl) rfl rfl rfl ?_)
   refine bodyPost_ret (arr_result (p := 4) (ty := 59) (n := 2) (by kernel_rfl) _ (hCh.out.setAll (vs := [.int .i64 3, .slice xa lostL.length xc]) rfl) rfl Tryz.underlying59 rfl (by kernel_rfl) rfl) rfl ?_
   refine ⟨_, rfl, ?_, Below.setCells _ _ _ _ hb.out (Nat.le_succ _)⟩
   rw [hres.out]
   exact hXh.out.keepTy (X := [59]) (by decide) (KeepTy.setArrs hCh.out (by decide) _ _)
 by_cases hp5 : p = 5
 ·
  obtain rfl := hp5
  have hn3 : decide (S 3 ≠ []) = true ∨ decide (S 3 ≠ []) = false := by cases decide (S 3 ≠ []) <;> simp
  by_cases hq : S 3 = []
  ·
   have hdq : decide (S 3 ≠ []) = false := by simp [hq]
   have hres := Lib.hid (e5'.out hq)
   replace hq := Lib.hid hq
   have c0 := hA0.cell (j := 0) rfl
   have c1 := hA0.cell (j := 1) rfl
   have c2 := hA0.cell (j := 2) rfl
   have c3 := hA0.cell (j := 3) rfl
   have c4 := hA0.cell (j := 4) rfl
   have hb0h := Lib.hid hb0
   go_enter Tryz.func61, Tryz.ntmps61
   go_wp2_with (rw [← hW])
   clear hW
   refine (hst'.out (5) _ hb0).mono ?_
   rintro e w1 ⟨v1, rfl, hX, hq⟩
   obtain ⟨ya, yc, hyv, _, _, _⟩ := _root_.id hX
   subst hyv
   have hb1 := hb0.trans (hq.mono hb0.size)
   have hA1 := hA0.below hq
   have hC1 := hC0.below hq
   clear c0 c1 c2 c3 c4
   have c0 := hA1.cell (j := 0) rfl
   have c1 := hA1.cell (j := 1) rfl
   have c2 := hA1.cell (j := 2) rfl
   have c3 := hA1.cell (j := 3) rfl
   have c4 := hA1.cell (j := 4) rfl
   clear hq
   clear hb0h
   go_wp2_with fail
   refine (htc'.out (3) _ hb1).mono ?_
   rintro e w2 ⟨rfl, hq⟩
   have hX2 := hX.below hq
   simp only [hdq]
   have hb2 := hb1.trans (hq.mono hb1.size)
   have hA2 := hA1.below hq
   have hC2 := hC1.below hq
   clear c0 c1 c2 c3 c4
   have c0 := hA2.cell (j := 0) rfl
   have c1 := hA2.cell (j := 1) rfl
   have c2 := hA2.cell (j := 2) rfl
   have c3 := hA2.cell (j := 3) rfl
   have c4 := hA2.cell (j := 4) rfl
   clear hq
   replace hA2 := Lib.hid hA2
   have hCh := Lib.hid hC2
   have hb := Lib.hid hb2
   have hXh := Lib.hid hX2
   go_wp2_with (refine arr_store rfl 59 _ _ rfl (w.heap.size + 1) rfl (vs := [.int .i64 5, .slice ya (S 5).length yc]) rfl hCh.out (n := 2) (by kernel_rfl) rfl rfl rfl ?_)
   refine bodyPost_ret (arr_result (p := 4) (ty := 59) (n := 2) (by kernel_rfl) _ (hCh.out.setAll (vs := [.int .i64 5, .slice ya (S 5).length yc]) rfl) rfl Tryz.underlying59 rfl (by kernel_rfl) rfl) rfl ?_
   refine ⟨_, rfl, ?_, Below.setCells _ _ _ _ hb.out (Nat.le_succ _)⟩
   rw [hres.out]
   exact hXh.out.keepTy (X := [59]) (by decide) (KeepTy.setArrs hCh.out (by decide) _ _)
  ·
   have hdq : decide (S 3 ≠ []) = true := by simpa using hq
   have hres := Lib.hid (e5.out hq)
   replace hq := Lib.hid hq
   have c0 := hA0.cell (j := 0) rfl
   have c1 := hA0.cell (j := 1) rfl
   have c2 := hA0.cell (j := 2) rfl
   have c3 := hA0.cell (j := 3) rfl
   have c4 := hA0.cell (j := 4) rfl
   have hb0h := Lib.hid hb0
   go_enter Tryz.func61, Tryz.ntmps61
   go_wp2_with (rw [← hW])
   clear hW
   refine (hst'.out (5) _ hb0).mono ?_
   rintro e w1 ⟨v1, rfl, hX, hq⟩
   obtain ⟨ya, yc, hyv, _, _, _⟩ := _root_.id hX
   subst hyv
   have hb1 := hb0.trans (hq.mono hb0.size)
   have hA1 := hA0.below hq
   have hC1 := hC0.below hq
   clear c0 c1 c2 c3 c4
   have c0 := hA1.cell (j := 0) rfl
   have c1 := hA1.cell (j := 1) rfl
   have c2 := hA1.cell (j := 2) rfl
   have c3 := hA1.cell (j := 3) rfl
   have c4 := hA1.cell (j := 4) rfl
   clear hq
   clear hb0h
   go_wp2_with fail
   refine (htc'.out (3) _ hb1).mono ?_
   rintro e w2 ⟨rfl, hq⟩
   simp only [hdq]
   have hb2 := hb1.trans (hq.mono hb1.size)
   have hA2 := hA1.below hq
   have hC2 := hC1.below hq
   clear c0 c1 c2 c3 c4
   have c0 := hA2.cell (j := 0) rfl
   have c1 := hA2.cell (j := 1) rfl
   have c2 := hA2.cell (j := 2) rfl
   have c3 := hA2.cell (j := 3) rfl
   have c4 := hA2.cell (j := 4) rfl
   clear hq
   go_wp2_with fail
   refine ((hlo _).out).mono ?_
   rintro e w3 ⟨v3, rfl, hX3, hq⟩
   have hb3 := hb2.trans (hq.mono hb2.size)
   have hA3 := hA2.below hq
   have hC3 := hC2.below hq
   clear c0 c1 c2 c3 c4
   have c0 := hA3.cell (j := 0) rfl
   have c1 := hA3.cell (j := 1) rfl
   have c2 := hA3.cell (j := 2) rfl
   have c3 := hA3.cell (j := 3) rfl
   have c4 := hA3.cell (j := 4) rfl
   clear hq
   replace hA3 := Lib.hid hA3
   have hCh := Lib.hid hC3
   have hb := Lib.hid hb3
   obtain ⟨xa, xc, hxv, _, _, _⟩ := _root_.id hX3
   subst hxv
   have hXh := Lib.hid hX3
   go_wp2_with (refine arr_store rfl 59 _ _ rfl (w.heap.size + 1) rfl (vs := [.int .i64 5, .slice xa lostL.length xc]) rfl hCh.out (n := 2) (by kernel_rfl) rfl rfl rfl ?_)
   refine bodyPost_ret (arr_result (p := 4) (ty := 59) (n := 2) (by kernel_rfl) _ (hCh.out.setAll (vs := [.int .i64 5, .slice xa lostL.length xc]) rfl) rfl Tryz.underlying59 rfl (by kernel_rfl) rfl) rfl ?_
   refine ⟨_, rfl, ?_, Below.setCells _ _ _ _ hb.out (Nat.le_succ _)⟩
   rw [hres.out]
   exact hXh.out.keepTy (X := [59]) (by decide) (KeepTy.setArrs hCh.out (by decide) _ _)
 by_cases hp6 : p = 6
 ·
  obtain rfl := hp6
  have hres := e6
  have c0 := hA0.cell (j := 0) rfl
  have c1 := hA0.cell (j := 1) rfl
  have c2 := hA0.cell (j := 2) rfl
  have c3 := hA0.cell (j := 3) rfl
  have c4 := hA0.cell (j := 4) rfl
  have hb0h := Lib.hid hb0
  go_enter Tryz.func61, Tryz.ntmps61
  go_wp2_with (rw [← hW])
  clear hW
  refine (hst'.out (6) _ hb0).mono ?_
  rintro e w1 ⟨v1, rfl, hX, hq⟩
  obtain ⟨ya, yc, hyv, _, _, _⟩ := _root_.id hX
  subst hyv
  have hb1 := hb0.trans (hq.mono hb0.size)
  have hA1 := hA0.below hq
  have hC1 := hC0.below hq
  clear c0 c1 c2 c3 c4
  have c0 := hA1.cell (j := 0) rfl
  have c1 := hA1.cell (j := 1) rfl
  have c2 := hA1.cell (j := 2) rfl
  have c3 := hA1.cell (j := 3) rfl
  have c4 := hA1.cell (j := 4) rfl
  clear hq
  clear hb0h
  go_wp2_with fail
  refine (hst'.out (7) _ hb1).mono ?_
  rintro e w2 ⟨v2, rfl, hX2, hq⟩
  have hb2 := hb1.trans (hq.mono hb1.size)
  have hA2 := hA1.below hq
  have hC2 := hC1.below hq
  clear c0 c1 c2 c3 c4
  have c0 := hA2.cell (j := 0) rfl
  have c1 := hA2.cell (j := 1) rfl
  have c2 := hA2.cell (j := 2) rfl
  have c3 := hA2.cell (j := 3) rfl
  have c4 := hA2.cell (j := 4) rfl
  clear hq
  replace hA2 := Lib.hid hA2
  have hCh := Lib.hid hC2
  have hb := Lib.hid hb2
  obtain ⟨xa, xc, hxv, _, _, _⟩ := _root_.id hX2
  subst hxv
  have hXh := Lib.hid hX2
  go_wp2_with (refine arr_store rfl 59 _ _ rfl (w.heap.size + 1) rfl (vs := [.int .i64 6, .slice xa (S 7).length xc]) rfl hCh.out (n := 2) (by kernel_rfl) rfl rfl rfl ?_)
  refine bodyPost_ret (arr_result (p := 4) (ty := 59) (n := 2) (by kernel_rfl) _ (hCh.out.setAll (vs := [.int .i64 6, .slice xa (S 7).length xc]) rfl) rfl Tryz.underlying59 rfl (by kernel_rfl) rfl) rfl ?_
  refine ⟨_, rfl, ?_, Below.setCells _ _ _ _ hb.out (Nat.le_succ _)⟩
  rw [hres.out]
  exact hXh.out.keepTy (X := [59]) (by decide) (KeepTy.setArrs hCh.out (by decide) _ _)
 have hres := ep hp3 hp5 hp6
 have n3 : (p == 3) = false := by simpa using hp3
 have n5 : (p == 5) = false := by simpa using hp5
 have n6 : (p == 6) = false := by simpa using hp6
 have c0 := hA0.cell (j := 0) rfl
 have c1 := hA0.cell (j := 1) rfl
 have c2 := hA0.cell (j := 2) rfl
 have c3 := hA0.cell (j := 3) rfl
 have c4 := hA0.cell (j := 4) rfl
 have hb0h := Lib.hid hb0
 go_enter Tryz.func61, Tryz.ntmps61
 go_wp2_with (rw [← hW])
 clear hW
 refine (hst'.out (p) _ hb0).mono ?_
 rintro e w1 ⟨v1, rfl, hX, hq⟩
 have hb1 := hb0.trans (hq.mono hb0.size)
 have hA1 := hA0.below hq
 have hC1 := hC0.below hq
 clear c0 c1 c2 c3 c4
 have c0 := hA1.cell (j := 0) rfl
 have c1 := hA1.cell (j := 1) rfl
 have c2 := hA1.cell (j := 2) rfl
 have c3 := hA1.cell (j := 3) rfl
 have c4 := hA1.cell (j := 4) rfl
 clear hq
 clear hb0h
 replace hA1 := Lib.hid hA1
 have hCh := Lib.hid hC1
 have hb := Lib.hid hb1
 obtain ⟨xa, xc, hxv, _, _, _⟩ := _root_.id hX
 subst hxv
 have hXh := Lib.hid hX
 go_wp2_with (refine arr_store rfl 59 _ _ rfl (w.heap.size + 1) rfl (vs := [.int .i64 p, .slice xa (S p).length xc]) rfl hCh.out (n := 2) (by kernel_rfl) rfl rfl rfl ?_)
 refine bodyPost_ret (arr_result (p := 4) (ty := 59) (n := 2) (by kernel_rfl) _ (hCh.out.setAll (vs := [.int .i64 p, .slice xa (S p).length xc]) rfl) rfl Tryz.underlying59 rfl (by kernel_rfl) rfl) rfl ?_
 refine ⟨_, rfl, ?_, Below.setCells _ _ _ _ hb.out (Nat.le_succ _)⟩
 rw [hres.out]
 exact hXh.out.keepTy (X := [59]) (by decide) (KeepTy.setArrs hCh.out (by decide) _ _)
end Go.Proofs.YtpeandbcdaikbaaGreatDoor
namespace Go.Proofs.YtpeandbcdaikbaaGreatDoor
open Go.RowKit Go.Shelf Go.Maps

attribute [local go_sem] Oper.semAt_some

theorem valid_few {m : Mig} (h : validM m = true) : FewK m ∧ m.keep.length ≤ 7 := by
 unfold validM at h
 simp only [Bool.and_eq_true, List.all_eq_true] at h
 obtain ⟨⟨⟨⟨⟨hasc, _⟩, _⟩, _⟩, _⟩, hk⟩ := h
 have hkk : ∀ c ∈ m.keep, validA c.1 c.2 = true ∧ c.1 ≤ 7 := fun c hc => by
  have := hk c hc
  unfold isKeepM at this
  simp only [Bool.and_eq_true, Bool.or_eq_true, beq_iff_eq] at this
  have h1 := this.1.1.2
  have h2 := this.1.1.1.1
  unfold Kp.prop Kp.steps at h1
  unfold Kp.prop at h2
  exact ⟨h1, by omega⟩
 refine ⟨fun c hc => (valid_parts (hkk c hc).1).2.1, ?_⟩
 have hup : ∀ i, i < m.keep.length → (i : Int) + 1 ≤ m.keep[i]!.1 := by
  intro i
  induction i with
  | zero =>
   intro hi
   have := (valid_parts (hkk m.keep[0]! (by rw [getElem!_pos m.keep 0 hi]; exact List.getElem_mem hi)).1).1.1
   omega
  | succ i ih =>
   intro hi
   have h1 := (asc_iff m.keep).1 hasc (i + 1) (by omega) hi
   rw [Nat.add_sub_cancel] at h1
   have := ih (by omega)
   omega
 refine Classical.byContradiction fun hc => ?_
 have h1 := hup 7 (by omega)
 have h2 := (hkk m.keep[7]! (by rw [getElem!_pos m.keep 7 (by omega)]; exact List.getElem_mem (by omega))).2
 omega
theorem Tryz.info_claim : (Tryz.prog.info? 59).map (fun i => (i.zero, i.size, i.bytes)) = some (some (.agg #[.int .i64 0, .slice none 0 0]), 2, 32) := by kernel_rfl
theorem claimsM_len (m : Mig) : (claimsM m).length = 8 := by simp [claimsM, props8]
theorem claimsM_at (m : Mig) {i : Nat} (hi : i < 8) : (claimsM m)[i]! = ((i : Int) + 1, claimM m ((i : Int) + 1)) := by
 obtain rfl | rfl | rfl | rfl | rfl | rfl | rfl | rfl : i = 0 ∨ i = 1 ∨ i = 2 ∨ i = 3 ∨ i = 4 ∨ i = 5 ∨ i = 6 ∨ i = 7 := by omega
 all_goals rfl
/-- Claims that are being appended to a row of the call's own. -/
structure ClOwn (B : Nat) (w : World) (v : Value) (l : Clms) (vs : List Value) : Prop where
 len : vs.length = l.length
 own : w.ownsRow B 59 2 v l.length (clC l vs)
 steps : ∀ i, i < l.length → StepsT w vs[i]! l[i]!.2
theorem ClOwn.claims {B : Nat} {w : World} {v : Value} {l : Clms} {vs : List Value} (h : ClOwn B w v l vs) : ClaimsT 59 w v l := ⟨vs, h.len, RowT.of_own h.own, h.steps⟩
theorem ClOwn.below {B : Nat} {w w' : World} {v : Value} {l : Clms} {vs : List Value} (h : ClOwn B w v l vs) (hb : Below w.heap.size w w') : ClOwn B w' v l vs :=
 ⟨h.len, own_stay h.own fun g hg => hb.block g (own_block h.own hg).1, fun i hi => (h.steps i hi).below hb⟩
/-- One claim more. -/
theorem ClOwn.snoc {B : Nat} {w w' : World} {v v' : Value} {l : Clms} {vs : List Value} (h : ClOwn B w v l vs) (p : Int) (s : List Stp) (u : Value) (hu : StepsT w u s)
  (hown : w'.ownsRow B 59 2 v' (l.length + 1) (clC l vs ++ [.int .i64 p, u])) (hg : w.grownBy w' v.ownBlock) : ClOwn B w' v' (l ++ [(p, s)]) (vs ++ [u]) := by
 have hk : KeepTy [59] w w' := KeepTy.grown h.own hg (by decide)
 refine ⟨by simp [h.len], by rw [List.length_append, List.length_singleton, clC_snoc l vs (p, s) u h.len]; exact hown, fun i hi => ?_⟩
 rw [List.length_append, List.length_singleton] at hi
 by_cases e : i < l.length
 ·
  have h1 : (vs ++ [u])[i]! = vs[i]! := by rw [getElem!_pos _ i (by simp [h.len]; omega), getElem!_pos vs i (by rw [h.len]; omega), List.getElem_append_left]
  have h2 : (l ++ [(p, s)])[i]! = l[i]! := by rw [getElem!_pos _ i (by simp; omega), getElem!_pos l i e, List.getElem_append_left]
  rw [h1, h2]
  exact (h.steps i e).keepTy (by decide) hk
 ·
  obtain rfl : i = l.length := by omega
  have h1 : (vs ++ [u])[l.length]! = u := by rw [getElem!_pos _ _ (by simp [h.len]), List.getElem_append_right (by rw [h.len]; exact Nat.le_refl _)]; simp [h.len]
  have h2 : (l ++ [(p, s)])[l.length]! = (p, s) := by rw [getElem!_pos _ _ (by simp), List.getElem_append_right (Nat.le_refl _)]; simp
  rw [h1, h2]
  exact hu.keepTy (by decide) hk
def errM (b : Bool) : Int := if b then 0 else 90
set_option maxRecDepth 100000 in
set_option maxHeartbeats 4000000 in
theorem Claims_any (m : Mig) (v : Value) (w : World) (hm : MigIn m) (hv : ClaimsAt w w.heap.size v m.keep) :
  Calls Tryz.prog 31 #[.agg #[.int .i64 m.id, .int .i64 m.frm, .int .i64 m.to, .bool m.back, v]] w fun e w' => ∃ v', e = .returned (.tuple #[v', .int .i64 (errM (validM m))]) ∧ ClaimsT 59 w' v' (if validM m then claimsM m else []) ∧ Below w.heap.size w w' := by
 obtain ⟨i0, hi, hz0, hz1, hz2⟩ := info_parts Tryz.info_claim
 obtain ⟨W, hW⟩ : ∃ W, W = w.alloc (.cells #[.int .i64 m.id, .int .i64 m.frm, .int .i64 m.to, .bool m.back, v] 28) := ⟨_, rfl⟩
 have hA : Arr W w.heap.size 28 [.int .i64 m.id, .int .i64 m.frm, .int .i64 m.to, .bool m.back, v] := by rw [hW]; exact Arr.new rfl rfl
 have hbW : Below w.heap.size w W := by rw [hW]; exact (Below.refl _ _).alloc (Nat.le_refl _) _
 have hva := Lib.hid (mValid_any m v W hm (hv.later hbW))
 unfold migV at hva
 have hcl := fun (h : validM m = true) => Lib.hid fun q w1 (hb : Below w.heap.size w w1) => claim_any m q v w1 (valid_few h).1 (by have := (valid_few h).2; omega) (hv.later hb)
 have hcm := Lib.hid fun i (hi : i < 8) => claimsM_at m hi
 have hcn := Lib.hid (claimsM_len m)
 obtain ⟨vs, _, ⟨a, c, rfl, _, _, _⟩, _⟩ := hv
 generalize hLL : claimsM m = LL at *
 generalize hCl : claimM m = Cl at *
 cases hvl : validM m with
 | false =>
  rw [hvl] at hva
  obtain ⟨id, frm, to, back, l⟩ := m
  dsimp only at hA hW hva ⊢
  have c0 := hA.cell (j := 0) rfl
  have c1 := hA.cell (j := 1) rfl
  have c2 := hA.cell (j := 2) rfl
  have c3 := hA.cell (j := 3) rfl
  have c4 := hA.cell (j := 4) rfl
  clear hA hcl hcm hcn
  replace hbW := Lib.hid hbW
  go_enter Tryz.func31, Tryz.ntmps31
  go_wp2_with (rw [← hW])
  refine hva.out.mono ?_
  rintro e w1 ⟨rfl, hb1⟩
  go_wp2_with fail
  go_ret2
  exact ⟨_, rfl, ⟨[], rfl, ⟨_, _, rfl, Nat.le_refl _, Nat.zero_le _, fun h => absurd h (Nat.lt_irrefl 0)⟩, fun i hi => absurd hi (Nat.not_lt_zero _)⟩, hbW.out.trans (hb1.mono hbW.out.size)⟩
 | true =>
  rw [hvl] at hva
  replace hcl := hcl hvl
  obtain ⟨id, frm, to, back, l⟩ := m
  dsimp only at hA hW hva hcl ⊢
  have c0 := hA.cell (j := 0) rfl
  have c1 := hA.cell (j := 1) rfl
  have c2 := hA.cell (j := 2) rfl
  have c3 := hA.cell (j := 3) rfl
  have c4 := hA.cell (j := 4) rfl
  go_enter Tryz.func31, Tryz.ntmps31
  go_wp2_with (rw [← hW])
  refine hva.out.mono ?_
  rintro e w1 ⟨rfl, hb1⟩
  have hA1 := hA.below hb1
  have hbw1 := hbW.trans (hb1.mono hbW.size)
  replace hA1 := Lib.hid hA1
  replace hbw1 := Lib.hid hbw1
  clear hA hbW hb1 hva c0 c1 c2 c3 c4 hW
  go_wp2_with fail
  go_loopw [4, 9] (fun ov iv wr => ∃ i : Nat, i ≤ 8 ∧ iv = .int .i64 (i : Int) ∧ Hid (Below w.heap.size w wr ∧ Arr wr w.heap.size 28 [.int .i64 id, .int .i64 frm, .int .i64 to, .bool back, .slice a l.length c] ∧ ∃ us, ClOwn (w.heap.size + 1) wr ov (LL.take i) us)) (fun _ iv _ => 8 - (intOf iv).toNat)
  case atStart => exact ⟨0, by omega, rfl, (show Hid _ from ⟨hbw1.out, hA1.out, [], ⟨rfl, World.ownsRow_nil _ _ _ _, fun i hi => absurd hi (by simp)⟩⟩)⟩
  case round =>
   obtain ⟨i, hi8, rfl, hall⟩ := hrel
   obtain ⟨hbr, hAr, us, hO⟩ := hall.out
   clear hall hA1 hbw1
   by_cases hlt : i < 8
   ·
    have c0 := hAr.cell (j := 0) rfl
    have c1 := hAr.cell (j := 1) rfl
    have c2 := hAr.cell (j := 2) rfl
    have c3 := hAr.cell (j := 3) rfl
    have c4 := hAr.cell (j := 4) rfl
    have hcall := Lib.hid (hcl.out ((i : Int) + 1) wr hbr)
    have hLi := hcm.out i hlt
    have htk : LL.take (i + 1) = LL.take i ++ [((i : Int) + 1, Cl ((i : Int) + 1))] := by
     have hl8 := hcn.out
     rw [List.take_succ_eq_append_getElem (by omega), ← getElem!_pos LL i (by omega), hLi]
    have hlen : (LL.take i).length = i := by rw [List.length_take, hcn.out]; omega
    have k0 : (0 : Int) ≤ (i : Int) := by omega
    have k1 : (i : Int) < 8 := by omega
    have hw1 : IntKind.i64.wrap ((i : Int) + 1) = (i : Int) + 1 := IntWalk.i64_in _ (by omega)
    go_wp2_with fail
    refine hcall.out.mono ?_
    rintro e w2 ⟨u, rfl, hu, hb2⟩
    have hO2 := hO.below hb2
    have hA2 := hAr.below hb2
    have hb12 := hbr.trans (hb2.mono hbr.size)
    obtain ⟨ua, uc, rfl, _, _, _⟩ := _root_.id hu
    have hbA : Below w2.heap.size w2 (w2.alloc (.cells #[.int .i64 ((i : Int) + 1), .slice ua (Cl ((i : Int) + 1)).length uc] 59)) := (Below.refl _ _).alloc (Nat.le_refl _) _
    have hO3 := hO2.below hbA
    have hu3 := hu.below hbA
    have hA3 := hA2.below hbA
    have hb13 := hb12.trans (hbA.mono hb12.size)
    have hown3 := Lib.hid hO3.own
    rw [hlen] at hown3
    have hnews : ∀ j x, [Value.int .i64 ((i : Int) + 1), .slice ua (Cl ((i : Int) + 1)).length uc][j]? = some x → (w2.alloc (.cells #[.int .i64 ((i : Int) + 1), .slice ua (Cl ((i : Int) + 1)).length uc] 59)).cell? ((⟨w2.heap.size, 0, none⟩ : Addr).add j) = some x := fun j x hx => cells_new w2 [.int .i64 ((i : Int) + 1), .slice ua (Cl ((i : Int) + 1)).length uc] 59 j x hx
    have hsz2 := hb12.size
    have hltA := hAr.lt
    have hltr := hbr.size
    have hst : Hid (w.heap.size + 1 ≤ w2.heap.size) := by show _ ≤ _; have := hb2.size; omega
    clear hO hO2 hAr c0 c1 c2 c3 c4 hbr hb2 hA2 hu
    go_wp2_with (at_builtin; refine wpList_append_own _ rfl _ _ 31 rfl (w.heap.size + 1) 59 i0 (.agg #[.int .i64 0, .slice none 0 0]) 2 32 Tryz.underlying31 hi hz0 hz1 hz2 rfl (by decide) _ i _ rfl hown3.out ⟨w2.heap.size, 0, none⟩ 1 1 [.int .i64 ((i : Int) + 1), .slice ua (Cl ((i : Int) + 1)).length uc] rfl rfl hnews (by simp [Value.oneCell']) ?qa ?qb ?qc ?_)
    case qa => unfold maxLen; omega
    case qb => omega
    case qc => have := hst.out; simp only [World.size_alloc]; omega
    intro v' w3 hown4 hgrow hnil
    have hOn := hO3.snoc ((i : Int) + 1) (Cl ((i : Int) + 1)) _ hu3 (by rw [hlen]; exact hown4) hgrow
    rw [← htk] at hOn
    have hneA : ∀ g, Value.ownBlock _ = some g → g ≠ w.heap.size := fun g hg e => by have := (own_block hO3.own hg).2.1; omega
    have hA4 : Arr w3 w.heap.size 28 [.int .i64 id, .int .i64 frm, .int .i64 to, .bool back, .slice a l.length c] := (hgrow.block _ hA3.lt (fun e => hneA _ e.symm rfl)).trans hA3
    have hb4 : Below w.heap.size w w3 := hb13.grown hgrow hb13.size (fun g hg => by have := (own_block hO3.own hg).2.1; omega)
    have hkk : Hid (Below w.heap.size w w3 ∧ Arr w3 w.heap.size 28 [.int .i64 id, .int .i64 frm, .int .i64 to, .bool back, .slice a l.length c] ∧ ∃ us, ClOwn (w.heap.size + 1) w3 v' (LL.take (i + 1)) us) := ⟨hb4, hA4, _, hOn⟩
    clear hgrow hown4 hnil hown3 hO3 hnews
    go_wp2_with fail
    exact ⟨⟨i + 1, by omega, by first | rfl | go_num, hkk⟩, by simp [intOf]; omega⟩
   ·
    obtain rfl : i = 8 := by omega
    have hall8 : LL.take 8 = LL := List.take_of_length_le (by have := hcn.out; omega)
    rw [hall8] at hO
    have hno : decide (((8 : Nat) : Int) < 8) = false := by decide
    go_wp2_with fail
    go_ret2
    exact ⟨_, rfl, hO.claims, hbr⟩
end Go.Proofs.YtpeandbcdaikbaaGreatDoor
