/-
  MachineSafe: the walk. (Printed by genmo4.py.)
-/
import Derived.Test.YtainohbfcehpoaaDoorMp2
import Derived.Deep.RegionHeld3
namespace Go.Proofs.YtainohbfcehpoaaDoor
open Go.RowKit Go.Shelf


/-- The outer loop. -/
theorem out_loop {made chg r2 inp : List UInt8} {P : ByteArray} {w W : World} {g : Nat} (hE : EnvR w) (hBW : Below w.heap.size w W) (hA : Arr W g 9 [.string (str made), .string (str chg), .string (str r2)]) (hl1 : made.length ≤ 761) (hl2 : chg.length ≤ 761) (hl3 : r2.length ≤ 60) (hil : inp.length ≤ 30)
    (hmade : ∃ l, formed made = some l ∧ Good l) (hP : P = str inp) {a : Act} (hd : a.defers = []) (hn : a.tmps.size = 363) (hx : OutCtx made P g (slotOf a)) (h53 : slotOf a 53 = .int .i64 0) (Q : Exit → Act → World → Prop) (hQ : ∀ u' W', keep1.map u' = keep1.map (slotOf a) → Below W.heap.size W W' → Q (.exit 0) (frameOf 363 u') W') : (Code.loop body1).wp Tryd.prog Q a W := by
  refine wp_loop_frame 363 keep1 (OutR W) 3 hd hn ⟨0, rfl, h53, Below.refl _ _⟩ ?_
  intro k u w' hR hk J K hJ hK
  refine out_round hE hBW hA hl1 hl2 hl3 hil hmade hP k (hx.keep hk) hR J K (fun _ W' => Below W.heap.size W W') Q hJ hK (fun _ _ h => h) ?_
  rintro a' W' ⟨h1, h2, h3, h4⟩
  rw [act_frame h1 h2]
  exact hQ _ _ (h3.trans hk) h4
set_option maxRecDepth 100000 in
set_option maxHeartbeats 8000000 in
theorem Safe_walk (raw : List UInt8) (v : Value) (n : Nat) (zs : List Int) (at_ : Int) (c : Nat) (input : List UInt8) (w : World) (hr : raw.length ≤ 9223372036854775807) (hs : SliceAt w w.heap.size v n (zs.map (Value.int .i64))) (hz : zs.length = n * 2) (hI : ∀ z ∈ zs, I64 z) (ha : I64 at_) (_ : c < 256) (hin : input.length ≤ 9223372036854775807) (hE : EnvR w) :
    Calls Tryd.prog 5 #[.string (str raw), v, .int .i64 at_, .int .u8 (c : Int), .string (str input)] w fun e w' => e = .returned (.bool true) ∧ Below w.heap.size w w' := by
  have hsn := Lib.hid (sane_any w hE.env)
  have hmd := fun W (hb : Below w.heap.size w W) => Lib.hid (Made_any v n zs W (hs.later hb) hz hI (hE.below hb))
  obtain ⟨⟨ml, hmf, hmg⟩, hml⟩ := made_facts zs
  generalize madeB 0 0 (prs40 zs) = made at *
  have hcl := changedB_len made at_ c
  have hch := fun W => Lib.hid (changed_any made at_ c W (by omega) ha)
  have hex := extract_take raw
  have hps := str_size raw
  have hmn : (min (raw.length : Int) 60).toNat = min raw.length 60 := by omega
  have hm1 : (0 : Int) ≤ min (raw.length : Int) 60 := by omega
  have hm2 : min (raw.length : Int) 60 ≤ (raw.length : Int) := by omega
  have hexm := hex (min raw.length 60)
  have hrl : (raw.take (min raw.length 60)).length ≤ 60 := by rw [List.length_take]; omega
  have hexi := extract_take input
  have hpsi := str_size input
  have hmni : (min (input.length : Int) 30).toNat = min input.length 30 := by omega
  have hmi1 : (0 : Int) ≤ min (input.length : Int) 30 := by omega
  have hmi2 : min (input.length : Int) 30 ≤ (input.length : Int) := by omega
  have hexim := hexi (min input.length 30)
  have hil : (input.take (min input.length 30)).length ≤ 30 := by rw [List.length_take]; omega
  generalize raw.take (min raw.length 60) = r2 at *
  generalize input.take (min input.length 30) = inp at *
  generalize changedB made at_ c = chg at *
  obtain ⟨P, hP⟩ : ∃ P, P = str inp := ⟨_, rfl⟩
  rw [← hP] at hexim
  replace hP := Lib.hid hP
  clear hex hexi
  go_enter Tryd.func5, Tryd.ntmps5
  go_wp2_with fail
  refine hsn.out.mono ?_
  rintro e w1 ⟨rfl, hb1⟩
  go_wp2_with fail
  refine (hmd w1 hb1).out.mono ?_
  rintro e w2 ⟨rfl, hb2⟩
  have hB2 := hb1.trans (hb2.mono hb1.size)
  clear hsn hmd
  go_wp2_with fail
  refine wp_region_held_drew (S := fun w' => True) (by kernel_rfl) (by trivial) (fun hHeld => ?_)
  refine take_l (i := 0) (v := ?_) rfl (by kernel_rfl) (by kernel_rfl) (by kernel_rfl) (fun _ _ _ h => h) (Or.inl ⟨by kernel_rfl, ?_⟩) (by assumption) ?_
  rotate_left
  · intro w hSw; (try dsimp only at hSw); go_simp; (try with_reducible rfl)
  (try simp only [Act.put, List.setIfInBounds_toArray, List.set_cons_zero, List.set_cons_succ])
  refine take_l (i := 1) (v := ?_) rfl (by kernel_rfl) (by kernel_rfl) (by kernel_rfl) (fun _ _ _ h => h) (Or.inl ⟨by kernel_rfl, ?_⟩) (by assumption) ?_
  rotate_left
  · intro w hSw; (try dsimp only at hSw); go_simp; (try with_reducible rfl)
  (try simp only [Act.put, List.setIfInBounds_toArray, List.set_cons_zero, List.set_cons_succ])
  refine take_l (i := 2) (v := ?_) rfl (by kernel_rfl) (by kernel_rfl) (by kernel_rfl) (fun _ _ _ h => h) (Or.inl ⟨by kernel_rfl, ?_⟩) (by assumption) ?_
  rotate_left
  · intro w hSw; (try dsimp only at hSw); go_simp; (try with_reducible rfl)
  (try simp only [Act.put, List.setIfInBounds_toArray, List.set_cons_zero, List.set_cons_succ])
  refine take_l (i := 3) (v := ?_) rfl (by kernel_rfl) (by kernel_rfl) (by kernel_rfl) (fun _ _ _ h => h) (Or.inl ⟨by kernel_rfl, ?_⟩) (by assumption) ?_
  rotate_left
  · intro w hSw; (try dsimp only at hSw); go_simp; (try with_reducible rfl)
  (try simp only [Act.put, List.setIfInBounds_toArray, List.set_cons_zero, List.set_cons_succ])
  refine take_l (i := 5) (v := ?_) rfl (by kernel_rfl) (by kernel_rfl) (by kernel_rfl) (fun _ _ _ h => h) (Or.inl ⟨by kernel_rfl, ?_⟩) (by assumption) ?_
  rotate_left
  · intro w hSw; (try dsimp only at hSw); go_simp; (try with_reducible rfl)
  (try simp only [Act.put, List.setIfInBounds_toArray, List.set_cons_zero, List.set_cons_succ])
  refine take_l (i := 6) (v := ?_) rfl (by kernel_rfl) (by kernel_rfl) (by kernel_rfl) (fun _ _ _ h => h) (Or.inl ⟨by kernel_rfl, ?_⟩) (by assumption) ?_
  rotate_left
  · intro w hSw; (try dsimp only at hSw); go_simp; (try with_reducible rfl)
  (try simp only [Act.put, List.setIfInBounds_toArray, List.set_cons_zero, List.set_cons_succ])
  refine take_l (i := 7) (v := ?_) rfl (by kernel_rfl) (by kernel_rfl) (by kernel_rfl) (fun _ _ _ h => h) (Or.inl ⟨by kernel_rfl, ?_⟩) (by assumption) ?_
  rotate_left
  · intro w hSw; (try dsimp only at hSw); go_simp; (try with_reducible rfl)
  (try simp only [Act.put, List.setIfInBounds_toArray, List.set_cons_zero, List.set_cons_succ])
  refine take_l (i := 8) (v := ?_) rfl (by kernel_rfl) (by kernel_rfl) (by kernel_rfl) (fun _ _ _ h => h) (Or.inl ⟨by kernel_rfl, ?_⟩) (by assumption) ?_
  rotate_left
  · intro w hSw; (try dsimp only at hSw); go_simp; (try with_reducible rfl)
  (try simp only [Act.put, List.setIfInBounds_toArray, List.set_cons_zero, List.set_cons_succ])
  refine take_l (i := 9) (v := ?_) rfl (by kernel_rfl) (by kernel_rfl) (by kernel_rfl) (fun _ _ _ h => h) (Or.inl ⟨by kernel_rfl, ?_⟩) (by assumption) ?_
  rotate_left
  · intro w hSw; (try dsimp only at hSw); go_simp; (try with_reducible rfl)
  (try simp only [Act.put, List.setIfInBounds_toArray, List.set_cons_zero, List.set_cons_succ])
  refine take_l (i := 12) (v := ?_) rfl (by kernel_rfl) (by kernel_rfl) (by kernel_rfl) (fun _ _ _ h => h) (Or.inl ⟨by kernel_rfl, ?_⟩) (by assumption) ?_
  rotate_left
  · intro w hSw; (try dsimp only at hSw); go_simp; (try with_reducible rfl)
  (try simp only [Act.put, List.setIfInBounds_toArray, List.set_cons_zero, List.set_cons_succ])
  refine wpAnyH_ready (rs := [4]) (by kernel_rfl) (by simp) ?_
  refine ready_l rfl (fun K hK => ?_) AllReadyH.nil
  go_simp
  (go_at_call 13; (with_reducible refine ((hch _).out).mono ?_); rintro e vA ⟨rfl, hbvA⟩; have hBvA : Below w2.heap.size w2 vA := Below.trans (by repeat first | with_reducible exact Below.refl _ _ | with_reducible assumption | with_reducible refine below_drewN ?_ _ | with_reducible refine Below.drew ?_ | with_reducible refine Below.setCell ?_ (by first | exact Nat.le_refl _ | (simp; done) | (simp; omega) | omega) _ | with_reducible refine Below.alloc ?_ (by first | exact Nat.le_refl _ | (simp; done) | (simp; omega) | omega) _ | exact Below.refl _ _ | assumption) (hbvA.mono (by first | exact Nat.le_refl _ | assumption | (simp; done) | (simp; omega) | omega)); have hzvA := hbvA.size; )
  refine hK.out _ _ (by trivial) (fun hHeld => ?_)
  clear hK K
  (try simp only [Act.put, List.setIfInBounds_toArray, List.set_cons_zero, List.set_cons_succ])
  refine wpAnyH_ready (rs := [10]) (by kernel_rfl) (by simp) ?_
  refine ready_l rfl (fun K hK => ?_) AllReadyH.nil
  go_simp
  refine hK.out _ _ (by trivial) (fun hHeld => ?_)
  clear hK K
  (try simp only [Act.put, List.setIfInBounds_toArray, List.set_cons_zero, List.set_cons_succ])
  refine take_l (i := 11) (v := ?_) rfl (by kernel_rfl) (by kernel_rfl) (by kernel_rfl) (fun _ _ _ h => h) (Or.inl ⟨by kernel_rfl, ?_⟩) (by assumption) ?_
  rotate_left
  · intro w hSw; (try dsimp only at hSw); go_simp; (try with_reducible rfl)
  (try simp only [Act.put, List.setIfInBounds_toArray, List.set_cons_zero, List.set_cons_succ])
  refine wpAnyH_done (by kernel_rfl) ?_ _
  have hBA : Below w.heap.size w vA := hB2.trans (hBvA.mono hB2.size)
  obtain ⟨g, hg⟩ : ∃ g, g = vA.heap.size := ⟨_, rfl⟩
  obtain ⟨W, hW⟩ : ∃ W, W = vA.alloc (Obj.cells #[Value.string (str made), Value.string (str chg), Value.string (str r2)] 9) := ⟨_, rfl⟩
  have hA : Arr W g 9 [.string (str made), .string (str chg), .string (str r2)] := by rw [hW, hg]; exact Arr.new rfl rfl
  have hBW : Below w.heap.size w W := by rw [hW]; exact hBA.alloc hBA.size _
  rw [← hW, ← hg]
  clear hW hg hBA hBvA hbvA hB2 hb2 hb1 hch
  have hgW := hA.lt
  go_wp2_with fail
  refine out_loop hE hBW hA hml (by omega) hrl hil ⟨ml, hmf, hmg⟩ hP.out rfl rfl (by exact ⟨rfl, rfl, rfl, rfl, rfl⟩) rfl _ ?_
  intro u' W6 hk hB6
  have hBT := hBW.trans (hB6.mono hBW.size)
  rw [inBlock_same]
  have r11 : u' 11 = .bool true := keep_at hk (by decide)
  clear hk
  rw [frame363, r11]
  clear r11
  dsimp only [Exit.then]
  go_step
  go_wp2_with fail
  go_ret
  exact ⟨rfl, hBT⟩
end Go.Proofs.YtainohbfcehpoaaDoor
