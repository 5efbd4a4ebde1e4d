/-
  The law ComputerShows returns true.
-/
import Derived.Test.YtkgbknjpnhoadaaGreatDoorCrB
namespace Go.Proofs.YtkgbknjpnhoadaaGreatDoor
open Go.RowKit Go.Shelf

theorem last_lt (kind : Int) (empty : Nat) (of : Int → Nat) (at_ : Nat) (l : List Ev) (he : empty < 256) (hof : ∀ b, of b < 256) : lastAt kind empty of at_ l < 256 := by
  unfold lastAt
  have : ∀ (l : List Ev) (s : Nat), s < 256 → l.foldl (fun (s : Nat) (e : Ev) => if e.a = ((at_ : Nat) : Int) ∧ e.k = kind then of e.b else s) s < 256 := by
    intro l
    induction l with
    | nil => exact fun s h => h
    | cons e l ih =>
      intro s h
      rw [List.foldl_cons]
      refine ih _ ?_
      split
      · exact hof _
      · exact h
  exact this l empty he
theorem shows_cases (x : Ev) (at_ s0 p0 : Nat) :
    (x.a ≠ at_ ∧ (x.a == (at_ : Int)) = false ∧ (if x.a = (at_ : Int) ∧ x.k = 1 then ofS x.b else s0) = s0 ∧ (if x.a = (at_ : Int) ∧ x.k = 2 then ofP x.b else p0) = p0) ∨
    (x.a = at_ ∧ (x.a == (at_ : Int)) = true ∧ (x.k == 1) = true ∧ (x.k == 2) = false ∧ x.k = 1 ∧ (((if x.a = (at_ : Int) ∧ x.k = 1 then ofS x.b else s0) : Nat) : Int) = x.b % 256 ∧ (if x.a = (at_ : Int) ∧ x.k = 2 then ofP x.b else p0) = p0) ∨
    (x.a = at_ ∧ (x.a == (at_ : Int)) = true ∧ (x.k == 1) = false ∧ (x.k == 2) = true ∧ x.k = 2 ∧ (if x.a = (at_ : Int) ∧ x.k = 1 then ofS x.b else s0) = s0 ∧ bits .and .i64 x.b 1 = 0 ∧ (if x.a = (at_ : Int) ∧ x.k = 2 then ofP x.b else p0) = 48) ∨
    (x.a = at_ ∧ (x.a == (at_ : Int)) = true ∧ (x.k == 1) = false ∧ (x.k == 2) = true ∧ x.k = 2 ∧ (if x.a = (at_ : Int) ∧ x.k = 1 then ofS x.b else s0) = s0 ∧ bits .and .i64 x.b 1 = 1 ∧ (if x.a = (at_ : Int) ∧ x.k = 2 then ofP x.b else p0) = 49) ∨
    (x.a = at_ ∧ (x.a == (at_ : Int)) = true ∧ (x.k == 1) = false ∧ (x.k == 2) = false ∧ x.k ≠ 1 ∧ x.k ≠ 2 ∧ (if x.a = (at_ : Int) ∧ x.k = 1 then ofS x.b else s0) = s0 ∧ (if x.a = (at_ : Int) ∧ x.k = 2 then ofP x.b else p0) = p0) := by
  by_cases ha : x.a = at_
  · have ha' : (x.a == (at_ : Int)) = true := by simpa using ha
    by_cases h1 : x.k = 1
    · refine .inr (.inl ⟨ha, ha', by simp [h1], by simp [h1], h1, ?_, by simp [h1]⟩)
      rw [if_pos ⟨ha, h1⟩]
      unfold ofS; omega
    · by_cases h2 : x.k = 2
      · have e1 : (if x.a = (at_ : Int) ∧ x.k = 1 then ofS x.b else s0) = s0 := if_neg (fun c => h1 c.2)
        have e2 : (if x.a = (at_ : Int) ∧ x.k = 2 then ofP x.b else p0) = ofP x.b := if_pos ⟨ha, h2⟩
        rw [e1, e2, i64_and1]
        rcases (show x.b % 2 = 0 ∨ x.b % 2 = 1 by omega) with h | h
        · exact .inr (.inr (.inl ⟨ha, ha', by simpa using h1, by simpa using h2, h2, rfl, h, by simp [ofP, h]⟩))
        · exact .inr (.inr (.inr (.inl ⟨ha, ha', by simpa using h1, by simpa using h2, h2, rfl, h, by simp [ofP, h]⟩)))
      · exact .inr (.inr (.inr (.inr ⟨ha, ha', by simpa using h1, by simpa using h2, h1, h2, if_neg (fun c => h1 c.2), if_neg (fun c => h2 c.2)⟩)))
  · exact .inl ⟨ha, by simpa using ha, if_neg (fun c => ha c.1), if_neg (fun c => ha c.1)⟩
theorem str_get (l : List UInt8) (j : Nat) (h : j < (str l).size) : (str l)[j] = l[j]'(by rw [str_size] at h; exact h) := by
  show (str l).data[j]'_ = _
  simp [str]
theorem screen_get (l : List Ev) (j : Nat) (h : j < (str (bytesOf (screenL l))).size) : (((str (bytesOf (screenL l)))[j].toNat : Nat) : Int) = (lastAt 1 32 ofS j l : Nat) := by
  have hj : j < (screenL l).length := by rw [str_size] at h; simpa [bytesOf] using h
  have h8 : j < 80 := by rw [screenL, shownL_len] at hj; exact hj
  rw [str_get]
  have e : (bytesOf (screenL l))[j]'(by simpa [bytesOf] using hj) = UInt8.ofNat ((screenL l)[j]) := List.getElem_map _
  have e2 : (screenL l)[j] = lastAt 1 32 ofS j l := by
    rw [← shownL_at 1 32 80 ofS j h8 l, List.getD_eq_getElem?_getD]
    show _ = ((screenL l)[j]?).getD 0
    rw [List.getElem?_eq_getElem hj]
    rfl
  rw [e, e2, UInt8.toNat_ofNat', Nat.mod_eq_of_lt (last_lt 1 32 ofS j l (by decide) ofS_lt)]
theorem bitmap_get (l : List Ev) (j : Nat) (h : j < (str (bytesOf (bitmapL l))).size) : (((str (bytesOf (bitmapL l)))[j].toNat : Nat) : Int) = (lastAt 2 48 ofP j l : Nat) := by
  have hj : j < (bitmapL l).length := by rw [str_size] at h; simpa [bytesOf] using h
  have h8 : j < 256 := by rw [bitmapL, shownL_len] at hj; exact hj
  rw [str_get]
  have e : (bytesOf (bitmapL l))[j]'(by simpa [bytesOf] using hj) = UInt8.ofNat ((bitmapL l)[j]) := List.getElem_map _
  have e2 : (bitmapL l)[j] = lastAt 2 48 ofP j l := by
    rw [← shownL_at 2 48 256 ofP j h8 l, List.getD_eq_getElem?_getD]
    show _ = ((bitmapL l)[j]?).getD 0
    rw [List.getElem?_eq_getElem hj]
    rfl
  rw [e, e2, UInt8.toNat_ofNat', Nat.mod_eq_of_lt (last_lt 2 48 ofP j l (by decide) ofP_lt)]
def ShI (w wr : World) (l : List Ev) (v : Value) : Prop := Below w.heap.size w wr ∧ wr.ownsRow w.heap.size 39 4 v l.length (evCells l)

set_option maxRecDepth 100000 in
set_option maxHeartbeats 4000000 in
theorem Shows_walk (rv : Value) (l0 : List Ev) (xv : Value) (m : Nat) (zx : List Int) (w : World) (hr : SliceAt w w.heap.size rv l0.length (evCells l0)) (hx : SliceAt w w.heap.size xv m (zx.map (Value.int .i64))) (hxl : zx.length = m * 3) (hzx : ∀ z ∈ zx, I64 z) (hE : Env w) :
    Calls Tryz.prog 9 #[rv, xv] w fun e w' => e = .returned (.bool true) ∧ Below w.heap.size w w' := by
  have hS := Lib.hid (sane_any w hE)
  obtain ⟨ra, rc, rfl, hr1, hr2, _⟩ := id hr
  obtain ⟨xa, xc, rfl, hx1, hx2, hxc⟩ := rowCells hx hxl hzx
  unfold maxLen at hr2 hx2
  have hmin : min (l0.length : Int) 60 = ((min l0.length 60 : Nat) : Int) := by omega
  obtain ⟨p, hp⟩ : ∃ p, p = min l0.length 60 := ⟨_, rfl⟩
  rw [← hp] at hmin
  have hpl : p ≤ l0.length := by omega
  have hp60 : p ≤ 60 := by omega
  have i1 : (0 : Int) ≤ (p : Int) := by omega
  have i2 : (p : Int) ≤ (rc : Int) := by omega
  have htl : (l0.take p).length = p := by simp; omega
  replace hp := Lib.hid hp
  replace hxc := Lib.hid hxc
  clear hx hxl hzx
  go_enter Tryz.func9, Tryz.ntmps9
  go_wp2_with fail
  refine hS.out.mono ?_
  rintro e w1 ⟨rfl, hb1⟩
  have hr' := (sliceAt_take (hr.later hb1) p hpl)
  have hown : (w1.alloc (.cells #[] 39)).ownsRow w.heap.size 39 4 (.slice (some ⟨w1.heap.size, 0, none⟩) 0 0) 0 [] :=
    ⟨rfl, .inr ⟨w1.heap.size, 0, #[], rfl, hb1.size, World.alloc_heap_new w1 _, Nat.le_refl _, by unfold maxLen; omega, rfl, rfl⟩⟩
  have hr2' := hr'.below ((Below.refl w1.heap.size w1).alloc (Nat.le_refl _) (.cells #[] 39)) (Nat.le_refl _)
  obtain ⟨v2, w2, hrun, ho2, hg2, hv2⟩ := append_ev (w1.alloc (.cells #[] 39)) w.heap.size (.slice (some ⟨w1.heap.size, 0, none⟩) 0 0) [] (l0.take p) (.slice ra p rc) hown (by simp) w1.heap.size hr2' (by rw [htl]; simp; omega) (by have := hb1.size; simp; omega)
  rw [List.nil_append] at ho2
  have hb2 : Below w.heap.size w w2 := (hb1.alloc hb1.size _).grown hg2 (by have := hb1.size; simp; omega) (fun j e => (hown.lt j e).1)
  replace hrun := Lib.hid hrun
  clear hr hr' hr2' hown hb1 hg2 hS
  go_wp2_with (at_builtin; go_loud (refine wpList_append_known rfl _ _ _ _ rfl _ _ rfl rfl hrun.out ?_))
  clear hrun
  go_loopw [7, 6] (fun i v wr => ∃ (k : Nat) (l : List Ev), k ≤ m ∧ k ≤ 60 ∧ i = .int .i64 k ∧ l.length ≤ 60 + k ∧ v ≠ .slice none 0 0 ∧ Hid (ShI w wr l v)) (fun i _ _ => m - (intOf i).toNat)
  case atStart => exact ⟨0, l0.take p, Nat.zero_le _, Nat.zero_le _, rfl, by omega, hv2, (show ShI _ _ _ _ from ⟨hb2, ho2⟩)⟩
  case round =>
    obtain ⟨k, l, hk, hk60, rfl, hll, hvn, hI⟩ := hrel
    obtain ⟨ao, vc, rfl⟩ := own_val hI.out.2
    clear hb2 ho2 hv2
    by_cases hlt : k < m ∧ k < 60
    · obtain ⟨hlt, hlt2⟩ := hlt
      have hd : decide ((k : Int) < (m : Int)) = true := by simpa using hlt
      have hd2 : decide ((k : Int) < 60) = true := by simp; omega
      obtain ⟨b, o, rfl, hb, hI64, hcell⟩ := hxc.out k hlt
      have hbw := hI.out.1.block b hb
      have g0 : I64 (zx.getD (k * 3) 0) := hI64 0 (by omega)
      have g1 : I64 (zx.getD (k * 3 + 1) 0) := hI64 1 (by omega)
      have hcw : ∀ W : World, W.heap[b]? = w.heap[b]? → W.cell? ⟨b, o + k * 3, none⟩ = some (.int .i64 (zx.getD (k * 3) 0)) ∧ W.cell? ⟨b, o + k * 3 + 1, none⟩ = some (.int .i64 (zx.getD (k * 3 + 1) 0)) ∧ W.cell? ⟨b, o + k * 3 + 2, none⟩ = some (.int .i64 (zx.getD (k * 3 + 2) 0)) := fun W hW => ⟨hcell W hW 0 (by omega), hcell W hW 1 (by omega), hcell W hW 2 (by omega)⟩
      generalize zx.getD (k * 3) 0 = x0 at *
      generalize zx.getD (k * 3 + 1) 0 = x1 at *
      generalize zx.getD (k * 3 + 2) 0 = x2 at *
      have hP0 : ∀ W : World, Calls Tryz.prog 16 #[.int .i64 x0, .int .i64 3] W fun e w' => e = .returned (.int .i64 (pickv x0 3 : Nat)) ∧ Below W.heap.size W w' := fun W => pick_b x0 3 W g0 (by omega) (by omega)
      have hP1 : ∀ W : World, Calls Tryz.prog 16 #[.int .i64 x1, .int .i64 260] W fun e w' => e = .returned (.int .i64 (pickv x1 260 : Nat)) ∧ Below W.heap.size W w' := fun W => pick_b x1 260 W g1 (by omega) (by omega)
      have hd0 := pickv_lt x0 3 (by omega)
      have hd1 := pickv_lt x1 260 (by omega)
      generalize pickv x0 3 = d at *
      generalize pickv x1 260 = q at *
      have hadd : IntKind.i64.wrap (1 + (d : Int)) = 1 + (d : Int) := IntWalk.i64_in _ (by omega)
      have hsub : IntKind.i64.wrap ((q : Int) - 2) = (q : Int) - 2 := IntWalk.i64_in _ (by omega)
      obtain ⟨l00, l01, l02⟩ := hcw wr hbw
      have hBw := hI.out.1
      have hor := hI.out.2
      replace hP0 := Lib.hid hP0
      replace hP1 := Lib.hid hP1
      replace hcw := Lib.hid hcw
      replace hor := Lib.hid hor
      have j1 : (0 : Int) ≤ (k : Int) := by omega
      have j2 : (k : Int) < (m : Int) := by omega
      have hbs : b < wr.heap.size := Nat.lt_of_lt_of_le hb hBw.size
      clear hxc hcell hI64 hI
      go_wp2_with fail
      have hsz : w.heap.size ≤ wr.drew.heap.size := hBw.size
      refine wp_region_held_drew (S := fun w' => w'.cell? ⟨b, o + k * 3, none⟩ = some (.int .i64 x0) ∧ w'.cell? ⟨b, o + k * 3 + 1, none⟩ = some (.int .i64 x1) ∧ w'.cell? ⟨b, o + k * 3 + 2, none⟩ = some (.int .i64 x2)) (by kernel_rfl) (by exact hcw.out _ hbw) (fun hHeld => ?_)
      refine take_l (i := 0) (v := ?_) rfl (by kernel_rfl) (by kernel_rfl) (by kernel_rfl) (fun _ _ _ h => h) (Or.inl ⟨by kernel_rfl, ?_⟩) (by assumption) ?_
      rotate_left
      · intro w hSw; (try dsimp only at hSw); go_simp; (try with_reducible rfl)
      (try dsimp only [Act.put, List.setIfInBounds_toArray, set_c8, List.set_cons_zero, List.set_cons_succ])
      refine take_l (i := 1) (v := ?_) rfl (by kernel_rfl) (by kernel_rfl) (by kernel_rfl) (fun _ _ _ h => h) (Or.inl ⟨by kernel_rfl, ?_⟩) (by assumption) ?_
      rotate_left
      · intro w hSw; (try dsimp only at hSw); go_simp; (try with_reducible rfl)
      (try dsimp only [Act.put, List.setIfInBounds_toArray, set_c8, List.set_cons_zero, List.set_cons_succ])
      refine take_l (i := 2) (v := ?_) rfl (by kernel_rfl) (by kernel_rfl) (by kernel_rfl) (fun _ _ _ h => h) (Or.inl ⟨by kernel_rfl, ?_⟩) (by assumption) ?_
      rotate_left
      · intro w hSw; (try dsimp only at hSw); go_simp; (try with_reducible rfl)
      (try dsimp only [Act.put, List.setIfInBounds_toArray, set_c8, List.set_cons_zero, List.set_cons_succ])
      refine take_l (i := 3) (v := ?_) rfl (by kernel_rfl) (by kernel_rfl) (by kernel_rfl) (fun _ _ _ h => h) (Or.inl ⟨by kernel_rfl, ?_⟩) (by assumption) ?_
      rotate_left
      · intro w hSw; (try dsimp only at hSw); go_simp; (try with_reducible rfl)
      (try dsimp only [Act.put, List.setIfInBounds_toArray, set_c8, List.set_cons_zero, List.set_cons_succ])
      refine take_l (i := 4) (v := ?_) rfl (by kernel_rfl) (by kernel_rfl) (by kernel_rfl) (fun _ _ _ h => h) (Or.inl ⟨by kernel_rfl, ?_⟩) (by assumption) ?_
      rotate_left
      · intro w hSw; (try dsimp only at hSw); go_simp; (try with_reducible rfl)
      (try dsimp only [Act.put, List.setIfInBounds_toArray, set_c8, List.set_cons_zero, List.set_cons_succ])
      refine take_l (i := 5) (v := ?_) rfl (by kernel_rfl) (by kernel_rfl) (by kernel_rfl) (fun _ _ _ h => h) (Or.inl ⟨by kernel_rfl, ?_⟩) (by assumption) ?_
      rotate_left
      · intro w hSw; (try dsimp only at hSw); go_simp; (try with_reducible rfl)
      (try dsimp only [Act.put, List.setIfInBounds_toArray, set_c8, List.set_cons_zero, List.set_cons_succ])
      refine take_l (i := 6) (v := ?_) rfl (by kernel_rfl) (by kernel_rfl) (by kernel_rfl) (fun _ _ _ h => h) (Or.inl ⟨by kernel_rfl, ?_⟩) (by assumption) ?_
      rotate_left
      · intro w hSw; (try dsimp only at hSw); go_simp; (try with_reducible rfl)
      (try dsimp only [Act.put, List.setIfInBounds_toArray, set_c8, List.set_cons_zero, List.set_cons_succ])
      refine take_l (i := 9) (v := ?_) rfl (by kernel_rfl) (by kernel_rfl) (by kernel_rfl) (fun _ _ _ h => h) (Or.inl ⟨by kernel_rfl, ?_⟩) (by assumption) ?_
      rotate_left
      · intro w hSw; (try dsimp only at hSw); go_simp; (try with_reducible rfl)
      (try dsimp only [Act.put, List.setIfInBounds_toArray, set_c8, List.set_cons_zero, List.set_cons_succ])
      refine take_l (i := 10) (v := ?_) rfl (by kernel_rfl) (by kernel_rfl) (by kernel_rfl) (fun _ _ _ h => h) (Or.inl ⟨by kernel_rfl, ?_⟩) (by assumption) ?_
      rotate_left
      · intro w hSw; (try dsimp only at hSw); go_simp; (try with_reducible rfl)
      (try dsimp only [Act.put, List.setIfInBounds_toArray, set_c8, List.set_cons_zero, List.set_cons_succ])
      refine take_l (i := 11) (v := ?_) rfl (by kernel_rfl) (by kernel_rfl) (by kernel_rfl) (fun _ _ _ h => h) (Or.inl ⟨by kernel_rfl, ?_⟩) (by assumption) ?_
      rotate_left
      · intro w hSw; (try dsimp only at hSw); go_simp; (try with_reducible rfl)
      (try dsimp only [Act.put, List.setIfInBounds_toArray, set_c8, List.set_cons_zero, List.set_cons_succ])
      refine take_l (i := 12) (v := ?_) rfl (by kernel_rfl) (by kernel_rfl) (by kernel_rfl) (fun _ _ _ h => h) (Or.inl ⟨by kernel_rfl, ?_⟩) (by assumption) ?_
      rotate_left
      · intro w hSw; (try dsimp only at hSw); go_simp; (try with_reducible rfl)
      (try dsimp only [Act.put, List.setIfInBounds_toArray, set_c8, List.set_cons_zero, List.set_cons_succ])
      refine take_l (i := 13) (v := ?_) rfl (by kernel_rfl) (by kernel_rfl) (by kernel_rfl) (fun _ _ _ h => h) (Or.inl ⟨by kernel_rfl, ?_⟩) (by assumption) ?_
      rotate_left
      · intro w hSw; (try dsimp only at hSw); go_simp; (try with_reducible rfl)
      (try dsimp only [Act.put, List.setIfInBounds_toArray, set_c8, List.set_cons_zero, List.set_cons_succ])
      refine take_l (i := 16) (v := ?_) rfl (by kernel_rfl) (by kernel_rfl) (by kernel_rfl) (fun _ _ _ h => h) (Or.inl ⟨by kernel_rfl, ?_⟩) (by assumption) ?_
      rotate_left
      · intro w hSw; (try dsimp only at hSw); go_simp; (try with_reducible rfl)
      (try dsimp only [Act.put, List.setIfInBounds_toArray, set_c8, List.set_cons_zero, List.set_cons_succ])
      refine take_l (i := 17) (v := ?_) rfl (by kernel_rfl) (by kernel_rfl) (by kernel_rfl) (fun _ _ _ h => h) (Or.inl ⟨by kernel_rfl, ?_⟩) (by assumption) ?_
      rotate_left
      · intro w hSw; (try dsimp only at hSw); go_simp; (try with_reducible rfl)
      (try dsimp only [Act.put, List.setIfInBounds_toArray, set_c8, List.set_cons_zero, List.set_cons_succ])
      refine take_l (i := 18) (v := ?_) rfl (by kernel_rfl) (by kernel_rfl) (by kernel_rfl) (fun _ _ _ h => h) (Or.inl ⟨by kernel_rfl, ?_⟩) (by assumption) ?_
      rotate_left
      · intro w hSw; (try dsimp only at hSw); go_simp; (try with_reducible rfl)
      (try dsimp only [Act.put, List.setIfInBounds_toArray, set_c8, List.set_cons_zero, List.set_cons_succ])
      refine take_l (i := 19) (v := ?_) rfl (by kernel_rfl) (by kernel_rfl) (by kernel_rfl) (fun _ _ _ h => h) (Or.inl ⟨by kernel_rfl, ?_⟩) (by assumption) ?_
      rotate_left
      · intro w hSw; (try dsimp only at hSw); go_simp; (try with_reducible rfl)
      (try dsimp only [Act.put, List.setIfInBounds_toArray, set_c8, List.set_cons_zero, List.set_cons_succ])
      refine take_l (i := 20) (v := ?_) rfl (by kernel_rfl) (by kernel_rfl) (by kernel_rfl) (fun _ _ _ h => h) (Or.inl ⟨by kernel_rfl, ?_⟩) (by assumption) ?_
      rotate_left
      · intro w hSw; (try dsimp only at hSw); go_simp; (try with_reducible rfl)
      (try dsimp only [Act.put, List.setIfInBounds_toArray, set_c8, List.set_cons_zero, List.set_cons_succ])
      refine wpAnyH_ready (rs := [7]) (by kernel_rfl) (by simp) ?_
      refine ready_l rfl (fun K hK => ?_) AllReadyH.nil
      go_simp
      first | (go_at_call 16; (with_reducible refine (hP0.out _).mono ?_); rintro e vA ⟨rfl, hbvA⟩; have hBvA : Below w.heap.size w vA := Below.trans (by repeat first | with_reducible exact Below.refl _ _ | with_reducible assumption | with_reducible refine below_drewN ?_ _ | with_reducible refine Below.drew ?_ | with_reducible refine Below.setCell ?_ (by first | exact Nat.le_refl _ | (simp; done) | (simp; omega) | omega) _ | with_reducible refine Below.alloc ?_ (by first | exact Nat.le_refl _ | (simp; done) | (simp; omega) | omega) _ | exact Below.refl _ _ | assumption) (hbvA.mono (by first | exact Nat.le_refl _ | assumption | (simp; done) | (simp; omega) | omega)); have hzvA := hbvA.size; ) | (go_at_call 16; (with_reducible refine (hP1.out _).mono ?_); rintro e vB ⟨rfl, hbvB⟩; have hBvB : Below w.heap.size w vB := Below.trans (by repeat first | with_reducible exact Below.refl _ _ | with_reducible assumption | with_reducible refine below_drewN ?_ _ | with_reducible refine Below.drew ?_ | with_reducible refine Below.setCell ?_ (by first | exact Nat.le_refl _ | (simp; done) | (simp; omega) | omega) _ | with_reducible refine Below.alloc ?_ (by first | exact Nat.le_refl _ | (simp; done) | (simp; omega) | omega) _ | exact Below.refl _ _ | assumption) (hbvB.mono (by first | exact Nat.le_refl _ | assumption | (simp; done) | (simp; omega) | omega)); have hzvB := hbvB.size; )
      refine hK.out _ _ (by exact hcw.out _ (hBvA.block b hb)) (fun hHeld => ?_)
      clear hK K
      (try dsimp only [Act.put, List.setIfInBounds_toArray, set_c8, List.set_cons_zero, List.set_cons_succ])
      refine take_l (i := 8) (v := ?_) rfl (by kernel_rfl) (by kernel_rfl) (by kernel_rfl) (fun _ _ _ h => h) (Or.inl ⟨by kernel_rfl, ?_⟩) (by assumption) ?_
      rotate_left
      · intro w hSw; (try dsimp only at hSw); go_simp; (try with_reducible rfl)
      (try dsimp only [Act.put, List.setIfInBounds_toArray, set_c8, List.set_cons_zero, List.set_cons_succ])
      refine wpAnyH_ready (rs := [14]) (by kernel_rfl) (by simp) ?_
      refine ready_l rfl (fun K hK => ?_) AllReadyH.nil
      go_simp
      first | (go_at_call 16; (with_reducible refine (hP0.out _).mono ?_); rintro e vA ⟨rfl, hbvA⟩; have hBvA : Below w.heap.size w vA := Below.trans (by repeat first | with_reducible exact Below.refl _ _ | with_reducible assumption | with_reducible refine below_drewN ?_ _ | with_reducible refine Below.drew ?_ | with_reducible refine Below.setCell ?_ (by first | exact Nat.le_refl _ | (simp; done) | (simp; omega) | omega) _ | with_reducible refine Below.alloc ?_ (by first | exact Nat.le_refl _ | (simp; done) | (simp; omega) | omega) _ | exact Below.refl _ _ | assumption) (hbvA.mono (by first | exact Nat.le_refl _ | assumption | (simp; done) | (simp; omega) | omega)); have hzvA := hbvA.size; ) | (go_at_call 16; (with_reducible refine (hP1.out _).mono ?_); rintro e vB ⟨rfl, hbvB⟩; have hBvB : Below w.heap.size w vB := Below.trans (by repeat first | with_reducible exact Below.refl _ _ | with_reducible assumption | with_reducible refine below_drewN ?_ _ | with_reducible refine Below.drew ?_ | with_reducible refine Below.setCell ?_ (by first | exact Nat.le_refl _ | (simp; done) | (simp; omega) | omega) _ | with_reducible refine Below.alloc ?_ (by first | exact Nat.le_refl _ | (simp; done) | (simp; omega) | omega) _ | exact Below.refl _ _ | assumption) (hbvB.mono (by first | exact Nat.le_refl _ | assumption | (simp; done) | (simp; omega) | omega)); have hzvB := hbvB.size; )
      refine hK.out _ _ (by exact hcw.out _ (hBvB.block b hb)) (fun hHeld => ?_)
      clear hK K
      (try dsimp only [Act.put, List.setIfInBounds_toArray, set_c8, List.set_cons_zero, List.set_cons_succ])
      refine take_l (i := 15) (v := ?_) rfl (by kernel_rfl) (by kernel_rfl) (by kernel_rfl) (fun _ _ _ h => h) (Or.inl ⟨by kernel_rfl, ?_⟩) (by assumption) ?_
      rotate_left
      · intro w hSw; (try dsimp only at hSw); go_simp; (try with_reducible rfl)
      (try dsimp only [Act.put, List.setIfInBounds_toArray, set_c8, List.set_cons_zero, List.set_cons_succ])
      refine take_l (i := 21) (v := ?_) rfl (by kernel_rfl) (by kernel_rfl) (by kernel_rfl) (fun _ _ _ h => h) (Or.inl ⟨by kernel_rfl, ?_⟩) (by assumption) ?_
      rotate_left
      · intro w hSw; (try dsimp only at hSw); go_simp; (try with_reducible rfl)
      (try dsimp only [Act.put, List.setIfInBounds_toArray, set_c8, List.set_cons_zero, List.set_cons_succ])
      refine wpAnyH_ready (rs := [22]) (by kernel_rfl) (by simp) ?_
      refine ready_l rfl (fun K hK => ?_) AllReadyH.nil
      go_simp
      refine hK.out _ _ (by exact hcw.out _ ((hBvB.alloc hBvB.size _).block b hb)) (fun hHeld => ?_)
      clear hK K
      (try dsimp only [Act.put, List.setIfInBounds_toArray, set_c8, List.set_cons_zero, List.set_cons_succ])
      refine wpAnyH_ready (rs := [23]) (by kernel_rfl) (by simp) ?_
      refine ready_l rfl (fun K hK => ?_) AllReadyH.nil
      have hbA2 : Below wr.heap.size wr vB := ((Below.refl wr.heap.size wr).drew.trans hbvA).trans (hbvB.mono hbvA.size)
      have hbAll := hbA2.alloc hbA2.size (.cells #[.int .i64 (k : Int), .int .i64 (1 + (d : Int)), .int .i64 ((q : Int) - 2), .int .i64 x2] 39)
      obtain ⟨vN, wN, hrun, hoN, hgN, hvN⟩ := append_ev (vB.alloc (.cells #[.int .i64 (k : Int), .int .i64 (1 + (d : Int)), .int .i64 ((q : Int) - 2), .int .i64 x2] 39)) w.heap.size (.slice ao l.length vc) l [⟨(k : Int), 1 + (d : Int), (q : Int) - 2, x2⟩] (.slice (some ⟨vB.heap.size, 0, none⟩) 1 1) (own_below hor.out hbAll) hvn _ (sliceAt_arr (l := [⟨(k : Int), 1 + (d : Int), (q : Int) - 2, x2⟩]) (Arr.new rfl rfl) (by simp [maxLen])) (by simp; omega) (by have := hBvB.size; simp; omega)
      have hBN : Below w.heap.size w wN := (hBvB.alloc hBvB.size _).grown hgN (by have := hBvB.size; simp; omega) (fun j e => (hor.out.lt j e).1)
      refine step_append_known rfl _ _ _ _ rfl _ _ rfl rfl hrun ?_
      clear hrun hgN hbAll hbA2
      (try dsimp only [Act.put, List.setIfInBounds_toArray, set_c8, List.set_cons_zero, List.set_cons_succ])
      refine hK.out _ _ (by exact hcw.out _ (hBN.block b hb)) (fun hHeld => ?_)
      clear hK K
      (try dsimp only [Act.put, List.setIfInBounds_toArray, set_c8, List.set_cons_zero, List.set_cons_succ])
      refine take_l (i := 24) (v := ?_) rfl (by kernel_rfl) (by kernel_rfl) (by kernel_rfl) (fun _ _ _ h => h) (Or.inl ⟨by kernel_rfl, ?_⟩) (by assumption) ?_
      rotate_left
      · intro w hSw; (try dsimp only at hSw); go_simp; (try with_reducible rfl)
      (try dsimp only [Act.put, List.setIfInBounds_toArray, set_c8, List.set_cons_zero, List.set_cons_succ])
      refine wpAnyH_done (by kernel_rfl) ?_ _
      go_wp2_with fail
      exact ⟨⟨k + 1, _, by omega, by omega, by go_num, by simp; omega, hvN, (show ShI _ _ _ _ from ⟨hBN, hoN⟩)⟩, by simp [intOf]; omega⟩
    · obtain ⟨wA, hwA⟩ : ∃ wA, wA = wr := ⟨_, rfl⟩
      subst hwA
      have hSA := sliceAt_of_own hI.out.2
      have hBl := hI.out.1
      have hScr := Screen_any (.slice ao l.length vc) l wA hSA
      have hBit := fun (W : World) (hb : Below wA.heap.size wA W) => Bitmap_any (.slice ao l.length vc) l W (hSA.later hb)
      have hll2 : l.length ≤ 120 := by omega
      obtain ⟨_, _, hmv, _, hc2, hmc⟩ := sliceCells hSA
      injection hmv with q1 _ q3
      subst q1 q3
      unfold maxLen at hc2
      have hss : (str (bytesOf (screenL l))).size = 80 := by rw [str_size]; simp [bytesOf, screenL, shownL_len]
      have hsb : (str (bytesOf (bitmapL l))).size = 256 := by rw [str_size]; simp [bytesOf, bitmapL, shownL_len]
      have hds : (((80 : Nat) : Int) != 80) = false := by decide
      have hdb : (((256 : Nat) : Int) != 256) = false := by decide
      have hgs := screen_get l
      have hgb := bitmap_get l
      generalize str (bytesOf (screenL l)) = sc at *
      generalize str (bytesOf (bitmapL l)) = bm at *
      replace hgs := Lib.hid hgs
      replace hgb := Lib.hid hgb
      replace hScr := Lib.hid hScr
      replace hBit := Lib.hid hBit
      replace hmc := Lib.hid hmc
      clear hxc hI hSA hvn hll
      have hway : (¬ k < m ∧ decide ((k : Int) < (m : Int)) = false) ∨ (k < m ∧ ¬ k < 60 ∧ decide ((k : Int) < (m : Int)) = true ∧ decide ((k : Int) < 60) = false) := by
        by_cases h : k < m
        · exact .inr ⟨h, by omega, by simpa using h, by simp; omega⟩
        · exact .inl ⟨h, by simpa using h⟩
      clear hlt
      rcases hway with ⟨hw1, hd⟩ | ⟨hw1, hw2, hd, hd2⟩
      all_goals
        go_wp2_with fail
        refine hScr.out.mono ?_
        rintro e wS ⟨rfl, hbS⟩
        go_wp2_with fail
        refine (hBit.out _ hbS).mono ?_
        rintro e wT ⟨rfl, hbT⟩
        have hbW := hbS.trans (hbT.mono hbS.size)
        have hBT := hBl.trans (hbW.mono hBl.size)
        clear hScr hBit hbS hbT
        go_wp2_with fail
        go_loopw [10] (fun i wr2 => ∃ at_ : Nat, at_ ≤ 256 ∧ i = .int .i64 at_ ∧ Aside (Below wA.heap.size wA wr2)) (fun i _ => 256 - (intOf i).toNat)
        case atStart => exact ⟨0, Nat.zero_le _, rfl, hbW⟩
        case round =>
          obtain ⟨at_, hat, rfl, BW⟩ := hrel
          obtain ⟨wB, hwB⟩ : ∃ wB, wB = wr := ⟨_, rfl⟩
          subst hwB
          by_cases hlt2 : at_ < 256
          · have hda : decide ((at_ : Int) < 256) = true := by simp; omega
            go_wp2_with fail
            go_loopw [11, 12, 13] (fun s v i wr3 => ∃ n : Nat, n ≤ l.length ∧ s = .int .u8 (lastAt 1 32 ofS at_ (l.take n) : Nat) ∧ v = .int .u8 (lastAt 2 48 ofP at_ (l.take n) : Nat) ∧ i = .int .i64 n ∧ Aside (Below wA.heap.size wA wr3)) (fun _ _ i _ => l.length - (intOf i).toNat)
            case atStart => exact ⟨0, Nat.zero_le _, rfl, rfl, rfl, BW.out⟩
            case round =>
              obtain ⟨n, hn, rfl, rfl, rfl, BV⟩ := hrel
              by_cases hlt3 : n < l.length
              · have hdn : decide ((n : Int) < (l.length : Int)) = true := by simpa using hlt3
                obtain ⟨b, o, rfl, hb, hcell⟩ := hmc.out n hlt3
                obtain ⟨_, m1, m2, m3⟩ := hcell wr (BV.out.block b hb)
                have sn1 := lastAt_snoc 1 32 ofS at_ (l.take n) l[n]!
                have sn2 := lastAt_snoc 2 48 ofP at_ (l.take n) l[n]!
                have et := take_snoc l n hlt3
                rw [← et] at sn1 sn2
                clear et
                have hlS := last_lt 1 32 ofS at_ (l.take n) (by decide) ofS_lt
                have hlP := last_lt 2 48 ofP at_ (l.take n) (by decide) ofP_lt
                generalize l[n]! = x at *
                have hcase : (x.a ≠ at_ ∧ (x.a == (at_ : Int)) = false ∧ lastAt 1 32 ofS at_ (l.take (n + 1)) = lastAt 1 32 ofS at_ (l.take n) ∧ lastAt 2 48 ofP at_ (l.take (n + 1)) = lastAt 2 48 ofP at_ (l.take n)) ∨
                    (x.a = at_ ∧ (x.a == (at_ : Int)) = true ∧ (x.k == 1) = true ∧ (x.k == 2) = false ∧ x.k = 1 ∧ (lastAt 1 32 ofS at_ (l.take (n + 1)) : Int) = x.b % 256 ∧ lastAt 2 48 ofP at_ (l.take (n + 1)) = lastAt 2 48 ofP at_ (l.take n)) ∨
                    (x.a = at_ ∧ (x.a == (at_ : Int)) = true ∧ (x.k == 1) = false ∧ (x.k == 2) = true ∧ x.k = 2 ∧ lastAt 1 32 ofS at_ (l.take (n + 1)) = lastAt 1 32 ofS at_ (l.take n) ∧ bits .and .i64 x.b 1 = 0 ∧ lastAt 2 48 ofP at_ (l.take (n + 1)) = 48) ∨
                    (x.a = at_ ∧ (x.a == (at_ : Int)) = true ∧ (x.k == 1) = false ∧ (x.k == 2) = true ∧ x.k = 2 ∧ lastAt 1 32 ofS at_ (l.take (n + 1)) = lastAt 1 32 ofS at_ (l.take n) ∧ bits .and .i64 x.b 1 = 1 ∧ lastAt 2 48 ofP at_ (l.take (n + 1)) = 49) ∨
                    (x.a = at_ ∧ (x.a == (at_ : Int)) = true ∧ (x.k == 1) = false ∧ (x.k == 2) = false ∧ x.k ≠ 1 ∧ x.k ≠ 2 ∧ lastAt 1 32 ofS at_ (l.take (n + 1)) = lastAt 1 32 ofS at_ (l.take n) ∧ lastAt 2 48 ofP at_ (l.take (n + 1)) = lastAt 2 48 ofP at_ (l.take n)) := by
                  rw [sn1, sn2]
                  exact shows_cases x at_ _ _
                generalize lastAt 1 32 ofS at_ (l.take n) = s0 at *
                generalize lastAt 2 48 ofP at_ (l.take n) = p0 at *
                clear sn1 sn2 hcell hmc hgs hgb
                rcases hcase with ⟨c1, c2, c3, c4⟩ | ⟨c1, c2, c5, c6, c7, c3, c4⟩ | ⟨c1, c2, c5, c6, c7, c3, c8, c4⟩ | ⟨c1, c2, c5, c6, c7, c3, c8, c4⟩ | ⟨c1, c2, c5, c6, c7, c8, c3, c4⟩
                all_goals
                  replace c1 := Lib.hid c1
                  replace c3 := Lib.hid c3
                  replace c4 := Lib.hid c4
                  try replace c7 := Lib.hid c7
                  go_wp2_with fail
                  go_roundw
                  case measure => simp [intOf]; omega
                  case rel => exact ⟨n + 1, by omega, by first | rw [c3.out] | rw [← c3.out], by rw [c4.out] <;> rfl, by go_num, BV.out⟩
              · have hne : n = l.length := by omega
                subst hne
                have hdn : decide ((l.length : Int) < (l.length : Int)) = false := by simp
                rw [List.take_length]
                have hG2 := hgb.out at_ (by omega)
                generalize lastAt 2 48 ofP at_ l = p0 at *
                clear hmc hgb
                by_cases h80 : at_ < 80
                · have hd80 : decide ((at_ : Int) < 80) = true := by simp; omega
                  have hG1 := hgs.out at_ (by omega)
                  generalize lastAt 1 32 ofS at_ l = s0 at *
                  clear hgs
                  have q1 : (s0 != s0) = false := by simp
                  have q2 : (p0 != p0) = false := by simp
                  have q3 : ((s0 : Int) != (s0 : Int)) = false := by simp
                  have q4 : ((p0 : Int) != (p0 : Int)) = false := by simp
                  go_wp2_with fail
                  go_roundw
                  case measure => simp [intOf]; omega
                  case rel => exact ⟨at_ + 1, by omega, by go_num, BV.out⟩
                · have hd80 : decide ((at_ : Int) < 80) = false := by simp; omega
                  clear hgs
                  have q2 : (p0 != p0) = false := by simp
                  have q4 : ((p0 : Int) != (p0 : Int)) = false := by simp
                  go_wp2_with fail
                  go_roundw
                  case measure => simp [intOf]; omega
                  case rel => exact ⟨at_ + 1, by omega, by go_num, BV.out⟩
          · have hate : at_ = 256 := by omega
            subst hate
            have hda : decide (((256 : Nat) : Int) < 256) = false := by decide
            have hBz := hBl.trans (BW.out.mono hBl.size)
            clear hmc hgb hgs
            go_wp2_with fail
            go_ret
            exact ⟨rfl, hBz⟩
end Go.Proofs.YtkgbknjpnhoadaaGreatDoor
