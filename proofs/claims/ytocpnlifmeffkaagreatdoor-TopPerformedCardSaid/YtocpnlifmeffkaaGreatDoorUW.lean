/-
  Package abstraction: read, of texts.
  Package abstraction: each, of fold.
  Package abstraction: write, of texts.
-/
import Derived.Test.YtocpnlifmeffkaaGreatDoorUV
import Derived.Test.YtocpnlifmeffkaaGreatDoorUL
namespace Go.Proofs.YtocpnlifmeffkaaGreatDoor
open Go.RowKit Go.Shelf

attribute [local go_sem] Oper.semAt_some

/-! Lines that have a text alone. -/
def lnC (t : List UInt8) : List Value := [.string (str t), .slice none 0 0]
def lnCells (ts : List (List UInt8)) : List Value := ts.flatMap lnC
theorem lnCells_snoc (ts : List (List UInt8)) (t : List UInt8) : lnCells (ts ++ [t]) = lnCells ts ++ lnC t := by simp [lnCells]
theorem lnCells_at (ts : List (List UInt8)) {j i : Nat} (hj : j < ts.length) (hi : i < 2) : (lnCells ts)[j * 2 + i]? = (lnC ts[j]!)[i]? := flat_at lnC 2 (fun _ => rfl) ts j i hj hi
theorem info_ln : (Tryz.prog.info? 181).map (fun i => (i.zero, i.size, i.bytes)) = some (some (.agg #[.string ByteArray.empty, .slice none 0 0]), 2, 40) := by kernel_rfl
theorem append_ln (w : World) (B : Nat) (v : Value) (ts : List (List UInt8)) (t : List UInt8) (hown : w.ownsRow B 181 2 v ts.length (lnCells ts)) (hl : ts.length ≤ 1000000) (hb : B ≤ w.heap.size) :
    ∃ v' w', (Builtin.append_ #[127, 127] 127 #[v, .slice (some ⟨w.heap.size, 0, none⟩) 1 1]).run Tryz.prog (w.alloc (.cells #[.string (str t), .slice none 0 0] 181)) = .ok v' w' ∧
      w'.ownsRow B 181 2 v' (ts ++ [t]).length (lnCells (ts ++ [t])) ∧ (w.alloc (.cells #[.string (str t), .slice none 0 0] 181)).grownBy w' v.ownBlock := by
  obtain ⟨i0, hi, hz0, hz1, hz2⟩ := info_parts info_ln
  have hown2 := own_below hown ((Below.refl w.heap.size w).alloc (Nat.le_refl _) (.cells #[.string (str t), .slice none 0 0] 181))
  have hA : Arr (w.alloc (.cells #[.string (str t), .slice none 0 0] 181)) w.heap.size 181 (lnC t) := Arr.new rfl rfl
  obtain ⟨v', w', hrun, r1, r2, _⟩ := run_append_own (P := Tryz.prog) (w.alloc (.cells #[.string (str t), .slice none 0 0] 181)) B 127 127 181 i0 (.agg #[.string ByteArray.empty, .slice none 0 0]) 2 40 Tryz.underlying127 hi hz0 hz1 hz2 rfl (by decide) v ts.length (lnCells ts) hown2 ⟨w.heap.size, 0, none⟩ 1 1 (lnC t) rfl (fun j u hu => by rw [Addr.add_mid, Nat.zero_add]; exact hA.cell hu) (fun u hu => by
      simp only [lnC, List.mem_cons, List.not_mem_nil, or_false] at hu
      rcases hu with rfl | rfl <;> rfl) (by unfold maxLen; omega) (by omega) (by simp; omega)
  exact ⟨v', w', hrun, by rw [List.length_append, lnCells_snoc]; exact r1, r2⟩
theorem flat_split {α : Type} [Inhabited α] (f : α → List UInt8) (ts : List α) {k : Nat} (hk : k < ts.length) : ts.flatMap f = (ts.take k).flatMap f ++ (f ts[k]! ++ (ts.drop (k + 1)).flatMap f) := by
  rw [getElem!_pos ts k hk]
  conv => lhs; rw [← List.take_append_drop k ts, List.flatMap_append, List.drop_eq_getElem_cons hk, List.flatMap_cons]
theorem flat_take {α : Type} [Inhabited α] (f : α → List UInt8) (ts : List α) {k : Nat} (hk : k < ts.length) : (ts.take (k + 1)).flatMap f = (ts.take k).flatMap f ++ f ts[k]! := by
  rw [getElem!_pos ts k hk, ← List.take_append_getElem hk, List.flatMap_append]
  simp
theorem own_val2 {w : World} {B n s : Nat} {e : TypeId} {v : Value} {xs : List Value} (h : w.ownsRow B e s v n xs) : ∃ a cap, v = .slice a n cap := by
  obtain ⟨_, h⟩ := h
  rcases h with ⟨rfl, rfl⟩ | ⟨g, cap, _, rfl, _⟩
  · exact ⟨_, _, rfl⟩
  · exact ⟨_, _, rfl⟩
theorem own_keepR {w w' : World} {B R n s : Nat} {e T : TypeId} {v : Value} {xs L : List Value} (h : w.ownsRow B e s v n xs) (hb : BelowBut w.heap.size R w w') (hR : Arr w R T L) (hne : T ≠ e) : w'.ownsRow B e s v n xs := by
  obtain ⟨hl, h⟩ := h
  refine ⟨hl, ?_⟩
  rcases h with h | ⟨g, cap, cur, hv, hB, hg, r⟩
  · exact .inl h
  · refine .inr ⟨g, cap, cur, hv, hB, (hb.block g (Array.getElem?_eq_some_iff.1 hg).1 fun e => ?_).trans hg, r⟩
    subst e
    rw [show w.heap[g]? = _ from hR] at hg
    injection hg with hg
    injection hg with _ hT
    exact hne hT
theorem row_ne {w : World} {B n s b : Nat} {e T : TypeId} {v : Value} {xs L : List Value} (h : w.ownsRow B e s v n xs) (hA : Arr w b T L) (hne : T ≠ e) : v.ownBlock ≠ some b := fun hg => by
  rcases h.2 with ⟨rfl, _⟩ | ⟨g, cap, cur, rfl, _, hgb, _⟩
  · cases hg
  · have : g = b := by simpa [Value.ownBlock] using hg
    subst this
    rw [show w.heap[g]? = _ from hA] at hgb
    injection hgb with hgb
    injection hgb with _ hT
    exact hne hT
theorem own_set {w : World} {B n s b o : Nat} {e : TypeId} {v u : Value} {xs : List Value} (h : w.ownsRow B e s v n xs) (hne : v.ownBlock ≠ some b) : (w.setCell ⟨b, o, none⟩ u).ownsRow B e s v n xs := by
  obtain ⟨hl, h⟩ := h
  refine ⟨hl, ?_⟩
  rcases h with h | ⟨g, cap, cur, rfl, hB, hg, r⟩
  · exact .inl h
  · exact .inr ⟨g, cap, cur, rfl, hB, (heap_setCell_other w ⟨b, o, none⟩ g u (fun e => hne (by show some g = some b; rw [e]))).trans hg, r⟩
/-- The place of the reader behind k texts. -/
def txAt (ts : List (List UInt8)) (k : Nat) : List UInt8 := putZ ts.length ++ (ts.take k).flatMap putSb
set_option maxRecDepth 100000 in
set_option maxHeartbeats 8000000 in
theorem read1_any (s : ByteArray) (ts : List (List UInt8)) (w : World) (hn : ts.length ≤ 64) (hts : ∀ t ∈ ts, fineB t = true ∧ t.length ≤ 80) (hs : s.data.toList = putZ ts.length ++ ts.flatMap putSb) (hsz : s.size ≤ 1000000) :
    Calls Tryz.prog 53 #[.int .i64 1, .string s] w fun e w' => ∃ lv, e = .returned (.agg #[.bool false, lv, .int .i64 0, .int .i64 0, .string (str [])]) ∧ w'.ownsRow w.heap.size 181 2 lv ts.length (lnCells ts) ∧ Below w.heap.size w w' := by
  have hwi := Lib.hid awithin_any
  have hmu := Lib.hid must_true
  have h18 : (decide ((1 : Int) ≤ 1) && decide ((1 : Int) ≤ 8)) = true := by decide
  have hemp : s.toList.isEmpty = false := by
    rw [Lib.toList_data, hs]
    have := putZ_ne ts.length
    cases h : putZ (ts.length : Int) with
    | nil => exact absurd h this
    | cons _ _ => rfl
  have hW0 : ∃ W, W = ((w.alloc (.cells #[.bool false, .slice none 0 0, .int .i64 0, .int .i64 0, .string (str [])] 129)).alloc (.cells #[.bool false, .slice none 0 0, .int .i64 0, .int .i64 0, .string (str [])] 129)).alloc (.cells #[.string s, .int .i64 0] 178) := ⟨_, rfl⟩
  obtain ⟨W0, hW0⟩ := hW0
  have hB0 : Below w.heap.size w W0 := by rw [hW0]; exact (((Below.refl _ _).alloc (Nat.le_refl _) _).alloc (by simp) _).alloc (by simp; omega) _
  have hQ0 : Arr W0 w.heap.size 129 [.bool false, .slice none 0 0, .int .i64 0, .int .i64 0, .string (str [])] := by rw [hW0]; exact ((Arr.new rfl rfl).alloc _).alloc _
  have hV0 : Arr W0 (w.heap.size + 1) 129 [.bool false, .slice none 0 0, .int .i64 0, .int .i64 0, .string (str [])] := by rw [hW0]; exact (Arr.new rfl (by simp)).alloc _
  have hR0 : ARdAt W0 (w.heap.size + 1 + 1) s ([] : List UInt8).length := by rw [hW0]; exact Arr.new rfl (by simp)
  have hnum := Lib.hid (anumber_any (w.heap.size + 1 + 1) s [] (ts.flatMap putSb) ts.length 0 64 W0 (by omega) (by omega) (by omega) hs hsz hR0)
  rw [hW0] at hnum
  replace hQ0 := Lib.hid hQ0
  replace hV0 := Lib.hid hV0
  replace hB0 := Lib.hid hB0
  replace hW0 := Lib.hid hW0
  go_enter Tryz.func53, Tryz.ntmps53
  go_wp2_with (first
    | (go_at_call 100; refine (hwi.out _ _ _ _).mono ?_; rintro e w1 ⟨rfl, rfl⟩; simp only [h18])
    | (go_at_call 51; refine (hmu.out _).mono ?_; rintro e w1 ⟨rfl, rfl⟩)
    | (go_at_call 104; refine hnum.out.mono ?_; rintro e w1 ⟨rfl, hR1, hb1⟩))
  rw [← hW0.out] at hb1
  have hV1 := hb1.arr hV0.out (by omega)
  have hQ1 := hb1.arr hQ0.out (by omega)
  have hB1 : Below w.heap.size w w1 := hB0.out.trans (hb1.below (by omega) hB0.out.size)
  rw [List.nil_append] at hR1
  have hst : (putZ (ts.length : Int)).length = (txAt ts 0).length := by simp [txAt]
  rw [hst] at hR1
  clear hst hb1 hnum hV0 hQ0 hB0 hW0
  replace hts := Lib.hid hts
  go_loopw [15] (fun jv wr => ∃ (k : Nat) (lv : Value), k ≤ ts.length ∧ jv = .int .i64 (k : Int) ∧ Hid (ARdAt wr (w.heap.size + 1 + 1) s (txAt ts k).length ∧ Arr wr (w.heap.size + 1) 129 [.bool false, lv, .int .i64 0, .int .i64 0, .string (str [])] ∧ Arr wr w.heap.size 129 [.bool false, .slice none 0 0, .int .i64 0, .int .i64 0, .string (str [])] ∧ wr.ownsRow w.heap.size 181 2 lv k (lnCells (ts.take k)) ∧ Below w.heap.size w wr)) (fun jv _ => ts.length - (intOf jv).toNat)
  case atStart => exact ⟨0, _, Nat.zero_le _, rfl, Lib.hid ⟨hR1, hV1, hQ1, World.ownsRow_nil _ _ _ _, hB1⟩⟩
  case round =>
    obtain ⟨k, lv, hk, rfl, hh⟩ := hrel
    obtain ⟨hRr, hVr, hQr, hown, hBr⟩ := hh.out
    clear hh hR1 hV1 hQ1 hB1
    obtain ⟨a, c, rfl⟩ := own_val2 hown
    have c1 := hVr.cell (j := 1) rfl
    by_cases hlt : k < ts.length
    · have hd : decide ((k : Int) < (ts.length : Int)) = true := by simp; omega
      have hmem := hts.out ts[k]! (by rw [getElem!_pos ts k hlt]; exact List.getElem_mem hlt)
      have hsk : s.data.toList = txAt ts k ++ (putSb ts[k]! ++ (ts.drop (k + 1)).flatMap putSb) := by
        rw [hs, flat_split putSb ts hlt]
        simp [txAt]
      have htx : txAt ts (k + 1) = txAt ts k ++ putSb ts[k]! := by
        unfold txAt
        rw [flat_take putSb ts hlt, List.append_assoc]
      have hln := Lib.hid (aline_any (w.heap.size + 1 + 1) s (txAt ts k) ts[k]! ((ts.drop (k + 1)).flatMap putSb) a k c wr.drew hmem.1 hmem.2 hsk hsz hRr)
      have htk := take_snoc ts k hlt
      have hlk : (ts.take k).length = k := by rw [List.length_take]; omega
      have i7 : IntKind.i64.wrap ((k : Int) + 1) = (k : Int) + 1 := IntWalk.i64_in _ (by omega)
      have hnext : ∀ vA, ARdAt vA (w.heap.size + 1 + 1) s (txAt ts k ++ putSb ts[k]!).length → BelowBut wr.drew.heap.size (w.heap.size + 1 + 1) wr.drew vA → w.heap.size + 1 < vA.heap.size ∧ vA.cell? ⟨w.heap.size + 1, 1, none⟩ = some (.slice a k c) ∧ ∃ a' c' wB, Hid ((Builtin.append_ #[127, 127] 127 #[.slice a k c, .slice (some ⟨vA.heap.size, 0, none⟩) 1 1]).run Tryz.prog (vA.alloc (.cells #[.string (str ts[k]!), .slice none 0 0] 181)) = .ok (.slice a' (k + 1) c') wB) ∧ wB.cell? ⟨w.heap.size + 1, 1, none⟩ = some (.slice a k c) ∧ wB.frozen? ⟨w.heap.size + 1, 1, none⟩ = false ∧ Hid (ARdAt (wB.setCell ⟨w.heap.size + 1, 1, none⟩ (.slice a' (k + 1) c')) (w.heap.size + 1 + 1) s (txAt ts (k + 1)).length ∧ Arr (wB.setCell ⟨w.heap.size + 1, 1, none⟩ (.slice a' (k + 1) c')) (w.heap.size + 1) 129 [.bool false, .slice a' (k + 1) c', .int .i64 0, .int .i64 0, .string (str [])] ∧ Arr (wB.setCell ⟨w.heap.size + 1, 1, none⟩ (.slice a' (k + 1) c')) w.heap.size 129 [.bool false, .slice none 0 0, .int .i64 0, .int .i64 0, .string (str [])] ∧ (wB.setCell ⟨w.heap.size + 1, 1, none⟩ (.slice a' (k + 1) c')).ownsRow w.heap.size 181 2 (.slice a' (k + 1) c') (k + 1) (lnCells (ts.take (k + 1))) ∧ Below w.heap.size w (wB.setCell ⟨w.heap.size + 1, 1, none⟩ (.slice a' (k + 1) c'))) := fun vA hRA hbA => by
        have hVA := hbA.arr (show Arr wr.drew _ _ _ from hVr) (by omega)
        have hQA := hbA.arr (show Arr wr.drew _ _ _ from hQr) (by omega)
        have hoA := own_keepR (show wr.drew.ownsRow _ _ _ _ _ _ from hown) hbA (show Arr wr.drew _ _ _ from hRr) (by decide)
        have hwz : w.heap.size ≤ wr.drew.heap.size := hBr.size
        have hBA : Below w.heap.size w vA := (show Below w.heap.size w wr.drew from hBr.drew).trans (hbA.below (by omega) hwz)
        obtain ⟨v', wB, hrun, hoB, hgB⟩ := append_ln vA w.heap.size (.slice a k c) (ts.take k) ts[k]! (own_len hoA hlk.symm) (by omega) hBA.size
        obtain ⟨a', c', rfl⟩ := own_val2 hoB
        rw [List.length_append, List.length_singleton, hlk] at hoB hrun
        have hba : Below vA.heap.size vA (vA.alloc (.cells #[.string (str ts[k]!), .slice none 0 0] 181)) := (Below.refl _ _).alloc (Nat.le_refl _) _
        have hoC := own_below hoA hba
        have hVB := (hVA.below hba).grown hoC (by decide) hgB
        have hQB := (hQA.below hba).grown hoC (by decide) hgB
        have hRB := (Arr.below (show Arr vA _ _ _ from hRA) hba).grown hoC (by decide) hgB
        have hBB : Below w.heap.size w wB := (hBA.trans (hba.mono hBA.size)).grown hgB (hBA.trans (hba.mono hBA.size)).size (fun g hg => (hoC.lt g hg).1)
        have hne := row_ne hoB hVB (by decide)
        refine ⟨hVA.lt, hVA.cell rfl, a', c', wB, Lib.hid hrun, hVB.cell rfl, hVB.free 1, Lib.hid ⟨?_, hVB.set 1 (.slice a' (k + 1) c'), hQB.other _ (by omega), ?_, hBB.setCell (p := ⟨w.heap.size + 1, 1, none⟩) (by show w.heap.size ≤ w.heap.size + 1; omega) (.slice a' (k + 1) c')⟩⟩
        · rw [htx]
          exact hRB.other _ (by omega)
        · rw [htk]
          exact own_set hoB (b := w.heap.size + 1) (o := 1) (u := .slice a' (k + 1) c') hne
      generalize ts[k]! = x at *
      replace hnext := Lib.hid hnext
      clear hmem hsk htx htk hRr hVr hQr hown hBr
      have hBz : w.heap.size + 1 < wr.heap.size := World.block_lt_of_cell? wr ⟨w.heap.size + 1, 1, none⟩ c1
      go_wp2_with fail
      refine wp_region_held_drew (S := fun _ => True) (by kernel_rfl) trivial (fun hHeld => ?_)
      refine take_l (i := 0) (v := ?_) rfl (by kernel_rfl) (by kernel_rfl) (by kernel_rfl) (fun _ _ _ h => h) (Or.inl ⟨by kernel_rfl, ?_⟩) (by assumption) ?_
      rotate_left
      · intro w hSw; (try dsimp only at hSw); go_simp; (try with_reducible rfl)
      (try simp only [Act.put, List.setIfInBounds_toArray, List.set_cons_zero, List.set_cons_succ])
      refine take_l (i := 2) (v := ?_) rfl (by kernel_rfl) (by kernel_rfl) (by kernel_rfl) (fun _ _ _ h => h) (Or.inl ⟨by kernel_rfl, ?_⟩) (by assumption) ?_
      rotate_left
      · intro w hSw; (try dsimp only at hSw); go_simp; (try with_reducible rfl)
      (try simp only [Act.put, List.setIfInBounds_toArray, List.set_cons_zero, List.set_cons_succ])
      refine take_l (i := 3) (v := ?_) rfl (by kernel_rfl) (by kernel_rfl) (by kernel_rfl) (fun _ _ _ h => h) (Or.inl ⟨by kernel_rfl, ?_⟩) (by assumption) ?_
      rotate_left
      · intro w hSw; (try dsimp only at hSw); go_simp; (try with_reducible rfl)
      (try simp only [Act.put, List.setIfInBounds_toArray, List.set_cons_zero, List.set_cons_succ])
      refine take_l (i := 4) (v := ?_) rfl (by kernel_rfl) (by kernel_rfl) (by kernel_rfl) (fun _ _ _ h => h) (Or.inl ⟨by kernel_rfl, ?_⟩) (by assumption) ?_
      rotate_left
      · intro w hSw; (try dsimp only at hSw); go_simp; (try with_reducible rfl)
      (try simp only [Act.put, List.setIfInBounds_toArray, List.set_cons_zero, List.set_cons_succ])
      refine wpAnyH_ready (rs := [1, 5]) (by kernel_rfl) (by simp) ?_
      refine ready_l rfl (fun K hK => ?_) (ready_l rfl (fun K hK => ?_) AllReadyH.nil)
      · skip
        go_simp
        refine hK.out _ _ trivial (fun hHeld => ?_)
        clear hK K
        (try simp only [Act.put, List.setIfInBounds_toArray, List.set_cons_zero, List.set_cons_succ])
        refine wpAnyH_ready (rs := [5]) (by kernel_rfl) (by simp) ?_
        refine ready_l rfl (fun K hK => ?_) AllReadyH.nil
        go_simp
        refine hK.out _ _ trivial (fun hHeld => ?_)
        clear hK K
        (try simp only [Act.put, List.setIfInBounds_toArray, List.set_cons_zero, List.set_cons_succ])
        refine wpAnyH_ready (rs := [6]) (by kernel_rfl) (by simp) ?_
        refine ready_l rfl (fun K hK => ?_) AllReadyH.nil
        go_simp
        go_at_call 107
        refine hln.out.mono ?_
        rintro e vA ⟨rfl, hRA, hbA⟩
        obtain ⟨ltA, cA, a', c', wB, hrun, cB, fB, hend⟩ := hnext.out vA hRA hbA
        refine hK.out _ _ trivial (fun hHeld => ?_)
        clear hK K
        (try simp only [Act.put, List.setIfInBounds_toArray, List.set_cons_zero, List.set_cons_succ])
        refine wpAnyH_ready (rs := [7]) (by kernel_rfl) (by simp) ?_
        refine ready_l rfl (fun K hK => ?_) AllReadyH.nil
        go_simp
        refine hK.out _ _ trivial (fun hHeld => ?_)
        clear hK K
        (try simp only [Act.put, List.setIfInBounds_toArray, List.set_cons_zero, List.set_cons_succ])
        refine wpAnyH_ready (rs := [8]) (by kernel_rfl) (by simp) ?_
        refine ready_l rfl (fun K hK => ?_) AllReadyH.nil
        refine step_append_known rfl _ _ _ _ rfl _ _ rfl rfl hrun.out ?_
        (try simp only [Act.put, List.setIfInBounds_toArray, List.set_cons_zero, List.set_cons_succ])
        refine hK.out _ _ trivial (fun hHeld => ?_)
        clear hK K
        (try simp only [Act.put, List.setIfInBounds_toArray, List.set_cons_zero, List.set_cons_succ])
        refine take_l (i := 9) (v := ?_) rfl (by kernel_rfl) (by kernel_rfl) (by kernel_rfl) (fun _ _ _ h => h) (Or.inl ⟨by kernel_rfl, ?_⟩) (by assumption) ?_
        rotate_left
        · intro w hSw; (try dsimp only at hSw); go_simp; (try with_reducible rfl)
        (try simp only [Act.put, List.setIfInBounds_toArray, List.set_cons_zero, List.set_cons_succ])
        refine wpAnyH_ready (rs := [10]) (by kernel_rfl) (by simp) ?_
        refine ready_l rfl (fun K hK => ?_) AllReadyH.nil
        go_simp
        refine hK.out _ _ trivial (fun hHeld => ?_)
        clear hK K
        (try simp only [Act.put, List.setIfInBounds_toArray, List.set_cons_zero, List.set_cons_succ])
        refine wpAnyH_done (by kernel_rfl) ?_ _
        clear hHeld hrun cA cB fB ltA hRA hbA hnext hln
        go_wp2_with fail
        exact ⟨⟨k + 1, _, by omega, rfl, hend⟩, by simp [intOf]; omega⟩
      · skip
        go_simp
        refine hK.out _ _ trivial (fun hHeld => ?_)
        clear hK K
        (try simp only [Act.put, List.setIfInBounds_toArray, List.set_cons_zero, List.set_cons_succ])
        refine wpAnyH_ready (rs := [1, 6]) (by kernel_rfl) (by simp) ?_
        refine ready_l rfl (fun K hK => ?_) (ready_l rfl (fun K hK => ?_) AllReadyH.nil)
        · skip
          go_simp
          refine hK.out _ _ trivial (fun hHeld => ?_)
          clear hK K
          (try simp only [Act.put, List.setIfInBounds_toArray, List.set_cons_zero, List.set_cons_succ])
          refine wpAnyH_ready (rs := [6]) (by kernel_rfl) (by simp) ?_
          refine ready_l rfl (fun K hK => ?_) AllReadyH.nil
          go_simp
          go_at_call 107
          refine hln.out.mono ?_
          rintro e vA ⟨rfl, hRA, hbA⟩
          obtain ⟨ltA, cA, a', c', wB, hrun, cB, fB, hend⟩ := hnext.out vA hRA hbA
          refine hK.out _ _ trivial (fun hHeld => ?_)
          clear hK K
          (try simp only [Act.put, List.setIfInBounds_toArray, List.set_cons_zero, List.set_cons_succ])
          refine wpAnyH_ready (rs := [7]) (by kernel_rfl) (by simp) ?_
          refine ready_l rfl (fun K hK => ?_) AllReadyH.nil
          go_simp
          refine hK.out _ _ trivial (fun hHeld => ?_)
          clear hK K
          (try simp only [Act.put, List.setIfInBounds_toArray, List.set_cons_zero, List.set_cons_succ])
          refine wpAnyH_ready (rs := [8]) (by kernel_rfl) (by simp) ?_
          refine ready_l rfl (fun K hK => ?_) AllReadyH.nil
          refine step_append_known rfl _ _ _ _ rfl _ _ rfl rfl hrun.out ?_
          (try simp only [Act.put, List.setIfInBounds_toArray, List.set_cons_zero, List.set_cons_succ])
          refine hK.out _ _ trivial (fun hHeld => ?_)
          clear hK K
          (try simp only [Act.put, List.setIfInBounds_toArray, List.set_cons_zero, List.set_cons_succ])
          refine take_l (i := 9) (v := ?_) rfl (by kernel_rfl) (by kernel_rfl) (by kernel_rfl) (fun _ _ _ h => h) (Or.inl ⟨by kernel_rfl, ?_⟩) (by assumption) ?_
          rotate_left
          · intro w hSw; (try dsimp only at hSw); go_simp; (try with_reducible rfl)
          (try simp only [Act.put, List.setIfInBounds_toArray, List.set_cons_zero, List.set_cons_succ])
          refine wpAnyH_ready (rs := [10]) (by kernel_rfl) (by simp) ?_
          refine ready_l rfl (fun K hK => ?_) AllReadyH.nil
          go_simp
          refine hK.out _ _ trivial (fun hHeld => ?_)
          clear hK K
          (try simp only [Act.put, List.setIfInBounds_toArray, List.set_cons_zero, List.set_cons_succ])
          refine wpAnyH_done (by kernel_rfl) ?_ _
          clear hHeld hrun cA cB fB ltA hRA hbA hnext hln
          go_wp2_with fail
          exact ⟨⟨k + 1, _, by omega, rfl, hend⟩, by simp [intOf]; omega⟩
        · skip
          go_simp
          go_at_call 107
          refine hln.out.mono ?_
          rintro e vA ⟨rfl, hRA, hbA⟩
          obtain ⟨ltA, cA, a', c', wB, hrun, cB, fB, hend⟩ := hnext.out vA hRA hbA
          refine hK.out _ _ trivial (fun hHeld => ?_)
          clear hK K
          (try simp only [Act.put, List.setIfInBounds_toArray, List.set_cons_zero, List.set_cons_succ])
          refine wpAnyH_ready (rs := [1, 7]) (by kernel_rfl) (by simp) ?_
          refine ready_l rfl (fun K hK => ?_) (ready_l rfl (fun K hK => ?_) AllReadyH.nil)
          · skip
            go_simp
            refine hK.out _ _ trivial (fun hHeld => ?_)
            clear hK K
            (try simp only [Act.put, List.setIfInBounds_toArray, List.set_cons_zero, List.set_cons_succ])
            refine wpAnyH_ready (rs := [7]) (by kernel_rfl) (by simp) ?_
            refine ready_l rfl (fun K hK => ?_) AllReadyH.nil
            go_simp
            refine hK.out _ _ trivial (fun hHeld => ?_)
            clear hK K
            (try simp only [Act.put, List.setIfInBounds_toArray, List.set_cons_zero, List.set_cons_succ])
            refine wpAnyH_ready (rs := [8]) (by kernel_rfl) (by simp) ?_
            refine ready_l rfl (fun K hK => ?_) AllReadyH.nil
            refine step_append_known rfl _ _ _ _ rfl _ _ rfl rfl hrun.out ?_
            (try simp only [Act.put, List.setIfInBounds_toArray, List.set_cons_zero, List.set_cons_succ])
            refine hK.out _ _ trivial (fun hHeld => ?_)
            clear hK K
            (try simp only [Act.put, List.setIfInBounds_toArray, List.set_cons_zero, List.set_cons_succ])
            refine take_l (i := 9) (v := ?_) rfl (by kernel_rfl) (by kernel_rfl) (by kernel_rfl) (fun _ _ _ h => h) (Or.inl ⟨by kernel_rfl, ?_⟩) (by assumption) ?_
            rotate_left
            · intro w hSw; (try dsimp only at hSw); go_simp; (try with_reducible rfl)
            (try simp only [Act.put, List.setIfInBounds_toArray, List.set_cons_zero, List.set_cons_succ])
            refine wpAnyH_ready (rs := [10]) (by kernel_rfl) (by simp) ?_
            refine ready_l rfl (fun K hK => ?_) AllReadyH.nil
            go_simp
            refine hK.out _ _ trivial (fun hHeld => ?_)
            clear hK K
            (try simp only [Act.put, List.setIfInBounds_toArray, List.set_cons_zero, List.set_cons_succ])
            refine wpAnyH_done (by kernel_rfl) ?_ _
            clear hHeld hrun cA cB fB ltA hRA hbA hnext hln
            go_wp2_with fail
            exact ⟨⟨k + 1, _, by omega, rfl, hend⟩, by simp [intOf]; omega⟩
          · skip
            go_simp
            refine hK.out _ _ trivial (fun hHeld => ?_)
            clear hK K
            (try simp only [Act.put, List.setIfInBounds_toArray, List.set_cons_zero, List.set_cons_succ])
            refine wpAnyH_ready (rs := [1]) (by kernel_rfl) (by simp) ?_
            refine ready_l rfl (fun K hK => ?_) AllReadyH.nil
            go_simp
            refine hK.out _ _ trivial (fun hHeld => ?_)
            clear hK K
            (try simp only [Act.put, List.setIfInBounds_toArray, List.set_cons_zero, List.set_cons_succ])
            refine wpAnyH_ready (rs := [8]) (by kernel_rfl) (by simp) ?_
            refine ready_l rfl (fun K hK => ?_) AllReadyH.nil
            refine step_append_known rfl _ _ _ _ rfl _ _ rfl rfl hrun.out ?_
            (try simp only [Act.put, List.setIfInBounds_toArray, List.set_cons_zero, List.set_cons_succ])
            refine hK.out _ _ trivial (fun hHeld => ?_)
            clear hK K
            (try simp only [Act.put, List.setIfInBounds_toArray, List.set_cons_zero, List.set_cons_succ])
            refine take_l (i := 9) (v := ?_) rfl (by kernel_rfl) (by kernel_rfl) (by kernel_rfl) (fun _ _ _ h => h) (Or.inl ⟨by kernel_rfl, ?_⟩) (by assumption) ?_
            rotate_left
            · intro w hSw; (try dsimp only at hSw); go_simp; (try with_reducible rfl)
            (try simp only [Act.put, List.setIfInBounds_toArray, List.set_cons_zero, List.set_cons_succ])
            refine wpAnyH_ready (rs := [10]) (by kernel_rfl) (by simp) ?_
            refine ready_l rfl (fun K hK => ?_) AllReadyH.nil
            go_simp
            refine hK.out _ _ trivial (fun hHeld => ?_)
            clear hK K
            (try simp only [Act.put, List.setIfInBounds_toArray, List.set_cons_zero, List.set_cons_succ])
            refine wpAnyH_done (by kernel_rfl) ?_ _
            clear hHeld hrun cA cB fB ltA hRA hbA hnext hln
            go_wp2_with fail
            exact ⟨⟨k + 1, _, by omega, rfl, hend⟩, by simp [intOf]; omega⟩
    · obtain rfl : k = ts.length := by omega
      have hd : decide ((ts.length : Int) < (ts.length : Int)) = false := by simp
      have hz : ((txAt ts ts.length).length : Int) = (s.size : Int) := by
        have e1 : s.data.toList.length = s.size := by simp
        rw [← e1, hs]
        simp [txAt]
      unfold ARdAt at hRr
      rw [hz] at hRr
      rw [List.take_length] at hown
      have r1 := Arr.cell hRr (j := 1) rfl
      have v0 := hVr.cell (j := 0) rfl
      have v2 := hVr.cell (j := 2) rfl
      have v3 := hVr.cell (j := 3) rfl
      have v4 := hVr.cell (j := 4) rfl
      have q0 := hQr.cell (j := 0) rfl
      have q1 := hQr.cell (j := 1) rfl
      have q2 := hQr.cell (j := 2) rfl
      have q3 := hQr.cell (j := 3) rfl
      have q4 := hQr.cell (j := 4) rfl
      have f0 := hQr.free 0
      have f1 := hQr.free 1
      have f2 := hQr.free 2
      have f3 := hQr.free 3
      have f4 := hQr.free 4
      have hfin := ((((hQr.set 0 (.bool false)).set 1 (.slice a ts.length c)).set 2 (.int .i64 0)).set 3 (.int .i64 0)).set 4 (.string (str []))
      have hqn := row_ne hown hQr (by decide)
      have hown2 := own_set (own_set (own_set (own_set (own_set hown (o := 0) (u := .bool false) hqn) (o := 1) (u := .slice a ts.length c) hqn) (o := 2) (u := .int .i64 0) hqn) (o := 3) (u := .int .i64 0) hqn) (o := 4) (u := .string (str [])) hqn
      have hB2 := ((((hBr.setCell (p := ⟨w.heap.size, 0, none⟩) (Nat.le_refl _) (.bool false)).setCell (p := ⟨w.heap.size, 1, none⟩) (Nat.le_refl _) (.slice a ts.length c)).setCell (p := ⟨w.heap.size, 2, none⟩) (Nat.le_refl _) (.int .i64 0)).setCell (p := ⟨w.heap.size, 3, none⟩) (Nat.le_refl _) (.int .i64 0)).setCell (p := ⟨w.heap.size, 4, none⟩) (Nat.le_refl _) (.string (str []))
      replace hfin := Lib.hid hfin
      replace hown2 := Lib.hid hown2
      replace hB2 := Lib.hid hB2
      clear hown hBr hQr hVr hRr
      go_wp2_with (go_at_call 51; refine (hmu.out _).mono ?_; rintro e w9 ⟨rfl, rfl⟩)
      refine bodyPost_ret (arr_result (p := 4) (ty := 129) (n := 5) (by kernel_rfl) _ hfin.out rfl Tryz.underlying129 rfl (by kernel_rfl) rfl) rfl ?_
      exact ⟨_, rfl, hown2.out, hB2.out⟩
end Go.Proofs.YtocpnlifmeffkaaGreatDoor
namespace Go.Proofs.YtocpnlifmeffkaaGreatDoor
open Go.RowKit Go.Shelf

attribute [local go_sem] Oper.semAt_some

theorem lnCells_set : ∀ (l : List (List UInt8)) (i : Nat) (t : List UInt8), lnCells (l.set i t) = (lnCells l).set (i * 2) (.string (str t))
  | [], i, t => by simp [lnCells]
  | x :: l, 0, t => rfl
  | x :: l, i + 1, t => by
    have ih := lnCells_set l i t
    unfold lnCells at *
    rw [List.set_cons_succ, List.flatMap_cons, List.flatMap_cons, ih, show (i + 1) * 2 = i * 2 + 1 + 1 from by omega]
    simp [lnC]
theorem lnCells_len (l : List (List UInt8)) : (lnCells l).length = l.length * 2 := by
  induction l with
  | nil => rfl
  | cons x l ih => simp [lnCells, lnC] at ih ⊢; omega
/-- The lines ts lie in the block g. -/
structure LnsIn (w : World) (g : Nat) (ts : List (List UInt8)) : Prop where
  lt : g < w.heap.size
  cell : ∀ j u, (lnCells ts)[j]? = some u → w.cell? ⟨g, j, none⟩ = some u
  free : ∀ j, w.frozen? ⟨g, j, none⟩ = false
theorem LnsIn.below {w w' : World} {g C : Nat} {ts : List (List UInt8)} (h : LnsIn w g ts) (hb : Below C w w') (hC : g < C) : LnsIn w' g ts :=
  ⟨Nat.lt_of_lt_of_le h.lt hb.size, fun j u hu => (hb.cell (p := ⟨g, j, none⟩) hC).trans (h.cell j u hu), fun j => (hb.frozen (p := ⟨g, j, none⟩) hC).trans (h.free j)⟩
theorem LnsIn.set {w : World} {g : Nat} {ts : List (List UInt8)} (h : LnsIn w g ts) {i : Nat} (hi : i < ts.length) (t : List UInt8) : LnsIn (w.setCell ⟨g, i * 2, none⟩ (.string (str t))) g (ts.set i t) := by
  have hc : w.cell? ⟨g, i * 2, none⟩ = some (.string (str ts[i]!)) := h.cell _ _ ((lnCells_at ts (i := 0) hi (by omega)).trans rfl)
  refine ⟨by simpa [World.setCell] using h.lt, fun j u hu => ?_, fun j => (World.frozen?_setCell _ _ _ _).trans (h.free j)⟩
  rw [lnCells_set] at hu
  by_cases hj : j = i * 2
  · subst hj
    rw [List.getElem?_set_self (by rw [lnCells_len]; omega)] at hu
    injection hu with hu
    subst hu
    exact World.cell?_setCell_same' _ _ _ (by rw [hc]; rfl)
  · rw [List.getElem?_set_ne (by omega)] at hu
    exact (World.cell?_setCell_other _ _ _ _ (by intro e; injection e with e1 e2; omega)).trans (h.cell j u hu)
theorem LnsIn.of_own {w : World} {B n : Nat} {v : Value} {ts : List (List UInt8)} (h : w.ownsRow B 181 2 v n (lnCells ts)) (hn : 0 < n) : ∃ g cap, v = .slice (some ⟨g, 0, none⟩) n cap ∧ B ≤ g ∧ LnsIn w g ts := by
  obtain ⟨hl, h⟩ := h
  rcases h with ⟨_, h0⟩ | ⟨g, cap, cur, hv, hB, hg, h1, h2, h3, h4⟩
  · omega
  · refine ⟨g, cap, hv, hB, (Array.getElem?_eq_some_iff.1 hg).1, fun j u hu => ?_, fun j => frozen_of_row w g j cur _ hg⟩
    rw [cell_of_row w g j cur _ (0, 0) hg]
    rw [← h4, List.getElem?_take] at hu
    split at hu
    · simpa using hu
    · cases hu
def lowTo (ts : List (List UInt8)) (i : Nat) : List (List UInt8) := (ts.take i).map lowB ++ ts.drop i
theorem lowTo_len (ts : List (List UInt8)) (i : Nat) : (lowTo ts i).length = ts.length := by simp [lowTo]; omega
theorem lowTo_at (ts : List (List UInt8)) {i : Nat} (hi : i < ts.length) : (lowTo ts i)[i]! = ts[i]! := by
  rw [getElem!_pos _ i (by rw [lowTo_len]; exact hi), getElem!_pos ts i hi]
  unfold lowTo
  rw [List.getElem_append_right (by simp; omega)]
  simp [Nat.min_eq_left (Nat.le_of_lt hi)]
theorem lowTo_succ (ts : List (List UInt8)) {i : Nat} (hi : i < ts.length) : lowTo ts (i + 1) = (lowTo ts i).set i (lowB ts[i]!) := by
  unfold lowTo
  have hl : ((ts.take i).map lowB).length = i := by simp; omega
  rw [take_snoc ts _ hi, List.map_append, List.set_append_right _ _ (by omega), hl, Nat.sub_self, List.append_assoc]
  conv => rhs; rw [List.drop_eq_getElem_cons hi, List.set_cons_zero]
  rfl
theorem lowTo_zero (ts : List (List UInt8)) : lowTo ts 0 = ts := by simp [lowTo]
theorem lowTo_all (ts : List (List UInt8)) : lowTo ts ts.length = ts.map lowB := by simp [lowTo]
set_option maxRecDepth 100000 in
set_option maxHeartbeats 4000000 in
theorem each1_any (V D g cap : Nat) (lv : List Value) (n : Int) (ts : List (List UInt8)) (w : World) (hn : ts.length ≤ 64) (hts : ∀ t ∈ ts, fineB t = true ∧ t.length ≤ 80) (hV : Arr w V 129 (.bool false :: .slice (some ⟨g, 0, none⟩) ts.length cap :: lv)) (hD : Arr w D 184 [.func (.func 110) #[] #[]]) (hL : LnsIn w g ts) (hgV : g ≠ V) (hgD : g ≠ D) :
    Calls Tryz.prog 178 #[.pointer (some ⟨V, 0, none⟩), .int .i64 n, .pointer (some ⟨D, 0, none⟩)] w fun e w' => (∃ r, e = .returned r) ∧ LnsIn w' g (ts.map lowB) ∧ BelowBut w.heap.size g w w' := by
  have hF := Lib.hid fun (i : Nat) W (h : i < ts.length) hc hz hb => fold_any g (i * 2) ts[i]! n W (hts ts[i]! (by rw [getElem!_pos ts i h]; exact List.getElem_mem h)).1 (by have := (hts ts[i]! (by rw [getElem!_pos ts i h]; exact List.getElem_mem h)).2; omega) hc hz hb
  have hV1 := hV.cell (j := 1) rfl
  have hB0 : BelowBut w.heap.size g w w := BelowBut.refl _ _ _
  clear hts
  go_enter Tryz.func178, Tryz.ntmps178
  go_wp2_with fail
  go_loopw [11] (fun iv wr => ∃ i : Nat, i ≤ ts.length ∧ iv = .int .i64 (i : Int) ∧ Hid (LnsIn wr g (lowTo ts i) ∧ BelowBut w.heap.size g w wr)) (fun iv _ => ts.length - (intOf iv).toNat)
  case atStart => exact ⟨0, Nat.zero_le _, rfl, Lib.hid ⟨by rw [lowTo_zero]; exact hL, hB0⟩⟩
  case round =>
    obtain ⟨i, hi, rfl, hh⟩ := hrel
    obtain ⟨hLr, hBr⟩ := hh.out
    clear hh hB0 hV1
    by_cases hlt : i < ts.length
    · have hd : decide ((i : Int) < (ts.length : Int)) = true := by simp; omega
      have hVr := hBr.arr hV (fun e => hgV e.symm)
      have hDr := hBr.arr hD (fun e => hgD e.symm)
      have v1 := hVr.cell (j := 1) rfl
      have d0 := hDr.cell (j := 0) rfl
      have i4 : (0 : Int) ≤ (i : Int) := by omega
      have i5 : (i : Int) < (ts.length : Int) := by omega
      have i7 : IntKind.i64.wrap ((i : Int) + 1) = (i : Int) + 1 := IntWalk.i64_in _ (by omega)
      have hc : wr.cell? ⟨g, i * 2, none⟩ = some (.string (str ts[i]!)) := by
        rw [← lowTo_at ts hlt]
        exact hLr.cell _ _ ((lnCells_at (lowTo ts i) (i := 0) (by rw [lowTo_len]; exact hlt) (by omega)).trans rfl)
      have hcall := Lib.hid (hF.out i wr.drew hlt hc (hLr.free _) hLr.lt)
      have hsuc := lowTo_succ ts hlt
      clear hVr hDr hc
      generalize ts[i]! = x at *
      go_wp2
      go_still_tail 8, (by kernel_rfl)
      change wpList _ _ _ _ _ wr.drew
      go_wp2_with (fail)
      refine hcall.out.mono ?_
      rintro e w' ⟨rfl, w1, hb1, rfl⟩
      go_wp2_with (fail)
      have hb1' : Below wr.heap.size wr w1 := ⟨hb1.os, hb1.tape, hb1.output, hb1.size, hb1.block⟩
      refine ⟨⟨i + 1, by omega, by go_num, Lib.hid ⟨?_, ?_⟩⟩, by simp [intOf]; omega⟩
      · rw [hsuc]
        exact (hLr.below hb1' hLr.lt).set (by rw [lowTo_len]; exact hlt) _
      · exact (hBr.trans (BelowBut.of hb1') hBr.size).setCell _ _
    · obtain rfl : i = ts.length := by omega
      have hd : decide ((ts.length : Int) < (ts.length : Int)) = false := by simp
      rw [lowTo_all] at hLr
      go_wp2_with fail
      go_end0
      exact ⟨⟨_, rfl⟩, hLr, hBr⟩
end Go.Proofs.YtocpnlifmeffkaaGreatDoor
namespace Go.Proofs.YtocpnlifmeffkaaGreatDoor
open Go.RowKit Go.Shelf

attribute [local go_sem] Oper.semAt_some

theorem txs_len : ∀ ts : List (List UInt8), (∀ t ∈ ts, t.length ≤ 80) → (ts.flatMap putSb).length ≤ 89 * ts.length
  | [], _ => Nat.le_refl _
  | t :: ts, h => by
    have ih := txs_len ts fun x hx => h x (List.mem_cons_of_mem _ hx)
    have h1 := putSb_len t
    have h2 := putZ_len t.length
    have h3 := h t (List.mem_cons_self ..)
    rw [List.flatMap_cons, List.length_append, List.length_cons]
    omega
set_option maxRecDepth 100000 in
set_option maxHeartbeats 8000000 in
theorem write1_any (g cap : Nat) (ts : List (List UInt8)) (w : World) (hn : ts.length ≤ 64) (hts : ∀ t ∈ ts, t.length ≤ 80) (hL : LnsIn w g ts) :
    Calls Tryz.prog 55 #[.agg #[.bool false, .slice (some ⟨g, 0, none⟩) ts.length cap, .int .i64 0, .int .i64 0, .string (str [])], .int .i64 1] w fun e w' => e = .returned (.string (str (putZ ts.length ++ ts.flatMap putSb))) ∧ Below w.heap.size w w' := by
  have hmf : ∀ (fn : Fn) (first cap : Array Value) (w : World), (Instr.makeFunc fn first cap).run Tryz.prog w = .ok (.func fn first cap) w := fun _ _ _ _ => rfl
  have hlen : ∀ k, ((ts.take k).flatMap putSb).length ≤ 89 * 64 := fun k => by
    have := txs_len (ts.take k) fun t ht => hts t (List.mem_of_mem_take ht)
    rw [List.length_take] at this
    omega
  obtain ⟨W0, hW0⟩ : ∃ W, W = ((w.alloc (.cells #[.bool false, .slice (some ⟨g, 0, none⟩) ts.length cap, .int .i64 0, .int .i64 0, .string (str [])] 129)).alloc (.cells #[.slice none 0 0] 57)).alloc (.cells #[.int .i64 (ts.length : Int)] 3) := ⟨_, rfl⟩
  have hB0 : Below w.heap.size w W0 := by rw [hW0]; exact (((Below.refl _ _).alloc (Nat.le_refl _) _).alloc (by simp) _).alloc (by simp; omega) _
  have hO0 : OutI W0 w.heap.size (w.heap.size + 1) [] := by
    rw [hW0]
    exact ⟨_, by have := (Boxed.new (w.alloc (.cells #[.bool false, .slice (some ⟨g, 0, none⟩) ts.length cap, .int .i64 0, .int .i64 0, .string (str [])] 129)) 57 (.slice none 0 0)).alloc (.cells #[.int .i64 (ts.length : Int)] 3); simpa using this, World.ownsRow_nil _ _ _ _⟩
  have hA0 : Arr W0 (w.heap.size + 1 + 1) 3 ([(ts.length : Int)].map (Value.int .i64)) := by rw [hW0]; exact Arr.new rfl (by simp)
  have hV0 : Arr W0 w.heap.size 129 [.bool false, .slice (some ⟨g, 0, none⟩) ts.length cap, .int .i64 0, .int .i64 0, .string (str [])] := by rw [hW0]; exact ((Arr.new rfl rfl).alloc _).alloc _
  have hl1b : ∀ n ∈ [(ts.length : Int)], -(2 ^ 62 - 1) ≤ n ∧ n ≤ 2 ^ 62 - 1 := by intro n hn; obtain rfl := List.mem_singleton.1 hn; omega
  have hput := Lib.hid (aput_any w.heap.size (w.heap.size + 1) (w.heap.size + 1 + 1) [] [(ts.length : Int)] W0 (by omega) hO0 hA0 hl1b (by simp))
  have hpre : [] ++ putL [(ts.length : Int)] = putZ ts.length := by simp [putL]
  rw [hpre, hW0] at hput
  replace hV0 := Lib.hid hV0
  replace hB0 := Lib.hid hB0
  replace hW0 := Lib.hid hW0
  clear hO0 hA0 hl1b hpre
  go_enter Tryz.func55, Tryz.ntmps55
  go_wp2_with (go_at_call 118; go_loud (refine hput.out.mono ?_; rintro e w2 ⟨⟨r, rfl⟩, hO, hb2, hK2⟩; rw [← hW0.out] at hb2 hK2; have hV2 := hK2 _ _ _ (by decide) (by decide) hV0.out; have v1 := hV2.cell (j := 1) rfl))
  have hB2 := hB0.out.trans hb2
  clear hput v1 hK2 hb2
  go_loopw [21] (fun iv wr => ∃ i : Nat, i ≤ ts.length ∧ iv = .int .i64 (i : Int) ∧ Hid (OutI wr w.heap.size (w.heap.size + 1) (putZ ts.length ++ (ts.take i).flatMap putSb) ∧ Below w.heap.size w wr)) (fun iv _ => ts.length - (intOf iv).toNat)
  case atStart => exact ⟨0, Nat.zero_le _, rfl, Lib.hid ⟨by simpa using hO, hB2⟩⟩
  case round =>
    obtain ⟨i, hi, rfl, hh⟩ := hrel
    obtain ⟨hOr, hBr⟩ := hh.out
    clear hh hO hB2
    by_cases hlt : i < ts.length
    · have hd : decide ((i : Int) < (ts.length : Int)) = true := by simp; omega
      have hLr := hL.below hBr hL.lt
      have l0 : wr.cell? ⟨g, i * 2, none⟩ = some (.string (str ts[i]!)) := hLr.cell _ _ ((lnCells_at ts (i := 0) hlt (by omega)).trans rfl)
      have l1 : wr.cell? ⟨g, i * 2 + 1, none⟩ = some (.slice none 0 0) := hLr.cell _ _ ((lnCells_at ts (i := 1) hlt (by omega)).trans rfl)
      have i4 : (0 : Int) ≤ (i : Int) := by omega
      have i5 : (i : Int) < (ts.length : Int) := by omega
      have i7 : IntKind.i64.wrap ((i : Int) + 1) = (i : Int) + 1 := IntWalk.i64_in _ (by omega)
      have hft := flat_take putSb ts hlt
      have ht80 := hts ts[i]! (by rw [getElem!_pos ts i hlt]; exact List.getElem_mem hlt)
      have hol : (putZ ts.length ++ (ts.take i).flatMap putSb).length ≤ 9 + 89 * 64 := by
        have h1 := putZ_len ts.length
        have h2 := hlen i
        rw [List.length_append]
        omega
      generalize ts[i]! = x at *
      have hnx : putZ ts.length ++ (ts.take (i + 1)).flatMap putSb = (putZ ts.length ++ (ts.take i).flatMap putSb) ++ putSb x := by rw [hft, List.append_assoc]
      generalize putZ ts.length ++ (ts.take i).flatMap putSb = o at *
      have hba : Below wr.heap.size wr (wr.alloc (.cells #[.string (str x), .slice none 0 0] 181)) := (Below.refl _ _).alloc (Nat.le_refl _) _
      have hA1 : Arr (wr.alloc (.cells #[.string (str x), .slice none 0 0] 181)) wr.heap.size 181 [.string (str x), .slice none 0 0] := Arr.new rfl rfl
      have htx := Lib.hid (atxt_any w.heap.size (w.heap.size + 1) o x _ (by omega) (hOr.below hba) (by omega) (by omega))
      have hnone := Lib.hid fun W => aput_none (w.heap.size + 1) none 0 W
      have hB1 := Lib.hid (hBr.trans (hba.mono hBr.size))
      replace hA1 := Lib.hid hA1
      replace hnx := Lib.hid hnx
      clear hLr hba hft ht80 hlen hOr hBr
      go_wp2_with (first
        | (go_at_call 119; refine htx.out.mono ?_; rintro e w3 ⟨⟨r, rfl⟩, hO3, hb3, hK3⟩; have hA3 := hK3 _ _ _ (by decide) (by decide) hA1.out; have d1 := hA3.cell (j := 1) rfl)
        | (go_at_call 118; refine (hnone.out _).mono ?_; rintro e w4 ⟨⟨r, rfl⟩, rfl⟩))
      exact ⟨⟨i + 1, by omega, rfl, Lib.hid ⟨by rw [hnx.out]; exact hO3, hB1.out.trans hb3⟩⟩, by simp [intOf]; omega⟩
    · obtain rfl : i = ts.length := by omega
      have hd : decide ((ts.length : Int) < (ts.length : Int)) = false := by simp
      rw [List.take_length] at hOr
      obtain ⟨v, hv, hr⟩ := hOr
      have hc := hv.cell
      have hcv := conv_own hr
      go_wp2_with fail
      go_ret
      exact ⟨rfl, hBr⟩
end Go.Proofs.YtocpnlifmeffkaaGreatDoor
