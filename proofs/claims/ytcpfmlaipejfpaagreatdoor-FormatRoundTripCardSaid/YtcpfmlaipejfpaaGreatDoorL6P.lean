/-
  Formats of chapter 4: what FormatRoundTrip and FormatMatchesReference need.
  FormatRoundTrip is true of every input: the row, and its tied card. Conditions: the library variables that are read hold what their packages lay in them (the card ties that to the text).
-/
import Derived.Test.YtcpfmlaipejfpaaGreatDoorKS
import Derived.Test.YtcpfmlaipejfpaaGreatDoorKT
import Derived.Test.YtcpfmlaipejfpaaGreatDoorCards
import Derived.Test.YtcpfmlaipejfpaaGreatDoorTie
import Derived.Test.YtcpfmlaipejfpaaGreatDoorKN
import Derived.SevenTiedAt
namespace Go.Proofs.YtcpfmlaipejfpaaGreatDoor
open Go.RowKit Go.Shelf

theorem in_any {l : List Fmt} (h : FmtIn l) : FmtAny l := ⟨h.id, fun f hf x hx => by
  have := h.ok f hf x hx
  exact ⟨this.k, this.n, this.m, by have := this.t; omega⟩⟩
theorem text_len {l : List Fmt} (hv : validT l = true) (hin : FmtIn l) : (textF l).length ≤ 60600 := by
  have hfit := valid_fit hv
  have h1 := textF_len l hfit.ids fun g hg => ⟨hfit.flen g hg, fun f hf => line_len (hin.ok g hg f hf).n (hin.ok g hg f hf).m (hfit.fld g hg f hf).2⟩
  have := hfit.len
  omega
theorem allEq_fmt : ∀ (l m : List Fmt), Lib.allEq fmtB l m = true ↔ l = m
  | [], [] => by simp [Lib.allEq]
  | [], _ :: _ => by simp [Lib.allEq]
  | _ :: _, [] => by simp [Lib.allEq]
  | x :: l, y :: m => by rw [Lib.allEq, Bool.and_eq_true, fmtB_iff, allEq_fmt l m, List.cons.injEq]
theorem same_text {l m : List Fmt} (hl : validT l = true) (hm : validT m = true) : Lib.allEq fmtB l m = (textF l == textF m) := by
  rw [Bool.eq_iff_iff, allEq_fmt, beq_iff_eq]
  exact ⟨fun e => by rw [e], fun e => text_inj hl hm e⟩
/-- A list of tables lies in a block. -/
def Tabs (W : World) (B : Nat) (LS : List (List Fmt)) : Prop := ∀ k, k < LS.length → ∃ a c, W.cell? ⟨B, k, none⟩ = some (.slice a LS[k]!.length c) ∧ Fmts W (.slice a LS[k]!.length c) LS[k]!
theorem Tabs.later {W W' : World} {B : Nat} {LS : List (List Fmt)} (h : Tabs W B LS) (hb : Below W.heap.size W W') : Tabs W' B LS := fun k hk => by
  obtain ⟨a, c, h1, h2⟩ := h k hk
  exact ⟨a, c, (hb.cell (World.block_lt_of_cell? _ _ h1)).trans h1, h2.later hb⟩
def txs (LS : List (List Fmt)) (i : Nat) : List (List UInt8) := (LS.take i).map fun l => (print4 l).1
theorem txs_len {LS : List (List Fmt)} {i : Nat} (h : i ≤ LS.length) : (txs LS i).length = i := by
  unfold txs
  rw [List.length_map, List.length_take]
  omega
theorem txs_at {LS : List (List Fmt)} {i k : Nat} (h : k < i) (hi : i ≤ LS.length) : (txs LS i)[k]! = (print4 LS[k]!).1 := by
  rw [getElem!_pos _ k (by rw [txs_len hi]; exact h), getElem!_pos LS k (by omega)]
  unfold txs
  rw [List.getElem_map, List.getElem_take]
theorem txs_snoc {LS : List (List Fmt)} {i : Nat} (h : i < LS.length) : txs LS (i + 1) = txs LS i ++ [(print4 LS[i]!).1] := by
  unfold txs
  rw [List.take_succ_eq_append_getElem h, List.map_append, getElem!_pos LS i h]
  rfl

attribute [local go_sem] Oper.semAt_some

set_option maxRecDepth 100000 in
set_option maxHeartbeats 16000000 in
theorem Trip_any (v0 : Value) (l0 : List Fmt) (v : Value) (n : Nat) (zs : List Int) (z0 z1 z2 z3 z4 : Int) (w : World) (h0 : FmtsAt w w.heap.size v0 l0) (hA : FmtAny l0) (hs : SliceAt w w.heap.size v n (zs.map (Value.int .i64))) (hz : zs.length = n * 4) (hI : ∀ z ∈ zs, I64 z) (hh : I64 z0 ∧ I64 z1 ∧ I64 z2 ∧ I64 z3 ∧ I64 z4) (hE : Env w) :
    Calls Tryz.prog 5 #[v0, v, .agg #[.int .i64 z0, .int .i64 z1, .int .i64 z2, .int .i64 z3, .int .i64 z4]] w fun e w' => e = .returned (.bool true) ∧ Below w.heap.size w w' := by
  obtain ⟨W1, hW1⟩ : ∃ W1, W1 = w.alloc (.cells #[.int .i64 z0, .int .i64 z1, .int .i64 z2, .int .i64 z3, .int .i64 z4] 24) := ⟨_, rfl⟩
  have hb1 : Below w.heap.size w W1 := by rw [hW1]; exact (Below.refl _ _).alloc (Nat.le_refl _) _
  have hAz : Hid (Arr W1 w.heap.size 24 [.int .i64 z0, .int .i64 z1, .int .i64 z2, .int .i64 z3, .int .i64 z4]) := by rw [hW1]; exact Arr.new rfl rfl
  go_enter Tryz.func5, Tryz.ntmps5
  go_wp2_with fail
  rw [← hW1]
  clear hW1
  refine (sane_any W1 (hE.below hb1)).mono ?_
  rintro e w2 ⟨rfl, hb2⟩
  have hB2 : Below w.heap.size w w2 := hb1.trans (hb2.mono hb1.size)
  have hE2 := (hE.below hb1).below hb2
  have hAz2 := hAz.out.below hb2
  go_wp2_with fail
  refine (Make_any v n zs w2 (SliceAt.later (SliceAt.later hs hb1) hb2) hz hI).mono ?_
  rintro e w3 ⟨⟨lvB, fvB, lB, rfl, hok, hM⟩, hb3⟩
  have hB3 := hB2.trans (hb3.mono hB2.size)
  have hE3 := hE2.below hb3
  have hAz3 := hAz2.below hb3
  have hFmB := hM.fmts hok.in_
  have hinB := hok.in_
  have h03 := ((h0.later hb1 (Nat.le_refl _)).later hb2 (Nat.le_refl _)).later hb3 (Nat.le_refl _)
  clear hAz hAz2 hs hz hI h0 hE hE2 hB2 hM hok hb1 hb2 hb3
  have hHold : ∀ W, Below w3.heap.size w3 W → W.cell? ⟨w.heap.size, 0, none⟩ = some (.int .i64 z0) ∧ W.cell? ⟨w.heap.size, 1, none⟩ = some (.int .i64 z1) ∧ W.cell? ⟨w.heap.size, 2, none⟩ = some (.int .i64 z2) ∧ W.cell? ⟨w.heap.size, 3, none⟩ = some (.int .i64 z3) ∧ W.cell? ⟨w.heap.size, 4, none⟩ = some (.int .i64 z4) := fun W hb =>
    ⟨(hAz3.below hb).cell (j := 0) rfl, (hAz3.below hb).cell (j := 1) rfl, (hAz3.below hb).cell (j := 2) rfl, (hAz3.below hb).cell (j := 3) rfl, (hAz3.below hb).cell (j := 4) rfl⟩
  have hfew := Lib.hid fun (W : World) (hW : Below w3.heap.size w3 W) => few_any v0 l0 W (h03.later hW (Nat.le_refl _)) hA
  have hbent := Lib.hid fun (W : World) (hW : Below w3.heap.size w3 W) => bent_any lvB lB z0 z1 z2 z3 z4 W (hFmB.at_.later hW (Nat.le_refl _)) (in_any hinB) hh
  obtain ⟨aB, cB, hvB, _⟩ := hFmB.val
  subst hvB
  replace h03 := Lib.hid h03
  replace hFmB := Lib.hid hFmB
  replace hE3 := Lib.hid hE3
  replace hB3 := Lib.hid hB3
  replace hAz3 := Lib.hid hAz3
  have hinA := Lib.hid (few_in hA)
  go_wp2_with fail
  refine wp_region_held_drew (S := fun w' => w'.cell? ⟨w.heap.size, 0, none⟩ = some (.int .i64 z0) ∧ w'.cell? ⟨w.heap.size, 1, none⟩ = some (.int .i64 z1) ∧ w'.cell? ⟨w.heap.size, 2, none⟩ = some (.int .i64 z2) ∧ w'.cell? ⟨w.heap.size, 3, none⟩ = some (.int .i64 z3) ∧ w'.cell? ⟨w.heap.size, 4, none⟩ = some (.int .i64 z4)) (by kernel_rfl) (by first | exact hHold _ (Below.refl _ _) | exact hHold _ (Below.refl _ _).drew) (fun hHeld => ?_)
  refine take_l (i := 0) (v := ?_) rfl (by kernel_rfl) (by kernel_rfl) (by kernel_rfl) (fun _ _ _ h => h) (Or.inl ⟨by kernel_rfl, ?_⟩) (by assumption) ?_
  rotate_left
  · intro w hSw; (try dsimp only at hSw); go_simp; (try with_reducible rfl)
  (try simp only [Act.put, List.setIfInBounds_toArray, List.set_cons_zero, List.set_cons_succ])
  refine take_l (i := 2) (v := ?_) rfl (by kernel_rfl) (by kernel_rfl) (by kernel_rfl) (fun _ _ _ h => h) (Or.inl ⟨by kernel_rfl, ?_⟩) (by assumption) ?_
  rotate_left
  · intro w hSw; (try dsimp only at hSw); go_simp; (try with_reducible rfl)
  (try simp only [Act.put, List.setIfInBounds_toArray, List.set_cons_zero, List.set_cons_succ])
  refine take_l (i := 3) (v := ?_) rfl (by kernel_rfl) (by kernel_rfl) (by kernel_rfl) (fun _ _ _ h => h) (Or.inl ⟨by kernel_rfl, ?_⟩) (by assumption) ?_
  rotate_left
  · intro w hSw; (try dsimp only at hSw); go_simp; (try with_reducible rfl)
  (try simp only [Act.put, List.setIfInBounds_toArray, List.set_cons_zero, List.set_cons_succ])
  refine take_l (i := 4) (v := ?_) rfl (by kernel_rfl) (by kernel_rfl) (by kernel_rfl) (fun _ _ _ h => h) (Or.inl ⟨by kernel_rfl, ?_⟩) (by assumption) ?_
  rotate_left
  · intro w hSw; (try dsimp only at hSw); go_simp; (try with_reducible rfl)
  (try simp only [Act.put, List.setIfInBounds_toArray, List.set_cons_zero, List.set_cons_succ])
  refine wpAnyH_ready (rs := [1]) (by kernel_rfl) (by simp) ?_
  refine ready_l rfl (fun K hK => ?_) AllReadyH.nil
  go_simp
  refine (hfew.out _ (by first | exact Below.refl _ _ | exact (Below.refl _ _).drew)).mono ?_
  rintro e w4 ⟨⟨lvA, fvA, rfl, hFA⟩, hb4⟩
  have hb4' : Below w3.heap.size w3 w4 := by first | exact hb4 | exact (Below.refl _ _).drew.trans hb4
  refine hK.out _ _ (by exact hHold _ hb4') (fun hHeld => ?_)
  clear hK K
  (try simp only [Act.put, List.setIfInBounds_toArray, List.set_cons_zero, List.set_cons_succ])
  refine wpAnyH_ready (rs := [5]) (by kernel_rfl) (by simp) ?_
  refine ready_l rfl (fun K hK => ?_) AllReadyH.nil
  go_simp
  refine (hbent.out _ (by first | exact hb4' | exact hb4'.drew)).mono ?_
  rintro e w5 ⟨⟨lvC, LC, rfl, hFC⟩, hb5⟩
  have hb5' : Below w4.heap.size w4 w5 := by first | exact hb5 | exact (Below.refl _ _).drew.trans hb5
  refine hK.out _ _ (by exact hHold _ (hb4'.trans (hb5'.mono hb4'.size))) (fun hHeld => ?_)
  clear hK K
  (try simp only [Act.put, List.setIfInBounds_toArray, List.set_cons_zero, List.set_cons_succ])
  obtain ⟨aA, cA, hvA⟩ : ∃ aA cA, lvA = .slice aA (fewL l0).length cA := own_val hFA.of_.row
  subst hvA
  have hFmA := (hFA.of_.fmts hinA.out).later hb5'
  obtain ⟨aC, cC, hvC, _⟩ := hFC.val
  subst hvC
  have hb5w := hb4'.trans (hb5'.mono hb4'.size)
  refine wpAnyH_ready (rs := [6]) (by kernel_rfl) (by simp) ?_
  refine ready_l rfl (fun K hK => ?_) AllReadyH.nil
  go_simp
  refine hK.out _ _ (by first | exact hHold _ (hb5w.alloc hb5w.size _) | exact hHold _ (hb5w.alloc hb5w.size _).drew) (fun hHeld => ?_)
  clear hK K
  (try simp only [Act.put, List.setIfInBounds_toArray, List.set_cons_zero, List.set_cons_succ])
  refine take_l (i := 7) (v := ?_) rfl (by kernel_rfl) (by kernel_rfl) (by kernel_rfl) (fun _ _ _ h => h) (Or.inl ⟨by kernel_rfl, ?_⟩) (by assumption) ?_
  rotate_left
  · intro w hSw; (try dsimp only at hSw); go_simp; (try with_reducible rfl)
  (try simp only [Act.put, List.setIfInBounds_toArray, List.set_cons_zero, List.set_cons_succ])
  refine wpAnyH_done (by kernel_rfl) ?_ _
  refine name_then ?_
  intro W6 hW6
  have hb6 : Below w5.heap.size w5 W6 := by rw [hW6]; first | exact (Below.refl _ _).alloc (Nat.le_refl _) _ | exact ((Below.refl _ _).alloc (Nat.le_refl _) _).drew
  have hA6 : Arr W6 w5.heap.size 22 [.slice aA (fewL l0).length cA, .slice aB lB.length cB, .slice aC LC.length cC] := by rw [hW6]; first | exact Arr.new rfl rfl | exact (Arr.new rfl rfl).drew
  have hFmA6 := hFmA.later hb6
  have hFmB6 := (hFmB.out.later hb5w).later hb6
  have hFmC6 := hFC.later hb6
  have hb6w := hb5w.trans (hb6.mono hb5w.size)
  have hB6 := Lib.hid (hB3.out.trans (hb6w.mono hB3.out.size))
  have hE6 := Lib.hid (hE3.out.below hb6w)
  clear hW6 hb6 hb6w hb5w hb5' hb4' hb5 hb4 hFmA hFC hFA hFmB hB3 hE3 hbent hfew hHold hAz3 hinA h03
  obtain ⟨lA, hlA⟩ : ∃ lA, lA = fewL l0 := ⟨_, rfl⟩
  rw [← hlA] at hA6 hFmA6 ⊢
  clear hlA
  obtain ⟨LS, hLS⟩ : ∃ LS, LS = [lA, lB, LC] := ⟨_, rfl⟩
  have hLl : Hid (LS.length = 3) := by show _ = _; rw [hLS]; rfl
  have hT : Hid (Tabs W6 w5.heap.size LS) := fun k hk => by
    rw [hLS] at hk ⊢
    have hk3 : k < 3 := hk
    obtain rfl | rfl | rfl : k = 0 ∨ k = 1 ∨ k = 2 := by omega
    · exact ⟨aA, cA, hA6.cell (j := 0) rfl, hFmA6⟩
    · exact ⟨aB, cB, hA6.cell (j := 1) rfl, hFmB6⟩
    · exact ⟨aC, cC, hA6.cell (j := 2) rfl, hFmC6⟩
  clear hA6 hFmA6 hFmB6 hFmC6 hLS
  generalize w5.heap.size = BT at *
  generalize LC.length = nC at *
  go_wp2_with fail
  go_loopw [11, 10] (fun iv tv wr => ∃ (i : Nat) (a : Option Addr) (c : Nat), iv = .int .i64 (i : Int) ∧ tv = .slice a i c ∧ i ≤ 3 ∧ Hid (Below W6.heap.size W6 wr ∧ wr.ownsRow W6.heap.size 9 1 (.slice a i c) (txs LS i).length (wordCells (txs LS i)))) (fun iv _ _ => 3 - (intOf iv).toNat)
  case atStart => exact ⟨0, none, 0, rfl, rfl, Nat.zero_le _, (show Hid _ from ⟨Below.refl _ _, ⟨rfl, .inl ⟨rfl, rfl⟩⟩⟩)⟩
  case round =>
    obtain ⟨i, a, c, rfl, rfl, hi, hS⟩ := hrel
    by_cases hlt : i < 3
    · have hd : decide ((i : Int) < 3) = true := decide_eq_true (by omega)
      have i0 : (0 : Int) ≤ (i : Int) := by omega
      have i1 : (i : Int) < 3 := by omega
      have hwi : IntKind.i64.wrap ((i : Int) + 1) = ((i + 1 : Nat) : Int) := by rw [Int.natCast_succ]; exact IntWalk.i64_in _ (by omega)
      obtain ⟨ai, ci, y0, hFi⟩ := hT.out i (by rw [hLl.out]; exact hlt)
      obtain ⟨Li, hLi⟩ : ∃ Li, Li = LS[i]! := ⟨_, rfl⟩
      rw [← hLi] at y0 hFi
      have hYi := Lib.hid fun (W : World) (hW : Below W6.heap.size W6 W) => (hW.cell (p := ⟨BT, i, none⟩) (World.block_lt_of_cell? _ _ y0)).trans y0
      have hFY := Lib.hid fun (W : World) (hW : Below W6.heap.size W6 W) => hFi.later hW
      have hin := Lib.hid hFi.in_
      have hvl := Lib.hid fun (W : World) (hW : Below W6.heap.size W6 W) => valid_any _ Li W (hFi.later hW).at_ hFi.in_
      have hp := Lib.hid (Print_any _ Li wr (hFY.out _ hS.out.1).at_ hin.out (hE6.out.below hS.out.1))
      have hsn := Lib.hid (txs_snoc (LS := LS) (i := i) (by rw [hLl.out]; exact hlt))
      have htl := Lib.hid (txs_len (LS := LS) (i := i) (by rw [hLl.out]; omega))
      have htl1 := Lib.hid (txs_len (LS := LS) (i := i + 1) (by rw [hLl.out]; omega))
      have yr := hYi.out _ hS.out.1
      clear hFi y0
      generalize hln : Li.length = ln at *
      replace hln := Lib.hid hln
      by_cases hval : validT Li = true
      · have hp4 : print4 Li = (textF Li, 0) := by unfold print4; rw [hval]; rfl
        have htx := text_len hval hin.out
        have hpt := Lib.hid (parse_text hval)
        rw [hp4] at hp
        rw [← hLi, hp4] at hsn
        dsimp only at hp hsn
        rw [hval] at hvl
        obtain ⟨T, hTe⟩ : ∃ T, T = textF Li := ⟨_, rfl⟩
        rw [← hTe] at hp hsn htx hpt
        replace hval := Lib.hid hval
        replace hTe := Lib.hid hTe
        replace hp4 := Lib.hid hp4
        replace hLi := Lib.hid hLi
        go_wp2_with fail
        refine hp.out.mono ?_
        rintro e u1 ⟨rfl, c1⟩
        have d1 := hS.out.1.trans (c1.mono hS.out.1.size)
        have y1 := hYi.out _ d1
        go_wp2_with fail
        refine (hvl.out _ d1).mono ?_
        rintro e u2 ⟨rfl, c2⟩
        have c12 := c1.trans (c2.mono c1.size)
        have d2 := d1.trans (c2.mono d1.size)
        have hrow := own_below hS.out.2 c12
        obtain ⟨v6, w6, hrun6, hr6, hbw6⟩ := append_word u2 W6.heap.size _ (txs LS i) T hrow (by rw [htl.out]; omega) d2.size
        obtain ⟨a6, c6, rfl⟩ := own_val hr6
        rw [← hsn.out] at hr6 hrun6
        rw [htl1.out] at hrun6
        have d6 := hbw6 _ _ (Nat.le_refl _) d2
        replace hr6 := Lib.hid hr6
        replace hrun6 := Lib.hid hrun6
        clear hbw6 hrow hp hvl
        go_wp2_with (at_builtin; go_loud (refine wpList_append_known rfl _ _ _ _ rfl _ _ rfl rfl hrun6.out ?_))
        refine (Parse_any T w6 (by omega) (hE6.out.below d6)).mono ?_
        rintro e w7 ⟨c7, hc7⟩
        have d7 := d6.trans (c7.mono d6.size)
        rcases hc7 with ⟨l2, v2, e1, rfl, hf2, hin2⟩ | ⟨m, e1, rfl⟩
        · obtain rfl : l2 = Li := by rw [hpt.out] at e1; exact (Prod.mk.inj e1).1.symm
          obtain ⟨a2, cc2, hv2⟩ : ∃ a2 cc2, v2 = .slice a2 l2.length cc2 := by
            obtain ⟨_, _, ⟨a2, cc2, e, _⟩, _⟩ := hf2
            exact ⟨a2, cc2, e⟩
          subst hv2
          rw [hln.out] at hf2
          have hsm := same_any _ _ l2 l2 w7 hf2 (hFY.out _ d7).at_ hin2 hin2
          rw [(allEq_fmt l2 l2).2 rfl] at hsm
          replace hsm := Lib.hid hsm
          have y7 := hYi.out _ d7
          replace e1 := Lib.hid e1
          replace hf2 := Lib.hid hf2
          rw [hln.out]
          go_wp2_with fail
          refine hsm.out.mono ?_
          rintro e w8 ⟨rfl, c8⟩
          have d8 := d7.trans (c8.mono d7.size)
          have hr8 := Lib.hid (own_below (own_below hr6.out c7) c8)
          clear hr6 hsm y1 y7 yr hf2 hpt hsn
          go_wp2_with fail
          go_loopw [17] (fun kv wr => ∃ k : Nat, k ≤ i ∧ kv = .int .i64 (k : Int) ∧ Hid (Below w8.heap.size w8 wr)) (fun kv _ => i - (intOf kv).toNat)
          case atStart => exact ⟨0, Nat.zero_le _, rfl, (show Hid _ from Below.refl _ _)⟩
          case round =>
            obtain ⟨k, hk, rfl, hX⟩ := hrel
            by_cases hki : k < i
            · have hdk : decide ((k : Int) < (i : Int)) = true := decide_eq_true (by omega)
              have hkw : IntKind.i64.wrap ((k : Int) + 1) = ((k + 1 : Nat) : Int) := by rw [Int.natCast_succ]; exact IntWalk.i64_in _ (by omega)
              have k0 : (0 : Int) ≤ (k : Int) := by omega
              have k3 : (k : Int) < 3 := by omega
              have ki : (k : Int) < (i : Int) + 1 := by omega
              have dX := d8.trans (hX.out.mono d8.size)
              obtain ⟨ak, ck, z0, hFk⟩ := hT.out k (by rw [hLl.out]; omega)
              obtain ⟨g, ea, z2⟩ := own_word (own_below hr8.out hX.out) (i := k) (by rw [htl1.out]; omega)
              rw [txs_at (LS := LS) (by omega) (by rw [hLl.out]; omega)] at z2
              subst ea
              obtain ⟨Lk, hLk⟩ : ∃ Lk, Lk = LS[k]! := ⟨_, rfl⟩
              rw [← hLk] at z0 hFk z2
              replace hLk := Lib.hid hLk
              have hHold : Hid (∀ W, Below wr.heap.size wr W → W.cell? ⟨BT, k, none⟩ = some (.slice ak Lk.length ck) ∧ W.cell? ⟨BT, i, none⟩ = some (.slice ai ln ci) ∧ W.cell? ⟨g, k, none⟩ = some (.string (str (print4 Lk).1))) := fun W hW => by
                have d := dX.trans (hW.mono dX.size)
                exact ⟨(d.cell (p := ⟨BT, k, none⟩) (World.block_lt_of_cell? _ _ z0)).trans z0, hYi.out W d, (hW.cell (p := ⟨g, k, none⟩) (World.block_lt_of_cell? _ _ z2)).trans z2⟩
              have hvk := Lib.hid fun (W : World) (hW : Below wr.heap.size wr W) => valid_any _ Lk W (hFk.later (dX.trans (hW.mono dX.size))).at_ hFk.in_
              have hsk := Lib.hid fun (W : World) (hW : Below wr.heap.size wr W) => same_any _ _ Lk l2 W (hFk.later (dX.trans (hW.mono dX.size))).at_ (hFY.out W (dX.trans (hW.mono dX.size))).at_ hFk.in_ hin2
              clear z0 z2 hFk
              generalize hlk : Lk.length = lk at *
              replace hlk := Lib.hid hlk
              obtain ⟨Tk, hTk⟩ : ∃ Tk, Tk = (print4 Lk).1 := ⟨_, rfl⟩
              rw [← hTk] at hHold
              have lqk := eqq_str4 Tk
              have lqi := eqq_str4 T
              by_cases hvv : validT Lk = true
              · have hst : Lib.allEq fmtB Lk l2 = (Tk == T) := by rw [same_text hvv hval.out, hTk, hTe.out]; unfold print4; rw [hvv]; rfl
                rw [hst] at hsk
                rw [hvv] at hvk
                generalize hbq : (Tk == T) = bq at *
                replace hbq : Hid ((Tk == T) = bq) := hbq
                replace hst := Lib.hid hst
                replace hvv := Lib.hid hvv
                replace hTk := Lib.hid hTk
                have hbq2 := hbq.out
                go_wp2_with fail
                refine wp_region_held_drew (S := fun w' => w'.cell? ⟨BT, k, none⟩ = some (.slice ak lk ck) ∧ w'.cell? ⟨BT, i, none⟩ = some (.slice ai ln ci) ∧ w'.cell? ⟨g, k, none⟩ = some (.string (str Tk))) (by kernel_rfl) (by first | exact hHold.out _ (Below.refl _ _) | exact hHold.out _ (Below.refl _ _).drew) (fun hHeld => ?_)
                refine take_l (i := 0) (v := ?_) rfl (by kernel_rfl) (by kernel_rfl) (by kernel_rfl) (fun _ _ _ h => h) (Or.inl ⟨by kernel_rfl, ?_⟩) (by assumption) ?_
                rotate_left
                · intro w hSw; (try dsimp only at hSw); go_simp; (try with_reducible rfl)
                (try simp only [Act.put, List.setIfInBounds_toArray, List.set_cons_zero, List.set_cons_succ])
                refine take_l (i := 1) (v := ?_) rfl (by kernel_rfl) (by kernel_rfl) (by kernel_rfl) (fun _ _ _ h => h) (Or.inl ⟨by kernel_rfl, ?_⟩) (by assumption) ?_
                rotate_left
                · intro w hSw; (try dsimp only at hSw); go_simp; (try with_reducible rfl)
                (try simp only [Act.put, List.setIfInBounds_toArray, List.set_cons_zero, List.set_cons_succ])
                refine take_l (i := 2) (v := ?_) rfl (by kernel_rfl) (by kernel_rfl) (by kernel_rfl) (fun _ _ _ h => h) (Or.inl ⟨by kernel_rfl, ?_⟩) (by assumption) ?_
                rotate_left
                · intro w hSw; (try dsimp only at hSw); go_simp; (try with_reducible rfl)
                (try simp only [Act.put, List.setIfInBounds_toArray, List.set_cons_zero, List.set_cons_succ])
                refine take_l (i := 3) (v := ?_) rfl (by kernel_rfl) (by kernel_rfl) (by kernel_rfl) (fun _ _ _ h => h) (Or.inl ⟨by kernel_rfl, ?_⟩) (by assumption) ?_
                rotate_left
                · intro w hSw; (try dsimp only at hSw); go_simp; (try with_reducible rfl)
                (try simp only [Act.put, List.setIfInBounds_toArray, List.set_cons_zero, List.set_cons_succ])
                refine wpAnyH_ready (rs := [4]) (by kernel_rfl) (by simp) ?_
                refine ready_l rfl (fun K hK => ?_) AllReadyH.nil
                go_simp
                refine (hvk.out _ (by first | exact Below.refl _ _ | exact (Below.refl _ _).drew)).mono ?_
                rintro e v1 ⟨rfl, e1⟩
                have e1' : Below wr.heap.size wr v1 := by first | exact e1 | exact (Below.refl _ _).drew.trans e1
                refine hK.out _ _ (by exact hHold.out _ e1') (fun hHeld => ?_)
                clear hK K
                (try simp only [Act.put, List.setIfInBounds_toArray, List.set_cons_zero, List.set_cons_succ])
                refine take_l (i := 5) (v := ?_) rfl (by kernel_rfl) (by kernel_rfl) (by kernel_rfl) (fun _ _ _ h => h) (Or.inl ⟨by kernel_rfl, ?_⟩) (by assumption) ?_
                rotate_left
                · intro w hSw; (try dsimp only at hSw); go_simp; (try with_reducible rfl)
                (try simp only [Act.put, List.setIfInBounds_toArray, List.set_cons_zero, List.set_cons_succ])
                refine take_l (i := 6) (v := ?_) rfl (by kernel_rfl) (by kernel_rfl) (by kernel_rfl) (fun _ _ _ h => h) (Or.inl ⟨by kernel_rfl, ?_⟩) (by assumption) ?_
                rotate_left
                · intro w hSw; (try dsimp only at hSw); go_simp; (try with_reducible rfl)
                (try simp only [Act.put, List.setIfInBounds_toArray, List.set_cons_zero, List.set_cons_succ])
                refine take_l (i := 7) (v := ?_) rfl (by kernel_rfl) (by kernel_rfl) (by kernel_rfl) (fun _ _ _ h => h) (Or.inl ⟨by kernel_rfl, ?_⟩) (by assumption) ?_
                rotate_left
                · intro w hSw; (try dsimp only at hSw); go_simp; (try with_reducible rfl)
                (try simp only [Act.put, List.setIfInBounds_toArray, List.set_cons_zero, List.set_cons_succ])
                refine take_l (i := 8) (v := ?_) rfl (by kernel_rfl) (by kernel_rfl) (by kernel_rfl) (fun _ _ _ h => h) (Or.inl ⟨by kernel_rfl, ?_⟩) (by assumption) ?_
                rotate_left
                · intro w hSw; (try dsimp only at hSw); go_simp; (try with_reducible rfl)
                (try simp only [Act.put, List.setIfInBounds_toArray, List.set_cons_zero, List.set_cons_succ])
                refine take_l (i := 9) (v := ?_) rfl (by kernel_rfl) (by kernel_rfl) (by kernel_rfl) (fun _ _ _ h => h) (Or.inl ⟨by kernel_rfl, ?_⟩) (by assumption) ?_
                rotate_left
                · intro w hSw; (try dsimp only at hSw); go_simp; (try with_reducible rfl)
                (try simp only [Act.put, List.setIfInBounds_toArray, List.set_cons_zero, List.set_cons_succ])
                refine take_l (i := 10) (v := ?_) rfl (by kernel_rfl) (by kernel_rfl) (by kernel_rfl) (fun _ _ _ h => h) (Or.inl ⟨by kernel_rfl, ?_⟩) (by assumption) ?_
                rotate_left
                · intro w hSw; (try dsimp only at hSw); go_simp; (try with_reducible rfl)
                (try simp only [Act.put, List.setIfInBounds_toArray, List.set_cons_zero, List.set_cons_succ])
                refine take_l (i := 11) (v := ?_) rfl (by kernel_rfl) (by kernel_rfl) (by kernel_rfl) (fun _ _ _ h => h) (Or.inl ⟨by kernel_rfl, ?_⟩) (by assumption) ?_
                rotate_left
                · intro w hSw; (try dsimp only at hSw); go_simp; (try with_reducible rfl)
                (try simp only [Act.put, List.setIfInBounds_toArray, List.set_cons_zero, List.set_cons_succ])
                refine take_l (i := 12) (v := ?_) rfl (by kernel_rfl) (by kernel_rfl) (by kernel_rfl) (fun _ _ _ h => h) (Or.inl ⟨by kernel_rfl, ?_⟩) (by assumption) ?_
                rotate_left
                · intro w hSw; (try dsimp only at hSw); go_simp; (try with_reducible rfl)
                (try simp only [Act.put, List.setIfInBounds_toArray, List.set_cons_zero, List.set_cons_succ])
                refine take_l (i := 13) (v := ?_) rfl (by kernel_rfl) (by kernel_rfl) (by kernel_rfl) (fun _ _ _ h => h) (Or.inl ⟨by kernel_rfl, ?_⟩) (by assumption) ?_
                rotate_left
                · intro w hSw; (try dsimp only at hSw); go_simp; (try with_reducible rfl)
                (try simp only [Act.put, List.setIfInBounds_toArray, List.set_cons_zero, List.set_cons_succ])
                refine take_l (i := 15) (v := ?_) rfl (by kernel_rfl) (by kernel_rfl) (by kernel_rfl) (fun _ _ _ h => h) (Or.inl ⟨by kernel_rfl, ?_⟩) (by assumption) ?_
                rotate_left
                · intro w hSw; (try dsimp only at hSw); go_simp; (try with_reducible rfl)
                (try simp only [Act.put, List.setIfInBounds_toArray, List.set_cons_zero, List.set_cons_succ])
                refine take_l (i := 16) (v := ?_) rfl (by kernel_rfl) (by kernel_rfl) (by kernel_rfl) (fun _ _ _ h => h) (Or.inl ⟨by kernel_rfl, ?_⟩) (by assumption) ?_
                rotate_left
                · intro w hSw; (try dsimp only at hSw); go_simp; (try with_reducible rfl)
                (try simp only [Act.put, List.setIfInBounds_toArray, List.set_cons_zero, List.set_cons_succ])
                refine take_l (i := 17) (v := ?_) rfl (by kernel_rfl) (by kernel_rfl) (by kernel_rfl) (fun _ _ _ h => h) (Or.inl ⟨by kernel_rfl, ?_⟩) (by assumption) ?_
                rotate_left
                · intro w hSw; (try dsimp only at hSw); go_simp; (try with_reducible rfl)
                (try simp only [Act.put, List.setIfInBounds_toArray, List.set_cons_zero, List.set_cons_succ])
                refine take_l (i := 18) (v := ?_) rfl (by kernel_rfl) (by kernel_rfl) (by kernel_rfl) (fun _ _ _ h => h) (Or.inl ⟨by kernel_rfl, ?_⟩) (by assumption) ?_
                rotate_left
                · intro w hSw; (try dsimp only at hSw); go_simp; (try with_reducible rfl)
                (try simp only [Act.put, List.setIfInBounds_toArray, List.set_cons_zero, List.set_cons_succ])
                refine take_l (i := 19) (v := ?_) rfl (by kernel_rfl) (by kernel_rfl) (by kernel_rfl) (fun _ _ _ h => h) (Or.inl ⟨by kernel_rfl, ?_⟩) (by assumption) ?_
                rotate_left
                · intro w hSw; (try dsimp only at hSw); go_simp; (try with_reducible rfl)
                (try simp only [Act.put, List.setIfInBounds_toArray, List.set_cons_zero, List.set_cons_succ])
                refine take_l (i := 20) (v := ?_) rfl (by kernel_rfl) (by kernel_rfl) (by kernel_rfl) (fun _ _ _ h => h) (Or.inl ⟨by kernel_rfl, ?_⟩) (by assumption) ?_
                rotate_left
                · intro w hSw; (try dsimp only at hSw); go_simp; (try with_reducible rfl)
                (try simp only [Act.put, List.setIfInBounds_toArray, List.set_cons_zero, List.set_cons_succ])
                refine wpAnyH_ready (rs := [14]) (by kernel_rfl) (by simp) ?_
                refine ready_l rfl (fun K hK => ?_) AllReadyH.nil
                go_simp
                refine (hsk.out _ (by first | exact e1' | exact e1'.drew)).mono ?_
                rintro e v2 ⟨rfl, e2⟩
                have e2' : Below wr.heap.size wr v2 := e1'.trans (Below.mono (by first | exact e2 | exact (Below.refl _ _).drew.trans e2) e1'.size)
                refine hK.out _ _ (by exact hHold.out _ e2') (fun hHeld => ?_)
                clear hK K
                (try simp only [Act.put, List.setIfInBounds_toArray, List.set_cons_zero, List.set_cons_succ])
                refine take_l (i := 21) (v := ?_) rfl (by kernel_rfl) (by kernel_rfl) (by kernel_rfl) (fun _ _ _ h => h) (Or.inl ⟨by kernel_rfl, ?_⟩) (by assumption) ?_
                rotate_left
                · intro w hSw; (try dsimp only at hSw); go_simp; (try with_reducible rfl)
                (try simp only [Act.put, List.setIfInBounds_toArray, List.set_cons_zero, List.set_cons_succ])
                refine take_l (i := 22) (v := ?_) rfl (by kernel_rfl) (by kernel_rfl) (by kernel_rfl) (fun _ _ _ h => h) (Or.inl ⟨by kernel_rfl, ?_⟩) (by assumption) ?_
                rotate_left
                · intro w hSw; (try dsimp only at hSw); go_simp; (try with_reducible rfl)
                (try simp only [Act.put, List.setIfInBounds_toArray, List.set_cons_zero, List.set_cons_succ])
                refine wpAnyH_done (by kernel_rfl) ?_ _
                have hXn := Lib.hid (hX.out.trans (e2'.mono hX.out.size))
                go_wp2_with fail
                exact ⟨⟨k + 1, by omega, by first | rfl | go_num, hXn⟩, by simp [intOf]; omega⟩
              · have hvf : validT Lk = false := by simpa using hvv
                rw [hvf] at hvk
                replace hvf := Lib.hid hvf
                replace hTk := Lib.hid hTk
                clear hvv hsk lqk lqi
                go_wp2_with fail
                refine wp_region_held_drew (S := fun w' => w'.cell? ⟨BT, k, none⟩ = some (.slice ak lk ck) ∧ w'.cell? ⟨BT, i, none⟩ = some (.slice ai ln ci) ∧ w'.cell? ⟨g, k, none⟩ = some (.string (str Tk))) (by kernel_rfl) (by first | exact hHold.out _ (Below.refl _ _) | exact hHold.out _ (Below.refl _ _).drew) (fun hHeld => ?_)
                refine take_l (i := 0) (v := ?_) rfl (by kernel_rfl) (by kernel_rfl) (by kernel_rfl) (fun _ _ _ h => h) (Or.inl ⟨by kernel_rfl, ?_⟩) (by assumption) ?_
                rotate_left
                · intro w hSw; (try dsimp only at hSw); go_simp; (try with_reducible rfl)
                (try simp only [Act.put, List.setIfInBounds_toArray, List.set_cons_zero, List.set_cons_succ])
                refine take_l (i := 1) (v := ?_) rfl (by kernel_rfl) (by kernel_rfl) (by kernel_rfl) (fun _ _ _ h => h) (Or.inl ⟨by kernel_rfl, ?_⟩) (by assumption) ?_
                rotate_left
                · intro w hSw; (try dsimp only at hSw); go_simp; (try with_reducible rfl)
                (try simp only [Act.put, List.setIfInBounds_toArray, List.set_cons_zero, List.set_cons_succ])
                refine take_l (i := 2) (v := ?_) rfl (by kernel_rfl) (by kernel_rfl) (by kernel_rfl) (fun _ _ _ h => h) (Or.inl ⟨by kernel_rfl, ?_⟩) (by assumption) ?_
                rotate_left
                · intro w hSw; (try dsimp only at hSw); go_simp; (try with_reducible rfl)
                (try simp only [Act.put, List.setIfInBounds_toArray, List.set_cons_zero, List.set_cons_succ])
                refine take_l (i := 3) (v := ?_) rfl (by kernel_rfl) (by kernel_rfl) (by kernel_rfl) (fun _ _ _ h => h) (Or.inl ⟨by kernel_rfl, ?_⟩) (by assumption) ?_
                rotate_left
                · intro w hSw; (try dsimp only at hSw); go_simp; (try with_reducible rfl)
                (try simp only [Act.put, List.setIfInBounds_toArray, List.set_cons_zero, List.set_cons_succ])
                refine wpAnyH_ready (rs := [4]) (by kernel_rfl) (by simp) ?_
                refine ready_l rfl (fun K hK => ?_) AllReadyH.nil
                go_simp
                refine (hvk.out _ (by first | exact Below.refl _ _ | exact (Below.refl _ _).drew)).mono ?_
                rintro e v1 ⟨rfl, e1⟩
                have e1' : Below wr.heap.size wr v1 := by first | exact e1 | exact (Below.refl _ _).drew.trans e1
                refine hK.out _ _ (by exact hHold.out _ e1') (fun hHeld => ?_)
                clear hK K
                (try simp only [Act.put, List.setIfInBounds_toArray, List.set_cons_zero, List.set_cons_succ])
                refine take_l (i := 5) (v := ?_) rfl (by kernel_rfl) (by kernel_rfl) (by kernel_rfl) (fun _ _ _ h => h) (Or.inl ⟨by kernel_rfl, ?_⟩) (by assumption) ?_
                rotate_left
                · intro w hSw; (try dsimp only at hSw); go_simp; (try with_reducible rfl)
                (try simp only [Act.put, List.setIfInBounds_toArray, List.set_cons_zero, List.set_cons_succ])
                refine take_l (i := 6) (v := undef) rfl (by kernel_rfl) (by kernel_rfl) (by kernel_rfl) (fun _ _ _ h => h) (Or.inr ⟨by kernel_rfl, rfl⟩) (by assumption) ?_
                (try simp only [Act.put, List.setIfInBounds_toArray, List.set_cons_zero, List.set_cons_succ])
                refine take_l (i := 7) (v := undef) rfl (by kernel_rfl) (by kernel_rfl) (by kernel_rfl) (fun _ _ _ h => h) (Or.inr ⟨by kernel_rfl, rfl⟩) (by assumption) ?_
                (try simp only [Act.put, List.setIfInBounds_toArray, List.set_cons_zero, List.set_cons_succ])
                refine take_l (i := 8) (v := undef) rfl (by kernel_rfl) (by kernel_rfl) (by kernel_rfl) (fun _ _ _ h => h) (Or.inr ⟨by kernel_rfl, rfl⟩) (by assumption) ?_
                (try simp only [Act.put, List.setIfInBounds_toArray, List.set_cons_zero, List.set_cons_succ])
                refine take_l (i := 9) (v := undef) rfl (by kernel_rfl) (by kernel_rfl) (by kernel_rfl) (fun _ _ _ h => h) (Or.inr ⟨by kernel_rfl, rfl⟩) (by assumption) ?_
                (try simp only [Act.put, List.setIfInBounds_toArray, List.set_cons_zero, List.set_cons_succ])
                refine take_l (i := 10) (v := undef) rfl (by kernel_rfl) (by kernel_rfl) (by kernel_rfl) (fun _ _ _ h => h) (Or.inr ⟨by kernel_rfl, rfl⟩) (by assumption) ?_
                (try simp only [Act.put, List.setIfInBounds_toArray, List.set_cons_zero, List.set_cons_succ])
                refine take_l (i := 11) (v := undef) rfl (by kernel_rfl) (by kernel_rfl) (by kernel_rfl) (fun _ _ _ h => h) (Or.inr ⟨by kernel_rfl, rfl⟩) (by assumption) ?_
                (try simp only [Act.put, List.setIfInBounds_toArray, List.set_cons_zero, List.set_cons_succ])
                refine take_l (i := 12) (v := undef) rfl (by kernel_rfl) (by kernel_rfl) (by kernel_rfl) (fun _ _ _ h => h) (Or.inr ⟨by kernel_rfl, rfl⟩) (by assumption) ?_
                (try simp only [Act.put, List.setIfInBounds_toArray, List.set_cons_zero, List.set_cons_succ])
                refine take_l (i := 13) (v := undef) rfl (by kernel_rfl) (by kernel_rfl) (by kernel_rfl) (fun _ _ _ h => h) (Or.inr ⟨by kernel_rfl, rfl⟩) (by assumption) ?_
                (try simp only [Act.put, List.setIfInBounds_toArray, List.set_cons_zero, List.set_cons_succ])
                refine take_l (i := 14) (v := undef) rfl (by kernel_rfl) (by kernel_rfl) (by kernel_rfl) (fun _ _ _ h => h) (Or.inr ⟨by kernel_rfl, rfl⟩) (by assumption) ?_
                (try simp only [Act.put, List.setIfInBounds_toArray, List.set_cons_zero, List.set_cons_succ])
                refine take_l (i := 15) (v := undef) rfl (by kernel_rfl) (by kernel_rfl) (by kernel_rfl) (fun _ _ _ h => h) (Or.inr ⟨by kernel_rfl, rfl⟩) (by assumption) ?_
                (try simp only [Act.put, List.setIfInBounds_toArray, List.set_cons_zero, List.set_cons_succ])
                refine take_l (i := 16) (v := undef) rfl (by kernel_rfl) (by kernel_rfl) (by kernel_rfl) (fun _ _ _ h => h) (Or.inr ⟨by kernel_rfl, rfl⟩) (by assumption) ?_
                (try simp only [Act.put, List.setIfInBounds_toArray, List.set_cons_zero, List.set_cons_succ])
                refine take_l (i := 17) (v := undef) rfl (by kernel_rfl) (by kernel_rfl) (by kernel_rfl) (fun _ _ _ h => h) (Or.inr ⟨by kernel_rfl, rfl⟩) (by assumption) ?_
                (try simp only [Act.put, List.setIfInBounds_toArray, List.set_cons_zero, List.set_cons_succ])
                refine take_l (i := 18) (v := undef) rfl (by kernel_rfl) (by kernel_rfl) (by kernel_rfl) (fun _ _ _ h => h) (Or.inr ⟨by kernel_rfl, rfl⟩) (by assumption) ?_
                (try simp only [Act.put, List.setIfInBounds_toArray, List.set_cons_zero, List.set_cons_succ])
                refine take_l (i := 19) (v := undef) rfl (by kernel_rfl) (by kernel_rfl) (by kernel_rfl) (fun _ _ _ h => h) (Or.inr ⟨by kernel_rfl, rfl⟩) (by assumption) ?_
                (try simp only [Act.put, List.setIfInBounds_toArray, List.set_cons_zero, List.set_cons_succ])
                refine take_l (i := 20) (v := undef) rfl (by kernel_rfl) (by kernel_rfl) (by kernel_rfl) (fun _ _ _ h => h) (Or.inr ⟨by kernel_rfl, rfl⟩) (by assumption) ?_
                (try simp only [Act.put, List.setIfInBounds_toArray, List.set_cons_zero, List.set_cons_succ])
                refine take_l (i := 21) (v := undef) rfl (by kernel_rfl) (by kernel_rfl) (by kernel_rfl) (fun _ _ _ h => h) (Or.inr ⟨by kernel_rfl, rfl⟩) (by assumption) ?_
                (try simp only [Act.put, List.setIfInBounds_toArray, List.set_cons_zero, List.set_cons_succ])
                refine take_l (i := 22) (v := ?_) rfl (by kernel_rfl) (by kernel_rfl) (by kernel_rfl) (fun _ _ _ h => h) (Or.inl ⟨by kernel_rfl, ?_⟩) (by assumption) ?_
                rotate_left
                · intro w hSw; (try dsimp only at hSw); go_simp; (try with_reducible rfl)
                (try simp only [Act.put, List.setIfInBounds_toArray, List.set_cons_zero, List.set_cons_succ])
                refine wpAnyH_done (by kernel_rfl) ?_ _
                have hXn := Lib.hid (hX.out.trans (e1'.mono hX.out.size))
                go_wp2_with fail
                exact ⟨⟨k + 1, by omega, by first | rfl | go_num, hXn⟩, by simp [intOf]; omega⟩
            · obtain rfl : k = i := by omega
              have hnew : Hid (Below W6.heap.size W6 wr ∧ wr.ownsRow W6.heap.size 9 1 (.slice a6 (k + 1) c6) (txs LS (k + 1)).length (wordCells (txs LS (k + 1)))) := by
                have := own_below hr8.out hX.out
                rw [htl1.out] at this ⊢
                exact ⟨d8.trans (hX.out.mono d8.size), this⟩
              go_wp2_with fail
              exact ⟨⟨k + 1, a6, c6, by first | rfl | go_num, rfl, by omega, hnew⟩, by simp [intOf]; omega⟩
        · rw [hpt.out] at e1
          exact absurd (Prod.mk.inj (Prod.mk.inj e1).2).2 (by decide)
      · have hvf : validT Li = false := by simpa using hval
        have hp4 : print4 Li = ([], 40) := by unfold print4; rw [hvf]; rfl
        rw [hp4] at hp
        rw [← hLi, hp4] at hsn
        dsimp only at hp hsn
        rw [hvf] at hvl
        replace hvf := Lib.hid hvf
        replace hp4 := Lib.hid hp4
        replace hLi := Lib.hid hLi
        clear hval
        have hemp : str [] = ⟨#[]⟩ := rfl
        go_wp2_with fail
        refine hp.out.mono ?_
        rintro e u1 ⟨rfl, c1⟩
        have d1 := hS.out.1.trans (c1.mono hS.out.1.size)
        have y1 := hYi.out _ d1
        go_wp2_with fail
        refine (hvl.out _ d1).mono ?_
        rintro e u2 ⟨rfl, c2⟩
        have c12 := c1.trans (c2.mono c1.size)
        have d2 := d1.trans (c2.mono d1.size)
        have hrow := own_below hS.out.2 c12
        obtain ⟨v6, w6, hrun6, hr6, hbw6⟩ := append_word u2 W6.heap.size _ (txs LS i) [] hrow (by rw [htl.out]; omega) d2.size
        obtain ⟨a6, c6, rfl⟩ := own_val hr6
        rw [← hsn.out] at hr6 hrun6
        rw [htl1.out] at hrun6
        have d6 := hbw6 _ _ (Nat.le_refl _) d2
        have hnew : Hid (Below W6.heap.size W6 w6 ∧ w6.ownsRow W6.heap.size 9 1 (.slice a6 (i + 1) c6) (txs LS (i + 1)).length (wordCells (txs LS (i + 1)))) := by
          rw [htl1.out] at hr6 ⊢
          exact ⟨d6, hr6⟩
        replace hrun6 := Lib.hid hrun6
        clear hbw6 hrow hp hvl hr6
        go_wp2_with (at_builtin; go_loud (refine wpList_append_known rfl _ _ _ _ rfl _ _ rfl rfl hrun6.out ?_))
        exact ⟨⟨i + 1, a6, c6, by first | rfl | go_num, rfl, by omega, hnew⟩, by simp [intOf]; omega⟩
    · obtain rfl : i = 3 := by omega
      clear hi hlt
      go_wp2_with fail
      go_ret
      exact ⟨rfl, hB6.out.trans (hS.out.1.mono hB6.out.size)⟩
end Go.Proofs.YtcpfmlaipejfpaaGreatDoor
namespace Go.Proofs.YtcpfmlaipejfpaaGreatDoor.formatRoundTrip
open Go.ChangeShapes Go.WideShapes Go.ChangeAt Go.RowKit
open Go.ChangeMaps (open_string)

set_option maxRecDepth 100000 in
set_option maxHeartbeats 1000000 in
theorem lifted (os : Os) (started : os.Started) (H : Type) (enc : TypeId × Value → H) :
    ReturnsInHanded {} Tryz.checked os 5 .any (fun w args => (Rows.formatRoundTripSpec.pre enc Tryz.prog Tryz.f5 [] false w args ∧ laidMetH Tryz.prog laid4 w) ∧ sizedMet enc Tryz.prog Tryz.f5 (OpenSpec.ofChange Rows.formatRoundTripSpec) false w args)
      (Rows.formatRoundTripSpec.post enc Tryz.prog Tryz.f5 false true false false) := by
  refine lift_shaped (C := Tryz.checked) (X := fun w => laidMetH Tryz.prog laid4 w) (fun _ _ hh h => h.of_heap hh) own started (by kernel_rfl) Tryz.func5
    (ChangeSpec.witness_shaped (enc := enc) (C := Tryz.checked) (os := os) (X := fun w _ => laidMetH Tryz.prog laid4 w) false (World.laidAll Tryz.prog os laid4) #[.slice none 0 0, .slice none 0 0, .agg #[.int .i64 0, .int .i64 0, .int .i64 0, .int .i64 0, .int .i64 0]] 8 (World.laidAll_os _ _ _) (shape4 os) (by kernel_rfl) (by kernel_rfl) (by kernel_rfl) (door_met4 os _)) ?_
  intro W base args ds gs before hval0 hW hL hsh
  have hval : ∀ (j : Nat) t v, Tryz.f5.params[j]? = some t → args[j]? = some v → Value.okWide Tryz.prog W .any base t v := hval0
  have hW' := hW
  obtain ⟨p, q, hA0, hV, rfl, hfz, hnd⟩ := hW
  have hA : DataW.TrodAll enc Tryz.prog W 0 (fun _ => true) true Tryz.f5.params.toList args.toList ds p := hA0
  have hAk := hA
  rw [Tryz.params5] at hA hval
  obtain ⟨v0, vs0, d0, ds0, p0, q0, hargs, rfl, rfl, h0, r0⟩ := trodAll_cons hA
  obtain ⟨v1, vs1, d1, ds1, p1, q1, rfl, rfl, rfl, h1, r1⟩ := trodAll_cons r0
  obtain ⟨v2, vs2, d2, ds2, p2, q2, rfl, rfl, rfl, h2, r2⟩ := trodAll_cons r1
  obtain ⟨rfl, rfl, rfl⟩ := trodAll_nil r2
  obtain rfl : args = #[v0, v1, v2] := by cases args; simp_all
  obtain ⟨rfl, rfl⟩ := trodVars_none hV
  obtain ⟨l0, s0, y0⟩ := open_formats (hval 0 22 v0 rfl rfl) h0
  obtain ⟨n1, z1, e1, g1, s1⟩ := open_quads (hval 1 23 v1 rfl rfl) h1
  obtain ⟨x2, y2, z2, u2, t2, rfl, s2⟩ := open_five (hval 2 24 v2 rfl rfl) h2
  clear hA0 hval0
  refine (Trip_any v0 l0 v1 n1 z1 x2 y2 z2 u2 t2 W s0 y0 s1 e1 g1 s2 (env_of_laid hL hsh)).mono fun e W' ⟨he, hg⟩ => ?_
  subst he
  have hlt := DataW.TrodAll.lt hAk
  exact ⟨_, rfl, post_of_below (pa := _) (pv := []) hW' (fun _ _ _ => (trodAll_cons_mk (shut_bool Tryz.underlying4 _) trodAll_mk0)) (fun sp hsp => trodAll_stay Tryz.kids Tryz.full (by rw [Tryz.params5]; decide) hAk (fun x hx => sameAt_below hg (hlt x hx)) (fun x hx => hsp x (List.mem_append_left _ hx))) (fun _ _ => rfl) rfl hg (ok_one (by kernel_rfl) rfl (okWide_bool_mk Tryz.underlying4 _))⟩

theorem row_holds : Rows.FormatRoundTripSaid :=
  OpenClaim.holds_of_wide 5 Tryz.f5 rfl rfl rfl rfl rfl rfl rfl ⟨rfl, rfl, rfl, rfl, rfl⟩ rfl rfl rfl rfl rfl (by kernel_rfl) Tryz.func5 (by kernel_rfl)
    (of_decide_eq_true (by kernel_rfl)) (by unfold Func.isWrapper; first | (rw [if_pos (by decide +kernel)]; kernel_rfl) | (rw [if_neg (by decide +kernel)]; exact ⟨rfl, rfl⟩))
    (fun os started H enc _ => lifted os started H enc)

/-- THE TIED CARD. -/
theorem card_holds : Rows.FormatRoundTripCardSaid :=
  Claim7.holds_tied_plain_at .later [] [.data, .data, .data, .data, .sentinel, .sentinel, .pinned] true Rows.formatRoundTripCard.stood.harness true
    row_holds (fun _ h => by cases h) (by kernel_rfl) (fun _ h => by cases h) formatRoundTrip_row_tie rfl ⟨rfl, rfl⟩ (by kernel_rfl) rfl
    (fun f fn hf hfn => by
      obtain rfl : f = 5 := Option.some.inj ((show Tryz.prog.funcNamed "evergreen/evergreenlaw04.FormatRoundTrip" = some 5 by kernel_rfl).symm.trans hf) |>.symm
      obtain rfl : fn = Tryz.f5 := (Option.some.inj (Tryz.func5.symm.trans hfn)).symm
      exact ⟨by kernel_rfl, fun j t ht => by
        rw [Tryz.params5] at ht
        have hm : t ∈ [22, 23, 24] := by simpa using Array.mem_of_getElem? ht
        have hall : ([22, 23, 24].all fun u => !Tryz.prog.wantsStandIn u) = true := by kernel_rfl
        exact (show Tryz.prog.wantsStandIn t = false by simpa using List.all_eq_true.1 hall t hm)⟩)
    (by kernel_rfl)
#print axioms card_holds
end Go.Proofs.YtcpfmlaipejfpaaGreatDoor.formatRoundTrip
