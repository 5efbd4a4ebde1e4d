/-
  Formats of chapter 4: FormatLines, walked.
  FormatLines is true of every input: the row, and its tied card. Conditions: the library variables that are read hold what their packages lay in them (the card ties that to the text).
-/
import Derived.Test.YtcpfmlaipejfpaaGreatDoorKS
import Derived.Test.YtcpfmlaipejfpaaGreatDoorCards
import Derived.Test.YtcpfmlaipejfpaaGreatDoorTie
import Derived.Test.YtcpfmlaipejfpaaGreatDoorKN
import Derived.SevenTiedAt
namespace Go.Proofs.YtcpfmlaipejfpaaGreatDoor
open Go.RowKit Go.Shelf

attribute [local go_sem] Oper.semAt_some

set_option maxRecDepth 100000 in
set_option maxHeartbeats 16000000 in
theorem Lines_any (v : Value) (n : Nat) (zs : List Int) (at_ : Int) (c : UInt8) (more : ByteArray) (w : World) (hs : SliceAt w w.heap.size v n (zs.map (Value.int .i64))) (hz : zs.length = n * 4) (hI : ∀ z ∈ zs, I64 z) (ha : I64 at_) (hmz : more.size ≤ 9223372036854775807) (hE : Env w) :
    Calls Tryz.prog 6 #[v, .int .i64 at_, .int .u8 (c.toNat : Int), .string more] w fun e w' => e = .returned (.bool true) ∧ Below w.heap.size w w' := by
  obtain ⟨ml, rfl⟩ := bytes_str more
  rw [str_size] at hmz
  go_enter Tryz.func6, Tryz.ntmps6
  go_wp2_with fail
  refine (sane_any w hE).mono ?_
  rintro e w1 ⟨rfl, hb1⟩
  have hE1 := hE.below hb1
  go_wp2_with fail
  refine (Make_any v n zs w1 (SliceAt.later hs hb1) hz hI).mono ?_
  rintro e w2 ⟨⟨lv, fvs, l, rfl, hok, hM⟩, hb2⟩
  have hB2 := hb1.trans (hb2.mono hb1.size)
  have hE2 := hE1.below hb2
  have hF := hM.fmts hok.in_
  obtain ⟨hpr, hpl⟩ := made_text hok
  obtain ⟨a, cc, hlv, hcap, _⟩ := hF.val
  subst hlv
  have hprint := printT_any _ l w2 hF
  rw [hpr] at hprint
  generalize textF l = s at *
  replace hprint := Lib.hid hprint
  go_wp2_with fail
  refine hprint.out.mono ?_
  rintro e w3 ⟨rfl, hb3⟩
  have hB3 := hB2.trans (hb3.mono hB2.size)
  have hE3 := hE2.below hb3
  clear hprint hM hok hF hpr hI hz hs hb1 hb2 hb3 hE1 hE2 hB2
  dsimp only
  have lqs : (str s).toList = s := eqq_str4 s
  have hps := str_size s
  by_cases hs0 : s = []
  · have he : s.isEmpty = true := by rw [hs0]; rfl
    replace hs0 := Lib.hid hs0
    go_wp2_with fail
    go_ret
    exact ⟨rfl, hB3⟩
  have he : s.isEmpty = false := by cases s with
    | nil => exact absurd rfl hs0
    | cons x y => rfl
  have hsl : 0 < s.length := List.length_pos_iff.2 hs0
  have hpk := Lib.hid (pick_any at_ s.length w3 ha (by omega) (by omega))
  have hk := pickv_lt at_ s.length (by omega)
  generalize pickv at_ s.length = k at *
  have k0 : (0 : Int) ≤ (k : Int) := by omega
  have k1 : (k : Int) ≤ (s.length : Int) := by omega
  have k2 : (0 : Int) ≤ (k : Int) + 1 := by omega
  have k3 : (k : Int) + 1 ≤ (s.length : Int) := by omega
  have hwk : IntKind.i64.wrap ((k : Int) + 1) = (k : Int) + 1 := IntWalk.i64_in _ (by omega)
  have hcv := conv1 w3 c
  have hx1 := take_str4 s k
  have hx2 : (str s).extract (k + 1) s.length = str (s.drop (k + 1)) := by rw [← hps]; exact drop_str s (k + 1)
  have hadd1 := add_str (s.take k) [c] (by simp only [List.length_take, List.length_cons, List.length_nil]; omega)
  have hadd2 := add_str (s.take k ++ [c]) (s.drop (k + 1)) (by simp only [List.length_append, List.length_take, List.length_drop, List.length_cons, List.length_nil]; omega)
  obtain ⟨t, ht⟩ : ∃ t, t = s.take k ++ [c] ++ s.drop (k + 1) := ⟨_, rfl⟩
  have htl : t.length ≤ 60600 := by
    rw [ht]
    simp only [List.length_append, List.length_take, List.length_drop, List.length_cons, List.length_nil]
    omega
  rw [← ht] at hadd2
  replace ht := Lib.hid ht
  generalize s.take k ++ [c] = t1 at *
  replace hs0 := Lib.hid hs0
  go_wp2_with fail
  refine hpk.out.mono ?_
  rintro e w4 ⟨rfl, hw⟩
  subst w4
  clear hpk
  go_wp2_with fail
  refine wp_region_held_drew (S := fun w' => True) (by kernel_rfl) (by trivial) (fun hHeld => ?_)
  refine take_l (i := 0) (v := ?_) rfl (by kernel_rfl) (by kernel_rfl) (by kernel_rfl) (fun _ _ _ h => h) (Or.inl ⟨by kernel_rfl, ?_⟩) (by assumption) ?_
  rotate_left
  · intro w hSw; (try dsimp only at hSw); go_simp; (try with_reducible rfl)
  (try simp only [Act.put, List.setIfInBounds_toArray, List.set_cons_zero, List.set_cons_succ])
  refine take_l (i := 1) (v := ?_) rfl (by kernel_rfl) (by kernel_rfl) (by kernel_rfl) (fun _ _ _ h => h) (Or.inl ⟨by kernel_rfl, ?_⟩) (by assumption) ?_
  rotate_left
  · intro w hSw; (try dsimp only at hSw); go_simp; (try with_reducible rfl)
  (try simp only [Act.put, List.setIfInBounds_toArray, List.set_cons_zero, List.set_cons_succ])
  refine take_l (i := 2) (v := ?_) rfl (by kernel_rfl) (by kernel_rfl) (by kernel_rfl) (fun _ _ _ h => h) (Or.inl ⟨by kernel_rfl, ?_⟩) (by assumption) ?_
  rotate_left
  · intro w hSw; (try dsimp only at hSw); go_simp; (try with_reducible rfl)
  (try simp only [Act.put, List.setIfInBounds_toArray, List.set_cons_zero, List.set_cons_succ])
  refine take_l (i := 3) (v := ?_) rfl (by kernel_rfl) (by kernel_rfl) (by kernel_rfl) (fun _ _ _ h => h) (Or.inl ⟨by kernel_rfl, ?_⟩) (by assumption) ?_
  rotate_left
  · intro w hSw; (try dsimp only at hSw); go_simp; (try with_reducible rfl)
  (try simp only [Act.put, List.setIfInBounds_toArray, List.set_cons_zero, List.set_cons_succ])
  refine take_l (i := 7) (v := ?_) rfl (by kernel_rfl) (by kernel_rfl) (by kernel_rfl) (fun _ _ _ h => h) (Or.inl ⟨by kernel_rfl, ?_⟩) (by assumption) ?_
  rotate_left
  · intro w hSw; (try dsimp only at hSw); go_simp; (try with_reducible rfl)
  (try simp only [Act.put, List.setIfInBounds_toArray, List.set_cons_zero, List.set_cons_succ])
  refine take_l (i := 8) (v := ?_) rfl (by kernel_rfl) (by kernel_rfl) (by kernel_rfl) (fun _ _ _ h => h) (Or.inl ⟨by kernel_rfl, ?_⟩) (by assumption) ?_
  rotate_left
  · intro w hSw; (try dsimp only at hSw); go_simp; (try with_reducible rfl)
  (try simp only [Act.put, List.setIfInBounds_toArray, List.set_cons_zero, List.set_cons_succ])
  refine take_l (i := 9) (v := ?_) rfl (by kernel_rfl) (by kernel_rfl) (by kernel_rfl) (fun _ _ _ h => h) (Or.inl ⟨by kernel_rfl, ?_⟩) (by assumption) ?_
  rotate_left
  · intro w hSw; (try dsimp only at hSw); go_simp; (try with_reducible rfl)
  (try simp only [Act.put, List.setIfInBounds_toArray, List.set_cons_zero, List.set_cons_succ])
  refine take_l (i := 10) (v := ?_) rfl (by kernel_rfl) (by kernel_rfl) (by kernel_rfl) (fun _ _ _ h => h) (Or.inl ⟨by kernel_rfl, ?_⟩) (by assumption) ?_
  rotate_left
  · intro w hSw; (try dsimp only at hSw); go_simp; (try with_reducible rfl)
  (try simp only [Act.put, List.setIfInBounds_toArray, List.set_cons_zero, List.set_cons_succ])
  refine wpAnyH_ready (rs := [4]) (by kernel_rfl) (by simp) ?_
  refine ready_l rfl (fun K hK => ?_) AllReadyH.nil
  go_simp
  refine hK.out _ _ (by trivial) (fun hHeld => ?_)
  clear hK K
  (try simp only [Act.put, List.setIfInBounds_toArray, List.set_cons_zero, List.set_cons_succ])
  refine wpAnyH_ready (rs := [5]) (by kernel_rfl) (by simp) ?_
  refine ready_l rfl (fun K hK => ?_) AllReadyH.nil
  go_simp
  refine hK.out _ _ (by trivial) (fun hHeld => ?_)
  clear hK K
  (try simp only [Act.put, List.setIfInBounds_toArray, List.set_cons_zero, List.set_cons_succ])
  refine take_l (i := 6) (v := ?_) rfl (by kernel_rfl) (by kernel_rfl) (by kernel_rfl) (fun _ _ _ h => h) (Or.inl ⟨by kernel_rfl, ?_⟩) (by assumption) ?_
  rotate_left
  · intro w hSw; (try dsimp only at hSw); go_simp; (try with_reducible rfl)
  (try simp only [Act.put, List.setIfInBounds_toArray, List.set_cons_zero, List.set_cons_succ])
  refine take_l (i := 11) (v := ?_) rfl (by kernel_rfl) (by kernel_rfl) (by kernel_rfl) (fun _ _ _ h => h) (Or.inl ⟨by kernel_rfl, ?_⟩) (by assumption) ?_
  rotate_left
  · intro w hSw; (try dsimp only at hSw); go_simp; (try with_reducible rfl)
  (try simp only [Act.put, List.setIfInBounds_toArray, List.set_cons_zero, List.set_cons_succ])
  refine take_l (i := 12) (v := ?_) rfl (by kernel_rfl) (by kernel_rfl) (by kernel_rfl) (fun _ _ _ h => h) (Or.inl ⟨by kernel_rfl, ?_⟩) (by assumption) ?_
  rotate_left
  · intro w hSw; (try dsimp only at hSw); go_simp; (try with_reducible rfl)
  (try simp only [Act.put, List.setIfInBounds_toArray, List.set_cons_zero, List.set_cons_succ])
  refine wpAnyH_done (by kernel_rfl) ?_ _
  refine name_then ?_
  intro w5 hw5
  have hb5 : Below w3.heap.size w3 w5 := by rw [hw5]; exact ((Below.refl _ _).alloc (Nat.le_refl _) _).drew
  clear hw5 hcv hx1 hx2 hadd1 hadd2
  have hB5 := hB3.trans (hb5.mono hB3.size)
  have hE5 := hE3.below hb5
  have hpa := Lib.hid (Parse_any t w5 (by omega) hE5)
  go_wp2_with fail
  refine hpa.out.mono ?_
  rintro e w6 ⟨hb6, hcase⟩
  have hB6 := hB5.trans (hb6.mono hB5.size)
  have hE6 := hE5.below hb6
  clear hpa
  have hsp := Lib.hid (splitR_any t 10 w6 (by omega))
  rw [show (((10 : UInt8).toNat : Nat) : Int) = 10 from rfl] at hsp
  rcases hcase with ⟨l2, v2, hp2, rfl, hf2, _⟩ | ⟨m, hp2, rfl⟩
  · obtain ⟨_, _, ⟨a2, c2, rfl, _⟩, _⟩ := hf2
    go_wp2_with fail
    refine hsp.out.mono ?_
    rintro e w7 ⟨lnv, rfl, ho7, hb7⟩
    obtain ⟨a3, c3, rfl⟩ := own_val ho7
    have hB7 := hB6.trans (hb7.mono hB6.size)
    go_wp2_with fail
    go_ret
    exact ⟨rfl, hB7⟩
  · go_wp2_with fail
    refine hsp.out.mono ?_
    rintro e w7 ⟨lnv, rfl, ho7, hb7⟩
    obtain ⟨a3, c3, rfl⟩ := own_val ho7
    have hB7 := hB6.trans (hb7.mono hB6.size)
    have hE7 := hE6.below hb7
    have hne : 0 < (cutAll 10 t).length := List.length_pos_iff.2 (cutAll_ne 10 t)
    have hll := cutAll_len 10 t
    clear hsp
    by_cases hm : m < (cutAll 10 t).length
    · obtain ⟨hm1, hmore, L, hL⟩ := lines_plain hp2 hm
      have d1 : decide ((m : Int) ≥ ((cutAll 10 t).length : Int)) = false := decide_eq_false (by omega)
      have d2 : decide ((cutAll 10 t).length ≤ m) = false := decide_eq_false (by omega)
      have hwm : IntKind.i64.wrap ((m : Int) - 1) = (m : Int) - 1 := IntWalk.i64_in _ (by omega)
      have hle := Lib.hid fun i => linesE_le t i
      have hwle := Lib.hid fun i => wholeTo_le (s := t) (n := m) i
      have hll2 := Lib.hid fun i : Nat => (parts_le4 (s := t) (c := 10) (i := i))
      have hsn := Lib.hid fun i (hi : i < (cutAll 10 t).length) => linesE_snoc (L := cutAll 10 t) hi
      have hcell := Lib.hid fun (W : World) (hW : Below w7.heap.size w7 W) i (hi : i < (cutAll 10 t).length) => own_word (own_below ho7 hW) hi
      generalize hlines : cutAll 10 t = lines at *
      replace hlines := Lib.hid hlines
      replace hmore := Lib.hid hmore
      replace hL := Lib.hid hL
      replace hp2 := Lib.hid hp2
      replace ho7 := Lib.hid ho7
      replace hB7 := Lib.hid hB7
      go_wp2_with fail
      go_loopw [19, 18, 17] (fun iv wv bv wr => ∃ i : Nat, i ≤ m ∧ iv = .int .i64 (i : Int) ∧ wv = .string (str (wholeTo lines m i)) ∧ bv = .string (str (linesE (lines.take i))) ∧ Hid (Below w7.heap.size w7 wr)) (fun iv _ _ _ => m - (intOf iv).toNat)
      case atStart => exact ⟨0, Nat.zero_le _, rfl, rfl, rfl, (show Hid _ from Below.refl _ _)⟩
      case round =>
        obtain ⟨i, hi, rfl, rfl, rfl, hB⟩ := hrel
        have hBw := hB7.out.trans (hB.out.mono hB7.out.size)
        by_cases hlt : i < m
        · have hd : decide ((i : Int) < (m : Int)) = true := decide_eq_true (by omega)
          have i0 : (0 : Int) ≤ (i : Int) := by omega
          have i1 : (i : Int) < (lines.length : Int) := by omega
          have hwi : IntKind.i64.wrap ((i : Int) + 1) = ((i + 1 : Nat) : Int) := by rw [Int.natCast_succ]; exact IntWalk.i64_in _ (by omega)
          obtain ⟨lg, rfl, x0⟩ := hcell.out wr hB.out i (by omega)
          have hl1 := hle.out i
          have hli := hll2.out i
          have hsi := Lib.hid (hsn.out i (by omega))
          have hwt : Hid (wholeTo lines m (i + 1) = if i + 1 < m ∧ fmtLine lines[i]! = true then linesE (lines.take i) else wholeTo lines m i) := rfl
          obtain ⟨line, hlne⟩ : ∃ line, line = lines[i]! := ⟨_, rfl⟩
          rw [← hlne] at x0 hli hsi hwt
          replace hlne := Lib.hid hlne
          obtain ⟨bg, hbg⟩ : ∃ bg, bg = linesE (lines.take i) := ⟨_, rfl⟩
          obtain ⟨wh, hwh⟩ : ∃ wh, wh = wholeTo lines m i := ⟨_, rfl⟩
          rw [← hbg] at hl1 hsi hwt ⊢
          rw [← hwh] at hwt ⊢
          replace hbg := Lib.hid hbg
          replace hwh := Lib.hid hwh
          have hpz := str_size line
          have hx6 := take_str4 line 6
          have lq6 := eqq_str4 (line.take 6)
          have ha1 := add_str bg line (by omega)
          have ha2 := add_str (bg ++ line) [10] (by simp only [List.length_append, List.length_cons, List.length_nil]; omega)
          rw [show str [10] = ⟨#[10]⟩ from rfl] at ha2
          have hnx : Hid (linesE (lines.take (i + 1)) = bg ++ line ++ [10]) := hsi.out
          have hfd : Hid (fmtLine line = (decide (6 ≤ line.length) && (line.take 6 == formatT))) := rfl
          have hfT : Hid ([102, 111, 114, 109, 97, 116] = formatT) := rfl
          generalize bg ++ line = bl at *
          generalize bl ++ [10] = bn at *
          by_cases h1 : i + 1 < m
          · have e1 : decide ((i : Int) < (m : Int) - 1) = true := decide_eq_true (by omega)
            by_cases h6 : 6 ≤ line.length
            · have e2 : decide ((line.length : Int) ≥ 6) = true := decide_eq_true (by omega)
              have e2b : decide (6 ≤ line.length) = true := decide_eq_true h6
              have e2c : (6 : Int) ≤ (line.length : Int) := by omega
              cases hc : (line.take 6 == ([102, 111, 114, 109, 97, 116] : List UInt8)) with
              | true =>
                have hwn : Hid (wholeTo lines m (i + 1) = bg) := by
                  show _ = _
                  rw [hwt.out, if_pos ⟨h1, by rw [hfd.out, e2b, ← hfT.out, hc]; rfl⟩]
                replace h6 := Lib.hid h6
                replace h1 := Lib.hid h1
                go_wp2_with fail
                exact ⟨⟨i + 1, by omega, by first | rfl | go_num, by rw [hwn.out], by rw [hnx.out], hB⟩, by simp [intOf]; omega⟩
              | false =>
                have hwn : Hid (wholeTo lines m (i + 1) = wh) := by
                  show _ = _
                  rw [hwt.out, if_neg (fun h => by rw [hfd.out, ← hfT.out, hc, Bool.and_false] at h; cases h.2)]
                replace h6 := Lib.hid h6
                replace h1 := Lib.hid h1
                go_wp2_with fail
                exact ⟨⟨i + 1, by omega, by first | rfl | go_num, by rw [hwn.out], by rw [hnx.out], hB⟩, by simp [intOf]; omega⟩
            · have e2 : decide ((line.length : Int) ≥ 6) = false := decide_eq_false (by omega)
              have e2b : decide (6 ≤ line.length) = false := decide_eq_false h6
              have hwn : Hid (wholeTo lines m (i + 1) = wh) := by
                show _ = _
                rw [hwt.out, if_neg (fun h => by rw [hfd.out, e2b] at h; cases h.2)]
              replace h6 := Lib.hid h6
              replace h1 := Lib.hid h1
              go_wp2_with fail
              exact ⟨⟨i + 1, by omega, by first | rfl | go_num, by rw [hwn.out], by rw [hnx.out], hB⟩, by simp [intOf]; omega⟩
          · have e1 : decide ((i : Int) < (m : Int) - 1) = false := decide_eq_false (by omega)
            have hwn : Hid (wholeTo lines m (i + 1) = wh) := by
              show _ = _
              rw [hwt.out, if_neg (fun h => h1 h.1)]
            replace h1 := Lib.hid h1
            go_wp2_with fail
            exact ⟨⟨i + 1, by omega, by first | rfl | go_num, by rw [hwn.out], by rw [hnx.out], hB⟩, by simp [intOf]; omega⟩
        · obtain rfl : i = m := by omega
          have hd : decide ((i : Int) < (i : Int)) = false := decide_eq_false (by omega)
          have hjj : ¬ i < i := by omega
          obtain ⟨q, hq⟩ : ∃ q, q = min ml.length 300 := ⟨_, rfl⟩
          have hmin : min (ml.length : Int) 300 = (q : Int) := by omega
          have q0 : (0 : Int) ≤ (q : Int) := by omega
          have q1 : (q : Int) ≤ (ml.length : Int) := by omega
          have hpm := str_size ml
          have hxq := take_str4 ml q
          have hl1 := hle.out i
          have hl2 := hwle.out i
          have hpm1 := hmore.out (ml.take q)
          have hql : (ml.take q).length ≤ 300 := by rw [List.length_take]; omega
          have hadd := add_str (linesE (lines.take i)) (ml.take q) (by omega)
          have hpb := Lib.hid (parse_bad (linesE (lines.take i) ++ ml.take q) i hpm1 (by rw [List.length_append]; omega) wr (hE7.below hB.out))
          have hpo := Lib.hid fun (W : World) (hW : Env W) => parse_ok (wholeTo lines i i) L hL.out (by omega) W hW
          have hEw := hE7.below hB.out
          generalize linesE (lines.take i) ++ ml.take q = tq at *
          generalize linesE (lines.take i) = bg at *
          generalize wholeTo lines i i = wh at *
          have f1 : ((i : Int) == (i : Int)) = true := by simp
          replace hq := Lib.hid hq
          clear hpm1 hmore
          go_wp2_with fail
          refine hpb.out.mono ?_
          rintro e w8 ⟨rfl, hb8⟩
          go_wp2_with fail
          refine (hpo.out w8 (hEw.below hb8)).mono ?_
          rintro e w9 ⟨⟨a9, n9, c9, rfl, _, _⟩, hb9⟩
          have hB9 := (hBw.trans (hb8.mono hBw.size)).trans (hb9.mono (Nat.le_trans hBw.size hb8.size))
          go_wp2_with fail
          go_ret
          exact ⟨rfl, hB9⟩
    · have d1 : decide ((m : Int) ≥ ((cutAll 10 t).length : Int)) = true := decide_eq_true (by omega)
      have d2 : decide ((cutAll 10 t).length ≤ m) = true := decide_eq_true (by omega)
      generalize (cutAll 10 t).length = ll at *
      replace hp2 := Lib.hid hp2
      replace ho7 := Lib.hid ho7
      go_wp2_with fail
      go_ret
      exact ⟨rfl, hB7⟩
end Go.Proofs.YtcpfmlaipejfpaaGreatDoor
namespace Go.Proofs.YtcpfmlaipejfpaaGreatDoor.formatLines
open Go.ChangeShapes Go.WideShapes Go.ChangeAt Go.RowKit
open Go.ChangeMaps (open_string)

set_option maxRecDepth 100000 in
set_option maxHeartbeats 1000000 in
theorem lifted (os : Os) (started : os.Started) (H : Type) (enc : TypeId × Value → H) :
    ReturnsInHanded {} Tryz.checked os 6 .any (fun w args => (Rows.formatLinesSpec.pre enc Tryz.prog Tryz.f6 [] false w args ∧ laidMetH Tryz.prog laid4 w) ∧ sizedMet enc Tryz.prog Tryz.f6 (OpenSpec.ofChange Rows.formatLinesSpec) false w args)
      (Rows.formatLinesSpec.post enc Tryz.prog Tryz.f6 false true false false) := by
  refine lift_shaped (C := Tryz.checked) (X := fun w => laidMetH Tryz.prog laid4 w) (fun _ _ hh h => h.of_heap hh) own started (by kernel_rfl) Tryz.func6
    (ChangeSpec.witness_shaped (enc := enc) (C := Tryz.checked) (os := os) (X := fun w _ => laidMetH Tryz.prog laid4 w) false (World.laidAll Tryz.prog os laid4) #[.slice none 0 0, .int .i64 0, .int .u8 0, .string ByteArray.empty] 8 (World.laidAll_os _ _ _) (shape4 os) (by kernel_rfl) (by kernel_rfl) (by kernel_rfl) (door_met4 os _)) ?_
  intro W base args ds gs before hval0 hW hL hsh
  have hval : ∀ (j : Nat) t v, Tryz.f6.params[j]? = some t → args[j]? = some v → Value.okWide Tryz.prog W .any base t v := hval0
  have hW' := hW
  obtain ⟨p, q, hA0, hV, rfl, hfz, hnd⟩ := hW
  have hA : DataW.TrodAll enc Tryz.prog W 0 (fun _ => true) true Tryz.f6.params.toList args.toList ds p := hA0
  have hAk := hA
  rw [Tryz.params6] at hA hval
  obtain ⟨v0, vs0, d0, ds0, p0, q0, hargs, rfl, rfl, h0, r0⟩ := trodAll_cons hA
  obtain ⟨v1, vs1, d1, ds1, p1, q1, rfl, rfl, rfl, h1, r1⟩ := trodAll_cons r0
  obtain ⟨v2, vs2, d2, ds2, p2, q2, rfl, rfl, rfl, h2, r2⟩ := trodAll_cons r1
  obtain ⟨v3, vs3, d3, ds3, p3, q3, rfl, rfl, rfl, h3, r3⟩ := trodAll_cons r2
  obtain ⟨rfl, rfl, rfl⟩ := trodAll_nil r3
  obtain rfl : args = #[v0, v1, v2, v3] := by cases args; simp_all
  obtain ⟨rfl, rfl⟩ := trodVars_none hV
  obtain ⟨n0, z0, e0, g0, s0⟩ := open_quads (hval 0 23 v0 rfl rfl) h0
  obtain ⟨a1, rfl, rfl, _, w1⟩ := open_int Tryz.underlying3 (hval 1 3 v1 rfl rfl) h1
  obtain ⟨b2, rfl, rfl, _, w2⟩ := open_int Tryz.underlying5 (hval 2 5 v2 rfl rfl) h2
  obtain ⟨a2, rfl⟩ := u8_byte w2
  obtain ⟨a3, rfl, rfl, _, w3⟩ := open_string Tryz.underlying9 (hval 3 9 v3 rfl rfl) h3
  clear hA0 hval0
  refine (Lines_any v0 n0 z0 a1 a2 a3 W s0 e0 g0 (I64.of_wf w1) (by have := w3; unfold maxLen at this; omega) (env_of_laid hL hsh)).mono fun e W' ⟨he, hg⟩ => ?_
  subst he
  have hlt := DataW.TrodAll.lt hAk
  exact ⟨_, rfl, post_of_below (pa := _) (pv := []) hW' (fun _ _ _ => (trodAll_cons_mk (shut_bool Tryz.underlying4 _) trodAll_mk0)) (fun sp hsp => trodAll_stay Tryz.kids Tryz.full (by rw [Tryz.params6]; decide) hAk (fun x hx => sameAt_below hg (hlt x hx)) (fun x hx => hsp x (List.mem_append_left _ hx))) (fun _ _ => rfl) rfl hg (ok_one (by kernel_rfl) rfl (okWide_bool_mk Tryz.underlying4 _))⟩

theorem row_holds : Rows.FormatLinesSaid :=
  OpenClaim.holds_of_wide 6 Tryz.f6 rfl rfl rfl rfl rfl rfl rfl ⟨rfl, rfl, rfl, rfl, rfl⟩ rfl rfl rfl rfl rfl (by kernel_rfl) Tryz.func6 (by kernel_rfl)
    (of_decide_eq_true (by kernel_rfl)) (by unfold Func.isWrapper; first | (rw [if_pos (by decide +kernel)]; kernel_rfl) | (rw [if_neg (by decide +kernel)]; exact ⟨rfl, rfl⟩))
    (fun os started H enc _ => lifted os started H enc)

/-- THE TIED CARD. -/
theorem card_holds : Rows.FormatLinesCardSaid :=
  Claim7.holds_tied_plain_at .later [] [.data, .data, .data, .data, .sentinel, .sentinel, .pinned] true Rows.formatLinesCard.stood.harness true
    row_holds (fun _ h => by cases h) (by kernel_rfl) (fun _ h => by cases h) formatLines_row_tie rfl ⟨rfl, rfl⟩ (by kernel_rfl) rfl
    (fun f fn hf hfn => by
      obtain rfl : f = 6 := Option.some.inj ((show Tryz.prog.funcNamed "evergreen/evergreenlaw04.FormatLines" = some 6 by kernel_rfl).symm.trans hf) |>.symm
      obtain rfl : fn = Tryz.f6 := (Option.some.inj (Tryz.func6.symm.trans hfn)).symm
      exact ⟨by kernel_rfl, fun j t ht => by
        rw [Tryz.params6] at ht
        have hm : t ∈ [23, 3, 5, 9] := by simpa using Array.mem_of_getElem? ht
        have hall : ([23, 3, 5, 9].all fun u => !Tryz.prog.wantsStandIn u) = true := by kernel_rfl
        exact (show Tryz.prog.wantsStandIn t = false by simpa using List.all_eq_true.1 hall t hm)⟩)
    (by kernel_rfl)
#print axioms card_holds
end Go.Proofs.YtcpfmlaipejfpaaGreatDoor.formatLines
