/-
  Formats of chapter 4: what FormatTextMatchesReference needs.
  Formats of chapter 4: FormatTextMatchesReference, walked.
  FormatTextMatchesReference is true of every input: the row, and its tied card. Conditions: the library variables that are read hold what their packages lay in them (the card ties that to the text).
-/
import Derived.Test.YtcpfmlaipejfpaaGreatDoorKS
import Derived.Test.YtcpfmlaipejfpaaGreatDoorKM
import Derived.Test.YtcpfmlaipejfpaaGreatDoorKR
import Derived.Test.YtcpfmlaipejfpaaGreatDoorKQ
import Derived.Test.YtcpfmlaipejfpaaGreatDoorCards
import Derived.Test.YtcpfmlaipejfpaaGreatDoorTie
import Derived.Test.YtcpfmlaipejfpaaGreatDoorKN
import Derived.SevenTiedAt
namespace Go.Proofs.YtcpfmlaipejfpaaGreatDoor
open Go.RowKit Go.Shelf

theorem few_in {l : List Fmt} (h : FmtAny l) : FmtIn (fewL l) := by
  unfold fewL
  have hm : ∀ f ∈ (l.take 62).map cutFmt, ∃ g ∈ l, f = cutFmt g := fun f hf => by
    obtain ⟨g, hg, rfl⟩ := List.mem_map.1 hf
    exact ⟨g, List.mem_of_mem_take hg, rfl⟩
  refine ⟨by rw [List.length_map, List.length_take]; omega, fun f hf => ?_, fun f hf => ?_, fun f hf x hx => ?_⟩
  · obtain ⟨g, hg, rfl⟩ := hm f hf
    exact h.id g hg
  · obtain ⟨g, hg, rfl⟩ := hm f hf
    show ((g.flds.take 18).map cutF).length ≤ 1000000
    rw [List.length_map, List.length_take]
    omega
  · obtain ⟨g, hg, rfl⟩ := hm f hf
    have hx' : x ∈ (g.flds.take 18).map cutF := hx
    obtain ⟨y, hy, rfl⟩ := List.mem_map.1 hx'
    have hy2 := h.ok g hg y (List.mem_of_mem_take hy)
    refine ⟨hy2.k, hy2.n, hy2.m, ?_⟩
    show (y.text.take 20).length ≤ 1000000000
    rw [List.length_take]
    omega
end Go.Proofs.YtcpfmlaipejfpaaGreatDoor
namespace Go.Proofs.YtcpfmlaipejfpaaGreatDoor
open Go.RowKit Go.Shelf

attribute [local go_sem] Oper.semAt_some

set_option maxRecDepth 100000 in
set_option maxHeartbeats 16000000 in
theorem Text_any (v0 : Value) (l0 : List Fmt) (raw : ByteArray) (v : Value) (n : Nat) (zs : List Int) (at_ : Int) (c : UInt8) (how : Int) (w : World) (h0 : FmtsAt w w.heap.size v0 l0) (hA : FmtAny l0) (hrz : raw.size ≤ 9223372036854775807) (hs : SliceAt w w.heap.size v n (zs.map (Value.int .i64))) (hz : zs.length = n * 4) (hI : ∀ z ∈ zs, I64 z) (ha : I64 at_) (hh : I64 how) (hE : Env w) :
    Calls Tryz.prog 4 #[v0, .string raw, v, .int .i64 at_, .int .u8 (c.toNat : Int), .int .i64 how] w fun e w' => e = .returned (.bool true) ∧ Below w.heap.size w w' := by
  obtain ⟨rl, rfl⟩ := bytes_str raw
  rw [str_size] at hrz
  go_enter Tryz.func4, Tryz.ntmps4
  go_wp2_with fail
  refine (sane_any w hE).mono ?_
  rintro e w1 ⟨rfl, hb1⟩
  have hE1 := hE.below hb1
  go_wp2_with fail
  refine (few_any v0 l0 w1 (h0.later hb1 (Nat.le_refl _)) hA).mono ?_
  rintro e w2 ⟨⟨lvA, fvA, rfl, hFA⟩, hb2⟩
  have hB2 := hb1.trans (hb2.mono hb1.size)
  have hE2 := hE1.below hb2
  have hinA := few_in hA
  go_wp2_with fail
  refine (Make_any v n zs w2 (SliceAt.later (SliceAt.later hs hb1) hb2) hz hI).mono ?_
  rintro e w3 ⟨⟨lvB, fvB, lB, rfl, hok, hM⟩, hb3⟩
  have hB3 := hB2.trans (hb3.mono hB2.size)
  have hE3 := hE2.below hb3
  have hFmA := (hFA.later hb3).fmts hinA
  have hFmB := hM.fmts hok.in_
  generalize fewL l0 = lA at *
  obtain ⟨aA, cA, hvA, _⟩ := hFmA.val
  obtain ⟨aB, cB, hvB, _⟩ := hFmB.val
  subst hvA hvB
  obtain ⟨W4, hW4⟩ : ∃ W4, W4 = w3.alloc (.cells #[.slice aA lA.length cA, .slice aB lB.length cB] 22) := ⟨_, rfl⟩
  have hb4 : Below w3.heap.size w3 W4 := by rw [hW4]; exact (Below.refl _ _).alloc (Nat.le_refl _) _
  have hA4 : Hid (Arr W4 w3.heap.size 22 [.slice aA lA.length cA, .slice aB lB.length cB]) := by rw [hW4]; exact Arr.new rfl rfl
  have hFmA4 := Lib.hid (hFmA.later hb4)
  have hFmB4 := Lib.hid (hFmB.later hb4)
  have hB4 := Lib.hid (hB3.trans (hb4.mono hB3.size))
  have hE4 := Lib.hid (hE3.below hb4)
  have hs4 := Lib.hid (SliceAt.later (SliceAt.later (SliceAt.later (SliceAt.later hs hb1) hb2) hb3) hb4)
  clear hFA hM hFmA hFmB hok hinA hb1 hb2 hb3 hb4 hB2 hB3 hE1 hE2 hE3 hs h0 hA
  go_upto_region 3 with fail
  rw [← hW4]
  clear hW4
  go_wp2_with fail
  go_loopw [39] (fun iv wr => ∃ i : Nat, i ≤ 2 ∧ iv = .int .i64 (i : Int) ∧ Hid (Below W4.heap.size W4 wr)) (fun iv _ => 2 - (intOf iv).toNat)
  case atStart => exact ⟨0, Nat.zero_le _, rfl, (show Hid _ from Below.refl _ _)⟩
  case round =>
    obtain ⟨i, hi, rfl, hB⟩ := hrel
    have hAr := hA4.out.below hB.out
    have y0 := hAr.cell (j := 0) rfl
    have y1 := hAr.cell (j := 1) rfl
    have hEr := hE4.out.below hB.out
    obtain rfl | rfl | rfl : i = 0 ∨ i = 1 ∨ i = 2 := by omega
    · have hF := hFmA4.out.later hB.out
      have hp1 := Lib.hid (Print_any _ lA wr hF.at_ hF.in_ hEr)
      have hp2 := Lib.hid fun (W : World) (hW : Below wr.heap.size wr W) => printT_any _ lA W (hF.later hW)
      clear hF
      generalize (print4 lA).1 = T at *
      generalize (print4 lA).2 = E at *
      have lq := eqq_str4 T
      have tt : (T == T) = true := beq_self_eq_true _
      have ee : (E == E) = true := beq_self_eq_true _
      go_wp2_with fail
      refine hp1.out.mono ?_
      rintro e u1 ⟨rfl, c1⟩
      go_wp2_with fail
      refine (hp2.out u1 c1).mono ?_
      rintro e u2 ⟨rfl, c2⟩
      have hBn : Hid (Below W4.heap.size W4 u2) := (hB.out.trans (c1.mono hB.out.size)).trans (c2.mono (Nat.le_trans hB.out.size c1.size))
      go_wp2_with fail
      exact ⟨⟨1, by omega, by first | rfl | go_num, hBn⟩, by simp [intOf]⟩
    · have hF := hFmB4.out.later hB.out
      have hp1 := Lib.hid (Print_any _ lB wr hF.at_ hF.in_ hEr)
      have hp2 := Lib.hid fun (W : World) (hW : Below wr.heap.size wr W) => printT_any _ lB W (hF.later hW)
      clear hF
      generalize (print4 lB).1 = T at *
      generalize (print4 lB).2 = E at *
      have lq := eqq_str4 T
      have tt : (T == T) = true := beq_self_eq_true _
      have ee : (E == E) = true := beq_self_eq_true _
      go_wp2_with fail
      refine hp1.out.mono ?_
      rintro e u1 ⟨rfl, c1⟩
      go_wp2_with fail
      refine (hp2.out u1 c1).mono ?_
      rintro e u2 ⟨rfl, c2⟩
      have hBn : Hid (Below W4.heap.size W4 u2) := (hB.out.trans (c1.mono hB.out.size)).trans (c2.mono (Nat.le_trans hB.out.size c1.size))
      go_wp2_with fail
      exact ⟨⟨2, by omega, by first | rfl | go_num, hBn⟩, by simp [intOf]⟩
    · have hB5 := hB4.out.trans (hB.out.mono hB4.out.size)
      have hs5 := SliceAt.later hs4.out hB.out
      clear hFmA4 hFmB4 hA4 hAr y0 y1 hB hE4 hs4 hB4
      go_wp2_with fail
      refine (Make_any v n zs wr hs5 hz hI).mono ?_
      rintro e w5 ⟨⟨lv, fvs, l, rfl, hok, hM⟩, hb5⟩
      have hF := hM.fmts hok.in_
      obtain ⟨hpr, hpl⟩ := made_text hok
      obtain ⟨a, cc, hlv, hcap, _⟩ := hF.val
      subst hlv
      have hprint := printT_any _ l w5 hF
      rw [hpr] at hprint
      generalize textF l = s at *
      replace hprint := Lib.hid hprint
      go_wp2_with fail
      refine hprint.out.mono ?_
      rintro e w6 ⟨rfl, hb6⟩
      have hB6 := (hB5.trans (hb5.mono hB5.size)).trans (hb6.mono (Nat.le_trans hB5.size hb5.size))
      have hE6 := (hEr.below hb5).below hb6
      clear hprint hM hok hF hpr hI hz hs5 hb5 hb6 hB5 hEr
      dsimp only
      have hps := str_size s
      have hw1 : IntKind.i64.wrap ((s.length : Int) + 1) = ((s.length + 1 : Nat) : Int) := by rw [Int.natCast_succ]; exact IntWalk.i64_in _ (by omega)
      have hpk := Lib.hid (pick_any at_ (s.length + 1) w6 ha (by omega) (by omega))
      have hk := pickv_lt at_ (s.length + 1) (by omega)
      generalize pickv at_ (s.length + 1) = k at *
      have k0 : (0 : Int) ≤ (k : Int) := by omega
      have k1 : (k : Int) ≤ (s.length : Int) := by omega
      have hcv := conv1 w6 c
      have hx1 := take_str4 s k
      have hx2 : (str s).extract k s.length = str (s.drop k) := by rw [← hps]; exact drop_str s k
      have hadd1 := add_str (s.take k) [c] (by simp only [List.length_take, List.length_cons, List.length_nil]; omega)
      have hadd2 := add_str (s.take k ++ [c]) (s.drop k) (by simp only [List.length_append, List.length_take, List.length_drop, List.length_cons, List.length_nil]; omega)
      obtain ⟨ch, hch⟩ : ∃ ch, ch = s.take k ++ [c] ++ s.drop k := ⟨_, rfl⟩
      have hcl : Hid (ch.length ≤ 70000) := by
        show _ ≤ _
        rw [hch]
        simp only [List.length_append, List.length_take, List.length_drop, List.length_cons, List.length_nil]
        omega
      rw [← hch] at hadd2
      replace hch := Lib.hid hch
      generalize s.take k ++ [c] = t1 at *
      go_wp2_with fail
      refine hpk.out.mono ?_
      rintro e w7 ⟨rfl, hw⟩
      subst w7
      clear hpk
      go_wp2_with fail
      refine wp_region_held_drew (S := fun w' => True) (by kernel_rfl) (by trivial) (fun hHeld => ?_)
      refine take_l (i := 0) (v := ?_) rfl (by kernel_rfl) (by kernel_rfl) (by kernel_rfl) (fun _ _ _ h => h) (Or.inl ⟨by kernel_rfl, ?_⟩) (by assumption) ?_
      rotate_left
      · intro w hSw; (try dsimp only at hSw); go_simp; (try with_reducible rfl)
      (try simp only [Act.put, List.setIfInBounds_toArray, List.set_cons_zero, List.set_cons_succ])
      refine take_l (i := 1) (v := ?_) rfl (by kernel_rfl) (by kernel_rfl) (by kernel_rfl) (fun _ _ _ h => h) (Or.inl ⟨by kernel_rfl, ?_⟩) (by assumption) ?_
      rotate_left
      · intro w hSw; (try dsimp only at hSw); go_simp; (try with_reducible rfl)
      (try simp only [Act.put, List.setIfInBounds_toArray, List.set_cons_zero, List.set_cons_succ])
      refine take_l (i := 2) (v := ?_) rfl (by kernel_rfl) (by kernel_rfl) (by kernel_rfl) (fun _ _ _ h => h) (Or.inl ⟨by kernel_rfl, ?_⟩) (by assumption) ?_
      rotate_left
      · intro w hSw; (try dsimp only at hSw); go_simp; (try with_reducible rfl)
      (try simp only [Act.put, List.setIfInBounds_toArray, List.set_cons_zero, List.set_cons_succ])
      refine take_l (i := 3) (v := ?_) rfl (by kernel_rfl) (by kernel_rfl) (by kernel_rfl) (fun _ _ _ h => h) (Or.inl ⟨by kernel_rfl, ?_⟩) (by assumption) ?_
      rotate_left
      · intro w hSw; (try dsimp only at hSw); go_simp; (try with_reducible rfl)
      (try simp only [Act.put, List.setIfInBounds_toArray, List.set_cons_zero, List.set_cons_succ])
      refine take_l (i := 7) (v := ?_) rfl (by kernel_rfl) (by kernel_rfl) (by kernel_rfl) (fun _ _ _ h => h) (Or.inl ⟨by kernel_rfl, ?_⟩) (by assumption) ?_
      rotate_left
      · intro w hSw; (try dsimp only at hSw); go_simp; (try with_reducible rfl)
      (try simp only [Act.put, List.setIfInBounds_toArray, List.set_cons_zero, List.set_cons_succ])
      refine take_l (i := 8) (v := ?_) rfl (by kernel_rfl) (by kernel_rfl) (by kernel_rfl) (fun _ _ _ h => h) (Or.inl ⟨by kernel_rfl, ?_⟩) (by assumption) ?_
      rotate_left
      · intro w hSw; (try dsimp only at hSw); go_simp; (try with_reducible rfl)
      (try simp only [Act.put, List.setIfInBounds_toArray, List.set_cons_zero, List.set_cons_succ])
      refine take_l (i := 9) (v := ?_) rfl (by kernel_rfl) (by kernel_rfl) (by kernel_rfl) (fun _ _ _ h => h) (Or.inl ⟨by kernel_rfl, ?_⟩) (by assumption) ?_
      rotate_left
      · intro w hSw; (try dsimp only at hSw); go_simp; (try with_reducible rfl)
      (try simp only [Act.put, List.setIfInBounds_toArray, List.set_cons_zero, List.set_cons_succ])
      refine wpAnyH_ready (rs := [4]) (by kernel_rfl) (by simp) ?_
      refine ready_l rfl (fun K hK => ?_) AllReadyH.nil
      go_simp
      refine hK.out _ _ (by trivial) (fun hHeld => ?_)
      clear hK K
      (try simp only [Act.put, List.setIfInBounds_toArray, List.set_cons_zero, List.set_cons_succ])
      refine wpAnyH_ready (rs := [5]) (by kernel_rfl) (by simp) ?_
      refine ready_l rfl (fun K hK => ?_) AllReadyH.nil
      go_simp
      refine hK.out _ _ (by trivial) (fun hHeld => ?_)
      clear hK K
      (try simp only [Act.put, List.setIfInBounds_toArray, List.set_cons_zero, List.set_cons_succ])
      refine take_l (i := 6) (v := ?_) rfl (by kernel_rfl) (by kernel_rfl) (by kernel_rfl) (fun _ _ _ h => h) (Or.inl ⟨by kernel_rfl, ?_⟩) (by assumption) ?_
      rotate_left
      · intro w hSw; (try dsimp only at hSw); go_simp; (try with_reducible rfl)
      (try simp only [Act.put, List.setIfInBounds_toArray, List.set_cons_zero, List.set_cons_succ])
      refine take_l (i := 10) (v := ?_) rfl (by kernel_rfl) (by kernel_rfl) (by kernel_rfl) (fun _ _ _ h => h) (Or.inl ⟨by kernel_rfl, ?_⟩) (by assumption) ?_
      rotate_left
      · intro w hSw; (try dsimp only at hSw); go_simp; (try with_reducible rfl)
      (try simp only [Act.put, List.setIfInBounds_toArray, List.set_cons_zero, List.set_cons_succ])
      refine take_l (i := 11) (v := ?_) rfl (by kernel_rfl) (by kernel_rfl) (by kernel_rfl) (fun _ _ _ h => h) (Or.inl ⟨by kernel_rfl, ?_⟩) (by assumption) ?_
      rotate_left
      · intro w hSw; (try dsimp only at hSw); go_simp; (try with_reducible rfl)
      (try simp only [Act.put, List.setIfInBounds_toArray, List.set_cons_zero, List.set_cons_succ])
      refine wpAnyH_done (by kernel_rfl) ?_ _
      refine name_then ?_
      intro w7 hw7
      have hb7 : Below w6.heap.size w6 w7 := by rw [hw7]; exact ((Below.refl _ _).alloc (Nat.le_refl _) _).drew
      clear hw7 hcv hx1 hx2 hadd1 hadd2
      have hB7 := hB6.trans (hb7.mono hB6.size)
      have hE7 := hE6.below hb7

      have hp3 := Lib.hid fun W => pick_any how 3 W hh (by omega) (by omega)
      have hlt3 := pickv_lt how 3 (by omega)
      generalize pickv how 3 = p at *
      have hwk : IntKind.i64.wrap ((k : Int) + 1) = (k : Int) + 1 := IntWalk.i64_in _ (by omega)
      have hk2 : (0 : Int) ≤ (k : Int) + 1 := by omega
      by_cases hks : k < s.length
      · have hdk : decide ((k : Int) < (s.length : Int)) = true := decide_eq_true (by omega)
        have k3 : (k : Int) + 1 ≤ (s.length : Int) := by omega
        have hx1 := take_str4 s k
        have hx3 : (str s).extract (k + 1) s.length = str (s.drop (k + 1)) := by rw [← hps]; exact drop_str s (k + 1)
        obtain rfl | rfl | rfl : p = 0 ∨ p = 1 ∨ p = 2 := by omega
        · have hadd3 := add_str (s.take k) (s.drop (k + 1)) (by simp only [List.length_take, List.length_drop]; omega)
          obtain ⟨ch3, hch3⟩ : ∃ ch3, ch3 = s.take k ++ s.drop (k + 1) := ⟨_, rfl⟩
          have hcl3 : Hid (ch3.length ≤ 70000) := by show _ ≤ _; rw [hch3]; simp only [List.length_append, List.length_take, List.length_drop]; omega
          rw [← hch3] at hadd3
          replace hch3 := Lib.hid hch3
          go_wp2_with fail
          refine (hp3.out _).mono ?_
          rintro e w8 ⟨rfl, hw⟩
          subst w8
          go_wp2_with fail
          go_quiet (fail)
          refine name_then ?_
          intro w8 hw8
          have hb8 : Below w7.heap.size w7 w8 := by rw [hw8]; exact below_drewN (Below.refl _ _) _
          clear hw8 hx1 hx3 hadd3
          have hB8x := hB7.trans (hb8.mono hB7.size)
          have hE8x := hE7.below hb8
          obtain ⟨q, hq⟩ : ∃ q, q = min rl.length 3000 := ⟨_, rfl⟩
          have hmin : min (rl.length : Int) 3000 = (q : Int) := by omega
          have q0 : (0 : Int) ≤ (q : Int) := by omega
          have q1 : (q : Int) ≤ (rl.length : Int) := by omega
          have hpm := str_size rl
          have hxq := take_str4 rl q
          have hql : Hid ((rl.take q).length ≤ 3000) := by show _ ≤ _; rw [List.length_take]; omega
          obtain ⟨T0, hT0⟩ : ∃ T0, T0 = rl.take q := ⟨_, rfl⟩
          rw [← hT0] at hql hxq
          replace hT0 := Lib.hid hT0
          replace hq := Lib.hid hq
          obtain ⟨W8, hW8⟩ : ∃ W8, W8 = w8.alloc (.cells #[.string (str T0), .string (str ch3), .string (str s)] 9) := ⟨_, rfl⟩
          have hb8 : Below w8.heap.size w8 W8 := by rw [hW8]; exact (Below.refl _ _).alloc (Nat.le_refl _) _
          have hA8 : Hid (Arr W8 w8.heap.size 9 [.string (str T0), .string (str ch3), .string (str s)]) := by rw [hW8]; exact Arr.new rfl rfl
          have hB8 := Lib.hid (hB8x.trans (hb8.mono hB8x.size))
          have hE8 := Lib.hid (hE8x.below hb8)
          have hcell : Hid (∀ W, Arr W w8.heap.size 9 [.string (str T0), .string (str ch3), .string (str s)] → ∀ i, i < 3 → ∃ T : List UInt8, T.length ≤ 100000 ∧ W.cell? ⟨w8.heap.size, i, none⟩ = some (.string (str T))) := fun W hW i hi => by
            have h1 := hql.out
            have h2 := hcl3.out
            obtain rfl | rfl | rfl : i = 0 ∨ i = 1 ∨ i = 2 := by omega
            · exact ⟨T0, by omega, hW.cell (j := 0) rfl⟩
            · exact ⟨ch3, by omega, hW.cell (j := 1) rfl⟩
            · exact ⟨s, by omega, hW.cell (j := 2) rfl⟩
          clear hb8
          go_upto_region 18 with fail
          rw [← hW8]
          clear hW8
          go_wp2_with fail
          go_loopw [131] (fun iv wx => ∃ i : Nat, i ≤ 3 ∧ iv = .int .i64 (i : Int) ∧ Hid (Below W8.heap.size W8 wx)) (fun iv _ => 3 - (intOf iv).toNat)
          case atStart => exact ⟨0, Nat.zero_le _, rfl, (show Hid _ from Below.refl _ _)⟩
          case round =>
            obtain ⟨i, hi, rfl, hB⟩ := hrel
            by_cases hlt : i < 3
            · have hd : decide ((i : Int) < 3) = true := decide_eq_true (by omega)
              have i0 : (0 : Int) ≤ (i : Int) := by omega
              have i1 : (i : Int) < 3 := by omega
              have hwi : IntKind.i64.wrap ((i : Int) + 1) = ((i + 1 : Nat) : Int) := by rw [Int.natCast_succ]; exact IntWalk.i64_in _ (by omega)
              obtain ⟨T, hTl, y0⟩ := hcell.out _ (hA8.out.below hB.out) i hlt
              have hp1 := Lib.hid (Parse_any T wr hTl (hE8.out.below hB.out))
              have hp2 := Lib.hid fun W => parseT_any T W hTl
              go_wp2_with fail
              refine hp1.out.mono ?_
              rintro e u1 ⟨c1, hc1⟩
              have hBu := hB.out.trans (c1.mono hB.out.size)
              rcases hc1 with ⟨l2, v2, e1, rfl, hf2, hin2⟩ | ⟨m, e1, rfl⟩
              · obtain ⟨a2, cc2, hv2⟩ : ∃ a2 cc2, v2 = .slice a2 l2.length cc2 := by
                  obtain ⟨_, _, ⟨a2, cc2, e, _⟩, _⟩ := hf2
                  exact ⟨a2, cc2, e⟩
                subst hv2
                have hF2 : Fmts u1 _ l2 := ⟨hf2, hin2⟩
                go_wp2_with fail
                refine (hp2.out u1).mono ?_
                rintro e u2 ⟨c2, hc2⟩
                have hBv := hBu.trans (c2.mono hBu.size)
                rcases hc2 with ⟨k', e2, rfl⟩ | ⟨L, lv, e2, rfl, hFL⟩
                · rw [e1] at e2
                  exact absurd (Prod.mk.inj (Prod.mk.inj e2).2).2 (by decide)
                · obtain rfl : l2 = L := by rw [e1] at e2; exact (Prod.mk.inj e2).1
                  obtain ⟨a3, cc3, hv3, _⟩ := hFL.val
                  subst hv3
                  have hsm := sameR_any _ _ l2 l2 u2 (hF2.later c2) hFL
                  rw [decide_eq_true (rfl : l2 = l2)] at hsm
                  replace hsm := Lib.hid hsm
                  replace e1 := Lib.hid e1
                  clear e2 hFL hF2 hf2 hin2
                  go_wp2_with fail
                  refine hsm.out.mono ?_
                  rintro e u3 ⟨rfl, c3⟩
                  have hBz : Hid (Below W8.heap.size W8 u3) := hBv.trans (c3.mono hBv.size)
                  go_wp2_with fail
                  exact ⟨⟨i + 1, by omega, by first | rfl | go_num, hBz⟩, by simp [intOf]; omega⟩
              · go_wp2_with fail
                refine (hp2.out u1).mono ?_
                rintro e u2 ⟨c2, hc2⟩
                have hBv := hBu.trans (c2.mono hBu.size)
                rcases hc2 with ⟨k', e2, rfl⟩ | ⟨L, lv, e2, rfl, hFL⟩
                · obtain rfl : m = k' := by rw [e1] at e2; exact (Prod.mk.inj (Prod.mk.inj e2).2).1
                  have mm : ((m : Int) == (m : Int)) = true := by simp
                  have hsm := sameR_any _ _ [] [] u2 (Fmts.nil u2) (Fmts.nil u2)
                  rw [decide_eq_true (rfl : ([] : List Fmt) = [])] at hsm
                  replace hsm := Lib.hid hsm
                  replace e1 := Lib.hid e1
                  clear e2
                  go_wp2_with fail
                  refine hsm.out.mono ?_
                  rintro e u3 ⟨rfl, c3⟩
                  have hBz : Hid (Below W8.heap.size W8 u3) := hBv.trans (c3.mono hBv.size)
                  go_wp2_with fail
                  exact ⟨⟨i + 1, by omega, by first | rfl | go_num, hBz⟩, by simp [intOf]; omega⟩
                · rw [e1] at e2
                  exact absurd (Prod.mk.inj (Prod.mk.inj e2).2).2 (by decide)
            · obtain rfl : i = 3 := by omega
              clear hi
              go_wp2_with fail
              go_ret
              exact ⟨rfl, hB8.out.trans (hB.out.mono hB8.out.size)⟩
        · have hcv := conv1 w7 c
          have hadd1 := add_str (s.take k) [c] (by simp only [List.length_take, List.length_cons, List.length_nil]; omega)
          have hadd3 := add_str (s.take k ++ [c]) (s.drop (k + 1)) (by simp only [List.length_append, List.length_take, List.length_drop, List.length_cons, List.length_nil]; omega)
          obtain ⟨ch3, hch3⟩ : ∃ ch3, ch3 = s.take k ++ [c] ++ s.drop (k + 1) := ⟨_, rfl⟩
          have hcl3 : Hid (ch3.length ≤ 70000) := by show _ ≤ _; rw [hch3]; simp only [List.length_append, List.length_take, List.length_drop, List.length_cons, List.length_nil]; omega
          rw [← hch3] at hadd3
          replace hch3 := Lib.hid hch3
          generalize s.take k ++ [c] = t3 at *
          go_wp2_with fail
          refine (hp3.out _).mono ?_
          rintro e w8 ⟨rfl, hw⟩
          subst w8
          go_wp2_with fail
          refine (hp3.out _).mono ?_
          rintro e w8 ⟨rfl, hw⟩
          subst w8
          go_wp2_with fail
          refine wp_region_held_drew (S := fun w' => True) (by kernel_rfl) (by trivial) (fun hHeld => ?_)
          refine take_l (i := 0) (v := ?_) rfl (by kernel_rfl) (by kernel_rfl) (by kernel_rfl) (fun _ _ _ h => h) (Or.inl ⟨by kernel_rfl, ?_⟩) (by assumption) ?_
          rotate_left
          · intro w hSw; (try dsimp only at hSw); go_simp; (try with_reducible rfl)
          (try simp only [Act.put, List.setIfInBounds_toArray, List.set_cons_zero, List.set_cons_succ])
          refine take_l (i := 1) (v := ?_) rfl (by kernel_rfl) (by kernel_rfl) (by kernel_rfl) (fun _ _ _ h => h) (Or.inl ⟨by kernel_rfl, ?_⟩) (by assumption) ?_
          rotate_left
          · intro w hSw; (try dsimp only at hSw); go_simp; (try with_reducible rfl)
          (try simp only [Act.put, List.setIfInBounds_toArray, List.set_cons_zero, List.set_cons_succ])
          refine take_l (i := 2) (v := ?_) rfl (by kernel_rfl) (by kernel_rfl) (by kernel_rfl) (fun _ _ _ h => h) (Or.inl ⟨by kernel_rfl, ?_⟩) (by assumption) ?_
          rotate_left
          · intro w hSw; (try dsimp only at hSw); go_simp; (try with_reducible rfl)
          (try simp only [Act.put, List.setIfInBounds_toArray, List.set_cons_zero, List.set_cons_succ])
          refine take_l (i := 3) (v := ?_) rfl (by kernel_rfl) (by kernel_rfl) (by kernel_rfl) (fun _ _ _ h => h) (Or.inl ⟨by kernel_rfl, ?_⟩) (by assumption) ?_
          rotate_left
          · intro w hSw; (try dsimp only at hSw); go_simp; (try with_reducible rfl)
          (try simp only [Act.put, List.setIfInBounds_toArray, List.set_cons_zero, List.set_cons_succ])
          refine take_l (i := 7) (v := ?_) rfl (by kernel_rfl) (by kernel_rfl) (by kernel_rfl) (fun _ _ _ h => h) (Or.inl ⟨by kernel_rfl, ?_⟩) (by assumption) ?_
          rotate_left
          · intro w hSw; (try dsimp only at hSw); go_simp; (try with_reducible rfl)
          (try simp only [Act.put, List.setIfInBounds_toArray, List.set_cons_zero, List.set_cons_succ])
          refine take_l (i := 8) (v := ?_) rfl (by kernel_rfl) (by kernel_rfl) (by kernel_rfl) (fun _ _ _ h => h) (Or.inl ⟨by kernel_rfl, ?_⟩) (by assumption) ?_
          rotate_left
          · intro w hSw; (try dsimp only at hSw); go_simp; (try with_reducible rfl)
          (try simp only [Act.put, List.setIfInBounds_toArray, List.set_cons_zero, List.set_cons_succ])
          refine take_l (i := 9) (v := ?_) rfl (by kernel_rfl) (by kernel_rfl) (by kernel_rfl) (fun _ _ _ h => h) (Or.inl ⟨by kernel_rfl, ?_⟩) (by assumption) ?_
          rotate_left
          · intro w hSw; (try dsimp only at hSw); go_simp; (try with_reducible rfl)
          (try simp only [Act.put, List.setIfInBounds_toArray, List.set_cons_zero, List.set_cons_succ])
          refine take_l (i := 10) (v := ?_) rfl (by kernel_rfl) (by kernel_rfl) (by kernel_rfl) (fun _ _ _ h => h) (Or.inl ⟨by kernel_rfl, ?_⟩) (by assumption) ?_
          rotate_left
          · intro w hSw; (try dsimp only at hSw); go_simp; (try with_reducible rfl)
          (try simp only [Act.put, List.setIfInBounds_toArray, List.set_cons_zero, List.set_cons_succ])
          refine wpAnyH_ready (rs := [4]) (by kernel_rfl) (by simp) ?_
          refine ready_l rfl (fun K hK => ?_) AllReadyH.nil
          go_simp
          refine hK.out _ _ (by trivial) (fun hHeld => ?_)
          clear hK K
          (try simp only [Act.put, List.setIfInBounds_toArray, List.set_cons_zero, List.set_cons_succ])
          refine wpAnyH_ready (rs := [5]) (by kernel_rfl) (by simp) ?_
          refine ready_l rfl (fun K hK => ?_) AllReadyH.nil
          go_simp
          refine hK.out _ _ (by trivial) (fun hHeld => ?_)
          clear hK K
          (try simp only [Act.put, List.setIfInBounds_toArray, List.set_cons_zero, List.set_cons_succ])
          refine take_l (i := 6) (v := ?_) rfl (by kernel_rfl) (by kernel_rfl) (by kernel_rfl) (fun _ _ _ h => h) (Or.inl ⟨by kernel_rfl, ?_⟩) (by assumption) ?_
          rotate_left
          · intro w hSw; (try dsimp only at hSw); go_simp; (try with_reducible rfl)
          (try simp only [Act.put, List.setIfInBounds_toArray, List.set_cons_zero, List.set_cons_succ])
          refine take_l (i := 11) (v := ?_) rfl (by kernel_rfl) (by kernel_rfl) (by kernel_rfl) (fun _ _ _ h => h) (Or.inl ⟨by kernel_rfl, ?_⟩) (by assumption) ?_
          rotate_left
          · intro w hSw; (try dsimp only at hSw); go_simp; (try with_reducible rfl)
          (try simp only [Act.put, List.setIfInBounds_toArray, List.set_cons_zero, List.set_cons_succ])
          refine take_l (i := 12) (v := ?_) rfl (by kernel_rfl) (by kernel_rfl) (by kernel_rfl) (fun _ _ _ h => h) (Or.inl ⟨by kernel_rfl, ?_⟩) (by assumption) ?_
          rotate_left
          · intro w hSw; (try dsimp only at hSw); go_simp; (try with_reducible rfl)
          (try simp only [Act.put, List.setIfInBounds_toArray, List.set_cons_zero, List.set_cons_succ])
          refine wpAnyH_done (by kernel_rfl) ?_ _
          refine name_then ?_
          intro w8 hw8
          have hb8 : Below w7.heap.size w7 w8 := by rw [hw8]; exact ((Below.refl _ _).alloc (Nat.le_refl _) _).drew
          clear hw8 hx1 hx3 hadd3 hcv hadd1
          have hB8x := hB7.trans (hb8.mono hB7.size)
          have hE8x := hE7.below hb8
          obtain ⟨q, hq⟩ : ∃ q, q = min rl.length 3000 := ⟨_, rfl⟩
          have hmin : min (rl.length : Int) 3000 = (q : Int) := by omega
          have q0 : (0 : Int) ≤ (q : Int) := by omega
          have q1 : (q : Int) ≤ (rl.length : Int) := by omega
          have hpm := str_size rl
          have hxq := take_str4 rl q
          have hql : Hid ((rl.take q).length ≤ 3000) := by show _ ≤ _; rw [List.length_take]; omega
          obtain ⟨T0, hT0⟩ : ∃ T0, T0 = rl.take q := ⟨_, rfl⟩
          rw [← hT0] at hql hxq
          replace hT0 := Lib.hid hT0
          replace hq := Lib.hid hq
          obtain ⟨W8, hW8⟩ : ∃ W8, W8 = w8.alloc (.cells #[.string (str T0), .string (str ch3), .string (str s)] 9) := ⟨_, rfl⟩
          have hb8 : Below w8.heap.size w8 W8 := by rw [hW8]; exact (Below.refl _ _).alloc (Nat.le_refl _) _
          have hA8 : Hid (Arr W8 w8.heap.size 9 [.string (str T0), .string (str ch3), .string (str s)]) := by rw [hW8]; exact Arr.new rfl rfl
          have hB8 := Lib.hid (hB8x.trans (hb8.mono hB8x.size))
          have hE8 := Lib.hid (hE8x.below hb8)
          have hcell : Hid (∀ W, Arr W w8.heap.size 9 [.string (str T0), .string (str ch3), .string (str s)] → ∀ i, i < 3 → ∃ T : List UInt8, T.length ≤ 100000 ∧ W.cell? ⟨w8.heap.size, i, none⟩ = some (.string (str T))) := fun W hW i hi => by
            have h1 := hql.out
            have h2 := hcl3.out
            obtain rfl | rfl | rfl : i = 0 ∨ i = 1 ∨ i = 2 := by omega
            · exact ⟨T0, by omega, hW.cell (j := 0) rfl⟩
            · exact ⟨ch3, by omega, hW.cell (j := 1) rfl⟩
            · exact ⟨s, by omega, hW.cell (j := 2) rfl⟩
          clear hb8
          go_upto_region 18 with fail
          rw [← hW8]
          clear hW8
          go_wp2_with fail
          go_loopw [131] (fun iv wx => ∃ i : Nat, i ≤ 3 ∧ iv = .int .i64 (i : Int) ∧ Hid (Below W8.heap.size W8 wx)) (fun iv _ => 3 - (intOf iv).toNat)
          case atStart => exact ⟨0, Nat.zero_le _, rfl, (show Hid _ from Below.refl _ _)⟩
          case round =>
            obtain ⟨i, hi, rfl, hB⟩ := hrel
            by_cases hlt : i < 3
            · have hd : decide ((i : Int) < 3) = true := decide_eq_true (by omega)
              have i0 : (0 : Int) ≤ (i : Int) := by omega
              have i1 : (i : Int) < 3 := by omega
              have hwi : IntKind.i64.wrap ((i : Int) + 1) = ((i + 1 : Nat) : Int) := by rw [Int.natCast_succ]; exact IntWalk.i64_in _ (by omega)
              obtain ⟨T, hTl, y0⟩ := hcell.out _ (hA8.out.below hB.out) i hlt
              have hp1 := Lib.hid (Parse_any T wr hTl (hE8.out.below hB.out))
              have hp2 := Lib.hid fun W => parseT_any T W hTl
              go_wp2_with fail
              refine hp1.out.mono ?_
              rintro e u1 ⟨c1, hc1⟩
              have hBu := hB.out.trans (c1.mono hB.out.size)
              rcases hc1 with ⟨l2, v2, e1, rfl, hf2, hin2⟩ | ⟨m, e1, rfl⟩
              · obtain ⟨a2, cc2, hv2⟩ : ∃ a2 cc2, v2 = .slice a2 l2.length cc2 := by
                  obtain ⟨_, _, ⟨a2, cc2, e, _⟩, _⟩ := hf2
                  exact ⟨a2, cc2, e⟩
                subst hv2
                have hF2 : Fmts u1 _ l2 := ⟨hf2, hin2⟩
                go_wp2_with fail
                refine (hp2.out u1).mono ?_
                rintro e u2 ⟨c2, hc2⟩
                have hBv := hBu.trans (c2.mono hBu.size)
                rcases hc2 with ⟨k', e2, rfl⟩ | ⟨L, lv, e2, rfl, hFL⟩
                · rw [e1] at e2
                  exact absurd (Prod.mk.inj (Prod.mk.inj e2).2).2 (by decide)
                · obtain rfl : l2 = L := by rw [e1] at e2; exact (Prod.mk.inj e2).1
                  obtain ⟨a3, cc3, hv3, _⟩ := hFL.val
                  subst hv3
                  have hsm := sameR_any _ _ l2 l2 u2 (hF2.later c2) hFL
                  rw [decide_eq_true (rfl : l2 = l2)] at hsm
                  replace hsm := Lib.hid hsm
                  replace e1 := Lib.hid e1
                  clear e2 hFL hF2 hf2 hin2
                  go_wp2_with fail
                  refine hsm.out.mono ?_
                  rintro e u3 ⟨rfl, c3⟩
                  have hBz : Hid (Below W8.heap.size W8 u3) := hBv.trans (c3.mono hBv.size)
                  go_wp2_with fail
                  exact ⟨⟨i + 1, by omega, by first | rfl | go_num, hBz⟩, by simp [intOf]; omega⟩
              · go_wp2_with fail
                refine (hp2.out u1).mono ?_
                rintro e u2 ⟨c2, hc2⟩
                have hBv := hBu.trans (c2.mono hBu.size)
                rcases hc2 with ⟨k', e2, rfl⟩ | ⟨L, lv, e2, rfl, hFL⟩
                · obtain rfl : m = k' := by rw [e1] at e2; exact (Prod.mk.inj (Prod.mk.inj e2).2).1
                  have mm : ((m : Int) == (m : Int)) = true := by simp
                  have hsm := sameR_any _ _ [] [] u2 (Fmts.nil u2) (Fmts.nil u2)
                  rw [decide_eq_true (rfl : ([] : List Fmt) = [])] at hsm
                  replace hsm := Lib.hid hsm
                  replace e1 := Lib.hid e1
                  clear e2
                  go_wp2_with fail
                  refine hsm.out.mono ?_
                  rintro e u3 ⟨rfl, c3⟩
                  have hBz : Hid (Below W8.heap.size W8 u3) := hBv.trans (c3.mono hBv.size)
                  go_wp2_with fail
                  exact ⟨⟨i + 1, by omega, by first | rfl | go_num, hBz⟩, by simp [intOf]; omega⟩
                · rw [e1] at e2
                  exact absurd (Prod.mk.inj (Prod.mk.inj e2).2).2 (by decide)
            · obtain rfl : i = 3 := by omega
              clear hi
              go_wp2_with fail
              go_ret
              exact ⟨rfl, hB8.out.trans (hB.out.mono hB8.out.size)⟩
        · clear hx1 hx3
          go_wp2_with fail
          refine (hp3.out _).mono ?_
          rintro e w8 ⟨rfl, hw⟩
          subst w8
          go_wp2_with fail
          refine (hp3.out _).mono ?_
          rintro e w8 ⟨rfl, hw⟩
          subst w8
          obtain ⟨q, hq⟩ : ∃ q, q = min rl.length 3000 := ⟨_, rfl⟩
          have hmin : min (rl.length : Int) 3000 = (q : Int) := by omega
          have q0 : (0 : Int) ≤ (q : Int) := by omega
          have q1 : (q : Int) ≤ (rl.length : Int) := by omega
          have hpm := str_size rl
          have hxq := take_str4 rl q
          have hql : Hid ((rl.take q).length ≤ 3000) := by show _ ≤ _; rw [List.length_take]; omega
          obtain ⟨T0, hT0⟩ : ∃ T0, T0 = rl.take q := ⟨_, rfl⟩
          rw [← hT0] at hql hxq
          replace hT0 := Lib.hid hT0
          replace hq := Lib.hid hq
          obtain ⟨W8, hW8⟩ : ∃ W8, W8 = w7.alloc (.cells #[.string (str T0), .string (str ch), .string (str s)] 9) := ⟨_, rfl⟩
          have hb8 : Below w7.heap.size w7 W8 := by rw [hW8]; exact (Below.refl _ _).alloc (Nat.le_refl _) _
          have hA8 : Hid (Arr W8 w7.heap.size 9 [.string (str T0), .string (str ch), .string (str s)]) := by rw [hW8]; exact Arr.new rfl rfl
          have hB8 := Lib.hid (hB7.trans (hb8.mono hB7.size))
          have hE8 := Lib.hid (hE7.below hb8)
          have hcell : Hid (∀ W, Arr W w7.heap.size 9 [.string (str T0), .string (str ch), .string (str s)] → ∀ i, i < 3 → ∃ T : List UInt8, T.length ≤ 100000 ∧ W.cell? ⟨w7.heap.size, i, none⟩ = some (.string (str T))) := fun W hW i hi => by
            have h1 := hql.out
            have h2 := hcl.out
            obtain rfl | rfl | rfl : i = 0 ∨ i = 1 ∨ i = 2 := by omega
            · exact ⟨T0, by omega, hW.cell (j := 0) rfl⟩
            · exact ⟨ch, by omega, hW.cell (j := 1) rfl⟩
            · exact ⟨s, by omega, hW.cell (j := 2) rfl⟩
          clear hb8
          go_upto_region 18 with fail
          rw [← hW8]
          clear hW8
          go_wp2_with fail
          go_loopw [131] (fun iv wx => ∃ i : Nat, i ≤ 3 ∧ iv = .int .i64 (i : Int) ∧ Hid (Below W8.heap.size W8 wx)) (fun iv _ => 3 - (intOf iv).toNat)
          case atStart => exact ⟨0, Nat.zero_le _, rfl, (show Hid _ from Below.refl _ _)⟩
          case round =>
            obtain ⟨i, hi, rfl, hB⟩ := hrel
            by_cases hlt : i < 3
            · have hd : decide ((i : Int) < 3) = true := decide_eq_true (by omega)
              have i0 : (0 : Int) ≤ (i : Int) := by omega
              have i1 : (i : Int) < 3 := by omega
              have hwi : IntKind.i64.wrap ((i : Int) + 1) = ((i + 1 : Nat) : Int) := by rw [Int.natCast_succ]; exact IntWalk.i64_in _ (by omega)
              obtain ⟨T, hTl, y0⟩ := hcell.out _ (hA8.out.below hB.out) i hlt
              have hp1 := Lib.hid (Parse_any T wr hTl (hE8.out.below hB.out))
              have hp2 := Lib.hid fun W => parseT_any T W hTl
              go_wp2_with fail
              refine hp1.out.mono ?_
              rintro e u1 ⟨c1, hc1⟩
              have hBu := hB.out.trans (c1.mono hB.out.size)
              rcases hc1 with ⟨l2, v2, e1, rfl, hf2, hin2⟩ | ⟨m, e1, rfl⟩
              · obtain ⟨a2, cc2, hv2⟩ : ∃ a2 cc2, v2 = .slice a2 l2.length cc2 := by
                  obtain ⟨_, _, ⟨a2, cc2, e, _⟩, _⟩ := hf2
                  exact ⟨a2, cc2, e⟩
                subst hv2
                have hF2 : Fmts u1 _ l2 := ⟨hf2, hin2⟩
                go_wp2_with fail
                refine (hp2.out u1).mono ?_
                rintro e u2 ⟨c2, hc2⟩
                have hBv := hBu.trans (c2.mono hBu.size)
                rcases hc2 with ⟨k', e2, rfl⟩ | ⟨L, lv, e2, rfl, hFL⟩
                · rw [e1] at e2
                  exact absurd (Prod.mk.inj (Prod.mk.inj e2).2).2 (by decide)
                · obtain rfl : l2 = L := by rw [e1] at e2; exact (Prod.mk.inj e2).1
                  obtain ⟨a3, cc3, hv3, _⟩ := hFL.val
                  subst hv3
                  have hsm := sameR_any _ _ l2 l2 u2 (hF2.later c2) hFL
                  rw [decide_eq_true (rfl : l2 = l2)] at hsm
                  replace hsm := Lib.hid hsm
                  replace e1 := Lib.hid e1
                  clear e2 hFL hF2 hf2 hin2
                  go_wp2_with fail
                  refine hsm.out.mono ?_
                  rintro e u3 ⟨rfl, c3⟩
                  have hBz : Hid (Below W8.heap.size W8 u3) := hBv.trans (c3.mono hBv.size)
                  go_wp2_with fail
                  exact ⟨⟨i + 1, by omega, by first | rfl | go_num, hBz⟩, by simp [intOf]; omega⟩
              · go_wp2_with fail
                refine (hp2.out u1).mono ?_
                rintro e u2 ⟨c2, hc2⟩
                have hBv := hBu.trans (c2.mono hBu.size)
                rcases hc2 with ⟨k', e2, rfl⟩ | ⟨L, lv, e2, rfl, hFL⟩
                · obtain rfl : m = k' := by rw [e1] at e2; exact (Prod.mk.inj (Prod.mk.inj e2).2).1
                  have mm : ((m : Int) == (m : Int)) = true := by simp
                  have hsm := sameR_any _ _ [] [] u2 (Fmts.nil u2) (Fmts.nil u2)
                  rw [decide_eq_true (rfl : ([] : List Fmt) = [])] at hsm
                  replace hsm := Lib.hid hsm
                  replace e1 := Lib.hid e1
                  clear e2
                  go_wp2_with fail
                  refine hsm.out.mono ?_
                  rintro e u3 ⟨rfl, c3⟩
                  have hBz : Hid (Below W8.heap.size W8 u3) := hBv.trans (c3.mono hBv.size)
                  go_wp2_with fail
                  exact ⟨⟨i + 1, by omega, by first | rfl | go_num, hBz⟩, by simp [intOf]; omega⟩
                · rw [e1] at e2
                  exact absurd (Prod.mk.inj (Prod.mk.inj e2).2).2 (by decide)
            · obtain rfl : i = 3 := by omega
              clear hi
              go_wp2_with fail
              go_ret
              exact ⟨rfl, hB8.out.trans (hB.out.mono hB8.out.size)⟩
      · have hdk : decide ((k : Int) < (s.length : Int)) = false := decide_eq_false (by omega)
        have hdk2 : ¬ k < s.length := hks
        clear hks
        obtain rfl | rfl | rfl : p = 0 ∨ p = 1 ∨ p = 2 := by omega
        · go_wp2_with fail
          refine (hp3.out _).mono ?_
          rintro e w8 ⟨rfl, hw⟩
          subst w8
          go_wp2_with fail
          refine (hp3.out _).mono ?_
          rintro e w8 ⟨rfl, hw⟩
          subst w8
          obtain ⟨q, hq⟩ : ∃ q, q = min rl.length 3000 := ⟨_, rfl⟩
          have hmin : min (rl.length : Int) 3000 = (q : Int) := by omega
          have q0 : (0 : Int) ≤ (q : Int) := by omega
          have q1 : (q : Int) ≤ (rl.length : Int) := by omega
          have hpm := str_size rl
          have hxq := take_str4 rl q
          have hql : Hid ((rl.take q).length ≤ 3000) := by show _ ≤ _; rw [List.length_take]; omega
          obtain ⟨T0, hT0⟩ : ∃ T0, T0 = rl.take q := ⟨_, rfl⟩
          rw [← hT0] at hql hxq
          replace hT0 := Lib.hid hT0
          replace hq := Lib.hid hq
          obtain ⟨W8, hW8⟩ : ∃ W8, W8 = w7.alloc (.cells #[.string (str T0), .string (str ch), .string (str s)] 9) := ⟨_, rfl⟩
          have hb8 : Below w7.heap.size w7 W8 := by rw [hW8]; exact (Below.refl _ _).alloc (Nat.le_refl _) _
          have hA8 : Hid (Arr W8 w7.heap.size 9 [.string (str T0), .string (str ch), .string (str s)]) := by rw [hW8]; exact Arr.new rfl rfl
          have hB8 := Lib.hid (hB7.trans (hb8.mono hB7.size))
          have hE8 := Lib.hid (hE7.below hb8)
          have hcell : Hid (∀ W, Arr W w7.heap.size 9 [.string (str T0), .string (str ch), .string (str s)] → ∀ i, i < 3 → ∃ T : List UInt8, T.length ≤ 100000 ∧ W.cell? ⟨w7.heap.size, i, none⟩ = some (.string (str T))) := fun W hW i hi => by
            have h1 := hql.out
            have h2 := hcl.out
            obtain rfl | rfl | rfl : i = 0 ∨ i = 1 ∨ i = 2 := by omega
            · exact ⟨T0, by omega, hW.cell (j := 0) rfl⟩
            · exact ⟨ch, by omega, hW.cell (j := 1) rfl⟩
            · exact ⟨s, by omega, hW.cell (j := 2) rfl⟩
          clear hb8
          go_upto_region 18 with fail
          rw [← hW8]
          clear hW8
          go_wp2_with fail
          go_loopw [131] (fun iv wx => ∃ i : Nat, i ≤ 3 ∧ iv = .int .i64 (i : Int) ∧ Hid (Below W8.heap.size W8 wx)) (fun iv _ => 3 - (intOf iv).toNat)
          case atStart => exact ⟨0, Nat.zero_le _, rfl, (show Hid _ from Below.refl _ _)⟩
          case round =>
            obtain ⟨i, hi, rfl, hB⟩ := hrel
            by_cases hlt : i < 3
            · have hd : decide ((i : Int) < 3) = true := decide_eq_true (by omega)
              have i0 : (0 : Int) ≤ (i : Int) := by omega
              have i1 : (i : Int) < 3 := by omega
              have hwi : IntKind.i64.wrap ((i : Int) + 1) = ((i + 1 : Nat) : Int) := by rw [Int.natCast_succ]; exact IntWalk.i64_in _ (by omega)
              obtain ⟨T, hTl, y0⟩ := hcell.out _ (hA8.out.below hB.out) i hlt
              have hp1 := Lib.hid (Parse_any T wr hTl (hE8.out.below hB.out))
              have hp2 := Lib.hid fun W => parseT_any T W hTl
              go_wp2_with fail
              refine hp1.out.mono ?_
              rintro e u1 ⟨c1, hc1⟩
              have hBu := hB.out.trans (c1.mono hB.out.size)
              rcases hc1 with ⟨l2, v2, e1, rfl, hf2, hin2⟩ | ⟨m, e1, rfl⟩
              · obtain ⟨a2, cc2, hv2⟩ : ∃ a2 cc2, v2 = .slice a2 l2.length cc2 := by
                  obtain ⟨_, _, ⟨a2, cc2, e, _⟩, _⟩ := hf2
                  exact ⟨a2, cc2, e⟩
                subst hv2
                have hF2 : Fmts u1 _ l2 := ⟨hf2, hin2⟩
                go_wp2_with fail
                refine (hp2.out u1).mono ?_
                rintro e u2 ⟨c2, hc2⟩
                have hBv := hBu.trans (c2.mono hBu.size)
                rcases hc2 with ⟨k', e2, rfl⟩ | ⟨L, lv, e2, rfl, hFL⟩
                · rw [e1] at e2
                  exact absurd (Prod.mk.inj (Prod.mk.inj e2).2).2 (by decide)
                · obtain rfl : l2 = L := by rw [e1] at e2; exact (Prod.mk.inj e2).1
                  obtain ⟨a3, cc3, hv3, _⟩ := hFL.val
                  subst hv3
                  have hsm := sameR_any _ _ l2 l2 u2 (hF2.later c2) hFL
                  rw [decide_eq_true (rfl : l2 = l2)] at hsm
                  replace hsm := Lib.hid hsm
                  replace e1 := Lib.hid e1
                  clear e2 hFL hF2 hf2 hin2
                  go_wp2_with fail
                  refine hsm.out.mono ?_
                  rintro e u3 ⟨rfl, c3⟩
                  have hBz : Hid (Below W8.heap.size W8 u3) := hBv.trans (c3.mono hBv.size)
                  go_wp2_with fail
                  exact ⟨⟨i + 1, by omega, by first | rfl | go_num, hBz⟩, by simp [intOf]; omega⟩
              · go_wp2_with fail
                refine (hp2.out u1).mono ?_
                rintro e u2 ⟨c2, hc2⟩
                have hBv := hBu.trans (c2.mono hBu.size)
                rcases hc2 with ⟨k', e2, rfl⟩ | ⟨L, lv, e2, rfl, hFL⟩
                · obtain rfl : m = k' := by rw [e1] at e2; exact (Prod.mk.inj (Prod.mk.inj e2).2).1
                  have mm : ((m : Int) == (m : Int)) = true := by simp
                  have hsm := sameR_any _ _ [] [] u2 (Fmts.nil u2) (Fmts.nil u2)
                  rw [decide_eq_true (rfl : ([] : List Fmt) = [])] at hsm
                  replace hsm := Lib.hid hsm
                  replace e1 := Lib.hid e1
                  clear e2
                  go_wp2_with fail
                  refine hsm.out.mono ?_
                  rintro e u3 ⟨rfl, c3⟩
                  have hBz : Hid (Below W8.heap.size W8 u3) := hBv.trans (c3.mono hBv.size)
                  go_wp2_with fail
                  exact ⟨⟨i + 1, by omega, by first | rfl | go_num, hBz⟩, by simp [intOf]; omega⟩
                · rw [e1] at e2
                  exact absurd (Prod.mk.inj (Prod.mk.inj e2).2).2 (by decide)
            · obtain rfl : i = 3 := by omega
              clear hi
              go_wp2_with fail
              go_ret
              exact ⟨rfl, hB8.out.trans (hB.out.mono hB8.out.size)⟩
        · go_wp2_with fail
          refine (hp3.out _).mono ?_
          rintro e w8 ⟨rfl, hw⟩
          subst w8
          go_wp2_with fail
          refine (hp3.out _).mono ?_
          rintro e w8 ⟨rfl, hw⟩
          subst w8
          obtain ⟨q, hq⟩ : ∃ q, q = min rl.length 3000 := ⟨_, rfl⟩
          have hmin : min (rl.length : Int) 3000 = (q : Int) := by omega
          have q0 : (0 : Int) ≤ (q : Int) := by omega
          have q1 : (q : Int) ≤ (rl.length : Int) := by omega
          have hpm := str_size rl
          have hxq := take_str4 rl q
          have hql : Hid ((rl.take q).length ≤ 3000) := by show _ ≤ _; rw [List.length_take]; omega
          obtain ⟨T0, hT0⟩ : ∃ T0, T0 = rl.take q := ⟨_, rfl⟩
          rw [← hT0] at hql hxq
          replace hT0 := Lib.hid hT0
          replace hq := Lib.hid hq
          obtain ⟨W8, hW8⟩ : ∃ W8, W8 = w7.alloc (.cells #[.string (str T0), .string (str ch), .string (str s)] 9) := ⟨_, rfl⟩
          have hb8 : Below w7.heap.size w7 W8 := by rw [hW8]; exact (Below.refl _ _).alloc (Nat.le_refl _) _
          have hA8 : Hid (Arr W8 w7.heap.size 9 [.string (str T0), .string (str ch), .string (str s)]) := by rw [hW8]; exact Arr.new rfl rfl
          have hB8 := Lib.hid (hB7.trans (hb8.mono hB7.size))
          have hE8 := Lib.hid (hE7.below hb8)
          have hcell : Hid (∀ W, Arr W w7.heap.size 9 [.string (str T0), .string (str ch), .string (str s)] → ∀ i, i < 3 → ∃ T : List UInt8, T.length ≤ 100000 ∧ W.cell? ⟨w7.heap.size, i, none⟩ = some (.string (str T))) := fun W hW i hi => by
            have h1 := hql.out
            have h2 := hcl.out
            obtain rfl | rfl | rfl : i = 0 ∨ i = 1 ∨ i = 2 := by omega
            · exact ⟨T0, by omega, hW.cell (j := 0) rfl⟩
            · exact ⟨ch, by omega, hW.cell (j := 1) rfl⟩
            · exact ⟨s, by omega, hW.cell (j := 2) rfl⟩
          clear hb8
          go_upto_region 18 with fail
          rw [← hW8]
          clear hW8
          go_wp2_with fail
          go_loopw [131] (fun iv wx => ∃ i : Nat, i ≤ 3 ∧ iv = .int .i64 (i : Int) ∧ Hid (Below W8.heap.size W8 wx)) (fun iv _ => 3 - (intOf iv).toNat)
          case atStart => exact ⟨0, Nat.zero_le _, rfl, (show Hid _ from Below.refl _ _)⟩
          case round =>
            obtain ⟨i, hi, rfl, hB⟩ := hrel
            by_cases hlt : i < 3
            · have hd : decide ((i : Int) < 3) = true := decide_eq_true (by omega)
              have i0 : (0 : Int) ≤ (i : Int) := by omega
              have i1 : (i : Int) < 3 := by omega
              have hwi : IntKind.i64.wrap ((i : Int) + 1) = ((i + 1 : Nat) : Int) := by rw [Int.natCast_succ]; exact IntWalk.i64_in _ (by omega)
              obtain ⟨T, hTl, y0⟩ := hcell.out _ (hA8.out.below hB.out) i hlt
              have hp1 := Lib.hid (Parse_any T wr hTl (hE8.out.below hB.out))
              have hp2 := Lib.hid fun W => parseT_any T W hTl
              go_wp2_with fail
              refine hp1.out.mono ?_
              rintro e u1 ⟨c1, hc1⟩
              have hBu := hB.out.trans (c1.mono hB.out.size)
              rcases hc1 with ⟨l2, v2, e1, rfl, hf2, hin2⟩ | ⟨m, e1, rfl⟩
              · obtain ⟨a2, cc2, hv2⟩ : ∃ a2 cc2, v2 = .slice a2 l2.length cc2 := by
                  obtain ⟨_, _, ⟨a2, cc2, e, _⟩, _⟩ := hf2
                  exact ⟨a2, cc2, e⟩
                subst hv2
                have hF2 : Fmts u1 _ l2 := ⟨hf2, hin2⟩
                go_wp2_with fail
                refine (hp2.out u1).mono ?_
                rintro e u2 ⟨c2, hc2⟩
                have hBv := hBu.trans (c2.mono hBu.size)
                rcases hc2 with ⟨k', e2, rfl⟩ | ⟨L, lv, e2, rfl, hFL⟩
                · rw [e1] at e2
                  exact absurd (Prod.mk.inj (Prod.mk.inj e2).2).2 (by decide)
                · obtain rfl : l2 = L := by rw [e1] at e2; exact (Prod.mk.inj e2).1
                  obtain ⟨a3, cc3, hv3, _⟩ := hFL.val
                  subst hv3
                  have hsm := sameR_any _ _ l2 l2 u2 (hF2.later c2) hFL
                  rw [decide_eq_true (rfl : l2 = l2)] at hsm
                  replace hsm := Lib.hid hsm
                  replace e1 := Lib.hid e1
                  clear e2 hFL hF2 hf2 hin2
                  go_wp2_with fail
                  refine hsm.out.mono ?_
                  rintro e u3 ⟨rfl, c3⟩
                  have hBz : Hid (Below W8.heap.size W8 u3) := hBv.trans (c3.mono hBv.size)
                  go_wp2_with fail
                  exact ⟨⟨i + 1, by omega, by first | rfl | go_num, hBz⟩, by simp [intOf]; omega⟩
              · go_wp2_with fail
                refine (hp2.out u1).mono ?_
                rintro e u2 ⟨c2, hc2⟩
                have hBv := hBu.trans (c2.mono hBu.size)
                rcases hc2 with ⟨k', e2, rfl⟩ | ⟨L, lv, e2, rfl, hFL⟩
                · obtain rfl : m = k' := by rw [e1] at e2; exact (Prod.mk.inj (Prod.mk.inj e2).2).1
                  have mm : ((m : Int) == (m : Int)) = true := by simp
                  have hsm := sameR_any _ _ [] [] u2 (Fmts.nil u2) (Fmts.nil u2)
                  rw [decide_eq_true (rfl : ([] : List Fmt) = [])] at hsm
                  replace hsm := Lib.hid hsm
                  replace e1 := Lib.hid e1
                  clear e2
                  go_wp2_with fail
                  refine hsm.out.mono ?_
                  rintro e u3 ⟨rfl, c3⟩
                  have hBz : Hid (Below W8.heap.size W8 u3) := hBv.trans (c3.mono hBv.size)
                  go_wp2_with fail
                  exact ⟨⟨i + 1, by omega, by first | rfl | go_num, hBz⟩, by simp [intOf]; omega⟩
                · rw [e1] at e2
                  exact absurd (Prod.mk.inj (Prod.mk.inj e2).2).2 (by decide)
            · obtain rfl : i = 3 := by omega
              clear hi
              go_wp2_with fail
              go_ret
              exact ⟨rfl, hB8.out.trans (hB.out.mono hB8.out.size)⟩
        · go_wp2_with fail
          refine (hp3.out _).mono ?_
          rintro e w8 ⟨rfl, hw⟩
          subst w8
          go_wp2_with fail
          refine (hp3.out _).mono ?_
          rintro e w8 ⟨rfl, hw⟩
          subst w8
          obtain ⟨q, hq⟩ : ∃ q, q = min rl.length 3000 := ⟨_, rfl⟩
          have hmin : min (rl.length : Int) 3000 = (q : Int) := by omega
          have q0 : (0 : Int) ≤ (q : Int) := by omega
          have q1 : (q : Int) ≤ (rl.length : Int) := by omega
          have hpm := str_size rl
          have hxq := take_str4 rl q
          have hql : Hid ((rl.take q).length ≤ 3000) := by show _ ≤ _; rw [List.length_take]; omega
          obtain ⟨T0, hT0⟩ : ∃ T0, T0 = rl.take q := ⟨_, rfl⟩
          rw [← hT0] at hql hxq
          replace hT0 := Lib.hid hT0
          replace hq := Lib.hid hq
          obtain ⟨W8, hW8⟩ : ∃ W8, W8 = w7.alloc (.cells #[.string (str T0), .string (str ch), .string (str s)] 9) := ⟨_, rfl⟩
          have hb8 : Below w7.heap.size w7 W8 := by rw [hW8]; exact (Below.refl _ _).alloc (Nat.le_refl _) _
          have hA8 : Hid (Arr W8 w7.heap.size 9 [.string (str T0), .string (str ch), .string (str s)]) := by rw [hW8]; exact Arr.new rfl rfl
          have hB8 := Lib.hid (hB7.trans (hb8.mono hB7.size))
          have hE8 := Lib.hid (hE7.below hb8)
          have hcell : Hid (∀ W, Arr W w7.heap.size 9 [.string (str T0), .string (str ch), .string (str s)] → ∀ i, i < 3 → ∃ T : List UInt8, T.length ≤ 100000 ∧ W.cell? ⟨w7.heap.size, i, none⟩ = some (.string (str T))) := fun W hW i hi => by
            have h1 := hql.out
            have h2 := hcl.out
            obtain rfl | rfl | rfl : i = 0 ∨ i = 1 ∨ i = 2 := by omega
            · exact ⟨T0, by omega, hW.cell (j := 0) rfl⟩
            · exact ⟨ch, by omega, hW.cell (j := 1) rfl⟩
            · exact ⟨s, by omega, hW.cell (j := 2) rfl⟩
          clear hb8
          go_upto_region 18 with fail
          rw [← hW8]
          clear hW8
          go_wp2_with fail
          go_loopw [131] (fun iv wx => ∃ i : Nat, i ≤ 3 ∧ iv = .int .i64 (i : Int) ∧ Hid (Below W8.heap.size W8 wx)) (fun iv _ => 3 - (intOf iv).toNat)
          case atStart => exact ⟨0, Nat.zero_le _, rfl, (show Hid _ from Below.refl _ _)⟩
          case round =>
            obtain ⟨i, hi, rfl, hB⟩ := hrel
            by_cases hlt : i < 3
            · have hd : decide ((i : Int) < 3) = true := decide_eq_true (by omega)
              have i0 : (0 : Int) ≤ (i : Int) := by omega
              have i1 : (i : Int) < 3 := by omega
              have hwi : IntKind.i64.wrap ((i : Int) + 1) = ((i + 1 : Nat) : Int) := by rw [Int.natCast_succ]; exact IntWalk.i64_in _ (by omega)
              obtain ⟨T, hTl, y0⟩ := hcell.out _ (hA8.out.below hB.out) i hlt
              have hp1 := Lib.hid (Parse_any T wr hTl (hE8.out.below hB.out))
              have hp2 := Lib.hid fun W => parseT_any T W hTl
              go_wp2_with fail
              refine hp1.out.mono ?_
              rintro e u1 ⟨c1, hc1⟩
              have hBu := hB.out.trans (c1.mono hB.out.size)
              rcases hc1 with ⟨l2, v2, e1, rfl, hf2, hin2⟩ | ⟨m, e1, rfl⟩
              · obtain ⟨a2, cc2, hv2⟩ : ∃ a2 cc2, v2 = .slice a2 l2.length cc2 := by
                  obtain ⟨_, _, ⟨a2, cc2, e, _⟩, _⟩ := hf2
                  exact ⟨a2, cc2, e⟩
                subst hv2
                have hF2 : Fmts u1 _ l2 := ⟨hf2, hin2⟩
                go_wp2_with fail
                refine (hp2.out u1).mono ?_
                rintro e u2 ⟨c2, hc2⟩
                have hBv := hBu.trans (c2.mono hBu.size)
                rcases hc2 with ⟨k', e2, rfl⟩ | ⟨L, lv, e2, rfl, hFL⟩
                · rw [e1] at e2
                  exact absurd (Prod.mk.inj (Prod.mk.inj e2).2).2 (by decide)
                · obtain rfl : l2 = L := by rw [e1] at e2; exact (Prod.mk.inj e2).1
                  obtain ⟨a3, cc3, hv3, _⟩ := hFL.val
                  subst hv3
                  have hsm := sameR_any _ _ l2 l2 u2 (hF2.later c2) hFL
                  rw [decide_eq_true (rfl : l2 = l2)] at hsm
                  replace hsm := Lib.hid hsm
                  replace e1 := Lib.hid e1
                  clear e2 hFL hF2 hf2 hin2
                  go_wp2_with fail
                  refine hsm.out.mono ?_
                  rintro e u3 ⟨rfl, c3⟩
                  have hBz : Hid (Below W8.heap.size W8 u3) := hBv.trans (c3.mono hBv.size)
                  go_wp2_with fail
                  exact ⟨⟨i + 1, by omega, by first | rfl | go_num, hBz⟩, by simp [intOf]; omega⟩
              · go_wp2_with fail
                refine (hp2.out u1).mono ?_
                rintro e u2 ⟨c2, hc2⟩
                have hBv := hBu.trans (c2.mono hBu.size)
                rcases hc2 with ⟨k', e2, rfl⟩ | ⟨L, lv, e2, rfl, hFL⟩
                · obtain rfl : m = k' := by rw [e1] at e2; exact (Prod.mk.inj (Prod.mk.inj e2).2).1
                  have mm : ((m : Int) == (m : Int)) = true := by simp
                  have hsm := sameR_any _ _ [] [] u2 (Fmts.nil u2) (Fmts.nil u2)
                  rw [decide_eq_true (rfl : ([] : List Fmt) = [])] at hsm
                  replace hsm := Lib.hid hsm
                  replace e1 := Lib.hid e1
                  clear e2
                  go_wp2_with fail
                  refine hsm.out.mono ?_
                  rintro e u3 ⟨rfl, c3⟩
                  have hBz : Hid (Below W8.heap.size W8 u3) := hBv.trans (c3.mono hBv.size)
                  go_wp2_with fail
                  exact ⟨⟨i + 1, by omega, by first | rfl | go_num, hBz⟩, by simp [intOf]; omega⟩
                · rw [e1] at e2
                  exact absurd (Prod.mk.inj (Prod.mk.inj e2).2).2 (by decide)
            · obtain rfl : i = 3 := by omega
              clear hi
              go_wp2_with fail
              go_ret
              exact ⟨rfl, hB8.out.trans (hB.out.mono hB8.out.size)⟩
end Go.Proofs.YtcpfmlaipejfpaaGreatDoor
namespace Go.Proofs.YtcpfmlaipejfpaaGreatDoor.formatTextMatchesReference
open Go.ChangeShapes Go.WideShapes Go.ChangeAt Go.RowKit
open Go.ChangeMaps (open_string)

set_option maxRecDepth 100000 in
set_option maxHeartbeats 1000000 in
theorem lifted (os : Os) (started : os.Started) (H : Type) (enc : TypeId × Value → H) :
    ReturnsInHanded {} Tryz.checked os 4 .any (fun w args => (Rows.formatTextMatchesReferenceSpec.pre enc Tryz.prog Tryz.f4 [] false w args ∧ laidMetH Tryz.prog laid4 w) ∧ sizedMet enc Tryz.prog Tryz.f4 (OpenSpec.ofChange Rows.formatTextMatchesReferenceSpec) false w args)
      (Rows.formatTextMatchesReferenceSpec.post enc Tryz.prog Tryz.f4 false true false false) := by
  refine lift_shaped (C := Tryz.checked) (X := fun w => laidMetH Tryz.prog laid4 w) (fun _ _ hh h => h.of_heap hh) own started (by kernel_rfl) Tryz.func4
    (ChangeSpec.witness_shaped (enc := enc) (C := Tryz.checked) (os := os) (X := fun w _ => laidMetH Tryz.prog laid4 w) false (World.laidAll Tryz.prog os laid4) #[.slice none 0 0, .string ByteArray.empty, .slice none 0 0, .int .i64 0, .int .u8 0, .int .i64 0] 8 (World.laidAll_os _ _ _) (shape4 os) (by kernel_rfl) (by kernel_rfl) (by kernel_rfl) (door_met4 os _)) ?_
  intro W base args ds gs before hval0 hW hL hsh
  have hval : ∀ (j : Nat) t v, Tryz.f4.params[j]? = some t → args[j]? = some v → Value.okWide Tryz.prog W .any base t v := hval0
  have hW' := hW
  obtain ⟨p, q, hA0, hV, rfl, hfz, hnd⟩ := hW
  have hA : DataW.TrodAll enc Tryz.prog W 0 (fun _ => true) true Tryz.f4.params.toList args.toList ds p := hA0
  have hAk := hA
  rw [Tryz.params4] at hA hval
  obtain ⟨v0, vs0, d0, ds0, p0, q0, hargs, rfl, rfl, h0, r0⟩ := trodAll_cons hA
  obtain ⟨v1, vs1, d1, ds1, p1, q1, rfl, rfl, rfl, h1, r1⟩ := trodAll_cons r0
  obtain ⟨v2, vs2, d2, ds2, p2, q2, rfl, rfl, rfl, h2, r2⟩ := trodAll_cons r1
  obtain ⟨v3, vs3, d3, ds3, p3, q3, rfl, rfl, rfl, h3, r3⟩ := trodAll_cons r2
  obtain ⟨v4, vs4, d4, ds4, p4, q4, rfl, rfl, rfl, h4, r4⟩ := trodAll_cons r3
  obtain ⟨v5, vs5, d5, ds5, p5, q5, rfl, rfl, rfl, h5, r5⟩ := trodAll_cons r4
  obtain ⟨rfl, rfl, rfl⟩ := trodAll_nil r5
  obtain rfl : args = #[v0, v1, v2, v3, v4, v5] := by cases args; simp_all
  obtain ⟨rfl, rfl⟩ := trodVars_none hV
  obtain ⟨l0, s0, y0⟩ := open_formats (hval 0 22 v0 rfl rfl) h0
  obtain ⟨a1, rfl, rfl, _, w1⟩ := open_string Tryz.underlying9 (hval 1 9 v1 rfl rfl) h1
  obtain ⟨n2, z2, e2, g2, s2⟩ := open_quads (hval 2 23 v2 rfl rfl) h2
  obtain ⟨a3, rfl, rfl, _, w3⟩ := open_int Tryz.underlying3 (hval 3 3 v3 rfl rfl) h3
  obtain ⟨b4, rfl, rfl, _, w4⟩ := open_int Tryz.underlying5 (hval 4 5 v4 rfl rfl) h4
  obtain ⟨a4, rfl⟩ := u8_byte w4
  obtain ⟨a5, rfl, rfl, _, w5⟩ := open_int Tryz.underlying3 (hval 5 3 v5 rfl rfl) h5
  clear hA0 hval0
  refine (Text_any v0 l0 a1 v2 n2 z2 a3 a4 a5 W s0 y0 (by have := w1; unfold maxLen at this; omega) s2 e2 g2 (I64.of_wf w3) (I64.of_wf w5) (env_of_laid hL hsh)).mono fun e W' ⟨he, hg⟩ => ?_
  subst he
  have hlt := DataW.TrodAll.lt hAk
  exact ⟨_, rfl, post_of_below (pa := _) (pv := []) hW' (fun _ _ _ => (trodAll_cons_mk (shut_bool Tryz.underlying4 _) trodAll_mk0)) (fun sp hsp => trodAll_stay Tryz.kids Tryz.full (by rw [Tryz.params4]; decide) hAk (fun x hx => sameAt_below hg (hlt x hx)) (fun x hx => hsp x (List.mem_append_left _ hx))) (fun _ _ => rfl) rfl hg (ok_one (by kernel_rfl) rfl (okWide_bool_mk Tryz.underlying4 _))⟩

theorem row_holds : Rows.FormatTextMatchesReferenceSaid :=
  OpenClaim.holds_of_wide 4 Tryz.f4 rfl rfl rfl rfl rfl rfl rfl ⟨rfl, rfl, rfl, rfl, rfl⟩ rfl rfl rfl rfl rfl (by kernel_rfl) Tryz.func4 (by kernel_rfl)
    (of_decide_eq_true (by kernel_rfl)) (by unfold Func.isWrapper; first | (rw [if_pos (by decide +kernel)]; kernel_rfl) | (rw [if_neg (by decide +kernel)]; exact ⟨rfl, rfl⟩))
    (fun os started H enc _ => lifted os started H enc)

/-- THE TIED CARD. -/
theorem card_holds : Rows.FormatTextMatchesReferenceCardSaid :=
  Claim7.holds_tied_plain_at .later [] [.data, .data, .data, .data, .sentinel, .sentinel, .pinned] true Rows.formatTextMatchesReferenceCard.stood.harness true
    row_holds (fun _ h => by cases h) (by kernel_rfl) (fun _ h => by cases h) formatTextMatchesReference_row_tie rfl ⟨rfl, rfl⟩ (by kernel_rfl) rfl
    (fun f fn hf hfn => by
      obtain rfl : f = 4 := Option.some.inj ((show Tryz.prog.funcNamed "evergreen/evergreenlaw04.FormatTextMatchesReference" = some 4 by kernel_rfl).symm.trans hf) |>.symm
      obtain rfl : fn = Tryz.f4 := (Option.some.inj (Tryz.func4.symm.trans hfn)).symm
      exact ⟨by kernel_rfl, fun j t ht => by
        rw [Tryz.params4] at ht
        have hm : t ∈ [22, 9, 23, 3, 5, 3] := by simpa using Array.mem_of_getElem? ht
        have hall : ([22, 9, 23, 3, 5, 3].all fun u => !Tryz.prog.wantsStandIn u) = true := by kernel_rfl
        exact (show Tryz.prog.wantsStandIn t = false by simpa using List.all_eq_true.1 hall t hm)⟩)
    (by kernel_rfl)
#print axioms card_holds
end Go.Proofs.YtcpfmlaipejfpaaGreatDoor.formatTextMatchesReference
