/-
  The walk of SampleDrawn.
-/
import Derived.Test.YtjlldolmlfgejaaDoorSane
import Derived.Test.YtjlldolmlfgejaaDoorMath4
namespace Go.Proofs.YtjlldolmlfgejaaDoor
open Go.RowKit

/-- Between two rounds of the first loop. -/
def DrnRel (k more bad : Nat) (l m : List Int) (at' hits i : Value) : Prop :=
  ∃ (i' a : Nat) (h : Bool), i' ≤ k ∧ a ≤ more ∧ (i' < k → ∀ p, p < more → m.getD p 0 = l.getD i' 0 → a ≤ p) ∧ (h = false → ∀ j, j < i' → bitZ bad (l.getD j 0) = 0) ∧
    at' = .int .i64 a ∧ hits = .bool h ∧ i = .int .i64 i'

set_option maxRecDepth 100000 in
set_option maxHeartbeats 4000000 in
theorem DrnLaw_any (s : ByteArray) (a1 a2 a3 a4 : Int) (w : World) (hs : s.size ≤ 9223372036854775807) (i1 : I64 a1) (i2 : I64 a2) (i3 : I64 a3) (i4 : I64 a4) (hG : w.rangeAt 0 0 (u32s KS)) :
    Calls Tryd.prog 9 #[.string s, .int .i64 a1, .int .i64 a2, .int .i64 a3, .int .i64 a4] w fun e w' => e = .returned (.bool true) ∧ Below w.heap.size w w' := by
  have hB : Below w.heap.size w w := Below.refl _ _
  have h0w : 0 < w.heap.size := World.block_lt_of_cell? w _ (hG 0 _ rfl)
  have hGW : ∀ W, Below w.heap.size w W → W.rangeAt 0 0 (u32s KS) := fun W hb j v hv => (hb.cell (p := ⟨0, 0 + j, none⟩) h0w).trans (hG j v hv)
  replace hGW := Lib.hid hGW
  have p0 := pick_any a1 24
  have hm := pickv_lt a1 24 (by omega)
  generalize pickv a1 24 = m at *
  have p1 := pick_any a2 (1 + m + 1)
  have hk := pickv_lt a2 (1 + m + 1) (by omega)
  generalize pickv a2 (1 + m + 1) = k at *
  obtain ⟨n, hn⟩ : ∃ n, n = 1 + m := ⟨_, rfl⟩
  rw [← hn] at p1 hk
  have p2 := pick_any a3 (n - k + 1)
  have hd := pickv_lt a3 (n - k + 1) (by omega)
  generalize pickv a3 (n - k + 1) = d at *
  have p3 := pick_any a4 (2 ^ n)
  have h2n1 : 1 ≤ 2 ^ n := Nat.two_pow_pos n
  have hn1 : 1 ≤ n := by omega
  have hn24 : n ≤ 24 := by omega
  have h2n : 2 ^ n ≤ 16777216 := Nat.pow_le_pow_right (by omega) hn24
  have hbT := pickv_lt a4 (2 ^ n) h2n1
  generalize pickv a4 (2 ^ n) = bad at *
  obtain ⟨more, hmo⟩ : ∃ more, more = k + d := ⟨_, rfl⟩
  have hkm : k ≤ more := by omega
  have hmn : more ≤ n := by omega
  have wn : wrap64 ((2 : Int) ^ n) = ((2 ^ n : Nat) : Int) := by
    have e : (2 : Int) ^ n = ((2 ^ n : Nat) : Int) := by simp
    rw [e]; exact IntWalk.wrap64_in _ (by omega)
  obtain ⟨T, hT⟩ : ∃ T, T = 2 ^ n := ⟨_, rfl⟩
  rw [← hT] at wn h2n h2n1 hbT p3
  have hT9 : T ≤ 1000000000 := Nat.le_trans h2n (Nat.le_of_ble_eq_true rfl)
  replace hT := Lib.hid hT
  replace p0 := Lib.hid p0
  replace p1 := Lib.hid p1
  replace p2 := Lib.hid p2
  replace p3 := Lib.hid p3
  replace hn := Lib.hid hn
  replace hmo := Lib.hid hmo
  go_enter Tryd.func9, Tryd.ntmps9
  go_wp2_with fail
  refine (sane_any _ hG).mono ?_
  rintro e ws ⟨rfl, hb1⟩
  replace hB := hB.trans (hb1.mono hB.size)
  have hb_ws := hb1
  clear hb1
  clear hG
  go_wp2_with fail
  have hts : (s.extract 0 (min (s.size : Int) 50).toNat).size ≤ 2000 := by rw [ByteArray.size_extract]; omega
  generalize s.extract 0 (min (s.size : Int) 50).toNat = t at *
  refine (Sum_any t _ hts (hGW.out _ hB)).mono ?_
  rintro e wu ⟨rfl, hb1⟩
  replace hB := hB.trans (hb1.mono hB.size)
  have hb_wu := hb1
  clear hb1
  have hSs := shaSum_size t
  have hS1 : (shaSum t).size ≤ 1000 := by omega
  generalize shaSum t = S at *
  replace hSs := Lib.hid hSs
  go_wp2_with fail
  refine (p0.out _ i1 (by omega) (by omega)).mono ?_; rintro e wp ⟨rfl, rfl⟩
  go_wp2_with fail
  rw [show (1 : Int) + (m : Int) = (n : Int) from by have := hn.out; omega]
  rw [show (n : Int) + 1 = ((n + 1 : Nat) : Int) from rfl]
  refine (p1.out _ i2 (by omega) (by omega)).mono ?_; rintro e wp ⟨rfl, rfl⟩
  go_wp2_with fail
  rw [show (n : Int) - (k : Int) + 1 = ((n - k + 1 : Nat) : Int) from by omega]
  refine (p2.out _ i3 (by omega) (by omega)).mono ?_; rintro e wp ⟨rfl, rfl⟩
  go_wp2_with fail
  rw [show (k : Int) + (d : Int) = (more : Int) from by have := hmo.out; omega]
  refine (p3.out _ i4 h2n1 hT9).mono ?_; rintro e wp ⟨rfl, rfl⟩
  go_wp2_with fail
  refine (Draw_yes S n k _ hS1 hn1 hn24 (by omega) (hGW.out _ hB)).mono ?_
  rintro e w1 ⟨g1, c1, rfl, hg1, hz1, hc1, hb1⟩
  replace hB := hB.trans (hb1.mono hB.size)
  have hb_w1 := hb1
  clear hb1
  replace hc1 := Lib.hid hc1
  go_wp2_with fail
  refine (Draw_yes S n more _ hS1 hn1 hn24 hmn (hGW.out _ hB)).mono ?_
  rintro e w2 ⟨g2, c2, rfl, hg2, hz2, hc2, hb1⟩
  replace hB := hB.trans (hb1.mono hB.size)
  have hb_w2 := hb1
  clear hb1
  replace hc2 := Lib.hid hc2
  replace hc1 : Hid (∀ j, j < k → w2.cell? ⟨g1, j, none⟩ = some (.int .i64 ((drawn S n k).getD j 0))) := fun j hj => (hb_w2.cell (p := ⟨g1, j, none⟩) hz1).trans (hc1.out j hj)
  have hz1' := Nat.lt_of_lt_of_le hz1 hb_w2.size
  go_wp2_with fail
  refine (Draw_yes S n n _ hS1 hn1 hn24 (Nat.le_refl n) (hGW.out _ hB)).mono ?_
  rintro e w3 ⟨g3, c3, rfl, hg3, hz3, hc3, hb1⟩
  replace hB := hB.trans (hb1.mono hB.size)
  have hb_w3 := hb1
  clear hb1
  replace hc1 : Hid (∀ j, j < k → w3.cell? ⟨g1, j, none⟩ = some (.int .i64 ((drawn S n k).getD j 0))) := fun j hj => (hb_w3.cell (p := ⟨g1, j, none⟩) hz1').trans (hc1.out j hj)
  replace hc2 : Hid (∀ j, j < more → w3.cell? ⟨g2, j, none⟩ = some (.int .i64 ((drawn S n more).getD j 0))) := fun j hj => (hb_w3.cell (p := ⟨g2, j, none⟩) hz2).trans (hc2.out j hj)
  replace hc3 : Hid (∀ j, j < n → w3.cell? ⟨g3, j, none⟩ = some (.int .i64 j)) := fun j hj => by rw [← drawn_full hj]; exact hc3 j hj
  clear hGW hg1 hz1 hg2 hz2 hg3 hz3 hz1' hb_w3 hb_w2 hb_w1 p0 p1 p2 p3
  go_wp2_with fail
  go_loopw [18, 19, 20] (fun at' h i wr => DrnRel k more bad (drawn S n k) (drawn S n more) at' h i ∧ ∃ q, wr = w3.drewN q) (fun _ _ i _ => k - (intOf i).toNat)
  case atStart => exact ⟨⟨0, 0, false, by omega, by omega, fun _ _ _ _ => Nat.zero_le _, fun _ j hj => by omega, rfl, rfl, rfl⟩, 0, rfl⟩
  case round =>
    obtain ⟨⟨i, a, h, hik, ham, hidx, hno, rfl, rfl, rfl⟩, q, rfl⟩ := hrel
    by_cases hlt : i < k
    · have hdi : decide ((i : Int) < (k : Int)) = true := by simpa using hlt
      have hkn : k ≤ n := by omega
      have hvr := drawn_range (s := S) hkn hlt
      obtain ⟨P, hP, hPe⟩ := drawn_idx (s := S) hkm hmn hlt
      have haP := hidx hlt P hP hPe
      have hci := hc1.out i hlt
      have hb0 : Hid (bitZ bad ((drawn S n k).getD i 0) = bad / 2 ^ ((drawn S n k).getD i 0).toNat % 2) := by show _ = _; rfl
      have hnx : Hid (i + 1 < k → ∀ p, p < more → (drawn S n more).getD p 0 = (drawn S n k).getD (i + 1) 0 → P ≤ p) := fun h1 p hp he => Nat.le_of_lt (drawn_idx_mono hmn (by omega) h1 hP hPe he)
      have hlo : ∀ a', a' < P → (drawn S n more).getD a' 0 < (drawn S n k).getD i 0 := fun a' h' => by rw [← hPe]; exact asc_lt (drawn_asc hmn) h' (by rw [drawn_len S n more hmn]; exact hP)
      have hprev : 0 < i → w3.cell? ⟨g1, i - 1, none⟩ = some (.int .i64 ((drawn S n k).getD (i - 1) 0)) ∧ (drawn S n k).getD (i - 1) 0 < (drawn S n k).getD i 0 := fun h' => ⟨hc1.out (i - 1) (by omega), asc_lt (drawn_asc hkn) (show i - 1 < i by omega) (by rw [drawn_len S n k hkn]; exact hlt)⟩
      have hcm : Hid (∀ j, j < more → w3.cell? ⟨g2, j, none⟩ = some (.int .i64 ((drawn S n more).getD j 0))) := hc2
      obtain ⟨u, hu⟩ : ∃ u : Nat, (drawn S n k).getD i 0 = (u : Int) := ⟨((drawn S n k).getD i 0).toNat, by omega⟩
      rw [hu] at hvr hci hlo hprev hPe
      have hb1 := hb0.out
      rw [hu, Int.toNat_natCast] at hb1
      replace hb1 := Lib.hid hb1
      replace hlo := Lib.hid hlo
      replace hPe := Lib.hid hPe
      replace hno := Lib.hid hno
      replace hu := Lib.hid hu
      clear hidx hb0
      have hv1 : decide ((u : Int) < 0) = false := by simp
      have hun : u < n := by omega
      have hv2 : decide (n ≤ u) = false := by simp; omega
      by_cases hi0 : 0 < i
      · have hgi : decide ((0 : Int) < (i : Int)) = true := by simpa using hi0
        obtain ⟨hcp, hlt3⟩ := hprev hi0
        clear hprev
        generalize (drawn S n k).getD (i - 1) 0 = v' at *
        have hv3 : decide ((u : Int) ≤ v') = false := by simp; omega
        have s1 : IntKind.i64.wrap ((i : Int) - 1) = i - 1 := IntWalk.i64_in _ (by omega)
        have s2 : (0 : Int) ≤ (i : Int) - 1 := by omega
        have s3 : ((i : Int) - 1).toNat = i - 1 := by omega
        have s4 : (i : Int) - 1 < (k : Int) := by omega
        have s5 : (0 : Int) ≤ (i : Int) := by omega
        have s6 : (i : Int) < (k : Int) := by omega
        have s7 : (1 : Int) ≤ (i : Int) := by omega
        go_wp2_with fail
        go_quiet (fail)
        clear hv1 hv2 hv3 hgi hcp hlt3 s1 s2 s3 s4 s7
        go_wp2_with fail
        go_loopw [18] (fun at' wr => ∃ a' q' : Nat, a' ≤ P ∧ at' = .int .i64 a' ∧ wr = w3.drewN q') (fun at' _ => P - (intOf at').toNat)
        case atStart => exact ⟨a, q + nq, haP, rfl, World.drewN_drewN _ _ _⟩
        case round =>
          obtain ⟨a', q', ha', rfl, rfl⟩ := hrel
          have t0 : (0 : Int) ≤ (a' : Int) := by omega
          have t1 : (a' : Int) < (more : Int) := by omega
          have t2 : decide (a' < more) = true := by simp; omega
          have t3 : decide ((a' : Int) < (more : Int)) = true := by simp; omega
          by_cases hlp : a' < P
          · have hcm' := hcm.out a' (by omega)
            have hx := hlo.out a' hlp
            generalize (drawn S n more).getD a' 0 = x at *
            have hxu : (x != (u : Int)) = true := by rw [bne_iff_ne]; omega
            go_wp2_with fail
            go_quiet (fail)
            go_wp2_with fail
            go_roundw
            case rel => exact ⟨a' + 1, q' + nq, by omega, by go_num, rfl⟩
            case measure => simp [intOf]; omega
          · obtain rfl : P = a' := by omega
            have hcm' := hcm.out P hP
            rw [hPe.out] at hcm'
            have hpm : ((P : Int) == (more : Int)) = false := by simp; omega
            have hqe : (bad : Int) / (2 : Int) ^ u = ((bad / 2 ^ u : Nat) : Int) := by simp
            have hq2 : bad / 2 ^ u % 2 < 2 := Nat.mod_lt _ (by omega)
            generalize bad / 2 ^ u = z at *
            cases h with
            | true =>
              go_wp2_with fail
              go_quiet (fail)
              go_wp2_with fail
              go_roundw
              case rel => exact ⟨⟨i + 1, P, true, by omega, by omega, fun h1 => hnx.out h1, fun h1 => (by cases h1), rfl, rfl, by go_num⟩, q' + nq, rfl⟩
              case measure => simp [intOf]; omega
            | false =>
              by_cases hz1 : z % 2 = 1
              · have hz2 : ((z : Int) % 2 == 1) = true := by simp; omega
                go_wp2_with fail
                go_quiet (fail)
                go_wp2_with fail
                go_roundw
                case rel => exact ⟨⟨i + 1, P, true, by omega, by omega, fun h1 => hnx.out h1, fun h1 => (by cases h1), rfl, rfl, by go_num⟩, q' + nq, rfl⟩
                case measure => simp [intOf]; omega
              · have hz2 : ((z : Int) % 2 == 1) = false := by simp; omega
                have hz0 : z % 2 = 0 := by omega
                rw [hz0] at hb1
                replace hz0 := Lib.hid hz0
                go_wp2_with fail
                go_quiet (fail)
                go_wp2_with fail
                go_roundw
                case rel =>
                  refine ⟨⟨i + 1, P, false, by omega, by omega, fun h1 => hnx.out h1, fun _ j hj => ?_, rfl, rfl, by go_num⟩, q' + nq, rfl⟩
                  rcases Nat.lt_or_ge j i with h2 | h2
                  · exact hno.out trivial j h2
                  · obtain rfl : j = i := by omega
                    rw [hu.out]; exact hb1.out
                case measure => simp [intOf]; omega
      · have hgi : decide ((0 : Int) < (i : Int)) = false := by simp; omega
        have s5 : (0 : Int) ≤ (i : Int) := by omega
        have s6 : (i : Int) < (k : Int) := by omega
        clear hprev
        go_wp2_with fail
        go_quiet (fail)
        clear hv1 hv2 hgi
        go_wp2_with fail
        go_loopw [18] (fun at' wr => ∃ a' q' : Nat, a' ≤ P ∧ at' = .int .i64 a' ∧ wr = w3.drewN q') (fun at' _ => P - (intOf at').toNat)
        case atStart => exact ⟨a, q + nq, haP, rfl, World.drewN_drewN _ _ _⟩
        case round =>
          obtain ⟨a', q', ha', rfl, rfl⟩ := hrel
          have t0 : (0 : Int) ≤ (a' : Int) := by omega
          have t1 : (a' : Int) < (more : Int) := by omega
          have t2 : decide (a' < more) = true := by simp; omega
          have t3 : decide ((a' : Int) < (more : Int)) = true := by simp; omega
          by_cases hlp : a' < P
          · have hcm' := hcm.out a' (by omega)
            have hx := hlo.out a' hlp
            generalize (drawn S n more).getD a' 0 = x at *
            have hxu : (x != (u : Int)) = true := by rw [bne_iff_ne]; omega
            go_wp2_with fail
            go_quiet (fail)
            go_wp2_with fail
            go_roundw
            case rel => exact ⟨a' + 1, q' + nq, by omega, by go_num, rfl⟩
            case measure => simp [intOf]; omega
          · obtain rfl : P = a' := by omega
            have hcm' := hcm.out P hP
            rw [hPe.out] at hcm'
            have hpm : ((P : Int) == (more : Int)) = false := by simp; omega
            have hqe : (bad : Int) / (2 : Int) ^ u = ((bad / 2 ^ u : Nat) : Int) := by simp
            have hq2 : bad / 2 ^ u % 2 < 2 := Nat.mod_lt _ (by omega)
            generalize bad / 2 ^ u = z at *
            cases h with
            | true =>
              go_wp2_with fail
              go_quiet (fail)
              go_wp2_with fail
              go_roundw
              case rel => exact ⟨⟨i + 1, P, true, by omega, by omega, fun h1 => hnx.out h1, fun h1 => (by cases h1), rfl, rfl, by go_num⟩, q' + nq, rfl⟩
              case measure => simp [intOf]; omega
            | false =>
              by_cases hz1 : z % 2 = 1
              · have hz2 : ((z : Int) % 2 == 1) = true := by simp; omega
                go_wp2_with fail
                go_quiet (fail)
                go_wp2_with fail
                go_roundw
                case rel => exact ⟨⟨i + 1, P, true, by omega, by omega, fun h1 => hnx.out h1, fun h1 => (by cases h1), rfl, rfl, by go_num⟩, q' + nq, rfl⟩
                case measure => simp [intOf]; omega
              · have hz2 : ((z : Int) % 2 == 1) = false := by simp; omega
                have hz0 : z % 2 = 0 := by omega
                rw [hz0] at hb1
                replace hz0 := Lib.hid hz0
                go_wp2_with fail
                go_quiet (fail)
                go_wp2_with fail
                go_roundw
                case rel =>
                  refine ⟨⟨i + 1, P, false, by omega, by omega, fun h1 => hnx.out h1, fun _ j hj => ?_, rfl, rfl, by go_num⟩, q' + nq, rfl⟩
                  rcases Nat.lt_or_ge j i with h2 | h2
                  · exact hno.out trivial j h2
                  · obtain rfl : j = i := by omega
                    rw [hu.out]; exact hb1.out
                case measure => simp [intOf]; omega
    · have hdi : decide ((i : Int) < (k : Int)) = false := by simpa using hlt
      obtain rfl : k = i := by omega
      clear hidx
      have hgo : h = true ∨ popc n bad ≤ n - k := by
        cases h with
        | true => exact .inl rfl
        | false => exact .inr (drawn_hits (by omega) (hno rfl))
      clear hno
      go_wp2_with fail
      go_loop [21, 22] (fun c i => ∃ j : Nat, j ≤ n ∧ i = .int .i64 j ∧ c = .int .i64 (popc j bad : Nat)) (fun _ i => n - (intOf i).toNat)
      case atStart => exact ⟨0, by omega, rfl, rfl⟩
      case round =>
        obtain ⟨j, hj, rfl, rfl⟩ := hrel
        have hpj := popc_le j bad
        by_cases hjn : j < n
        · have hdj : decide ((j : Int) < (n : Int)) = true := by simpa using hjn
          have hcj := hc3.out j hjn
          have e3 : Hid (popc (j + 1) bad = popc j bad + bad / 2 ^ j % 2) := by show _ = _; rfl
          have hqe : (bad : Int) / (2 : Int) ^ j = ((bad / 2 ^ j : Nat) : Int) := by simp
          have hq2 : bad / 2 ^ j % 2 < 2 := Nat.mod_lt _ (by omega)
          generalize popc j bad = x at *
          generalize bad / 2 ^ j = z at *
          go_wp2_with fail
          refine ⟨⟨j + 1, by omega, by go_num, by rw [e3.out]; go_num⟩, by simp [intOf]; omega⟩
        · have hdj : decide ((j : Int) < (n : Int)) = false := by simpa using hjn
          obtain rfl : n = j := by omega
          generalize popc n bad = x at *
          by_cases hx : x ≤ n - k
          · have hx' : decide ((x : Int) ≤ (n : Int) - (k : Int)) = true := by simp; omega
            go_wp2_with fail
            go_ret
            exact ⟨rfl, below_drewN hB _⟩
          · have hx' : decide ((x : Int) ≤ (n : Int) - (k : Int)) = false := by simp; omega
            obtain rfl : h = true := by
              rcases hgo with h1 | h1
              · exact h1
              · omega
            go_wp2_with fail
            go_ret
            exact ⟨rfl, below_drewN hB _⟩
end Go.Proofs.YtjlldolmlfgejaaDoor
