/-
  The law ComputerPrefix returns true.
-/
import Derived.Test.YtkgbknjpnhoadaaGreatDoorCqY
namespace Go.Proofs.YtkgbknjpnhoadaaGreatDoor
open Go.RowKit Go.Shelf

theorem sliceAt_take {w : World} {B : Nat} {a : Option Addr} {c : Nat} {l : List Ev} (h : SliceAt w B (.slice a l.length c) l.length (evCells l)) (k : Nat) (hk : k ≤ l.length) : SliceAt w B (.slice a k c) (l.take k).length (evCells (l.take k)) := by
  obtain ⟨a', c', hv, h1, h2, hc⟩ := h
  injection hv with e1 e2 e3
  subst e1 e3
  have hlk : (l.take k).length = k := by simp; omega
  rw [hlk]
  refine ⟨a, c, rfl, by omega, h2, fun h => ?_⟩
  obtain ⟨b, o, ha, hb, hx⟩ := hc (by omega)
  refine ⟨b, o, ha, hb, fun j u hu => hx j u ?_⟩
  have e : evCells l = evCells (l.take k) ++ evCells (l.drop k) := by rw [← evCells_app, List.take_append_drop]
  rw [e, List.getElem?_append_left (List.getElem?_eq_some_iff.1 hu).1]
  exact hu
/-- What the law asks of two performances. -/
structure PreOk (E1 E2 : List Ev) (few more : Nat) : Prop where
  pre : ∃ r, E2 = E1 ++ r
  time : ∀ j, j < E2.length → 0 ≤ E2[j]!.t ∧ E2[j]!.t < (more : Int)
  up : ∀ j, 0 < j → j < E2.length → E2[j - 1]!.t < E2[j]!.t
  halt : ∀ j, j < E2.length → E2[j]!.k = 4 → j + 1 = E2.length
  late : ∀ j, E1.length ≤ j → j < E2.length → (few : Int) ≤ E2[j]!.t
  done : ∀ j, j < E1.length → E1[j]!.k = 4 → E1.length = E2.length
theorem pre_ok (p d : List UInt8) (ks : List Ev) (f g : Nat) : PreOk (perf p d ks f) (perf p d ks (f + g)) f (f + g) := by
  unfold perf
  obtain ⟨r, h1, h2, h3⟩ := runs_split f g ⟨loaded p, loaded d, 0, 0, 0, ks⟩
  have ht := runs_times (f + g) ⟨loaded p, loaded d, 0, 0, 0, ks⟩
  have hp := runs_pair (f + g) ⟨loaded p, loaded d, 0, 0, 0, ks⟩
  generalize runs (f + g) ⟨loaded p, loaded d, 0, 0, 0, ks⟩ = E2 at *
  generalize runs f ⟨loaded p, loaded d, 0, 0, 0, ks⟩ = E1 at *
  rw [List.pairwise_iff_getElem] at hp
  refine ⟨⟨r, h1⟩, fun j hj => ?_, fun j h0 hj => ?_, fun j hj hk => ?_, fun j hj1 hj2 => ?_, fun j hj hk => ?_⟩
  · rw [getElem!_pos E2 _ hj]
    have := ht _ (List.getElem_mem hj)
    dsimp only at this
    omega
  · rw [getElem!_pos E2 j hj, getElem!_pos E2 (j - 1) (by omega)]
    exact (hp (j - 1) j (by omega) hj (by omega)).1
  · rw [getElem!_pos E2 _ hj] at hk
    rcases Nat.lt_or_ge (j + 1) E2.length with h | h
    · exact absurd hk (hp j (j + 1) hj h (by omega)).2
    · omega
  · subst h1
    rw [getElem!_pos (E1 ++ r) _ hj2, List.getElem_append_right (by omega)]
    have hj3 : j - E1.length < r.length := by simp at hj2; omega
    have hm : r[j - E1.length] ∈ r := List.getElem_mem _
    have := h2 _ hm
    dsimp only at this
    omega
  · rw [getElem!_pos E1 _ hj] at hk
    have := h3 ⟨_, List.getElem_mem hj, hk⟩
    rw [h1, this, List.append_nil]

set_option maxRecDepth 100000 in
set_option maxHeartbeats 8000000 in
theorem Prefix_walk (v0 : Value) (n0 : Nat) (z0 : List Int) (v1 : Value) (n1 : Nat) (z1 : List Int) (a2 : ByteArray) (a3 a4 : Int) (w : World)
    (s0 : SliceAt w w.heap.size v0 n0 (z0.map (Value.int .i64))) (e0 : z0.length = n0 * 2) (g0 : ∀ z ∈ z0, I64 z)
    (s1 : SliceAt w w.heap.size v1 n1 (z1.map (Value.int .i64))) (e1 : z1.length = n1 * 2) (g1 : ∀ z ∈ z1, I64 z)
    (h2 : a2.size ≤ 9223372036854775807) (h3 : I64 a3) (h4 : I64 a4) (hE : Env w) :
    Calls Tryz.prog 4 #[v0, v1, .string a2, .int .i64 a3, .int .i64 a4] w fun e w' => e = .returned (.bool true) ∧ Below w.heap.size w w' := by
  have hS := Lib.hid (sane_any w hE)
  have hP3 : ∀ W : World, Calls Tryz.prog 16 #[.int .i64 a3, .int .i64 1500] W fun e w' => e = .returned (.int .i64 (pickv a3 1500 : Nat)) ∧ w' = W := fun W => pick_any a3 1500 W h3 (by omega) (by omega)
  have hP4 : ∀ W : World, Calls Tryz.prog 16 #[.int .i64 a4, .int .i64 1500] W fun e w' => e = .returned (.int .i64 (pickv a4 1500 : Nat)) ∧ w' = W := fun W => pick_any a4 1500 W h4 (by omega) (by omega)
  have hC := fun (W : World) => cut_any a2 256 W (by omega) h2
  have b3 := pickv_lt a3 1500 (by omega)
  have b4 := pickv_lt a4 1500 (by omega)
  generalize pickv a3 1500 = few at *
  generalize pickv a4 1500 = d4 at *
  have hdl : (a2.data.toList.take 256).length ≤ 256 := by rw [List.length_take]; omega
  generalize a2.data.toList.take 256 = dk at *
  obtain ⟨x0, c0, hv0, _⟩ := id s0
  obtain ⟨x1, c1, hv1, _⟩ := id s1
  have hco := fun (W : World) (hb : Below w.heap.size w W) => Code_any v0 n0 z0 W (s0.later hb) e0 g0
  have hty := fun (W : World) (hb : Below w.heap.size w W) => Typed_any v1 n1 z1 W (s1.later hb) e1 g1
  rw [hv0] at hco
  rw [hv1] at hty
  rw [hv0, hv1]
  have hadd : IntKind.i64.wrap ((few : Int) + (d4 : Int)) = (few : Int) + (d4 : Int) := IntWalk.i64_in _ (by omega)
  replace hP3 := Lib.hid hP3
  replace hP4 := Lib.hid hP4
  replace hC := Lib.hid hC
  replace hco := Lib.hid hco
  replace hty := Lib.hid hty
  clear s0 s1 hv0 hv1 e0 e1 g0 g1 hE h3 h4
  go_enter Tryz.func4, Tryz.ntmps4
  go_wp2_with fail
  refine hS.out.mono ?_
  rintro e w1 ⟨rfl, hb1⟩
  go_wp2_with fail
  refine (hP3.out _).mono ?_
  rintro e w2 ⟨rfl, hw2⟩
  rw [hw2]
  clear hw2 w2
  go_wp2_with fail
  refine (hP4.out _).mono ?_
  rintro e w2 ⟨rfl, hw2⟩
  rw [hw2]
  clear hw2 w2
  go_wp2_with fail
  refine (hco.out w1 hb1).mono ?_
  rintro e w3 ⟨s, rfl, hs1, hs2, hb3⟩
  have hB3 := hb1.trans (hb3.mono hb1.size)
  clear hb3 hb1
  go_wp2_with fail
  refine (hty.out w3 hB3).mono ?_
  rintro e w4 ⟨kv, ks, rfl, hko, hkt, hb4⟩
  have hB4 := hB3.trans (hb4.mono hB3.size)
  have hK := sliceAt_of_own hko
  obtain ⟨ka, kc, rfl⟩ := own_val hko
  clear hB3 hb4 hko
  go_wp2_with fail
  refine (hC.out _).mono ?_
  rintro e w5 ⟨rfl, hw5⟩
  rw [hw5]
  clear hw5 w5
  have hok : ∀ f : Nat, f ≤ 20000 → perfOk s dk ks f = true := fun f hf => by
    simp only [perfOk, progOk, hkt.keys, Bool.and_eq_true, decide_eq_true_eq, Bool.and_true]
    omega
  have hl1 : ∀ f : Nat, f ≤ 20000 → perfL (str s) (str dk) ks f = perf s dk ks f ∧ perfE (str s) (str dk) ks f = 0 := fun f hf => by
    unfold perfL perfE
    rw [str_list, str_list, hok f hf]
    exact ⟨rfl, rfl⟩
  have hPf := fun (W : World) h => Perform_any (str s) (str dk) (.slice ka ks.length kc) ks few W h
  rw [(hl1 few (by omega)).1, (hl1 few (by omega)).2] at hPf
  have hPm := fun (W : World) h => Perform_any (str s) (str dk) (.slice ka ks.length kc) ks ((few + d4 : Nat) : Int) W h
  rw [(hl1 (few + d4) (by omega)).1, (hl1 (few + d4) (by omega)).2, Int.natCast_add] at hPm
  have hpre := pre_ok s dk ks few d4
  have hlen2 := runs_len (few + d4) ⟨loaded s, loaded dk, 0, 0, 0, ks⟩
  change (perf s dk ks (few + d4)).length ≤ _ at hlen2
  generalize perf s dk ks few = E1 at *
  generalize perf s dk ks (few + d4) = E2 at *
  replace hPf := Lib.hid hPf
  replace hPm := Lib.hid hPm
  clear hok hl1
  go_wp2_with fail
  refine (hPf.out w4 hK).mono ?_
  rintro e w6 ⟨u6, rfl, ho6, hb6⟩
  have hL := sliceAt_of_own ho6
  obtain ⟨la, lc, rfl⟩ := own_val ho6
  replace hK := hK.later hb6
  have hB6 := hB4.trans (hb6.mono hB4.size)
  clear hB4 hb6 ho6
  go_wp2_with fail
  refine (hPm.out w6 hK).mono ?_
  rintro e w7 ⟨u7, rfl, ho7, hb7⟩
  have hM := sliceAt_of_own ho7
  obtain ⟨ma, mc, rfl⟩ := own_val ho7
  replace hL := hL.later hb7
  have hB7 := hB6.trans (hb7.mono hB6.size)
  clear hB6 hb7 ho7 hK
  obtain ⟨r, hr⟩ := hpre.pre
  have hle : E1.length ≤ E2.length := by rw [hr]; simp
  have htk : E2.take E1.length = E1 := by rw [hr]; simp
  have hMt := sliceAt_take hM E1.length hle
  rw [htk] at hMt
  have hd1 : decide (E2.length < E1.length) = false := by simp; omega
  have hSE := SameEvents_any (.slice la E1.length lc) (.slice ma E1.length mc) E1 E1 w7 hL hMt
  rw [(sameB_iff E1 E1).2 rfl] at hSE
  have hM2 := hM
  obtain ⟨_, _, hmv, hm1, hm2, _⟩ := hM2
  injection hmv with q1 q2 q3
  subst q1 q3
  have i1 : (0 : Int) ≤ (E1.length : Int) := by omega
  have i2 : (E1.length : Int) ≤ (mc : Int) := by omega
  replace hSE := Lib.hid hSE
  replace hr := Lib.hid hr
  replace hlen2 := Lib.hid hlen2
  clear hMt htk
  go_wp2_with fail
  refine hSE.out.mono ?_
  rintro e w8 ⟨rfl, hb8⟩
  have hM8 := hM.later hb8
  have hL8 := hL.later hb8
  have hB8 := hB7.trans (hb8.mono hB7.size)
  clear hM hL hB7 hb8 hSE
  go_wp2_with fail
  obtain ⟨_, _, hmv, _, _, hmc⟩ := sliceCells hM8
  obtain ⟨_, _, hlv, _, _, hlc⟩ := sliceCells hL8
  injection hmv with q1 _ q3
  injection hlv with r1 _ r3
  subst q1 q3 r1 r3
  have hmb : E2.length ≤ 20000 := by have := hlen2.out; omega
  replace hmc := Lib.hid hmc
  replace hlc := Lib.hid hlc
  clear hM8 hL8
  go_loopw [18] (fun i wr => ∃ k : Nat, k ≤ E2.length ∧ i = .int .i64 k ∧ Aside (Below w8.heap.size w8 wr)) (fun i _ => E2.length - (intOf i).toNat)
  case atStart => exact ⟨0, Nat.zero_le _, rfl, Below.refl _ _⟩
  case round =>
    obtain ⟨k, hk, rfl, BW⟩ := hrel
    have hBr := hB8.trans (BW.out.mono hB8.size)
    by_cases hlt : k < E2.length
    · have hd : decide ((k : Int) < (E2.length : Int)) = true := by simpa using hlt
      obtain ⟨b, o, rfl, hb, hcell⟩ := hmc.out k hlt
      obtain ⟨m0, m1, _, _⟩ := hcell wr (BW.out.block b hb)
      have t1 := hpre.time k hlt
      have t2 := hpre.up k
      have t3 := hpre.halt k hlt
      have t4 := fun h => hpre.late k h hlt
      have hprev : 0 < k → wr.cell? ⟨b, o + (k - 1) * 4, none⟩ = some (.int .i64 E2[k - 1]!.t) := fun h0 => by
        obtain ⟨b', o', hbo, hb', hcell'⟩ := hmc.out (k - 1) (by omega)
        injection hbo with hbo
        injection hbo with e1 e2
        subst e1 e2
        exact (hcell' wr (BW.out.block b hb)).1
      generalize E2[k]! = x at *
      generalize E2[k - 1]! = y at *
      have f1 : decide (x.t < 0) = false := by simpa using t1.1
      have f2 : decide (x.t ≥ (few : Int) + (d4 : Int)) = false := by simp; omega
      have f3 : (decide (0 < k) = false) ∨ (decide (0 < k) = true ∧ decide (x.t ≤ y.t) = false ∧ wr.cell? ⟨b, o + (k - 1) * 4, none⟩ = some (.int .i64 y.t)) := by
        rcases Nat.eq_zero_or_pos k with h | h
        · exact .inl (by simp; omega)
        · exact .inr ⟨by simp; omega, by have := t2 h hlt; simp; omega, hprev h⟩
      have f4 : ((x.k == 4) = false) ∨ ((x.k == 4) = true ∧ decide ((k : Int) < (E2.length : Int) - 1) = false) := by
        by_cases h : x.k = 4
        · exact .inr ⟨by simpa using h, by have := t3 h; simp; omega⟩
        · exact .inl (by simpa using h)
      have f5 : (decide (E1.length ≤ k) = false) ∨ (decide (E1.length ≤ k) = true ∧ decide (x.t < (few : Int)) = false) := by
        by_cases h : E1.length ≤ k
        · exact .inr ⟨by simpa using h, by have := t4 h; simp; omega⟩
        · exact .inl (by simpa using h)
      have hz : decide (0 < k) = true → (0 : Int) ≤ (k : Int) - 1 ∧ (1 : Int) ≤ (k : Int) ∧ (k : Int) - 1 < (E2.length : Int) := fun h => by
        have hk0 : 0 < k := by simpa using h
        omega
      have z4 : ((k : Int) - 1).toNat = k - 1 := by omega
      have hw1 : IntKind.i64.wrap ((k : Int) + 1) = (k : Int) + 1 := IntWalk.i64_in _ (by omega)
      have hw2 : IntKind.i64.wrap ((E2.length : Int) - 1) = (E2.length : Int) - 1 := IntWalk.i64_in _ (by omega)
      have hw3 : IntKind.i64.wrap ((k : Int) - 1) = (k : Int) - 1 := IntWalk.i64_in _ (by omega)
      clear hcell hprev t1 t2 t3 t4 hmc hlc hpre
      rcases f3 with f3 | ⟨f3, f3b, m3⟩
      · clear hz z4
        rcases f4 with f4 | ⟨f4, f4b⟩
        · rcases f5 with f5 | ⟨f5, f5b⟩
          all_goals
            go_wp2_with fail
            go_quiet (fail)
            go_wp2_with fail
            clear hw1 hw2 hw3
            go_roundw
            case rel => exact ⟨k + 1, by omega, by go_num, below_drewN BW.out _⟩
            case measure => simp [intOf]; omega
        · rcases f5 with f5 | ⟨f5, f5b⟩
          all_goals
            go_wp2_with fail
            go_quiet (fail)
            go_wp2_with fail
            clear hw1 hw2 hw3
            go_roundw
            case rel => exact ⟨k + 1, by omega, by go_num, below_drewN BW.out _⟩
            case measure => simp [intOf]; omega
      · obtain ⟨z1, z2, z3⟩ := hz f3
        clear hz
        rcases f4 with f4 | ⟨f4, f4b⟩
        · rcases f5 with f5 | ⟨f5, f5b⟩
          all_goals
            go_wp2_with fail
            go_quiet (fail)
            go_wp2_with fail
            clear hw1 hw2 hw3
            go_roundw
            case rel => exact ⟨k + 1, by omega, by go_num, below_drewN BW.out _⟩
            case measure => simp [intOf]; omega
        · rcases f5 with f5 | ⟨f5, f5b⟩
          all_goals
            go_wp2_with fail
            go_quiet (fail)
            go_wp2_with fail
            clear hw1 hw2 hw3
            go_roundw
            case rel => exact ⟨k + 1, by omega, by go_num, below_drewN BW.out _⟩
            case measure => simp [intOf]; omega
    · have hke : k = E2.length := by omega
      subst hke
      have hd : decide ((E2.length : Int) < (E2.length : Int)) = false := by simp
      clear hmc
      rcases Nat.eq_zero_or_pos E1.length with h0 | h0
      · have hg : decide (0 < E1.length) = false := by rw [h0]; rfl
        replace h0 := Lib.hid h0
        clear hlc hpre
        go_wp2_with fail
        go_ret
        exact ⟨rfl, hBr⟩
      · have hg : decide (0 < E1.length) = true := by simpa using h0
        have hE20 : E1.length ≤ 20000 := Nat.le_trans hle hmb
        have y5' : IntKind.i64.wrap ((E1.length : Int) - 1) = (E1.length : Int) - 1 := IntWalk.i64_in _ (by omega)
        replace y5' := Lib.hid y5'
        obtain ⟨b, o, rfl, hb, hcell⟩ := hlc.out (E1.length - 1) (by omega)
        obtain ⟨_, m1, _, _⟩ := hcell wr (BW.out.block b hb)
        have hdn := hpre.done (E1.length - 1) (by omega)
        generalize E1[E1.length - 1]! = x at *
        have y1 : (0 : Int) ≤ (E1.length : Int) - 1 := by omega
        have y2 : (1 : Int) ≤ (E1.length : Int) := by omega
        have y3 : (E1.length : Int) - 1 < (E1.length : Int) := by omega
        have y4 : ((E1.length : Int) - 1).toNat = E1.length - 1 := by omega
        have y5 := y5'.out
        clear hcell hlc hpre
        by_cases hk4 : x.k = 4
        · have hq := hdn hk4
          have f1 : (x.k == 4) = true := by simpa using hk4
          have f2 : ((E1.length : Int) == (E2.length : Int)) = true := by rw [hq]; simp
          have f2' : (E1.length == E2.length) = true := by simpa using hq
          replace hq := Lib.hid hq
          replace hk4 := Lib.hid hk4
          replace hdn := Lib.hid hdn
          go_wp2_with fail
          go_ret
          exact ⟨rfl, hBr⟩
        · have f1 : (x.k == 4) = false := by simpa using hk4
          replace hk4 := Lib.hid hk4
          replace hdn := Lib.hid hdn
          go_wp2_with fail
          go_ret
          exact ⟨rfl, hBr⟩
end Go.Proofs.YtkgbknjpnhoadaaGreatDoor
