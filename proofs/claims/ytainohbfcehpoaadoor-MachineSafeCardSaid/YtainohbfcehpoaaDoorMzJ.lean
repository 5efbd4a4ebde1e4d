/-
  The contract of the reference's Made. (Printed by wip/tools/genmade.py.)
  The reference's Instructions.
-/
import Derived.Test.YtainohbfcehpoaaDoorMzG
import Derived.Test.YtainohbfcehpoaaDoorMzI
namespace Go.Proofs.YtainohbfcehpoaaDoor
open Go.RowKit Go.Shelf

/-- The variables that the reference reads, too. -/
structure EnvR (w : World) : Prop where
  env : Env w
  takes : ∀ o, o < 12 → w.cell? ⟨0, o, none⟩ = some (.int .i64 (takesOp o : Nat))
  puts : ∀ o, o < 12 → w.cell? ⟨1, o, none⟩ = some (.int .i64 (putsOp o : Nat))
theorem EnvR.below {w w' : World} (h : EnvR w) (hb : Below w.heap.size w w') : EnvR w' :=
  ⟨h.env.below hb, fun o ho => cell_below (h.takes o ho) hb, fun o ho => cell_below (h.puts o ho) hb⟩
/-- Integers as pairs: an operation, a number. -/
def prs : List Int → List (Nat × Nat)
  | a :: b :: r => (pickv a 14, pickv b 300) :: prs r
  | _ => []
theorem prs_len : ∀ (n : Nat) (zs : List Int), zs.length = n * 2 → (prs zs).length = n
  | 0, zs, h => by
    have : zs = [] := List.length_eq_zero_iff.1 (by omega)
    subst this; rfl
  | n + 1, zs, h => by
    match zs, h with
    | a :: b :: r, h => rw [prs, List.length_cons, prs_len n r (by simp at h; omega)]
    | [], h => simp at h
    | [_], h => simp at h; omega
theorem prs_at : ∀ (n : Nat) (zs : List Int), zs.length = n * 2 → ∀ k, k < n → (prs zs)[k]? = some (pickv zs[k * 2]! 14, pickv zs[k * 2 + 1]! 300)
  | 0, _, _, k, hk => by omega
  | n + 1, zs, h, k, hk => by
    match zs, h with
    | a :: b :: r, h =>
      cases k with
      | zero => rfl
      | succ k =>
        rw [prs, List.getElem?_cons_succ, prs_at n r (by simp at h; omega) k (by omega), show (k + 1) * 2 = k * 2 + 1 + 1 by omega]
        rfl
    | [], h => simp at h
    | [_], h => simp at h; omega
theorem prs_lt : ∀ (zs : List Int), ∀ p ∈ prs zs, p.1 < 14 ∧ p.2 < 300
  | a :: b :: r, p, hp => by
    rcases List.mem_cons.1 hp with rfl | hp
    · exact ⟨pickv_lt _ _ (by omega), pickv_lt _ _ (by omega)⟩
    · exact prs_lt r p hp
  | [], p, hp => by cases hp
  | [_], p, hp => by cases hp
/-- The pairs that are used. -/
def prs40 (zs : List Int) : List (Nat × Nat) := (prs zs).take 40
theorem prs40_len {zs : List Int} : (prs40 zs).length ≤ 40 := by unfold prs40; rw [List.length_take]; omega
theorem prs40_lt {zs : List Int} : ∀ p ∈ prs40 zs, p.2 < 300 := fun p hp => (prs_lt zs p (List.mem_of_mem_take hp)).2
theorem prs40_drop {n : Nat} {zs : List Int} (h : zs.length = n * 2) {k : Nat} (hk : k < n) (h40 : k < 40) : (prs40 zs).drop k = (pickv zs[k * 2]! 14, pickv zs[k * 2 + 1]! 300) :: (prs40 zs).drop (k + 1) := by
  have hl : k < (prs40 zs).length := by unfold prs40; rw [List.length_take, prs_len n zs h]; omega
  have hg : (prs40 zs)[k]? = some (pickv zs[k * 2]! 14, pickv zs[k * 2 + 1]! 300) := by
    unfold prs40
    rw [List.getElem?_take, if_pos h40, prs_at n zs h k hk]
  rw [List.drop_eq_getElem_cons hl]
  rw [List.getElem?_eq_getElem hl] at hg
  injection hg with hg
  rw [hg]
theorem prs40_end {n : Nat} {zs : List Int} (h : zs.length = n * 2) {k : Nat} (hk : ¬ (k < n ∧ k < 40)) : (prs40 zs).drop k = [] := by
  refine List.drop_eq_nil_of_le ?_
  unfold prs40
  rw [List.length_take, prs_len n zs h]
  omega
/-- Simple, its arguments as the walk finds them. -/
theorem puts_le2 (o : Nat) : putsOp o ≤ 2 := by
  unfold putsOp
  by_cases h : o < 12
  · have h12 : o = 0 ∨ o = 1 ∨ o = 2 ∨ o = 3 ∨ o = 4 ∨ o = 5 ∨ o = 6 ∨ o = 7 ∨ o = 8 ∨ o = 9 ∨ o = 10 ∨ o = 11 := by omega
    rcases h12 with rfl | rfl | rfl | rfl | rfl | rfl | rfl | rfl | rfl | rfl | rfl | rfl <;> decide
  · rw [List.getD_eq_getElem?_getD, List.getElem?_eq_none (by simp; omega)]
    exact Nat.zero_le _
theorem simple_z {W0 w : World} (hB : Below W0.heap.size W0 w) (o n : Nat) (zo zn : Int) (h1 : zo = (o : Int)) (h2 : zn = (n : Int)) (ho : o < 12) (hn : n < 65536) :
    Calls Tryd.prog 26 #[.int .i64 zo, .int .i64 zn] w fun e w' => e = .returned (.string (str (simB o n))) ∧ Below W0.heap.size W0 w' := by
  subst h1 h2
  exact (simple_any o n w ho hn).mono fun e w' ⟨h, hb⟩ => ⟨h, hB.trans (hb.mono hB.size)⟩
/-- What the loop keeps. -/
structure MadeAt (zs : List Int) (B : Nat) (W0 : World) (k a d : Nat) (c : List UInt8) (w : World) : Prop where
  len : c.length = a
  le : a ≤ 19 * k
  dep : d ≤ 16
  eq : madeB 0 0 (prs40 zs) = c ++ madeB a d ((prs40 zs).drop k)
  below : Below B W0 w
theorem MadeAt.step {zs : List Int} {B : Nat} {W0 w w' : World} {k a d o m : Nat} {c : List UInt8} (h : MadeAt zs B W0 k a d c w) (hdr : (prs40 zs).drop k = (o, m) :: (prs40 zs).drop (k + 1)) (hb : Below B W0 w') :
    MadeAt zs B W0 (k + 1) (a + chunkN d o) (chunkD d o) (c ++ chunkB a d o m) w' := by
  refine ⟨by rw [List.length_append, chunkB_len, h.len], ?_, chunkD_le o h.dep, ?_, hb⟩
  · have := (chunkN_le d o).2
    have := h.le
    omega
  · rw [h.eq, hdr, madeB, List.append_assoc]

set_option maxRecDepth 100000 in
set_option maxHeartbeats 8000000 in
theorem Made_any (v : Value) (n : Nat) (zs : List Int) (w : World) (hs : SliceAt w w.heap.size v n (zs.map (Value.int .i64))) (hz : zs.length = n * 2) (hI : ∀ z ∈ zs, I64 z) (hE : EnvR w) :
    Calls Tryd.prog 12 #[v] w fun e w' => e = .returned (.string (str (madeB 0 0 (prs40 zs)))) ∧ Below w.heap.size w w' := by
  obtain ⟨va, vc, rfl, hle, hvc, hcs⟩ := hs
  unfold maxLen at hvc
  go_enter Tryd.func12, Tryd.ntmps12
  go_wp2_with fail
  go_loopw [3, 4, 5] (fun s e i wr => ∃ (k a d : Nat) (c : List UInt8), s = .string (str c) ∧ e = .int .i64 (d : Int) ∧ i = .int .i64 (k : Int) ∧ k ≤ n ∧ k ≤ 40 ∧ Hid (MadeAt zs w.heap.size w k a d c wr)) (fun _ _ i _ => n - (intOf i).toNat)
  case atStart => exact ⟨0, 0, 0, [], rfl, rfl, rfl, Nat.zero_le _, Nat.zero_le _, (show Hid _ from ⟨rfl, Nat.zero_le _, Nat.zero_le _, rfl, Below.refl _ _⟩)⟩
  case round =>
    obtain ⟨k, a, d, c, rfl, rfl, rfl, hk, hk40, hall⟩ := hrel
    have hM := hall.out
    have hB := hM.below
    have hla : (str c).size = a := by rw [str_size]; exact hM.len
    have hlc := hM.len
    have hale := hM.le
    have hd16 := hM.dep
    by_cases hlt : k < n
    · have hdn : decide ((k : Int) < (n : Int)) = true := by simpa using hlt
      by_cases h40 : k < 40
      · have hd40 : decide ((k : Int) < 40) = true := by simp; omega
        obtain ⟨b, o0, rfl, hbl, hcx⟩ := hcs (by omega)
        have hc2 := fun j u hu => (hB.cell (p := ⟨b, o0 + j, none⟩) hbl).trans (hcx j u hu)
        have i0 : k * 2 < zs.length := by omega
        have i1 : k * 2 + 1 < zs.length := by omega
        have m0 := hc2 (k * 2) (.int .i64 zs[k * 2]!) (by rw [List.getElem?_map, List.getElem?_eq_getElem i0, getElem!_pos zs _ i0]; rfl)
        have m1 := hc2 (k * 2 + 1) (.int .i64 zs[k * 2 + 1]!) (by rw [List.getElem?_map, List.getElem?_eq_getElem i1, getElem!_pos zs _ i1]; rfl)
        rw [← Nat.add_assoc] at m1
        have I0 : I64 zs[k * 2]! := by rw [getElem!_pos zs _ i0]; exact hI _ (List.getElem_mem i0)
        have I1 : I64 zs[k * 2 + 1]! := by rw [getElem!_pos zs _ i1]; exact hI _ (List.getElem_mem i1)
        have hdrop := prs40_drop hz hlt h40
        have hER := hE.below hB
        have hT := Lib.hid hER.takes
        have hP := Lib.hid hER.puts
        have ho14 := pickv_lt zs[k * 2]! 14 (by omega)
        have hn300 := pickv_lt zs[k * 2 + 1]! 300 (by omega)
        have pk1 := Lib.hid (pickR_any zs[k * 2 + 1]! 300 wr I1 (by omega) (by omega))
        have pk0 := Lib.hid (pickR_any zs[k * 2]! 14 wr I0 (by omega) (by omega))
        generalize pickv zs[k * 2]! 14 = o at *
        generalize pickv zs[k * 2 + 1]! 300 = m at *
        generalize zs[k * 2]! = z0 at *
        generalize zs[k * 2 + 1]! = z1 at *
        have hstep := fun w' (hb : Below w.heap.size w w') => Lib.hid (hM.step hdrop hb)
        have hw1k : IntKind.i64.wrap ((k : Int) + 1) = ((k + 1 : Nat) : Int) := by rw [Int.natCast_succ]; exact IntWalk.i64_in _ (by omega)
        have i2 : 0 ≤ (k : Int) := by omega
        replace hcs := Lib.hid hcs
        replace hcx := Lib.hid hcx
        replace hc2 := Lib.hid hc2
        replace hdrop := Lib.hid hdrop
        clear hc2 hcx hM hall hER I0 I1 i0 i1
        go_wp2_with fail
        refine pk1.out.mono ?_
        rintro e _ ⟨rfl, rfl⟩
        go_wp2_with fail
        refine pk0.out.mono ?_
        rintro e _ ⟨rfl, rfl⟩
        clear pk0 pk1 m0 m1
        have hmod : Int.tmod (m : Int) 2 = ((m % 2 : Nat) : Int) := by rw [Int.tmod_eq_emod_of_nonneg (by omega)]; omega
        by_cases ho12 : o < 12
        · have hq12 : ((o : Int) == 12) = false := by rw [beq_eq_false_iff_ne]; omega
          have hq13 : ((o : Int) == 13) = false := by rw [beq_eq_false_iff_ne]; omega
          have e1 : chunkN d o = simLen (madeOp o d) := by unfold chunkN; rw [if_neg (by omega), if_neg (by omega)]
          have e2 : chunkD d o = afterOp (madeOp o d) d := by unfold chunkD; rw [if_neg (by omega), if_neg (by omega)]
          have e3 : chunkB a d o m = simB (madeOp o d) m := by unfold chunkB; rw [if_neg (by omega), if_neg (by omega)]
          rw [e1, e2, e3] at hstep
          clear e1 e2 e3
          by_cases ho7 : o = 7
          · subst ho7
            have hbad : madeOp 7 d = if d = 16 then 10 else 9 := by unfold madeOp; rw [if_pos (by omega)]
            go_wp2_with fail
            have mk := madeOp_ok (o := 7) hd16
            by_cases hd6 : d = 16
            · have hq : madeOp 7 d = 10 := by rw [hbad, if_pos hd6]
              have hdq : ((d : Int) == 16) = true := by rw [beq_iff_eq]; omega
              replace hd6 := Lib.hid hd6
              go_quiet (fail)
              go_wp2_with fail
              refine name_wp ?_
              intro wy hwy
              have hBy : Below w.heap.size w wy := by rw [hwy]; exact below_drewN hB _
              clear hwy hB
              have hB := hBy
              clear hBy
              rw [hq] at mk hstep
              obtain ⟨mk1, _, _, _, mk2, mk3⟩ := mk
              have hER := hE.below hB
              have t0 := hER.takes 10 (by omega)
              have p0 := hER.puts 10 (by omega)
              have hq8 : simLen 10 ≤ 3 := by unfold simLen; split <;> omega
              have hlq : (simB 10 m).length ≤ 3 := by rw [simB_len]; exact hq8
              have hdp : Hid ((d : Int) - (takesOp 10 : Nat) + (putsOp 10 : Nat) = ((afterOp 10 d : Nat) : Int)) := by show _ = _; unfold afterOp; omega
              have hx1 : putsOp 10 ≤ 2 := by unfold afterOp at mk3; exact puts_le2 10
              generalize takesOp 10 = TT at *
              generalize putsOp 10 = PP at *
              generalize afterOp 10 d = dd at *
              have hx2 : IntKind.i64.wrap ((d : Int) - (TT : Int)) = (d : Int) - (TT : Int) := IntWalk.i64_in _ (by omega)
              have hx3 : IntKind.i64.wrap ((d : Int) - (TT : Int) + (PP : Int)) = (dd : Int) := by rw [hdp.out]; exact IntWalk.i64_in _ (by omega)
              obtain ⟨c1, g1⟩ : ∃ t, t = c ++ simB 10 m := ⟨_, rfl⟩
              have q0 := add_str c (simB 10 m) (by omega)
              rw [← g1] at q0 hstep
              replace hstep := Lib.hid hstep
              replace g1 := Lib.hid g1
              replace hdp := Lib.hid hdp
              replace hq := Lib.hid hq
              clear hER
              go_quiet (fail)
              go_wp2_with fail
              refine (simple_z (below_drewN hB _) 10 m _ _ (by first | rfl | omega) (by first | rfl | omega) (by omega) (by omega)).mono ?_
              clear hB
              rintro e w1 ⟨rfl, hB⟩
              have hfin := hstep.out _ hB
              go_wp2_with fail
              exact ⟨⟨k + 1, _, _, _, rfl, rfl, by first | rfl | go_num, by omega, by omega, hfin⟩, by simp [intOf]; omega⟩
            · have hq : madeOp 7 d = 9 := by rw [hbad, if_neg hd6]
              have hdq : ((d : Int) == 16) = false := by rw [beq_eq_false_iff_ne]; omega
              replace hd6 := Lib.hid hd6
              go_quiet (fail)
              go_wp2_with fail
              refine name_wp ?_
              intro wy hwy
              have hBy : Below w.heap.size w wy := by rw [hwy]; exact below_drewN hB _
              clear hwy hB
              have hB := hBy
              clear hBy
              rw [hq] at mk hstep
              obtain ⟨mk1, _, _, _, mk2, mk3⟩ := mk
              have hER := hE.below hB
              have t0 := hER.takes 9 (by omega)
              have p0 := hER.puts 9 (by omega)
              have hq8 : simLen 9 ≤ 3 := by unfold simLen; split <;> omega
              have hlq : (simB 9 m).length ≤ 3 := by rw [simB_len]; exact hq8
              have hdp : Hid ((d : Int) - (takesOp 9 : Nat) + (putsOp 9 : Nat) = ((afterOp 9 d : Nat) : Int)) := by show _ = _; unfold afterOp; omega
              have hx1 : putsOp 9 ≤ 2 := by unfold afterOp at mk3; exact puts_le2 9
              generalize takesOp 9 = TT at *
              generalize putsOp 9 = PP at *
              generalize afterOp 9 d = dd at *
              have hx2 : IntKind.i64.wrap ((d : Int) - (TT : Int)) = (d : Int) - (TT : Int) := IntWalk.i64_in _ (by omega)
              have hx3 : IntKind.i64.wrap ((d : Int) - (TT : Int) + (PP : Int)) = (dd : Int) := by rw [hdp.out]; exact IntWalk.i64_in _ (by omega)
              obtain ⟨c1, g1⟩ : ∃ t, t = c ++ simB 9 m := ⟨_, rfl⟩
              have q0 := add_str c (simB 9 m) (by omega)
              rw [← g1] at q0 hstep
              replace hstep := Lib.hid hstep
              replace g1 := Lib.hid g1
              replace hdp := Lib.hid hdp
              replace hq := Lib.hid hq
              clear hER
              go_quiet (fail)
              go_wp2_with fail
              refine (simple_z (below_drewN hB _) 9 m _ _ (by first | rfl | omega) (by first | rfl | omega) (by omega) (by omega)).mono ?_
              clear hB
              rintro e w1 ⟨rfl, hB⟩
              have hfin := hstep.out _ hB
              go_wp2_with fail
              exact ⟨⟨k + 1, _, _, _, rfl, rfl, by first | rfl | go_num, by omega, by omega, hfin⟩, by simp [intOf]; omega⟩
          by_cases ho8 : o = 8
          · subst ho8
            have hbad : madeOp 8 d = if d = 16 then 10 else 9 := by unfold madeOp; rw [if_pos (by omega)]
            go_wp2_with fail
            have mk := madeOp_ok (o := 8) hd16
            by_cases hd6 : d = 16
            · have hq : madeOp 8 d = 10 := by rw [hbad, if_pos hd6]
              have hdq : ((d : Int) == 16) = true := by rw [beq_iff_eq]; omega
              replace hd6 := Lib.hid hd6
              go_quiet (fail)
              go_wp2_with fail
              refine name_wp ?_
              intro wy hwy
              have hBy : Below w.heap.size w wy := by rw [hwy]; exact below_drewN hB _
              clear hwy hB
              have hB := hBy
              clear hBy
              rw [hq] at mk hstep
              obtain ⟨mk1, _, _, _, mk2, mk3⟩ := mk
              have hER := hE.below hB
              have t0 := hER.takes 10 (by omega)
              have p0 := hER.puts 10 (by omega)
              have hq8 : simLen 10 ≤ 3 := by unfold simLen; split <;> omega
              have hlq : (simB 10 m).length ≤ 3 := by rw [simB_len]; exact hq8
              have hdp : Hid ((d : Int) - (takesOp 10 : Nat) + (putsOp 10 : Nat) = ((afterOp 10 d : Nat) : Int)) := by show _ = _; unfold afterOp; omega
              have hx1 : putsOp 10 ≤ 2 := by unfold afterOp at mk3; exact puts_le2 10
              generalize takesOp 10 = TT at *
              generalize putsOp 10 = PP at *
              generalize afterOp 10 d = dd at *
              have hx2 : IntKind.i64.wrap ((d : Int) - (TT : Int)) = (d : Int) - (TT : Int) := IntWalk.i64_in _ (by omega)
              have hx3 : IntKind.i64.wrap ((d : Int) - (TT : Int) + (PP : Int)) = (dd : Int) := by rw [hdp.out]; exact IntWalk.i64_in _ (by omega)
              obtain ⟨c1, g1⟩ : ∃ t, t = c ++ simB 10 m := ⟨_, rfl⟩
              have q0 := add_str c (simB 10 m) (by omega)
              rw [← g1] at q0 hstep
              replace hstep := Lib.hid hstep
              replace g1 := Lib.hid g1
              replace hdp := Lib.hid hdp
              replace hq := Lib.hid hq
              clear hER
              go_quiet (fail)
              go_wp2_with fail
              refine (simple_z (below_drewN hB _) 10 m _ _ (by first | rfl | omega) (by first | rfl | omega) (by omega) (by omega)).mono ?_
              clear hB
              rintro e w1 ⟨rfl, hB⟩
              have hfin := hstep.out _ hB
              go_wp2_with fail
              exact ⟨⟨k + 1, _, _, _, rfl, rfl, by first | rfl | go_num, by omega, by omega, hfin⟩, by simp [intOf]; omega⟩
            · have hq : madeOp 8 d = 9 := by rw [hbad, if_neg hd6]
              have hdq : ((d : Int) == 16) = false := by rw [beq_eq_false_iff_ne]; omega
              replace hd6 := Lib.hid hd6
              go_quiet (fail)
              go_wp2_with fail
              refine name_wp ?_
              intro wy hwy
              have hBy : Below w.heap.size w wy := by rw [hwy]; exact below_drewN hB _
              clear hwy hB
              have hB := hBy
              clear hBy
              rw [hq] at mk hstep
              obtain ⟨mk1, _, _, _, mk2, mk3⟩ := mk
              have hER := hE.below hB
              have t0 := hER.takes 9 (by omega)
              have p0 := hER.puts 9 (by omega)
              have hq8 : simLen 9 ≤ 3 := by unfold simLen; split <;> omega
              have hlq : (simB 9 m).length ≤ 3 := by rw [simB_len]; exact hq8
              have hdp : Hid ((d : Int) - (takesOp 9 : Nat) + (putsOp 9 : Nat) = ((afterOp 9 d : Nat) : Int)) := by show _ = _; unfold afterOp; omega
              have hx1 : putsOp 9 ≤ 2 := by unfold afterOp at mk3; exact puts_le2 9
              generalize takesOp 9 = TT at *
              generalize putsOp 9 = PP at *
              generalize afterOp 9 d = dd at *
              have hx2 : IntKind.i64.wrap ((d : Int) - (TT : Int)) = (d : Int) - (TT : Int) := IntWalk.i64_in _ (by omega)
              have hx3 : IntKind.i64.wrap ((d : Int) - (TT : Int) + (PP : Int)) = (dd : Int) := by rw [hdp.out]; exact IntWalk.i64_in _ (by omega)
              obtain ⟨c1, g1⟩ : ∃ t, t = c ++ simB 9 m := ⟨_, rfl⟩
              have q0 := add_str c (simB 9 m) (by omega)
              rw [← g1] at q0 hstep
              replace hstep := Lib.hid hstep
              replace g1 := Lib.hid g1
              replace hdp := Lib.hid hdp
              replace hq := Lib.hid hq
              clear hER
              go_quiet (fail)
              go_wp2_with fail
              refine (simple_z (below_drewN hB _) 9 m _ _ (by first | rfl | omega) (by first | rfl | omega) (by omega) (by omega)).mono ?_
              clear hB
              rintro e w1 ⟨rfl, hB⟩
              have hfin := hstep.out _ hB
              go_wp2_with fail
              exact ⟨⟨k + 1, _, _, _, rfl, rfl, by first | rfl | go_num, by omega, by omega, hfin⟩, by simp [intOf]; omega⟩
          by_cases ho11 : o = 11
          · subst ho11
            have hbad : madeOp 11 d = if d = 16 then 10 else 9 := by unfold madeOp; rw [if_pos (by omega)]
            go_wp2_with fail
            have mk := madeOp_ok (o := 11) hd16
            by_cases hd6 : d = 16
            · have hq : madeOp 11 d = 10 := by rw [hbad, if_pos hd6]
              have hdq : ((d : Int) == 16) = true := by rw [beq_iff_eq]; omega
              replace hd6 := Lib.hid hd6
              go_quiet (fail)
              go_wp2_with fail
              refine name_wp ?_
              intro wy hwy
              have hBy : Below w.heap.size w wy := by rw [hwy]; exact below_drewN hB _
              clear hwy hB
              have hB := hBy
              clear hBy
              rw [hq] at mk hstep
              obtain ⟨mk1, _, _, _, mk2, mk3⟩ := mk
              have hER := hE.below hB
              have t0 := hER.takes 10 (by omega)
              have p0 := hER.puts 10 (by omega)
              have hq8 : simLen 10 ≤ 3 := by unfold simLen; split <;> omega
              have hlq : (simB 10 m).length ≤ 3 := by rw [simB_len]; exact hq8
              have hdp : Hid ((d : Int) - (takesOp 10 : Nat) + (putsOp 10 : Nat) = ((afterOp 10 d : Nat) : Int)) := by show _ = _; unfold afterOp; omega
              have hx1 : putsOp 10 ≤ 2 := by unfold afterOp at mk3; exact puts_le2 10
              generalize takesOp 10 = TT at *
              generalize putsOp 10 = PP at *
              generalize afterOp 10 d = dd at *
              have hx2 : IntKind.i64.wrap ((d : Int) - (TT : Int)) = (d : Int) - (TT : Int) := IntWalk.i64_in _ (by omega)
              have hx3 : IntKind.i64.wrap ((d : Int) - (TT : Int) + (PP : Int)) = (dd : Int) := by rw [hdp.out]; exact IntWalk.i64_in _ (by omega)
              obtain ⟨c1, g1⟩ : ∃ t, t = c ++ simB 10 m := ⟨_, rfl⟩
              have q0 := add_str c (simB 10 m) (by omega)
              rw [← g1] at q0 hstep
              replace hstep := Lib.hid hstep
              replace g1 := Lib.hid g1
              replace hdp := Lib.hid hdp
              replace hq := Lib.hid hq
              clear hER
              go_quiet (fail)
              go_wp2_with fail
              refine (simple_z (below_drewN hB _) 10 m _ _ (by first | rfl | omega) (by first | rfl | omega) (by omega) (by omega)).mono ?_
              clear hB
              rintro e w1 ⟨rfl, hB⟩
              have hfin := hstep.out _ hB
              go_wp2_with fail
              exact ⟨⟨k + 1, _, _, _, rfl, rfl, by first | rfl | go_num, by omega, by omega, hfin⟩, by simp [intOf]; omega⟩
            · have hq : madeOp 11 d = 9 := by rw [hbad, if_neg hd6]
              have hdq : ((d : Int) == 16) = false := by rw [beq_eq_false_iff_ne]; omega
              replace hd6 := Lib.hid hd6
              go_quiet (fail)
              go_wp2_with fail
              refine name_wp ?_
              intro wy hwy
              have hBy : Below w.heap.size w wy := by rw [hwy]; exact below_drewN hB _
              clear hwy hB
              have hB := hBy
              clear hBy
              rw [hq] at mk hstep
              obtain ⟨mk1, _, _, _, mk2, mk3⟩ := mk
              have hER := hE.below hB
              have t0 := hER.takes 9 (by omega)
              have p0 := hER.puts 9 (by omega)
              have hq8 : simLen 9 ≤ 3 := by unfold simLen; split <;> omega
              have hlq : (simB 9 m).length ≤ 3 := by rw [simB_len]; exact hq8
              have hdp : Hid ((d : Int) - (takesOp 9 : Nat) + (putsOp 9 : Nat) = ((afterOp 9 d : Nat) : Int)) := by show _ = _; unfold afterOp; omega
              have hx1 : putsOp 9 ≤ 2 := by unfold afterOp at mk3; exact puts_le2 9
              generalize takesOp 9 = TT at *
              generalize putsOp 9 = PP at *
              generalize afterOp 9 d = dd at *
              have hx2 : IntKind.i64.wrap ((d : Int) - (TT : Int)) = (d : Int) - (TT : Int) := IntWalk.i64_in _ (by omega)
              have hx3 : IntKind.i64.wrap ((d : Int) - (TT : Int) + (PP : Int)) = (dd : Int) := by rw [hdp.out]; exact IntWalk.i64_in _ (by omega)
              obtain ⟨c1, g1⟩ : ∃ t, t = c ++ simB 9 m := ⟨_, rfl⟩
              have q0 := add_str c (simB 9 m) (by omega)
              rw [← g1] at q0 hstep
              replace hstep := Lib.hid hstep
              replace g1 := Lib.hid g1
              replace hdp := Lib.hid hdp
              replace hq := Lib.hid hq
              clear hER
              go_quiet (fail)
              go_wp2_with fail
              refine (simple_z (below_drewN hB _) 9 m _ _ (by first | rfl | omega) (by first | rfl | omega) (by omega) (by omega)).mono ?_
              clear hB
              rintro e w1 ⟨rfl, hB⟩
              have hfin := hstep.out _ hB
              go_wp2_with fail
              exact ⟨⟨k + 1, _, _, _, rfl, rfl, by first | rfl | go_num, by omega, by omega, hfin⟩, by simp [intOf]; omega⟩
          have hg12 : decide (12 ≤ (o : Int)) = false := by simp; omega
          have hg7 : ((o : Int) == 7) = false := by rw [beq_eq_false_iff_ne]; omega
          have hg8 : ((o : Int) == 8) = false := by rw [beq_eq_false_iff_ne]; omega
          have hg11 : ((o : Int) == 11) = false := by rw [beq_eq_false_iff_ne]; omega
          have hER0 := hE.below hB
          have t00 := hER0.takes o ho12
          have p00 := hER0.puts o ho12
          have hP2 := puts_le2 o
          clear hER0
          by_cases hdt : d < takesOp o
          · have hdl : decide ((d : Int) < ((takesOp o : Nat) : Int)) = true := by simp; omega
            have hbad : madeOp o d = if d = 16 then 10 else 9 := by unfold madeOp; rw [if_pos (by omega)]
            go_wp2_with fail
            have mk := madeOp_ok (o := o) hd16
            by_cases hd6 : d = 16
            · have hq : madeOp o d = 10 := by rw [hbad, if_pos hd6]
              have hdq : ((d : Int) == 16) = true := by rw [beq_iff_eq]; omega
              replace hd6 := Lib.hid hd6
              go_quiet (fail)
              go_wp2_with fail
              refine name_wp ?_
              intro wy hwy
              have hBy : Below w.heap.size w wy := by rw [hwy]; exact below_drewN hB _
              clear hwy hB t00 p00
              have hB := hBy
              clear hBy
              rw [hq] at mk hstep
              obtain ⟨mk1, _, _, _, mk2, mk3⟩ := mk
              have hER := hE.below hB
              have t0 := hER.takes 10 (by omega)
              have p0 := hER.puts 10 (by omega)
              have hq8 : simLen 10 ≤ 3 := by unfold simLen; split <;> omega
              have hlq : (simB 10 m).length ≤ 3 := by rw [simB_len]; exact hq8
              have hdp : Hid ((d : Int) - (takesOp 10 : Nat) + (putsOp 10 : Nat) = ((afterOp 10 d : Nat) : Int)) := by show _ = _; unfold afterOp; omega
              have hx1 : putsOp 10 ≤ 2 := by unfold afterOp at mk3; exact puts_le2 10
              generalize takesOp 10 = TT at *
              generalize putsOp 10 = PP at *
              generalize afterOp 10 d = dd at *
              have hx2 : IntKind.i64.wrap ((d : Int) - (TT : Int)) = (d : Int) - (TT : Int) := IntWalk.i64_in _ (by omega)
              have hx3 : IntKind.i64.wrap ((d : Int) - (TT : Int) + (PP : Int)) = (dd : Int) := by rw [hdp.out]; exact IntWalk.i64_in _ (by omega)
              obtain ⟨c1, g1⟩ : ∃ t, t = c ++ simB 10 m := ⟨_, rfl⟩
              have q0 := add_str c (simB 10 m) (by omega)
              rw [← g1] at q0 hstep
              replace hstep := Lib.hid hstep
              replace g1 := Lib.hid g1
              replace hdp := Lib.hid hdp
              replace hq := Lib.hid hq
              clear hER
              go_quiet (fail)
              go_wp2_with fail
              refine (simple_z (below_drewN hB _) 10 m _ _ (by first | rfl | omega) (by first | rfl | omega) (by omega) (by omega)).mono ?_
              clear hB
              rintro e w1 ⟨rfl, hB⟩
              have hfin := hstep.out _ hB
              go_wp2_with fail
              exact ⟨⟨k + 1, _, _, _, rfl, rfl, by first | rfl | go_num, by omega, by omega, hfin⟩, by simp [intOf]; omega⟩
            · have hq : madeOp o d = 9 := by rw [hbad, if_neg hd6]
              have hdq : ((d : Int) == 16) = false := by rw [beq_eq_false_iff_ne]; omega
              replace hd6 := Lib.hid hd6
              go_quiet (fail)
              go_wp2_with fail
              refine name_wp ?_
              intro wy hwy
              have hBy : Below w.heap.size w wy := by rw [hwy]; exact below_drewN hB _
              clear hwy hB t00 p00
              have hB := hBy
              clear hBy
              rw [hq] at mk hstep
              obtain ⟨mk1, _, _, _, mk2, mk3⟩ := mk
              have hER := hE.below hB
              have t0 := hER.takes 9 (by omega)
              have p0 := hER.puts 9 (by omega)
              have hq8 : simLen 9 ≤ 3 := by unfold simLen; split <;> omega
              have hlq : (simB 9 m).length ≤ 3 := by rw [simB_len]; exact hq8
              have hdp : Hid ((d : Int) - (takesOp 9 : Nat) + (putsOp 9 : Nat) = ((afterOp 9 d : Nat) : Int)) := by show _ = _; unfold afterOp; omega
              have hx1 : putsOp 9 ≤ 2 := by unfold afterOp at mk3; exact puts_le2 9
              generalize takesOp 9 = TT at *
              generalize putsOp 9 = PP at *
              generalize afterOp 9 d = dd at *
              have hx2 : IntKind.i64.wrap ((d : Int) - (TT : Int)) = (d : Int) - (TT : Int) := IntWalk.i64_in _ (by omega)
              have hx3 : IntKind.i64.wrap ((d : Int) - (TT : Int) + (PP : Int)) = (dd : Int) := by rw [hdp.out]; exact IntWalk.i64_in _ (by omega)
              obtain ⟨c1, g1⟩ : ∃ t, t = c ++ simB 9 m := ⟨_, rfl⟩
              have q0 := add_str c (simB 9 m) (by omega)
              rw [← g1] at q0 hstep
              replace hstep := Lib.hid hstep
              replace g1 := Lib.hid g1
              replace hdp := Lib.hid hdp
              replace hq := Lib.hid hq
              clear hER
              go_quiet (fail)
              go_wp2_with fail
              refine (simple_z (below_drewN hB _) 9 m _ _ (by first | rfl | omega) (by first | rfl | omega) (by omega) (by omega)).mono ?_
              clear hB
              rintro e w1 ⟨rfl, hB⟩
              have hfin := hstep.out _ hB
              go_wp2_with fail
              exact ⟨⟨k + 1, _, _, _, rfl, rfl, by first | rfl | go_num, by omega, by omega, hfin⟩, by simp [intOf]; omega⟩
          · have hdl : decide ((d : Int) < ((takesOp o : Nat) : Int)) = false := by simp; omega
            have hy2 : IntKind.i64.wrap ((d : Int) - ((takesOp o : Nat) : Int)) = (d : Int) - ((takesOp o : Nat) : Int) := IntWalk.i64_in _ (by omega)
            have hy3 : IntKind.i64.wrap ((d : Int) - ((takesOp o : Nat) : Int) + ((putsOp o : Nat) : Int)) = ((afterOp o d : Nat) : Int) := by rw [show (d : Int) - ((takesOp o : Nat) : Int) + ((putsOp o : Nat) : Int) = ((afterOp o d : Nat) : Int) by unfold afterOp; omega]; exact IntWalk.i64_in _ (by unfold afterOp; omega)
            by_cases hov : 16 < afterOp o d
            · have hgt : decide (16 < ((afterOp o d : Nat) : Int)) = true := by simp; omega
              have hbad : madeOp o d = if d = 16 then 10 else 9 := by unfold madeOp; rw [if_pos (by omega)]
              go_wp2_with fail
              have mk := madeOp_ok (o := o) hd16
              by_cases hd6 : d = 16
              · have hq : madeOp o d = 10 := by rw [hbad, if_pos hd6]
                have hdq : ((d : Int) == 16) = true := by rw [beq_iff_eq]; omega
                replace hd6 := Lib.hid hd6
                go_quiet (fail)
                go_wp2_with fail
                refine name_wp ?_
                intro wy hwy
                have hBy : Below w.heap.size w wy := by rw [hwy]; exact below_drewN hB _
                clear hwy hB t00 p00
                have hB := hBy
                clear hBy
                rw [hq] at mk hstep
                obtain ⟨mk1, _, _, _, mk2, mk3⟩ := mk
                have hER := hE.below hB
                have t0 := hER.takes 10 (by omega)
                have p0 := hER.puts 10 (by omega)
                have hq8 : simLen 10 ≤ 3 := by unfold simLen; split <;> omega
                have hlq : (simB 10 m).length ≤ 3 := by rw [simB_len]; exact hq8
                have hdp : Hid ((d : Int) - (takesOp 10 : Nat) + (putsOp 10 : Nat) = ((afterOp 10 d : Nat) : Int)) := by show _ = _; unfold afterOp; omega
                have hx1 : putsOp 10 ≤ 2 := by unfold afterOp at mk3; exact puts_le2 10
                generalize takesOp 10 = TT at *
                generalize putsOp 10 = PP at *
                generalize afterOp 10 d = dd at *
                have hx2 : IntKind.i64.wrap ((d : Int) - (TT : Int)) = (d : Int) - (TT : Int) := IntWalk.i64_in _ (by omega)
                have hx3 : IntKind.i64.wrap ((d : Int) - (TT : Int) + (PP : Int)) = (dd : Int) := by rw [hdp.out]; exact IntWalk.i64_in _ (by omega)
                obtain ⟨c1, g1⟩ : ∃ t, t = c ++ simB 10 m := ⟨_, rfl⟩
                have q0 := add_str c (simB 10 m) (by omega)
                rw [← g1] at q0 hstep
                replace hstep := Lib.hid hstep
                replace g1 := Lib.hid g1
                replace hdp := Lib.hid hdp
                replace hq := Lib.hid hq
                clear hER
                go_quiet (fail)
                go_wp2_with fail
                refine (simple_z (below_drewN hB _) 10 m _ _ (by first | rfl | omega) (by first | rfl | omega) (by omega) (by omega)).mono ?_
                clear hB
                rintro e w1 ⟨rfl, hB⟩
                have hfin := hstep.out _ hB
                go_wp2_with fail
                exact ⟨⟨k + 1, _, _, _, rfl, rfl, by first | rfl | go_num, by omega, by omega, hfin⟩, by simp [intOf]; omega⟩
              · have hq : madeOp o d = 9 := by rw [hbad, if_neg hd6]
                have hdq : ((d : Int) == 16) = false := by rw [beq_eq_false_iff_ne]; omega
                replace hd6 := Lib.hid hd6
                go_quiet (fail)
                go_wp2_with fail
                refine name_wp ?_
                intro wy hwy
                have hBy : Below w.heap.size w wy := by rw [hwy]; exact below_drewN hB _
                clear hwy hB t00 p00
                have hB := hBy
                clear hBy
                rw [hq] at mk hstep
                obtain ⟨mk1, _, _, _, mk2, mk3⟩ := mk
                have hER := hE.below hB
                have t0 := hER.takes 9 (by omega)
                have p0 := hER.puts 9 (by omega)
                have hq8 : simLen 9 ≤ 3 := by unfold simLen; split <;> omega
                have hlq : (simB 9 m).length ≤ 3 := by rw [simB_len]; exact hq8
                have hdp : Hid ((d : Int) - (takesOp 9 : Nat) + (putsOp 9 : Nat) = ((afterOp 9 d : Nat) : Int)) := by show _ = _; unfold afterOp; omega
                have hx1 : putsOp 9 ≤ 2 := by unfold afterOp at mk3; exact puts_le2 9
                generalize takesOp 9 = TT at *
                generalize putsOp 9 = PP at *
                generalize afterOp 9 d = dd at *
                have hx2 : IntKind.i64.wrap ((d : Int) - (TT : Int)) = (d : Int) - (TT : Int) := IntWalk.i64_in _ (by omega)
                have hx3 : IntKind.i64.wrap ((d : Int) - (TT : Int) + (PP : Int)) = (dd : Int) := by rw [hdp.out]; exact IntWalk.i64_in _ (by omega)
                obtain ⟨c1, g1⟩ : ∃ t, t = c ++ simB 9 m := ⟨_, rfl⟩
                have q0 := add_str c (simB 9 m) (by omega)
                rw [← g1] at q0 hstep
                replace hstep := Lib.hid hstep
                replace g1 := Lib.hid g1
                replace hdp := Lib.hid hdp
                replace hq := Lib.hid hq
                clear hER
                go_quiet (fail)
                go_wp2_with fail
                refine (simple_z (below_drewN hB _) 9 m _ _ (by first | rfl | omega) (by first | rfl | omega) (by omega) (by omega)).mono ?_
                clear hB
                rintro e w1 ⟨rfl, hB⟩
                have hfin := hstep.out _ hB
                go_wp2_with fail
                exact ⟨⟨k + 1, _, _, _, rfl, rfl, by first | rfl | go_num, by omega, by omega, hfin⟩, by simp [intOf]; omega⟩
            · have hgt : decide (16 < ((afterOp o d : Nat) : Int)) = false := by simp; omega
              have hq : madeOp o d = o := by unfold madeOp; rw [if_neg (by omega)]
              go_wp2_with fail
              go_quiet (fail)
              go_wp2_with fail
              refine name_wp ?_
              intro wy hwy
              have hBy : Below w.heap.size w wy := by rw [hwy]; exact below_drewN hB _
              clear hwy hB t00 p00
              have hB := hBy
              clear hBy
              have mk := madeOp_ok (o := o) hd16
              go_wp2_with fail
              rw [hq] at mk hstep
              obtain ⟨mk1, _, _, _, mk2, mk3⟩ := mk
              have hER := hE.below hB
              have t0 := hER.takes o (by omega)
              have p0 := hER.puts o (by omega)
              have hq8 : simLen o ≤ 3 := by unfold simLen; split <;> omega
              have hlq : (simB o m).length ≤ 3 := by rw [simB_len]; exact hq8
              have hdp : Hid ((d : Int) - (takesOp o : Nat) + (putsOp o : Nat) = ((afterOp o d : Nat) : Int)) := by show _ = _; unfold afterOp; omega
              have hx1 : putsOp o ≤ 2 := by unfold afterOp at mk3; exact puts_le2 o
              generalize takesOp o = TT at *
              generalize putsOp o = PP at *
              generalize afterOp o d = dd at *
              have hx2 : IntKind.i64.wrap ((d : Int) - (TT : Int)) = (d : Int) - (TT : Int) := IntWalk.i64_in _ (by omega)
              have hx3 : IntKind.i64.wrap ((d : Int) - (TT : Int) + (PP : Int)) = (dd : Int) := by rw [hdp.out]; exact IntWalk.i64_in _ (by omega)
              obtain ⟨c1, g1⟩ : ∃ t, t = c ++ simB o m := ⟨_, rfl⟩
              have q0 := add_str c (simB o m) (by omega)
              rw [← g1] at q0 hstep
              replace hstep := Lib.hid hstep
              replace g1 := Lib.hid g1
              replace hdp := Lib.hid hdp
              replace hq := Lib.hid hq
              clear hER
              go_quiet (fail)
              go_wp2_with fail
              refine (simple_z (below_drewN hB _) o m _ _ (by first | rfl | omega) (by first | rfl | omega) (by omega) (by omega)).mono ?_
              clear hB
              rintro e w1 ⟨rfl, hB⟩
              have hfin := hstep.out _ hB
              go_wp2_with fail
              exact ⟨⟨k + 1, _, _, _, rfl, rfl, by first | rfl | go_num, by omega, by omega, hfin⟩, by simp [intOf]; omega⟩
        · by_cases ho : o = 12
          · subst ho
            by_cases hd15 : d < 15
            · have hdd : decide ((d : Int) < 15) = true := by simp; omega
              have e1 : chunkN d 12 = 10 := by unfold chunkN; rw [if_pos ⟨rfl, hd15⟩]
              have e2 : chunkD d 12 = d := by unfold chunkD; rw [if_pos ⟨rfl, hd15⟩]
              have e3 : chunkB a d 12 m = simB 0 (m % 2) ++ (simB 8 (a + 10) ++ (simB 0 m ++ simB 10 0)) := by unfold chunkB; rw [if_pos ⟨rfl, hd15⟩]
              rw [e1, e2, e3] at hstep
              have hwa : IntKind.i64.wrap ((a : Int) + 10) = (a : Int) + 10 := IntWalk.i64_in _ (by omega)
              have l0 : (simB 0 (m % 2)).length ≤ 3 := by rw [simB_len]; unfold simLen; split <;> omega
              have l1 : (simB 8 (a + 10)).length ≤ 3 := by rw [simB_len]; unfold simLen; split <;> omega
              have l2 : (simB 0 m).length ≤ 3 := by rw [simB_len]; unfold simLen; split <;> omega
              have l3 : (simB 10 0).length ≤ 3 := by rw [simB_len]; unfold simLen; split <;> omega
              obtain ⟨c1, g1⟩ : ∃ t, t = c ++ simB 0 (m % 2) := ⟨_, rfl⟩
              have q0 := add_str c (simB 0 (m % 2)) (by omega)
              rw [← g1] at q0
              have n1 : c1.length ≤ a + 3 := by rw [g1, List.length_append]; omega
              replace g1 := Lib.hid g1
              obtain ⟨c2, g2⟩ : ∃ t, t = c1 ++ simB 8 (a + 10) := ⟨_, rfl⟩
              have q1 := add_str c1 (simB 8 (a + 10)) (by omega)
              rw [← g2] at q1
              have n2 : c2.length ≤ a + 6 := by rw [g2, List.length_append]; omega
              replace g2 := Lib.hid g2
              obtain ⟨c3, g3⟩ : ∃ t, t = c2 ++ simB 0 m := ⟨_, rfl⟩
              have q2 := add_str c2 (simB 0 m) (by omega)
              rw [← g3] at q2
              have n3 : c3.length ≤ a + 9 := by rw [g3, List.length_append]; omega
              replace g3 := Lib.hid g3
              obtain ⟨c4, g4⟩ : ∃ t, t = c3 ++ simB 10 0 := ⟨_, rfl⟩
              have q3 := add_str c3 (simB 10 0) (by omega)
              rw [← g4] at q3
              have n4 : c4.length ≤ a + 12 := by rw [g4, List.length_append]; omega
              replace g4 := Lib.hid g4
              replace hstep := Lib.hid hstep
              go_wp2_with fail
              refine (simple_z hB 0 (m % 2) _ _ (by first | rfl | omega) (by first | rfl | omega) (by omega) (by omega)).mono ?_
              clear hB
              rintro e w1 ⟨rfl, hB⟩
              go_wp2_with fail
              refine (simple_z hB 8 (a + 10) _ _ (by first | rfl | omega) (by first | rfl | omega) (by omega) (by omega)).mono ?_
              clear hB
              rintro e w2 ⟨rfl, hB⟩
              go_wp2_with fail
              refine (simple_z hB 0 m _ _ (by first | rfl | omega) (by first | rfl | omega) (by omega) (by omega)).mono ?_
              clear hB
              rintro e w3 ⟨rfl, hB⟩
              go_wp2_with fail
              refine (simple_z hB 10 0 _ _ (by first | rfl | omega) (by first | rfl | omega) (by omega) (by omega)).mono ?_
              clear hB
              rintro e w4 ⟨rfl, hB⟩
              have hfin := hstep.out _ hB
              simp only [← List.append_assoc] at hfin
              rw [← g1.out, ← g2.out, ← g3.out, ← g4.out] at hfin
              go_wp2_with fail
              exact ⟨⟨k + 1, _, _, _, rfl, rfl, by first | rfl | go_num, by omega, by omega, hfin⟩, by simp [intOf]; omega⟩
            · have hdd : decide ((d : Int) < 15) = false := by simp; omega
              have e1 : chunkN d 12 = simLen (madeOp 12 d) := by unfold chunkN; rw [if_neg (by omega), if_neg (by omega)]
              have e2 : chunkD d 12 = afterOp (madeOp 12 d) d := by unfold chunkD; rw [if_neg (by omega), if_neg (by omega)]
              have e3 : chunkB a d 12 m = simB (madeOp 12 d) m := by unfold chunkB; rw [if_neg (by omega), if_neg (by omega)]
              rw [e1, e2, e3] at hstep
              clear e1 e2 e3
              have hbad : madeOp 12 d = if d = 16 then 10 else 9 := by unfold madeOp; rw [if_pos (by omega)]
              go_wp2_with fail
              have mk := madeOp_ok (o := 12) hd16
              by_cases hd6 : d = 16
              · have hq : madeOp 12 d = 10 := by rw [hbad, if_pos hd6]
                have hdq : ((d : Int) == 16) = true := by rw [beq_iff_eq]; omega
                replace hd6 := Lib.hid hd6
                go_quiet (fail)
                go_wp2_with fail
                refine name_wp ?_
                intro wy hwy
                have hBy : Below w.heap.size w wy := by rw [hwy]; exact below_drewN hB _
                clear hwy hB
                have hB := hBy
                clear hBy
                rw [hq] at mk hstep
                obtain ⟨mk1, _, _, _, mk2, mk3⟩ := mk
                have hER := hE.below hB
                have t0 := hER.takes 10 (by omega)
                have p0 := hER.puts 10 (by omega)
                have hq8 : simLen 10 ≤ 3 := by unfold simLen; split <;> omega
                have hlq : (simB 10 m).length ≤ 3 := by rw [simB_len]; exact hq8
                have hdp : Hid ((d : Int) - (takesOp 10 : Nat) + (putsOp 10 : Nat) = ((afterOp 10 d : Nat) : Int)) := by show _ = _; unfold afterOp; omega
                have hx1 : putsOp 10 ≤ 2 := by unfold afterOp at mk3; exact puts_le2 10
                generalize takesOp 10 = TT at *
                generalize putsOp 10 = PP at *
                generalize afterOp 10 d = dd at *
                have hx2 : IntKind.i64.wrap ((d : Int) - (TT : Int)) = (d : Int) - (TT : Int) := IntWalk.i64_in _ (by omega)
                have hx3 : IntKind.i64.wrap ((d : Int) - (TT : Int) + (PP : Int)) = (dd : Int) := by rw [hdp.out]; exact IntWalk.i64_in _ (by omega)
                obtain ⟨c1, g1⟩ : ∃ t, t = c ++ simB 10 m := ⟨_, rfl⟩
                have q0 := add_str c (simB 10 m) (by omega)
                rw [← g1] at q0 hstep
                replace hstep := Lib.hid hstep
                replace g1 := Lib.hid g1
                replace hdp := Lib.hid hdp
                replace hq := Lib.hid hq
                clear hER
                go_quiet (fail)
                go_wp2_with fail
                refine (simple_z (below_drewN hB _) 10 m _ _ (by first | rfl | omega) (by first | rfl | omega) (by omega) (by omega)).mono ?_
                clear hB
                rintro e w1 ⟨rfl, hB⟩
                have hfin := hstep.out _ hB
                go_wp2_with fail
                exact ⟨⟨k + 1, _, _, _, rfl, rfl, by first | rfl | go_num, by omega, by omega, hfin⟩, by simp [intOf]; omega⟩
              · have hq : madeOp 12 d = 9 := by rw [hbad, if_neg hd6]
                have hdq : ((d : Int) == 16) = false := by rw [beq_eq_false_iff_ne]; omega
                replace hd6 := Lib.hid hd6
                go_quiet (fail)
                go_wp2_with fail
                refine name_wp ?_
                intro wy hwy
                have hBy : Below w.heap.size w wy := by rw [hwy]; exact below_drewN hB _
                clear hwy hB
                have hB := hBy
                clear hBy
                rw [hq] at mk hstep
                obtain ⟨mk1, _, _, _, mk2, mk3⟩ := mk
                have hER := hE.below hB
                have t0 := hER.takes 9 (by omega)
                have p0 := hER.puts 9 (by omega)
                have hq8 : simLen 9 ≤ 3 := by unfold simLen; split <;> omega
                have hlq : (simB 9 m).length ≤ 3 := by rw [simB_len]; exact hq8
                have hdp : Hid ((d : Int) - (takesOp 9 : Nat) + (putsOp 9 : Nat) = ((afterOp 9 d : Nat) : Int)) := by show _ = _; unfold afterOp; omega
                have hx1 : putsOp 9 ≤ 2 := by unfold afterOp at mk3; exact puts_le2 9
                generalize takesOp 9 = TT at *
                generalize putsOp 9 = PP at *
                generalize afterOp 9 d = dd at *
                have hx2 : IntKind.i64.wrap ((d : Int) - (TT : Int)) = (d : Int) - (TT : Int) := IntWalk.i64_in _ (by omega)
                have hx3 : IntKind.i64.wrap ((d : Int) - (TT : Int) + (PP : Int)) = (dd : Int) := by rw [hdp.out]; exact IntWalk.i64_in _ (by omega)
                obtain ⟨c1, g1⟩ : ∃ t, t = c ++ simB 9 m := ⟨_, rfl⟩
                have q0 := add_str c (simB 9 m) (by omega)
                rw [← g1] at q0 hstep
                replace hstep := Lib.hid hstep
                replace g1 := Lib.hid g1
                replace hdp := Lib.hid hdp
                replace hq := Lib.hid hq
                clear hER
                go_quiet (fail)
                go_wp2_with fail
                refine (simple_z (below_drewN hB _) 9 m _ _ (by first | rfl | omega) (by first | rfl | omega) (by omega) (by omega)).mono ?_
                clear hB
                rintro e w1 ⟨rfl, hB⟩
                have hfin := hstep.out _ hB
                go_wp2_with fail
                exact ⟨⟨k + 1, _, _, _, rfl, rfl, by first | rfl | go_num, by omega, by omega, hfin⟩, by simp [intOf]; omega⟩
          · obtain rfl : o = 13 := by omega
            by_cases hd13 : d < 13
            · have hdd : decide ((d : Int) < 13) = true := by simp; omega
              have e1 : chunkN d 13 = 19 := by unfold chunkN; rw [if_neg (by omega), if_pos ⟨rfl, hd13⟩]
              have e2 : chunkD d 13 = d := by unfold chunkD; rw [if_neg (by omega), if_pos ⟨rfl, hd13⟩]
              have e3 : chunkB a d 13 m = simB 9 0 ++ (simB 1 0 ++ (simB 0 0 ++ (simB 6 0 ++ (simB 8 (a + 18) ++ (simB 0 m ++ (simB 4 0 ++ (simB 10 0 ++ (simB 7 a ++ (simB 4 0 ++ simB 3 0))))))))) := by unfold chunkB; rw [if_neg (by omega), if_pos ⟨rfl, hd13⟩]
              rw [e1, e2, e3] at hstep
              have hwa : IntKind.i64.wrap ((a : Int) + 18) = (a : Int) + 18 := IntWalk.i64_in _ (by omega)
              have l0 : (simB 9 0).length ≤ 3 := by rw [simB_len]; unfold simLen; split <;> omega
              have l1 : (simB 1 0).length ≤ 3 := by rw [simB_len]; unfold simLen; split <;> omega
              have l2 : (simB 0 0).length ≤ 3 := by rw [simB_len]; unfold simLen; split <;> omega
              have l3 : (simB 6 0).length ≤ 3 := by rw [simB_len]; unfold simLen; split <;> omega
              have l4 : (simB 8 (a + 18)).length ≤ 3 := by rw [simB_len]; unfold simLen; split <;> omega
              have l5 : (simB 0 m).length ≤ 3 := by rw [simB_len]; unfold simLen; split <;> omega
              have l6 : (simB 4 0).length ≤ 3 := by rw [simB_len]; unfold simLen; split <;> omega
              have l7 : (simB 10 0).length ≤ 3 := by rw [simB_len]; unfold simLen; split <;> omega
              have l8 : (simB 7 a).length ≤ 3 := by rw [simB_len]; unfold simLen; split <;> omega
              have l9 : (simB 4 0).length ≤ 3 := by rw [simB_len]; unfold simLen; split <;> omega
              have l10 : (simB 3 0).length ≤ 3 := by rw [simB_len]; unfold simLen; split <;> omega
              obtain ⟨c1, g1⟩ : ∃ t, t = c ++ simB 9 0 := ⟨_, rfl⟩
              have q0 := add_str c (simB 9 0) (by omega)
              rw [← g1] at q0
              have n1 : c1.length ≤ a + 3 := by rw [g1, List.length_append]; omega
              replace g1 := Lib.hid g1
              obtain ⟨c2, g2⟩ : ∃ t, t = c1 ++ simB 1 0 := ⟨_, rfl⟩
              have q1 := add_str c1 (simB 1 0) (by omega)
              rw [← g2] at q1
              have n2 : c2.length ≤ a + 6 := by rw [g2, List.length_append]; omega
              replace g2 := Lib.hid g2
              obtain ⟨c3, g3⟩ : ∃ t, t = c2 ++ simB 0 0 := ⟨_, rfl⟩
              have q2 := add_str c2 (simB 0 0) (by omega)
              rw [← g3] at q2
              have n3 : c3.length ≤ a + 9 := by rw [g3, List.length_append]; omega
              replace g3 := Lib.hid g3
              obtain ⟨c4, g4⟩ : ∃ t, t = c3 ++ simB 6 0 := ⟨_, rfl⟩
              have q3 := add_str c3 (simB 6 0) (by omega)
              rw [← g4] at q3
              have n4 : c4.length ≤ a + 12 := by rw [g4, List.length_append]; omega
              replace g4 := Lib.hid g4
              obtain ⟨c5, g5⟩ : ∃ t, t = c4 ++ simB 8 (a + 18) := ⟨_, rfl⟩
              have q4 := add_str c4 (simB 8 (a + 18)) (by omega)
              rw [← g5] at q4
              have n5 : c5.length ≤ a + 15 := by rw [g5, List.length_append]; omega
              replace g5 := Lib.hid g5
              obtain ⟨c6, g6⟩ : ∃ t, t = c5 ++ simB 0 m := ⟨_, rfl⟩
              have q5 := add_str c5 (simB 0 m) (by omega)
              rw [← g6] at q5
              have n6 : c6.length ≤ a + 18 := by rw [g6, List.length_append]; omega
              replace g6 := Lib.hid g6
              obtain ⟨c7, g7⟩ : ∃ t, t = c6 ++ simB 4 0 := ⟨_, rfl⟩
              have q6 := add_str c6 (simB 4 0) (by omega)
              rw [← g7] at q6
              have n7 : c7.length ≤ a + 21 := by rw [g7, List.length_append]; omega
              replace g7 := Lib.hid g7
              obtain ⟨c8, g8⟩ : ∃ t, t = c7 ++ simB 10 0 := ⟨_, rfl⟩
              have q7 := add_str c7 (simB 10 0) (by omega)
              rw [← g8] at q7
              have n8 : c8.length ≤ a + 24 := by rw [g8, List.length_append]; omega
              replace g8 := Lib.hid g8
              obtain ⟨c9, g9⟩ : ∃ t, t = c8 ++ simB 7 a := ⟨_, rfl⟩
              have q8 := add_str c8 (simB 7 a) (by omega)
              rw [← g9] at q8
              have n9 : c9.length ≤ a + 27 := by rw [g9, List.length_append]; omega
              replace g9 := Lib.hid g9
              obtain ⟨c10, g10⟩ : ∃ t, t = c9 ++ simB 4 0 := ⟨_, rfl⟩
              have q9 := add_str c9 (simB 4 0) (by omega)
              rw [← g10] at q9
              have n10 : c10.length ≤ a + 30 := by rw [g10, List.length_append]; omega
              replace g10 := Lib.hid g10
              obtain ⟨c11, g11⟩ : ∃ t, t = c10 ++ simB 3 0 := ⟨_, rfl⟩
              have q10 := add_str c10 (simB 3 0) (by omega)
              rw [← g11] at q10
              have n11 : c11.length ≤ a + 33 := by rw [g11, List.length_append]; omega
              replace g11 := Lib.hid g11
              replace hstep := Lib.hid hstep
              go_wp2_with fail
              refine (simple_z hB 9 0 _ _ (by first | rfl | omega) (by first | rfl | omega) (by omega) (by omega)).mono ?_
              clear hB
              rintro e w1 ⟨rfl, hB⟩
              go_wp2_with fail
              refine (simple_z hB 1 0 _ _ (by first | rfl | omega) (by first | rfl | omega) (by omega) (by omega)).mono ?_
              clear hB
              rintro e w2 ⟨rfl, hB⟩
              go_wp2_with fail
              refine (simple_z hB 0 0 _ _ (by first | rfl | omega) (by first | rfl | omega) (by omega) (by omega)).mono ?_
              clear hB
              rintro e w3 ⟨rfl, hB⟩
              go_wp2_with fail
              refine (simple_z hB 6 0 _ _ (by first | rfl | omega) (by first | rfl | omega) (by omega) (by omega)).mono ?_
              clear hB
              rintro e w4 ⟨rfl, hB⟩
              go_wp2_with fail
              refine (simple_z hB 8 (a + 18) _ _ (by first | rfl | omega) (by first | rfl | omega) (by omega) (by omega)).mono ?_
              clear hB
              rintro e w5 ⟨rfl, hB⟩
              go_wp2_with fail
              refine (simple_z hB 0 m _ _ (by first | rfl | omega) (by first | rfl | omega) (by omega) (by omega)).mono ?_
              clear hB
              rintro e w6 ⟨rfl, hB⟩
              go_wp2_with fail
              refine (simple_z hB 4 0 _ _ (by first | rfl | omega) (by first | rfl | omega) (by omega) (by omega)).mono ?_
              clear hB
              rintro e w7 ⟨rfl, hB⟩
              go_wp2_with fail
              refine (simple_z hB 10 0 _ _ (by first | rfl | omega) (by first | rfl | omega) (by omega) (by omega)).mono ?_
              clear hB
              rintro e w8 ⟨rfl, hB⟩
              go_wp2_with fail
              refine (simple_z hB 7 a _ _ (by first | rfl | omega) (by first | rfl | omega) (by omega) (by omega)).mono ?_
              clear hB
              rintro e w9 ⟨rfl, hB⟩
              go_wp2_with fail
              refine (simple_z hB 4 0 _ _ (by first | rfl | omega) (by first | rfl | omega) (by omega) (by omega)).mono ?_
              clear hB
              rintro e w10 ⟨rfl, hB⟩
              go_wp2_with fail
              refine (simple_z hB 3 0 _ _ (by first | rfl | omega) (by first | rfl | omega) (by omega) (by omega)).mono ?_
              clear hB
              rintro e w11 ⟨rfl, hB⟩
              have hfin := hstep.out _ hB
              simp only [← List.append_assoc] at hfin
              rw [← g1.out, ← g2.out, ← g3.out, ← g4.out, ← g5.out, ← g6.out, ← g7.out, ← g8.out, ← g9.out, ← g10.out, ← g11.out] at hfin
              go_wp2_with fail
              exact ⟨⟨k + 1, _, _, _, rfl, rfl, by first | rfl | go_num, by omega, by omega, hfin⟩, by simp [intOf]; omega⟩
            · have hdd : decide ((d : Int) < 13) = false := by simp; omega
              have e1 : chunkN d 13 = simLen (madeOp 13 d) := by unfold chunkN; rw [if_neg (by omega), if_neg (by omega)]
              have e2 : chunkD d 13 = afterOp (madeOp 13 d) d := by unfold chunkD; rw [if_neg (by omega), if_neg (by omega)]
              have e3 : chunkB a d 13 m = simB (madeOp 13 d) m := by unfold chunkB; rw [if_neg (by omega), if_neg (by omega)]
              rw [e1, e2, e3] at hstep
              clear e1 e2 e3
              have hbad : madeOp 13 d = if d = 16 then 10 else 9 := by unfold madeOp; rw [if_pos (by omega)]
              go_wp2_with fail
              have mk := madeOp_ok (o := 13) hd16
              by_cases hd6 : d = 16
              · have hq : madeOp 13 d = 10 := by rw [hbad, if_pos hd6]
                have hdq : ((d : Int) == 16) = true := by rw [beq_iff_eq]; omega
                replace hd6 := Lib.hid hd6
                go_quiet (fail)
                go_wp2_with fail
                refine name_wp ?_
                intro wy hwy
                have hBy : Below w.heap.size w wy := by rw [hwy]; exact below_drewN hB _
                clear hwy hB
                have hB := hBy
                clear hBy
                rw [hq] at mk hstep
                obtain ⟨mk1, _, _, _, mk2, mk3⟩ := mk
                have hER := hE.below hB
                have t0 := hER.takes 10 (by omega)
                have p0 := hER.puts 10 (by omega)
                have hq8 : simLen 10 ≤ 3 := by unfold simLen; split <;> omega
                have hlq : (simB 10 m).length ≤ 3 := by rw [simB_len]; exact hq8
                have hdp : Hid ((d : Int) - (takesOp 10 : Nat) + (putsOp 10 : Nat) = ((afterOp 10 d : Nat) : Int)) := by show _ = _; unfold afterOp; omega
                have hx1 : putsOp 10 ≤ 2 := by unfold afterOp at mk3; exact puts_le2 10
                generalize takesOp 10 = TT at *
                generalize putsOp 10 = PP at *
                generalize afterOp 10 d = dd at *
                have hx2 : IntKind.i64.wrap ((d : Int) - (TT : Int)) = (d : Int) - (TT : Int) := IntWalk.i64_in _ (by omega)
                have hx3 : IntKind.i64.wrap ((d : Int) - (TT : Int) + (PP : Int)) = (dd : Int) := by rw [hdp.out]; exact IntWalk.i64_in _ (by omega)
                obtain ⟨c1, g1⟩ : ∃ t, t = c ++ simB 10 m := ⟨_, rfl⟩
                have q0 := add_str c (simB 10 m) (by omega)
                rw [← g1] at q0 hstep
                replace hstep := Lib.hid hstep
                replace g1 := Lib.hid g1
                replace hdp := Lib.hid hdp
                replace hq := Lib.hid hq
                clear hER
                go_quiet (fail)
                go_wp2_with fail
                refine (simple_z (below_drewN hB _) 10 m _ _ (by first | rfl | omega) (by first | rfl | omega) (by omega) (by omega)).mono ?_
                clear hB
                rintro e w1 ⟨rfl, hB⟩
                have hfin := hstep.out _ hB
                go_wp2_with fail
                exact ⟨⟨k + 1, _, _, _, rfl, rfl, by first | rfl | go_num, by omega, by omega, hfin⟩, by simp [intOf]; omega⟩
              · have hq : madeOp 13 d = 9 := by rw [hbad, if_neg hd6]
                have hdq : ((d : Int) == 16) = false := by rw [beq_eq_false_iff_ne]; omega
                replace hd6 := Lib.hid hd6
                go_quiet (fail)
                go_wp2_with fail
                refine name_wp ?_
                intro wy hwy
                have hBy : Below w.heap.size w wy := by rw [hwy]; exact below_drewN hB _
                clear hwy hB
                have hB := hBy
                clear hBy
                rw [hq] at mk hstep
                obtain ⟨mk1, _, _, _, mk2, mk3⟩ := mk
                have hER := hE.below hB
                have t0 := hER.takes 9 (by omega)
                have p0 := hER.puts 9 (by omega)
                have hq8 : simLen 9 ≤ 3 := by unfold simLen; split <;> omega
                have hlq : (simB 9 m).length ≤ 3 := by rw [simB_len]; exact hq8
                have hdp : Hid ((d : Int) - (takesOp 9 : Nat) + (putsOp 9 : Nat) = ((afterOp 9 d : Nat) : Int)) := by show _ = _; unfold afterOp; omega
                have hx1 : putsOp 9 ≤ 2 := by unfold afterOp at mk3; exact puts_le2 9
                generalize takesOp 9 = TT at *
                generalize putsOp 9 = PP at *
                generalize afterOp 9 d = dd at *
                have hx2 : IntKind.i64.wrap ((d : Int) - (TT : Int)) = (d : Int) - (TT : Int) := IntWalk.i64_in _ (by omega)
                have hx3 : IntKind.i64.wrap ((d : Int) - (TT : Int) + (PP : Int)) = (dd : Int) := by rw [hdp.out]; exact IntWalk.i64_in _ (by omega)
                obtain ⟨c1, g1⟩ : ∃ t, t = c ++ simB 9 m := ⟨_, rfl⟩
                have q0 := add_str c (simB 9 m) (by omega)
                rw [← g1] at q0 hstep
                replace hstep := Lib.hid hstep
                replace g1 := Lib.hid g1
                replace hdp := Lib.hid hdp
                replace hq := Lib.hid hq
                clear hER
                go_quiet (fail)
                go_wp2_with fail
                refine (simple_z (below_drewN hB _) 9 m _ _ (by first | rfl | omega) (by first | rfl | omega) (by omega) (by omega)).mono ?_
                clear hB
                rintro e w1 ⟨rfl, hB⟩
                have hfin := hstep.out _ hB
                go_wp2_with fail
                exact ⟨⟨k + 1, _, _, _, rfl, rfl, by first | rfl | go_num, by omega, by omega, hfin⟩, by simp [intOf]; omega⟩
      · have hd40 : decide ((k : Int) < 40) = false := by simp; omega
        have heq : Hid (madeB 0 0 (prs40 zs) = c ++ simB 11 0) := by show _ = _; rw [hM.eq, prs40_end hz (by omega)]; rfl
        have l0 : (simB 11 0).length ≤ 3 := by rw [simB_len]; unfold simLen; split <;> omega
        have q0 := add_str c (simB 11 0) (by omega)
        replace hcs := Lib.hid hcs
        clear hM hall
        go_wp2_with fail
        refine (simple_z hB 11 0 _ _ (by first | rfl | omega) (by first | rfl | omega) (by omega) (by omega)).mono ?_
        clear hB
        rintro e w1 ⟨rfl, hB⟩
        go_wp2_with fail
        go_ret
        exact ⟨by rw [heq.out]; rfl, hB⟩
    · have hdn : decide ((k : Int) < (n : Int)) = false := by simpa using hlt
      have heq : Hid (madeB 0 0 (prs40 zs) = c ++ simB 11 0) := by show _ = _; rw [hM.eq, prs40_end hz (by omega)]; rfl
      have l0 : (simB 11 0).length ≤ 3 := by rw [simB_len]; unfold simLen; split <;> omega
      have q0 := add_str c (simB 11 0) (by omega)
      replace hcs := Lib.hid hcs
      clear hM hall
      go_wp2_with fail
      refine (simple_z hB 11 0 _ _ (by first | rfl | omega) (by first | rfl | omega) (by omega) (by omega)).mono ?_
      clear hB
      rintro e w1 ⟨rfl, hB⟩
      go_wp2_with fail
      go_ret
      exact ⟨by rw [heq.out]; rfl, hB⟩
end Go.Proofs.YtainohbfcehpoaaDoor
namespace Go.Proofs.YtainohbfcehpoaaDoor
open Go.RowKit Go.Shelf

theorem dec_bad {code : List UInt8} {a : Nat} (h : a < code.length) (h1 : 12 ≤ (code[a]!).toNat) : dec a (code.drop a) = none := by
  rw [drop_cons code a h]
  cases hr : code.drop (a + 1) with
  | nil => rw [dec, if_pos h1]
  | cons b r => cases r with
    | nil => rw [dec, if_pos h1]
    | cons c r => rw [dec, if_pos h1]
theorem dec_cut {code : List UInt8} {a : Nat} (h : a < code.length) (h1 : (code[a]!).toNat < 12) (h2 : longOp (code[a]!).toNat = true) (h3 : code.length < a + 3) : dec a (code.drop a) = none := by
  have hl : (code.drop (a + 1)).length ≤ 1 := by simp; omega
  rw [drop_cons code a h]
  cases hr : code.drop (a + 1) with
  | nil => rw [dec, if_neg (by omega), if_pos h2]
  | cons b r => cases r with
    | nil => rw [dec, if_neg (by omega), if_pos h2]
    | cons c r => rw [hr] at hl; simp at hl
theorem dec_long {code : List UInt8} {a : Nat} (h : a < code.length) (h1 : (code[a]!).toNat < 12) (h2 : longOp (code[a]!).toNat = true) (h3 : a + 3 ≤ code.length) :
    dec a (code.drop a) = (dec (a + 3) (code.drop (a + 3))).map (⟨a, (code[a]!).toNat, 256 * (code[a + 1]!).toNat + (code[a + 2]!).toNat⟩ :: ·) := by
  rw [drop_cons code a h, drop_cons code (a + 1) (by omega), drop_cons code (a + 2) (by omega), dec, if_neg (by omega), if_pos h2]
theorem dec_short {code : List UInt8} {a : Nat} (h : a < code.length) (h1 : (code[a]!).toNat < 12) (h2 : longOp (code[a]!).toNat = false) :
    dec a (code.drop a) = (dec (a + 1) (code.drop (a + 1))).map (⟨a, (code[a]!).toNat, 0⟩ :: ·) := by
  have h2' : ¬ longOp (code[a]!).toNat = true := by rw [h2]; decide
  rw [drop_cons code a h]
  generalize (code[a]!) = x at *
  cases hr : code.drop (a + 1) with
  | nil => (conv => lhs; rw [dec, if_neg (show ¬ 12 ≤ x.toNat by omega), if_neg h2']); rfl
  | cons b r => cases r with
    | nil => conv => lhs; rw [dec, if_neg (show ¬ 12 ≤ x.toNat by omega), if_neg h2']
    | cons c r => conv => lhs; rw [dec, if_neg (show ¬ 12 ≤ x.toNat by omega), if_neg h2']
theorem info_rin : (Tryd.prog.info? 43).map (fun i => (i.zero, i.size, i.bytes)) = some (some (.agg #[.int .i64 0, .int .i64 0, .int .i64 0]), 3, 24) := by kernel_rfl
def rinC (x : Ins) : List Value := [.int .i64 (x.off : Int), .int .i64 (x.op : Int), .int .i64 (x.opd : Int)]
def rinL (l : List Ins) : List Value := l.flatMap rinC
theorem rinL_snoc (l : List Ins) (x : Ins) : rinL (l ++ [x]) = rinL l ++ rinC x := by simp [rinL]
theorem rinL_at : ∀ (l : List Ins) (i j : Nat), i < l.length → j < 3 → (rinL l)[i * 3 + j]? = (rinC l[i]!)[j]?
  | [], i, _, h, _ => by simp at h
  | x :: l, 0, j, _, h3 => by
    simp only [rinL, List.flatMap_cons, Nat.zero_mul, Nat.zero_add, List.getElem!_cons_zero]
    rw [List.getElem?_append_left (by simp [rinC]; omega)]
  | x :: l, i + 1, j, h, h3 => by
    have ih := rinL_at l i j (by simpa using h) h3
    simp only [rinL, List.flatMap_cons]
    rw [List.getElem?_append_right (by simp [rinC]; omega)]
    rw [show (i + 1) * 3 + j - (rinC x).length = i * 3 + j by simp [rinC]; omega]
    exact ih
theorem append_rin (w : World) (base : Nat) (v : Value) (l : List Ins) (x : Ins) (hown : w.ownsRow base 43 3 v l.length (rinL l)) (b : Nat) (hA : Arr w b 43 (rinC x)) (hl : l.length ≤ 1000000) (hb : base ≤ w.heap.size) :
    ∃ v' w', (Builtin.append_ #[39, 39] 39 #[v, .slice (some ⟨b, 0, none⟩) 1 1]).run Tryd.prog w = .ok v' w' ∧ w'.ownsRow base 43 3 v' (l ++ [x]).length (rinL (l ++ [x])) ∧ w.grownBy w' v.ownBlock := by
  obtain ⟨i0, hi, hz0, hz1, hz2⟩ := info_parts info_rin
  have hcells : ∀ j u, (rinC x)[j]? = some u → w.cell? ((⟨b, 0, none⟩ : Addr).add j) = some u := by
    intro j u hu
    rw [Addr.add_mid, Nat.zero_add]
    exact hA.cell hu
  have hone : ∀ u ∈ rinC x, u.oneCell' = true := by
    intro u hu
    simp only [rinC, List.mem_cons, List.not_mem_nil, or_false] at hu
    rcases hu with rfl | rfl | rfl <;> rfl
  obtain ⟨v', w', hrun, r1, r2, r3, _⟩ := run_append_own_at (P := Tryd.prog) w base 39 39 43 i0 (.agg #[.int .i64 0, .int .i64 0, .int .i64 0]) 3 24 Tryd.underlying39 hi hz0 hz1 hz2 rfl (by decide) v l.length (rinL l) hown ⟨b, 0, none⟩ 1 1 (rinC x) rfl hcells hone (by unfold maxLen; omega) (by omega) hb
  exact ⟨v', w', hrun, by rw [List.length_append, rinL_snoc]; exact r1, r2⟩
theorem own_cells3 {w : World} {B n k : Nat} {e : TypeId} {v : Value} {xs : List Value} (h : w.ownsRow B e k v n xs) (hn : 0 < n) :
    ∃ g cap, v = .slice (some ⟨g, 0, none⟩) n cap ∧ B ≤ g ∧ n ≤ cap ∧ cap ≤ maxLen ∧ g < w.heap.size ∧ ∀ j u, xs[j]? = some u → w.cell? ⟨g, j, none⟩ = some u := by
  obtain ⟨hl, h⟩ := h
  rcases h with ⟨_, h⟩ | ⟨g, cap, cur, hv, hB, hg, h1, h2, h3, h4⟩
  · omega
  · refine ⟨g, cap, hv, hB, h1, h2, (Array.getElem?_eq_some_iff.1 hg).1, fun j u hu => ?_⟩
    rw [cell_of_row w g j cur e (0, 0) hg]
    have hj : j < n * k := by
      have := (List.getElem?_eq_some_iff.1 hu).1
      omega
    rw [← h4, List.getElem?_take, if_pos hj] at hu
    simpa using hu
theorem RefRow.keep {w w' : World} {b o : Nat} {l : List Ins} (h : RefRow w b o l) (hb : w'.heap[b]? = w.heap[b]?) : RefRow w' b o l := fun i hi =>
  ⟨(World.cell?_of_block (a := ⟨b, o + i * 3, none⟩) hb).trans (h i hi).1, (World.cell?_of_block (a := ⟨b, o + i * 3 + 1, none⟩) hb).trans (h i hi).2.1, (World.cell?_of_block (a := ⟨b, o + i * 3 + 2, none⟩) hb).trans (h i hi).2.2⟩
theorem name_exit {Q : Exit → Act → World → Prop} {e : Exit} {a : Act} {W : World} (h : ∀ w2, w2 = W → Q e a w2) : Q e a W := h _ rfl
/-- What Instructions returns. -/
def InsRPost (code : List UInt8) (w : World) (e : Ending) (w' : World) : Prop :=
  (∀ l, formed code = some l → ∃ g cap, e = .returned (.tuple #[.slice (some ⟨g, 0, none⟩) l.length cap, .bool true]) ∧ w.heap.size ≤ g ∧ g < w'.heap.size ∧ l.length ≤ cap ∧ cap ≤ maxLen ∧ RefRow w' g 0 l) ∧
  (formed code = none → e = .returned (.tuple #[.slice none 0 0, .bool false])) ∧ Below w.heap.size w w'
/-- What the first loop keeps. -/
structure InsAt (code : List UInt8) (B : Nat) (W0 : World) (a : Nat) (l : List Ins) (v : Value) (w : World) : Prop where
  own : w.ownsRow B 43 3 v l.length (rinL l)
  below : Below B W0 w
  dec : dec 0 code = (dec a (code.drop a)).map (l ++ ·)
  len : l.length ≤ a
set_option maxRecDepth 100000 in
set_option maxHeartbeats 8000000 in
theorem insR_any (code : List UInt8) (w : World) (hc : code.length ≤ 1000000) :
    Calls Tryd.prog 23 #[.string (str code)] w fun e w' => InsRPost code w e w' := by
  by_cases hlen : code.length < 1 ∨ 1024 < code.length
  · have hno : Hid (formed code = none) := by
      show _ = _
      unfold formed
      rw [if_pos]
      rcases hlen with h | h
      · exact .inl (List.length_eq_zero_iff.1 (by omega))
      · exact .inr h
    have hps := str_size code
    have hpost : InsRPost code w (.returned (.tuple #[.slice none 0 0, .bool false])) w := ⟨fun l h => (by rw [hno.out] at h; cases h), fun _ => rfl, Below.refl _ _⟩
    by_cases h1 : code.length < 1
    · have hd1 : decide ((code.length : Int) < 1) = true := by simp; omega
      go_enter Tryd.func23, Tryd.ntmps23
      go_wp2_with fail
      go_ret2
      exact hpost
    · have hd1 : decide ((code.length : Int) < 1) = false := by simp; omega
      have hd2 : decide (1024 < (code.length : Int)) = true := by simp; omega
      go_enter Tryd.func23, Tryd.ntmps23
      go_wp2_with fail
      go_ret2
      exact hpost
  · have hps := str_size code
    have hd1 : decide ((code.length : Int) < 1) = false := by simp; omega
    have hd2 : decide (1024 < (code.length : Int)) = false := by simp; omega
    have hPG : ∀ j (h : j < (str code).size), (((str code)[j].toNat : Nat) : Int) = (code[j]!.toNat : Nat) := fun j h => by
      rw [getElem!_pos code j (by rw [str_size] at h; exact h)]
      show (((str code).data[j]'_ : UInt8).toNat : Int) = _
      simp [str]
    generalize str code = P at *
    replace hPG := Lib.hid hPG
    go_enter Tryd.func23, Tryd.ntmps23
    go_wp2_with fail
    go_loopw [4, 5] (fun v i wr => ∃ (a : Nat) (l : List Ins), i = .int .i64 (a : Int) ∧ a ≤ code.length ∧ Hid (InsAt code w.heap.size w a l v wr)) (fun _ i _ => code.length - (intOf i).toNat)
    case atStart => exact ⟨0, [], rfl, Nat.zero_le _, (show Hid _ from ⟨World.ownsRow_nil _ _ _ _, Below.refl _ _, by rw [List.drop_zero]; cases h : dec 0 code <;> rfl, Nat.le_refl _⟩)⟩
    case round =>
      obtain ⟨a, l, rfl, ha, hall⟩ := hrel
      have hIA := hall.out
      clear hall
      by_cases hlt : a < code.length
      · have hd : decide ((a : Int) < (code.length : Int)) = true := by simpa using hlt
        have hj0 : a < P.size := by omega
        have hg := hPG.out a hj0
        have i0 : (0 : Int) ≤ (a : Int) := by omega
        have hor := (code[a]!).toNat_lt
        have hdb := fun h => dec_bad (code := code) (a := a) hlt h
        have hdc := fun h1 h2 h3 => dec_cut (code := code) (a := a) hlt h1 h2 h3
        have hdl := fun h1 h2 h3 => dec_long (code := code) (a := a) hlt h1 h2 h3
        have hds := fun h1 h2 => dec_short (code := code) (a := a) hlt h1 h2
        generalize (code[a]!).toNat = o at *
        have hwo : IntKind.i64.wrap (o : Int) = (o : Int) := IntWalk.i64_in _ (by omega)
        have hB1 : Below w.heap.size w (wr.alloc (.cells #[.int .i64 (a : Int), .int .i64 (o : Int), .int .i64 0] 43)) := hIA.below.alloc hIA.below.size _
        have hA1 : Arr (wr.alloc (.cells #[.int .i64 (a : Int), .int .i64 (o : Int), .int .i64 0] 43)) wr.heap.size 43 [.int .i64 (a : Int), .int .i64 (o : Int), .int .i64 0] := Arr.new rfl rfl
        have hR1 : Below wr.heap.size wr (wr.alloc (.cells #[.int .i64 (a : Int), .int .i64 (o : Int), .int .i64 0] 43)) := (Below.refl _ _).alloc (Nat.le_refl _) _
        have hwa : IntKind.i64.wrap ((a : Int) + 1) = ((a + 1 : Nat) : Int) := by rw [Int.natCast_succ]; exact IntWalk.i64_in _ (by omega)
        by_cases ho : 12 ≤ o
        · have hdo : decide (11 < (o : Int)) = true := by simp; omega
          have hno : Hid (formed code = none) := by show _ = _; refine formed_nodec ?_; rw [hIA.dec, hdb ho]; rfl
          replace hIA := Lib.hid hIA
          clear hdb hdc hdl hds
          go_wp2_with fail
          go_ret2
          exact ⟨fun l h => (by rw [hno.out] at h; cases h), fun _ => rfl, hB1⟩
        · have hdo : decide (11 < (o : Int)) = false := by simp; omega
          have hH := fun W => Lib.hid (hasOperand_any o W (by omega))
          cases hl : longOp o with
          | true =>
            rw [hl] at hH
            by_cases hfit : a + 3 ≤ code.length
            · have hdn := hdl (by omega) hl hfit
              have hda : decide (code.length < (a + 1) + 2) = false := by simp; omega
              have hdb2 : decide ((code.length : Int) < ((a + 1 : Nat) : Int) + 2) = false := by simp; omega
              have hj1 : a + 1 < P.size := by omega
              have hj2 : a + 1 + 1 < P.size := by omega
              have g1 := hPG.out (a + 1) hj1
              have g2 := hPG.out (a + 1 + 1) hj2
              rw [show code[a + 2]! = code[a + 1 + 1]! from rfl] at hdn
              have hl1 := (code[a + 1]!).toNat_lt
              have hl2 := (code[a + 1 + 1]!).toNat_lt
              generalize (code[a + 1]!).toNat = b1 at *
              generalize (code[a + 1 + 1]!).toNat = b2 at *
              have hw1 : IntKind.i64.wrap (b1 : Int) = (b1 : Int) := IntWalk.i64_in _ (by omega)
              have hw2 : IntKind.i64.wrap (b2 : Int) = (b2 : Int) := IntWalk.i64_in _ (by omega)
              have hw3 : IntKind.i64.wrap (256 * (b1 : Int)) = 256 * (b1 : Int) := IntWalk.i64_in _ (by omega)
              have hw4 : IntKind.i64.wrap (256 * (b1 : Int) + (b2 : Int)) = ((256 * b1 + b2 : Nat) : Int) := by rw [show ((256 * b1 + b2 : Nat) : Int) = 256 * (b1 : Int) + (b2 : Int) by omega]; exact IntWalk.i64_in _ (by omega)
              have hwa2 : IntKind.i64.wrap (((a + 1 : Nat) : Int) + 2) = ((a + 3 : Nat) : Int) := by rw [show ((a + 3 : Nat) : Int) = ((a + 1 : Nat) : Int) + 2 by omega]; exact IntWalk.i64_in _ (by omega)
              have hwa3 : IntKind.i64.wrap (((a + 1 : Nat) : Int) + 1) = ((a + 1 + 1 : Nat) : Int) := by rw [Int.natCast_succ (a + 1)]; exact IntWalk.i64_in _ (by omega)
              have i1 : (0 : Int) ≤ ((a + 1 : Nat) : Int) := by omega
              have i2 : (0 : Int) ≤ ((a + 1 + 1 : Nat) : Int) := by omega
              have i3 : ((a + 1 : Nat) : Int) < (code.length : Int) := by omega
              have i4 : ((a + 1 + 1 : Nat) : Int) < (code.length : Int) := by omega
              have hdc3 : decide ((code.length : Int) < ((a + 3 : Nat) : Int)) = false := by simp; omega
              have k1 : (0 : Int) ≤ (a : Int) + 1 := by omega
              have k2 : (0 : Int) ≤ (a : Int) + 1 + 1 := by omega
              have k3 : (a : Int) + 1 < (code.length : Int) := by omega
              have k4 : (a : Int) + 1 + 1 < (code.length : Int) := by omega
              have t1 : ((a : Int) + 1 + 1).toNat = a + 1 + 1 := by omega
              have t2 : ((a : Int) + 1).toNat = a + 1 := by omega
              have hwa4 : IntKind.i64.wrap ((a : Int) + 1 + 1) = (a : Int) + 1 + 1 := IntWalk.i64_in _ (by omega)
              replace hdn := Lib.hid hdn
              replace hIA := Lib.hid hIA
              clear hdb hdc hdl hds
              go_wp2_with fail
              refine (hH _).out.mono ?_
              rintro e w2 ⟨rfl, q, rfl⟩
              have hB2 := below_drewN hB1 q
              have hR2 := below_drewN hR1 q
              have hA2 := (show Arr ((wr.alloc (.cells #[.int .i64 (a : Int), .int .i64 (o : Int), .int .i64 0] 43)).drewN q) wr.heap.size 43 [.int .i64 (a : Int), .int .i64 (o : Int), .int .i64 0] from hA1)
              generalize (wr.alloc (.cells #[.int .i64 (a : Int), .int .i64 (o : Int), .int .i64 0] 43)).drewN q = w2 at *
              clear hA1 hB1 hR1
              have fB := hA2.free 2
              have c2 := hA2.cell (j := 2) rfl
              go_wp2_with fail
              go_region
              refine name_exit ?_
              intro w3 hw3
              have hA3 : Arr w3 wr.heap.size 43 [.int .i64 (a : Int), .int .i64 (o : Int), .int .i64 ((256 * b1 + b2 : Nat) : Int)] := by rw [hw3]; exact (hA2.set 2 _).drew
              have hB3 : Below w.heap.size w w3 := by rw [hw3]; exact (hB2.setCell (p := ⟨wr.heap.size, 2, none⟩) hIA.out.below.size _).drew
              have hB3r : Below wr.heap.size wr w3 := by rw [hw3]; exact (hR2.setCell (p := ⟨wr.heap.size, 2, none⟩) (Nat.le_refl _) _).drew
              clear hw3 hA2 hB2 hR2 c2 fB
              replace hIA := hIA.out
              replace hdn := hdn.out
              have hAx := hA3
              have x0 := hAx.cell (j := 0) rfl
              have x1 := hAx.cell (j := 1) rfl
              have x2 := hAx.cell (j := 2) rfl
              have hor := own_below hIA.own hB3r
              obtain ⟨v', w4, hrun, hown4, hgr4⟩ := append_rin (w3.alloc (.cells #[.int .i64 (a : Int), .int .i64 (o : Int), .int .i64 ((256 * b1 + b2 : Nat) : Int)] 43)) w.heap.size _ l ⟨a, o, 256 * b1 + b2⟩ (own_below hor ((Below.refl _ _).alloc (Nat.le_refl _) _)) w3.heap.size (Arr.new rfl rfl) (by have := hIA.len; omega) (by have := hB3.size; simp; omega)
              have hB4 : Below w.heap.size w w4 := grown_below (hB3.alloc hB3.size _) (own_below hor ((Below.refl _ _).alloc (Nat.le_refl _) _)) hgr4 (Nat.le_refl _) (by have := hB3.size; simp; omega)
              have hdec4 : dec 0 code = (dec (a + 3) (code.drop (a + 3))).map ((l ++ [⟨a, o, 256 * b1 + b2⟩]) ++ ·) := by
                rw [hIA.dec, hdn, Option.map_map]
                congr 1
                funext z
                simp
              have hfin : Hid (InsAt code w.heap.size w (a + 3) (l ++ [⟨a, o, 256 * b1 + b2⟩]) v' w4) := ⟨hown4, hB4, hdec4, by rw [List.length_append, List.length_singleton]; have := hIA.len; omega⟩
              replace hrun := Lib.hid hrun
              replace hdn := Lib.hid hdn
              replace hIA := Lib.hid hIA
              clear hgr4 hown4 hor hdec4 hB4 hAx hA3 hB3r hB3
              go_wp2_with (at_builtin; go_loud (refine wpList_append_known rfl _ _ _ _ rfl _ _ rfl rfl hrun.out ?_))
              exact ⟨⟨a + 3, _, by first | rfl | go_num, by omega, hfin⟩, by simp [intOf]; omega⟩
            · have hno : Hid (formed code = none) := by show _ = _; refine formed_nodec ?_; rw [hIA.dec, hdc (by omega) hl (by omega)]; rfl
              have hwa2 : IntKind.i64.wrap (((a + 1 : Nat) : Int) + 2) = ((a + 3 : Nat) : Int) := by rw [show ((a + 3 : Nat) : Int) = ((a + 1 : Nat) : Int) + 2 by omega]; exact IntWalk.i64_in _ (by omega)
              have hdc3 : decide ((code.length : Int) < ((a + 3 : Nat) : Int)) = true := by simp; omega
              replace hIA := Lib.hid hIA
              clear hdb hdc hdl hds
              go_wp2_with fail
              refine (hH _).out.mono ?_
              rintro e w2 ⟨rfl, q, rfl⟩
              have hB2 := below_drewN hB1 q
              go_wp2_with fail
              go_ret2
              exact ⟨fun l h => (by rw [hno.out] at h; cases h), fun _ => rfl, hB2⟩
          | false =>
            rw [hl] at hH
            have hdn := hds (by omega) hl
            have hIA2 := Lib.hid hIA
            replace hdn := Lib.hid hdn
            clear hdb hdc hdl hds hIA
            go_wp2_with fail
            refine (hH _).out.mono ?_
            rintro e w2 ⟨rfl, q, rfl⟩
            have hB3 := below_drewN hB1 q
            have hB3r := below_drewN hR1 q
            have hA3 := (show Arr ((wr.alloc (.cells #[.int .i64 (a : Int), .int .i64 (o : Int), .int .i64 0] 43)).drewN q) wr.heap.size 43 [.int .i64 (a : Int), .int .i64 (o : Int), .int .i64 0] from hA1)
            generalize (wr.alloc (.cells #[.int .i64 (a : Int), .int .i64 (o : Int), .int .i64 0] 43)).drewN q = w3 at *
            clear hA1 hB1 hR1
            have hIA := hIA2.out
            have hdn := hdn.out
            have hAx := hA3
            have x0 := hAx.cell (j := 0) rfl
            have x1 := hAx.cell (j := 1) rfl
            have x2 := hAx.cell (j := 2) rfl
            have hor := own_below hIA.own hB3r
            obtain ⟨v', w4, hrun, hown4, hgr4⟩ := append_rin (w3.alloc (.cells #[.int .i64 (a : Int), .int .i64 (o : Int), .int .i64 0] 43)) w.heap.size _ l ⟨a, o, 0⟩ (own_below hor ((Below.refl _ _).alloc (Nat.le_refl _) _)) w3.heap.size (Arr.new rfl rfl) (by have := hIA.len; omega) (by have := hB3.size; simp; omega)
            have hB4 : Below w.heap.size w w4 := grown_below (hB3.alloc hB3.size _) (own_below hor ((Below.refl _ _).alloc (Nat.le_refl _) _)) hgr4 (Nat.le_refl _) (by have := hB3.size; simp; omega)
            have hdec4 : dec 0 code = (dec (a + 1) (code.drop (a + 1))).map ((l ++ [⟨a, o, 0⟩]) ++ ·) := by
              rw [hIA.dec, hdn, Option.map_map]
              congr 1
              funext z
              simp
            have hfin : Hid (InsAt code w.heap.size w (a + 1) (l ++ [⟨a, o, 0⟩]) v' w4) := ⟨hown4, hB4, hdec4, by rw [List.length_append, List.length_singleton]; have := hIA.len; omega⟩
            replace hrun := Lib.hid hrun
            replace hdn := Lib.hid hdn
            replace hIA := Lib.hid hIA
            clear hgr4 hown4 hor hdec4 hB4 hAx hA3 hB3r hB3
            go_wp2_with (at_builtin; go_loud (refine wpList_append_known rfl _ _ _ _ rfl _ _ rfl rfl hrun.out ?_))
            exact ⟨⟨a + 1, _, by first | rfl | go_num, by omega, hfin⟩, by simp [intOf]; omega⟩
      · have hd : decide ((a : Int) < (code.length : Int)) = false := by simpa using hlt
        obtain rfl : a = code.length := by omega
        have hdec : dec 0 code = some l := by
          rw [hIA.dec, List.drop_length, dec]
          simp
        have hl0 : 0 < l.length := by
          have h1 := (evSeq_dec _ code (Nat.le_refl _) 0).1 l hdec
          have h2 := evSeq_pos code (fun e => by rw [e] at hlen; simp at hlen)
          rw [h1, List.length_map] at h2
          exact h2
        have hl1 : l.length ≤ 1024 := by have := hIA.len; omega
        obtain ⟨g, cap, hv, hgB, hcap, hcm, hgl, hcells⟩ := own_cells3 hIA.own hl0
        subst hv
        have hB := hIA.below
        have hRR : RefRow wr g 0 l := fun i hi => by
          have q0 := hcells (i * 3 + 0) _ (by rw [rinL_at l i 0 hi (by omega)]; rfl)
          have q1 := hcells (i * 3 + 1) _ (by rw [rinL_at l i 1 hi (by omega)]; rfl)
          have q2 := hcells (i * 3 + 2) _ (by rw [rinL_at l i 2 hi (by omega)]; rfl)
          simp only [Nat.zero_add]
          exact ⟨q0, q1, q2⟩
        obtain ⟨W, hW⟩ : ∃ W, W = wr := ⟨_, rfl⟩
        subst hW
        have hOps : ∀ i, i < l.length → l[i]!.op < 12 := fun i hi => (dec_laid _ _ (Nat.le_refl _) _ _ hdec).ops i hi
        replace hdec := Lib.hid hdec
        clear hIA hcells
        go_wp2_with fail
        go_loopw [7] (fun i wr => ∃ k : Nat, k ≤ l.length ∧ i = .int .i64 (k : Int) ∧ Hid (Below W.heap.size W wr ∧ ∀ i, i < k → leadOp l[i]!.op = true → ∃ j, idxOf l l[i]!.opd = some j)) (fun i _ => l.length - (intOf i).toNat)
        case atStart => exact ⟨0, Nat.zero_le _, rfl, (show Hid _ from ⟨Below.refl _ _, fun i hi => by omega⟩)⟩
        case round =>
          obtain ⟨k, hk, rfl, hall⟩ := hrel
          obtain ⟨hBk, hlead⟩ := hall.out
          clear hall
          have hBT := hB.trans (hBk.mono hB.size)
          have hRk := hRR.keep (hBk.block g hgl)
          by_cases hkl : k < l.length
          · have hdk : decide ((k : Int) < (l.length : Int)) = true := by simpa using hkl
            obtain ⟨_, m1, m2⟩ := hRk k hkl
            simp only [Nat.zero_add] at m1 m2
            have j0 : (0 : Int) ≤ (k : Int) := by omega
            have hw1k : IntKind.i64.wrap ((k : Int) + 1) = ((k + 1 : Nat) : Int) := by rw [Int.natCast_succ]; exact IntWalk.i64_in _ (by omega)
            have hLd := Lib.hid (leads_any l[k]!.op wr (hOps k hkl))
            have hnl := fun h1 h2 => formed_nolead hdec.out hkl h1 h2
            have hne := fun (h1 : leadOp l[k]!.op = true → ∃ j, idxOf l l[k]!.opd = some j) i (hi : i < k + 1) => show leadOp l[i]!.op = true → ∃ j, idxOf l l[i]!.opd = some j from (by
              by_cases e : i = k
              · subst e; exact h1
              · exact hlead i (by omega))
            have hF := fun W' (hR' : RefRow W' g 0 l) => Lib.hid (find8_any g 0 cap l l[k]!.opd W' (by omega) hR')
            generalize l[k]! = z at *
            replace hne := Lib.hid hne
            go_wp2_with fail
            refine hLd.out.mono ?_
            rintro e w2 ⟨rfl, q, rfl⟩
            have hR2 : RefRow (wr.drewN q) g 0 l := hRk
            have hB2 := below_drewN hBk q
            have m2' : (wr.drewN q).cell? ⟨g, k * 3 + 2, none⟩ = some (.int .i64 (z.opd : Int)) := m2
            generalize wr.drewN q = w2 at *
            cases hl : leadOp z.op with
            | false =>
              have hfin : Hid (Below W.heap.size W w2 ∧ ∀ i, i < k + 1 → leadOp l[i]!.op = true → ∃ j, idxOf l l[i]!.opd = some j) := ⟨hB2, hne.out fun h => (by rw [hl] at h; cases h)⟩
              go_wp2_with fail
              exact ⟨⟨k + 1, by omega, by first | rfl | go_num, hfin⟩, by simp [intOf]; omega⟩
            | true =>
              go_wp2_with fail
              refine (hF _ hR2).out.mono ?_
              rintro e w2 ⟨rfl, rfl⟩
              cases hix : idxOf l z.opd with
              | none =>
                have hno := Lib.hid (hnl hl hix)
                have hfz : findZ l z.opd = -1 := by rw [findZ, hix]
                have hBB := hB.trans (hB2.mono hB.size)
                replace hix := Lib.hid hix
                go_wp2_with fail
                go_ret2
                exact ⟨fun l h => (by rw [hno.out] at h; cases h), fun _ => rfl, hBB⟩
              | some x =>
                have hfz : findZ l z.opd = (x : Int) := by rw [findZ, hix]
                have hdz : decide ((x : Int) < 0) = false := by simp
                have hfin : Hid (Below W.heap.size W w2 ∧ ∀ i, i < k + 1 → leadOp l[i]!.op = true → ∃ j, idxOf l l[i]!.opd = some j) := ⟨hB2, hne.out fun _ => ⟨x, hix⟩⟩
                replace hix := Lib.hid hix
                go_wp2_with fail
                exact ⟨⟨k + 1, by omega, by first | rfl | go_num, hfin⟩, by simp [intOf]; omega⟩
          · have hdk : decide ((k : Int) < (l.length : Int)) = false := by simpa using hkl
            obtain rfl : k = l.length := by omega
            have hyes : Hid (formed code = some l) := formed_mk (fun e => by rw [e] at hlen; simp at hlen) (by omega) hdec.out (fun i hi hl => hlead i hi hl)
            have hgw : g < wr.heap.size := Nat.lt_of_lt_of_le hgl hBk.size
            go_wp2_with fail
            go_ret2
            refine ⟨fun l' h => ?_, fun h => (by rw [hyes.out] at h; cases h), hBT⟩
            rw [hyes.out] at h
            injection h with h
            subst h
            exact ⟨g, cap, rfl, hgB, hgw, hcap, hcm, hRk⟩
end Go.Proofs.YtainohbfcehpoaaDoor
