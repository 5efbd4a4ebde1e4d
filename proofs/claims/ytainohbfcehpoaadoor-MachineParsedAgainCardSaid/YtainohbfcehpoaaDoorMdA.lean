/-
  The contract of the reference's Made. (Printed by wip/tools/genmade.py.)
-/
import Derived.Test.YtainohbfcehpoaaDoorMbF
import Derived.Test.YtainohbfcehpoaaDoorMc2
import Derived.Test.YtainohbfcehpoaaDoorMpk
namespace Go.Proofs.YtainohbfcehpoaaDoor
open Go.RowKit Go.Shelf

/-- The variables that the reference reads, too. -/
structure EnvR (w : World) : Prop where
  env : Env w
  takes : ∀ o, o < 12 → w.cell? ⟨0, o, none⟩ = some (.int .i64 (takesOp o : Nat))
  puts : ∀ o, o < 12 → w.cell? ⟨1, o, none⟩ = some (.int .i64 (putsOp o : Nat))
theorem EnvR.below {w w' : World} (h : EnvR w) (hb : Below w.heap.size w w') : EnvR w' :=
  ⟨h.env.below hb, fun o ho => cell_below (h.takes o ho) hb, fun o ho => cell_below (h.puts o ho) hb⟩
/-- Integers as pairs: an operation, a number. -/
def prs : List Int → List (Nat × Nat)
  | a :: b :: r => (pickv a 14, pickv b 300) :: prs r
  | _ => []
theorem prs_len : ∀ (n : Nat) (zs : List Int), zs.length = n * 2 → (prs zs).length = n
  | 0, zs, h => by
    have : zs = [] := List.length_eq_zero_iff.1 (by omega)
    subst this; rfl
  | n + 1, zs, h => by
    match zs, h with
    | a :: b :: r, h => rw [prs, List.length_cons, prs_len n r (by simp at h; omega)]
    | [], h => simp at h
    | [_], h => simp at h; omega
theorem prs_at : ∀ (n : Nat) (zs : List Int), zs.length = n * 2 → ∀ k, k < n → (prs zs)[k]? = some (pickv zs[k * 2]! 14, pickv zs[k * 2 + 1]! 300)
  | 0, _, _, k, hk => by omega
  | n + 1, zs, h, k, hk => by
    match zs, h with
    | a :: b :: r, h =>
      cases k with
      | zero => rfl
      | succ k =>
        rw [prs, List.getElem?_cons_succ, prs_at n r (by simp at h; omega) k (by omega), show (k + 1) * 2 = k * 2 + 1 + 1 by omega]
        rfl
    | [], h => simp at h
    | [_], h => simp at h; omega
theorem prs_lt : ∀ (zs : List Int), ∀ p ∈ prs zs, p.1 < 14 ∧ p.2 < 300
  | a :: b :: r, p, hp => by
    rcases List.mem_cons.1 hp with rfl | hp
    · exact ⟨pickv_lt _ _ (by omega), pickv_lt _ _ (by omega)⟩
    · exact prs_lt r p hp
  | [], p, hp => by cases hp
  | [_], p, hp => by cases hp
/-- The pairs that are used. -/
def prs40 (zs : List Int) : List (Nat × Nat) := (prs zs).take 40
theorem prs40_len {zs : List Int} : (prs40 zs).length ≤ 40 := by unfold prs40; rw [List.length_take]; omega
theorem prs40_lt {zs : List Int} : ∀ p ∈ prs40 zs, p.2 < 300 := fun p hp => (prs_lt zs p (List.mem_of_mem_take hp)).2
theorem prs40_drop {n : Nat} {zs : List Int} (h : zs.length = n * 2) {k : Nat} (hk : k < n) (h40 : k < 40) : (prs40 zs).drop k = (pickv zs[k * 2]! 14, pickv zs[k * 2 + 1]! 300) :: (prs40 zs).drop (k + 1) := by
  have hl : k < (prs40 zs).length := by unfold prs40; rw [List.length_take, prs_len n zs h]; omega
  have hg : (prs40 zs)[k]? = some (pickv zs[k * 2]! 14, pickv zs[k * 2 + 1]! 300) := by
    unfold prs40
    rw [List.getElem?_take, if_pos h40, prs_at n zs h k hk]
  rw [List.drop_eq_getElem_cons hl]
  rw [List.getElem?_eq_getElem hl] at hg
  injection hg with hg
  rw [hg]
theorem prs40_end {n : Nat} {zs : List Int} (h : zs.length = n * 2) {k : Nat} (hk : ¬ (k < n ∧ k < 40)) : (prs40 zs).drop k = [] := by
  refine List.drop_eq_nil_of_le ?_
  unfold prs40
  rw [List.length_take, prs_len n zs h]
  omega
/-- Simple, its arguments as the walk finds them. -/
theorem puts_le2 (o : Nat) : putsOp o ≤ 2 := by
  unfold putsOp
  by_cases h : o < 12
  · have h12 : o = 0 ∨ o = 1 ∨ o = 2 ∨ o = 3 ∨ o = 4 ∨ o = 5 ∨ o = 6 ∨ o = 7 ∨ o = 8 ∨ o = 9 ∨ o = 10 ∨ o = 11 := by omega
    rcases h12 with rfl | rfl | rfl | rfl | rfl | rfl | rfl | rfl | rfl | rfl | rfl | rfl <;> decide
  · rw [List.getD_eq_getElem?_getD, List.getElem?_eq_none (by simp; omega)]
    exact Nat.zero_le _
theorem simple_z {W0 w : World} (hB : Below W0.heap.size W0 w) (o n : Nat) (zo zn : Int) (h1 : zo = (o : Int)) (h2 : zn = (n : Int)) (ho : o < 12) (hn : n < 65536) :
    Calls Tryd.prog 26 #[.int .i64 zo, .int .i64 zn] w fun e w' => e = .returned (.string (str (simB o n))) ∧ Below W0.heap.size W0 w' := by
  subst h1 h2
  exact (simple_any o n w ho hn).mono fun e w' ⟨h, hb⟩ => ⟨h, hB.trans (hb.mono hB.size)⟩
/-- What the loop keeps. -/
structure MadeAt (zs : List Int) (B : Nat) (W0 : World) (k a d : Nat) (c : List UInt8) (w : World) : Prop where
  len : c.length = a
  le : a ≤ 19 * k
  dep : d ≤ 16
  eq : madeB 0 0 (prs40 zs) = c ++ madeB a d ((prs40 zs).drop k)
  below : Below B W0 w
theorem MadeAt.step {zs : List Int} {B : Nat} {W0 w w' : World} {k a d o m : Nat} {c : List UInt8} (h : MadeAt zs B W0 k a d c w) (hdr : (prs40 zs).drop k = (o, m) :: (prs40 zs).drop (k + 1)) (hb : Below B W0 w') :
    MadeAt zs B W0 (k + 1) (a + chunkN d o) (chunkD d o) (c ++ chunkB a d o m) w' := by
  refine ⟨by rw [List.length_append, chunkB_len, h.len], ?_, chunkD_le o h.dep, ?_, hb⟩
  · have := (chunkN_le d o).2
    have := h.le
    omega
  · rw [h.eq, hdr, madeB, List.append_assoc]

set_option maxRecDepth 100000 in
set_option maxHeartbeats 8000000 in
theorem Made_any (v : Value) (n : Nat) (zs : List Int) (w : World) (hs : SliceAt w w.heap.size v n (zs.map (Value.int .i64))) (hz : zs.length = n * 2) (hI : ∀ z ∈ zs, I64 z) (hE : EnvR w) :
    Calls Tryd.prog 12 #[v] w fun e w' => e = .returned (.string (str (madeB 0 0 (prs40 zs)))) ∧ Below w.heap.size w w' := by
  obtain ⟨va, vc, rfl, hle, hvc, hcs⟩ := hs
  unfold maxLen at hvc
  go_enter Tryd.func12, Tryd.ntmps12
  go_wp2_with fail
  go_loopw [3, 4, 5] (fun s e i wr => ∃ (k a d : Nat) (c : List UInt8), s = .string (str c) ∧ e = .int .i64 (d : Int) ∧ i = .int .i64 (k : Int) ∧ k ≤ n ∧ k ≤ 40 ∧ Hid (MadeAt zs w.heap.size w k a d c wr)) (fun _ _ i _ => n - (intOf i).toNat)
  case atStart => exact ⟨0, 0, 0, [], rfl, rfl, rfl, Nat.zero_le _, Nat.zero_le _, (show Hid _ from ⟨rfl, Nat.zero_le _, Nat.zero_le _, rfl, Below.refl _ _⟩)⟩
  case round =>
    obtain ⟨k, a, d, c, rfl, rfl, rfl, hk, hk40, hall⟩ := hrel
    have hM := hall.out
    have hB := hM.below
    have hla : (str c).size = a := by rw [str_size]; exact hM.len
    have hlc := hM.len
    have hale := hM.le
    have hd16 := hM.dep
    by_cases hlt : k < n
    · have hdn : decide ((k : Int) < (n : Int)) = true := by simpa using hlt
      by_cases h40 : k < 40
      · have hd40 : decide ((k : Int) < 40) = true := by simp; omega
        obtain ⟨b, o0, rfl, hbl, hcx⟩ := hcs (by omega)
        have hc2 := fun j u hu => (hB.cell (p := ⟨b, o0 + j, none⟩) hbl).trans (hcx j u hu)
        have i0 : k * 2 < zs.length := by omega
        have i1 : k * 2 + 1 < zs.length := by omega
        have m0 := hc2 (k * 2) (.int .i64 zs[k * 2]!) (by rw [List.getElem?_map, List.getElem?_eq_getElem i0, getElem!_pos zs _ i0]; rfl)
        have m1 := hc2 (k * 2 + 1) (.int .i64 zs[k * 2 + 1]!) (by rw [List.getElem?_map, List.getElem?_eq_getElem i1, getElem!_pos zs _ i1]; rfl)
        rw [← Nat.add_assoc] at m1
        have I0 : I64 zs[k * 2]! := by rw [getElem!_pos zs _ i0]; exact hI _ (List.getElem_mem i0)
        have I1 : I64 zs[k * 2 + 1]! := by rw [getElem!_pos zs _ i1]; exact hI _ (List.getElem_mem i1)
        have hdrop := prs40_drop hz hlt h40
        have hER := hE.below hB
        have hT := Lib.hid hER.takes
        have hP := Lib.hid hER.puts
        have ho14 := pickv_lt zs[k * 2]! 14 (by omega)
        have hn300 := pickv_lt zs[k * 2 + 1]! 300 (by omega)
        have pk1 := Lib.hid (pickR_any zs[k * 2 + 1]! 300 wr I1 (by omega) (by omega))
        have pk0 := Lib.hid (pickR_any zs[k * 2]! 14 wr I0 (by omega) (by omega))
        generalize pickv zs[k * 2]! 14 = o at *
        generalize pickv zs[k * 2 + 1]! 300 = m at *
        generalize zs[k * 2]! = z0 at *
        generalize zs[k * 2 + 1]! = z1 at *
        have hstep := fun w' (hb : Below w.heap.size w w') => Lib.hid (hM.step hdrop hb)
        have hw1k : IntKind.i64.wrap ((k : Int) + 1) = ((k + 1 : Nat) : Int) := by rw [Int.natCast_succ]; exact IntWalk.i64_in _ (by omega)
        have i2 : 0 ≤ (k : Int) := by omega
        replace hcs := Lib.hid hcs
        replace hcx := Lib.hid hcx
        replace hc2 := Lib.hid hc2
        replace hdrop := Lib.hid hdrop
        clear hc2 hcx hM hall hER I0 I1 i0 i1
        go_wp2_with fail
        refine pk1.out.mono ?_
        rintro e _ ⟨rfl, rfl⟩
        go_wp2_with fail
        refine pk0.out.mono ?_
        rintro e _ ⟨rfl, rfl⟩
        clear pk0 pk1 m0 m1
        have hmod : Int.tmod (m : Int) 2 = ((m % 2 : Nat) : Int) := by rw [Int.tmod_eq_emod_of_nonneg (by omega)]; omega
        by_cases ho12 : o < 12
        · have hq12 : ((o : Int) == 12) = false := by rw [beq_eq_false_iff_ne]; omega
          have hq13 : ((o : Int) == 13) = false := by rw [beq_eq_false_iff_ne]; omega
          have e1 : chunkN d o = simLen (madeOp o d) := by unfold chunkN; rw [if_neg (by omega), if_neg (by omega)]
          have e2 : chunkD d o = afterOp (madeOp o d) d := by unfold chunkD; rw [if_neg (by omega), if_neg (by omega)]
          have e3 : chunkB a d o m = simB (madeOp o d) m := by unfold chunkB; rw [if_neg (by omega), if_neg (by omega)]
          rw [e1, e2, e3] at hstep
          clear e1 e2 e3
          by_cases ho7 : o = 7
          · subst ho7
            have hbad : madeOp 7 d = if d = 16 then 10 else 9 := by unfold madeOp; rw [if_pos (by omega)]
            go_wp2_with fail
            have mk := madeOp_ok (o := 7) hd16
            by_cases hd6 : d = 16
            · have hq : madeOp 7 d = 10 := by rw [hbad, if_pos hd6]
              have hdq : ((d : Int) == 16) = true := by rw [beq_iff_eq]; omega
              replace hd6 := Lib.hid hd6
              go_quiet (fail)
              go_wp2_with fail
              refine name_wp ?_
              intro wy hwy
              have hBy : Below w.heap.size w wy := by rw [hwy]; exact below_drewN hB _
              clear hwy hB
              have hB := hBy
              clear hBy
              rw [hq] at mk hstep
              obtain ⟨mk1, _, _, _, mk2, mk3⟩ := mk
              have hER := hE.below hB
              have t0 := hER.takes 10 (by omega)
              have p0 := hER.puts 10 (by omega)
              have hq8 : simLen 10 ≤ 3 := by unfold simLen; split <;> omega
              have hlq : (simB 10 m).length ≤ 3 := by rw [simB_len]; exact hq8
              have hdp : Hid ((d : Int) - (takesOp 10 : Nat) + (putsOp 10 : Nat) = ((afterOp 10 d : Nat) : Int)) := by show _ = _; unfold afterOp; omega
              have hx1 : putsOp 10 ≤ 2 := by unfold afterOp at mk3; exact puts_le2 10
              generalize takesOp 10 = TT at *
              generalize putsOp 10 = PP at *
              generalize afterOp 10 d = dd at *
              have hx2 : IntKind.i64.wrap ((d : Int) - (TT : Int)) = (d : Int) - (TT : Int) := IntWalk.i64_in _ (by omega)
              have hx3 : IntKind.i64.wrap ((d : Int) - (TT : Int) + (PP : Int)) = (dd : Int) := by rw [hdp.out]; exact IntWalk.i64_in _ (by omega)
              obtain ⟨c1, g1⟩ : ∃ t, t = c ++ simB 10 m := ⟨_, rfl⟩
              have q0 := add_str c (simB 10 m) (by omega)
              rw [← g1] at q0 hstep
              replace hstep := Lib.hid hstep
              replace g1 := Lib.hid g1
              replace hdp := Lib.hid hdp
              replace hq := Lib.hid hq
              clear hER
              go_quiet (fail)
              go_wp2_with fail
              refine (simple_z (below_drewN hB _) 10 m _ _ (by first | rfl | omega) (by first | rfl | omega) (by omega) (by omega)).mono ?_
              clear hB
              rintro e w1 ⟨rfl, hB⟩
              have hfin := hstep.out _ hB
              go_wp2_with fail
              exact ⟨⟨k + 1, _, _, _, rfl, rfl, by first | rfl | go_num, by omega, by omega, hfin⟩, by simp [intOf]; omega⟩
            · have hq : madeOp 7 d = 9 := by rw [hbad, if_neg hd6]
              have hdq : ((d : Int) == 16) = false := by rw [beq_eq_false_iff_ne]; omega
              replace hd6 := Lib.hid hd6
              go_quiet (fail)
              go_wp2_with fail
              refine name_wp ?_
              intro wy hwy
              have hBy : Below w.heap.size w wy := by rw [hwy]; exact below_drewN hB _
              clear hwy hB
              have hB := hBy
              clear hBy
              rw [hq] at mk hstep
              obtain ⟨mk1, _, _, _, mk2, mk3⟩ := mk
              have hER := hE.below hB
              have t0 := hER.takes 9 (by omega)
              have p0 := hER.puts 9 (by omega)
              have hq8 : simLen 9 ≤ 3 := by unfold simLen; split <;> omega
              have hlq : (simB 9 m).length ≤ 3 := by rw [simB_len]; exact hq8
              have hdp : Hid ((d : Int) - (takesOp 9 : Nat) + (putsOp 9 : Nat) = ((afterOp 9 d : Nat) : Int)) := by show _ = _; unfold afterOp; omega
              have hx1 : putsOp 9 ≤ 2 := by unfold afterOp at mk3; exact puts_le2 9
              generalize takesOp 9 = TT at *
              generalize putsOp 9 = PP at *
              generalize afterOp 9 d = dd at *
              have hx2 : IntKind.i64.wrap ((d : Int) - (TT : Int)) = (d : Int) - (TT : Int) := IntWalk.i64_in _ (by omega)
              have hx3 : IntKind.i64.wrap ((d : Int) - (TT : Int) + (PP : Int)) = (dd : Int) := by rw [hdp.out]; exact IntWalk.i64_in _ (by omega)
              obtain ⟨c1, g1⟩ : ∃ t, t = c ++ simB 9 m := ⟨_, rfl⟩
              have q0 := add_str c (simB 9 m) (by omega)
              rw [← g1] at q0 hstep
              replace hstep := Lib.hid hstep
              replace g1 := Lib.hid g1
              replace hdp := Lib.hid hdp
              replace hq := Lib.hid hq
              clear hER
              go_quiet (fail)
              go_wp2_with fail
              refine (simple_z (below_drewN hB _) 9 m _ _ (by first | rfl | omega) (by first | rfl | omega) (by omega) (by omega)).mono ?_
              clear hB
              rintro e w1 ⟨rfl, hB⟩
              have hfin := hstep.out _ hB
              go_wp2_with fail
              exact ⟨⟨k + 1, _, _, _, rfl, rfl, by first | rfl | go_num, by omega, by omega, hfin⟩, by simp [intOf]; omega⟩
          by_cases ho8 : o = 8
          · subst ho8
            have hbad : madeOp 8 d = if d = 16 then 10 else 9 := by unfold madeOp; rw [if_pos (by omega)]
            go_wp2_with fail
            have mk := madeOp_ok (o := 8) hd16
            by_cases hd6 : d = 16
            · have hq : madeOp 8 d = 10 := by rw [hbad, if_pos hd6]
              have hdq : ((d : Int) == 16) = true := by rw [beq_iff_eq]; omega
              replace hd6 := Lib.hid hd6
              go_quiet (fail)
              go_wp2_with fail
              refine name_wp ?_
              intro wy hwy
              have hBy : Below w.heap.size w wy := by rw [hwy]; exact below_drewN hB _
              clear hwy hB
              have hB := hBy
              clear hBy
              rw [hq] at mk hstep
              obtain ⟨mk1, _, _, _, mk2, mk3⟩ := mk
              have hER := hE.below hB
              have t0 := hER.takes 10 (by omega)
              have p0 := hER.puts 10 (by omega)
              have hq8 : simLen 10 ≤ 3 := by unfold simLen; split <;> omega
              have hlq : (simB 10 m).length ≤ 3 := by rw [simB_len]; exact hq8
              have hdp : Hid ((d : Int) - (takesOp 10 : Nat) + (putsOp 10 : Nat) = ((afterOp 10 d : Nat) : Int)) := by show _ = _; unfold afterOp; omega
              have hx1 : putsOp 10 ≤ 2 := by unfold afterOp at mk3; exact puts_le2 10
              generalize takesOp 10 = TT at *
              generalize putsOp 10 = PP at *
              generalize afterOp 10 d = dd at *
              have hx2 : IntKind.i64.wrap ((d : Int) - (TT : Int)) = (d : Int) - (TT : Int) := IntWalk.i64_in _ (by omega)
              have hx3 : IntKind.i64.wrap ((d : Int) - (TT : Int) + (PP : Int)) = (dd : Int) := by rw [hdp.out]; exact IntWalk.i64_in _ (by omega)
              obtain ⟨c1, g1⟩ : ∃ t, t = c ++ simB 10 m := ⟨_, rfl⟩
              have q0 := add_str c (simB 10 m) (by omega)
              rw [← g1] at q0 hstep
              replace hstep := Lib.hid hstep
              replace g1 := Lib.hid g1
              replace hdp := Lib.hid hdp
              replace hq := Lib.hid hq
              clear hER
              go_quiet (fail)
              go_wp2_with fail
              refine (simple_z (below_drewN hB _) 10 m _ _ (by first | rfl | omega) (by first | rfl | omega) (by omega) (by omega)).mono ?_
              clear hB
              rintro e w1 ⟨rfl, hB⟩
              have hfin := hstep.out _ hB
              go_wp2_with fail
              exact ⟨⟨k + 1, _, _, _, rfl, rfl, by first | rfl | go_num, by omega, by omega, hfin⟩, by simp [intOf]; omega⟩
            · have hq : madeOp 8 d = 9 := by rw [hbad, if_neg hd6]
              have hdq : ((d : Int) == 16) = false := by rw [beq_eq_false_iff_ne]; omega
              replace hd6 := Lib.hid hd6
              go_quiet (fail)
              go_wp2_with fail
              refine name_wp ?_
              intro wy hwy
              have hBy : Below w.heap.size w wy := by rw [hwy]; exact below_drewN hB _
              clear hwy hB
              have hB := hBy
              clear hBy
              rw [hq] at mk hstep
              obtain ⟨mk1, _, _, _, mk2, mk3⟩ := mk
              have hER := hE.below hB
              have t0 := hER.takes 9 (by omega)
              have p0 := hER.puts 9 (by omega)
              have hq8 : simLen 9 ≤ 3 := by unfold simLen; split <;> omega
              have hlq : (simB 9 m).length ≤ 3 := by rw [simB_len]; exact hq8
              have hdp : Hid ((d : Int) - (takesOp 9 : Nat) + (putsOp 9 : Nat) = ((afterOp 9 d : Nat) : Int)) := by show _ = _; unfold afterOp; omega
              have hx1 : putsOp 9 ≤ 2 := by unfold afterOp at mk3; exact puts_le2 9
              generalize takesOp 9 = TT at *
              generalize putsOp 9 = PP at *
              generalize afterOp 9 d = dd at *
              have hx2 : IntKind.i64.wrap ((d : Int) - (TT : Int)) = (d : Int) - (TT : Int) := IntWalk.i64_in _ (by omega)
              have hx3 : IntKind.i64.wrap ((d : Int) - (TT : Int) + (PP : Int)) = (dd : Int) := by rw [hdp.out]; exact IntWalk.i64_in _ (by omega)
              obtain ⟨c1, g1⟩ : ∃ t, t = c ++ simB 9 m := ⟨_, rfl⟩
              have q0 := add_str c (simB 9 m) (by omega)
              rw [← g1] at q0 hstep
              replace hstep := Lib.hid hstep
              replace g1 := Lib.hid g1
              replace hdp := Lib.hid hdp
              replace hq := Lib.hid hq
              clear hER
              go_quiet (fail)
              go_wp2_with fail
              refine (simple_z (below_drewN hB _) 9 m _ _ (by first | rfl | omega) (by first | rfl | omega) (by omega) (by omega)).mono ?_
              clear hB
              rintro e w1 ⟨rfl, hB⟩
              have hfin := hstep.out _ hB
              go_wp2_with fail
              exact ⟨⟨k + 1, _, _, _, rfl, rfl, by first | rfl | go_num, by omega, by omega, hfin⟩, by simp [intOf]; omega⟩
          by_cases ho11 : o = 11
          · subst ho11
            have hbad : madeOp 11 d = if d = 16 then 10 else 9 := by unfold madeOp; rw [if_pos (by omega)]
            go_wp2_with fail
            have mk := madeOp_ok (o := 11) hd16
            by_cases hd6 : d = 16
            · have hq : madeOp 11 d = 10 := by rw [hbad, if_pos hd6]
              have hdq : ((d : Int) == 16) = true := by rw [beq_iff_eq]; omega
              replace hd6 := Lib.hid hd6
              go_quiet (fail)
              go_wp2_with fail
              refine name_wp ?_
              intro wy hwy
              have hBy : Below w.heap.size w wy := by rw [hwy]; exact below_drewN hB _
              clear hwy hB
              have hB := hBy
              clear hBy
              rw [hq] at mk hstep
              obtain ⟨mk1, _, _, _, mk2, mk3⟩ := mk
              have hER := hE.below hB
              have t0 := hER.takes 10 (by omega)
              have p0 := hER.puts 10 (by omega)
              have hq8 : simLen 10 ≤ 3 := by unfold simLen; split <;> omega
              have hlq : (simB 10 m).length ≤ 3 := by rw [simB_len]; exact hq8
              have hdp : Hid ((d : Int) - (takesOp 10 : Nat) + (putsOp 10 : Nat) = ((afterOp 10 d : Nat) : Int)) := by show _ = _; unfold afterOp; omega
              have hx1 : putsOp 10 ≤ 2 := by unfold afterOp at mk3; exact puts_le2 10
              generalize takesOp 10 = TT at *
              generalize putsOp 10 = PP at *
              generalize afterOp 10 d = dd at *
              have hx2 : IntKind.i64.wrap ((d : Int) - (TT : Int)) = (d : Int) - (TT : Int) := IntWalk.i64_in _ (by omega)
              have hx3 : IntKind.i64.wrap ((d : Int) - (TT : Int) + (PP : Int)) = (dd : Int) := by rw [hdp.out]; exact IntWalk.i64_in _ (by omega)
              obtain ⟨c1, g1⟩ : ∃ t, t = c ++ simB 10 m := ⟨_, rfl⟩
              have q0 := add_str c (simB 10 m) (by omega)
              rw [← g1] at q0 hstep
              replace hstep := Lib.hid hstep
              replace g1 := Lib.hid g1
              replace hdp := Lib.hid hdp
              replace hq := Lib.hid hq
              clear hER
              go_quiet (fail)
              go_wp2_with fail
              refine (simple_z (below_drewN hB _) 10 m _ _ (by first | rfl | omega) (by first | rfl | omega) (by omega) (by omega)).mono ?_
              clear hB
              rintro e w1 ⟨rfl, hB⟩
              have hfin := hstep.out _ hB
              go_wp2_with fail
              exact ⟨⟨k + 1, _, _, _, rfl, rfl, by first | rfl | go_num, by omega, by omega, hfin⟩, by simp [intOf]; omega⟩
            · have hq : madeOp 11 d = 9 := by rw [hbad, if_neg hd6]
              have hdq : ((d : Int) == 16) = false := by rw [beq_eq_false_iff_ne]; omega
              replace hd6 := Lib.hid hd6
              go_quiet (fail)
              go_wp2_with fail
              refine name_wp ?_
              intro wy hwy
              have hBy : Below w.heap.size w wy := by rw [hwy]; exact below_drewN hB _
              clear hwy hB
              have hB := hBy
              clear hBy
              rw [hq] at mk hstep
              obtain ⟨mk1, _, _, _, mk2, mk3⟩ := mk
              have hER := hE.below hB
              have t0 := hER.takes 9 (by omega)
              have p0 := hER.puts 9 (by omega)
              have hq8 : simLen 9 ≤ 3 := by unfold simLen; split <;> omega
              have hlq : (simB 9 m).length ≤ 3 := by rw [simB_len]; exact hq8
              have hdp : Hid ((d : Int) - (takesOp 9 : Nat) + (putsOp 9 : Nat) = ((afterOp 9 d : Nat) : Int)) := by show _ = _; unfold afterOp; omega
              have hx1 : putsOp 9 ≤ 2 := by unfold afterOp at mk3; exact puts_le2 9
              generalize takesOp 9 = TT at *
              generalize putsOp 9 = PP at *
              generalize afterOp 9 d = dd at *
              have hx2 : IntKind.i64.wrap ((d : Int) - (TT : Int)) = (d : Int) - (TT : Int) := IntWalk.i64_in _ (by omega)
              have hx3 : IntKind.i64.wrap ((d : Int) - (TT : Int) + (PP : Int)) = (dd : Int) := by rw [hdp.out]; exact IntWalk.i64_in _ (by omega)
              obtain ⟨c1, g1⟩ : ∃ t, t = c ++ simB 9 m := ⟨_, rfl⟩
              have q0 := add_str c (simB 9 m) (by omega)
              rw [← g1] at q0 hstep
              replace hstep := Lib.hid hstep
              replace g1 := Lib.hid g1
              replace hdp := Lib.hid hdp
              replace hq := Lib.hid hq
              clear hER
              go_quiet (fail)
              go_wp2_with fail
              refine (simple_z (below_drewN hB _) 9 m _ _ (by first | rfl | omega) (by first | rfl | omega) (by omega) (by omega)).mono ?_
              clear hB
              rintro e w1 ⟨rfl, hB⟩
              have hfin := hstep.out _ hB
              go_wp2_with fail
              exact ⟨⟨k + 1, _, _, _, rfl, rfl, by first | rfl | go_num, by omega, by omega, hfin⟩, by simp [intOf]; omega⟩
          have hg12 : decide (12 ≤ (o : Int)) = false := by simp; omega
          have hg7 : ((o : Int) == 7) = false := by rw [beq_eq_false_iff_ne]; omega
          have hg8 : ((o : Int) == 8) = false := by rw [beq_eq_false_iff_ne]; omega
          have hg11 : ((o : Int) == 11) = false := by rw [beq_eq_false_iff_ne]; omega
          have hER0 := hE.below hB
          have t00 := hER0.takes o ho12
          have p00 := hER0.puts o ho12
          have hP2 := puts_le2 o
          clear hER0
          by_cases hdt : d < takesOp o
          · have hdl : decide ((d : Int) < ((takesOp o : Nat) : Int)) = true := by simp; omega
            have hbad : madeOp o d = if d = 16 then 10 else 9 := by unfold madeOp; rw [if_pos (by omega)]
            go_wp2_with fail
            have mk := madeOp_ok (o := o) hd16
            by_cases hd6 : d = 16
            · have hq : madeOp o d = 10 := by rw [hbad, if_pos hd6]
              have hdq : ((d : Int) == 16) = true := by rw [beq_iff_eq]; omega
              replace hd6 := Lib.hid hd6
              go_quiet (fail)
              go_wp2_with fail
              refine name_wp ?_
              intro wy hwy
              have hBy : Below w.heap.size w wy := by rw [hwy]; exact below_drewN hB _
              clear hwy hB t00 p00
              have hB := hBy
              clear hBy
              rw [hq] at mk hstep
              obtain ⟨mk1, _, _, _, mk2, mk3⟩ := mk
              have hER := hE.below hB
              have t0 := hER.takes 10 (by omega)
              have p0 := hER.puts 10 (by omega)
              have hq8 : simLen 10 ≤ 3 := by unfold simLen; split <;> omega
              have hlq : (simB 10 m).length ≤ 3 := by rw [simB_len]; exact hq8
              have hdp : Hid ((d : Int) - (takesOp 10 : Nat) + (putsOp 10 : Nat) = ((afterOp 10 d : Nat) : Int)) := by show _ = _; unfold afterOp; omega
              have hx1 : putsOp 10 ≤ 2 := by unfold afterOp at mk3; exact puts_le2 10
              generalize takesOp 10 = TT at *
              generalize putsOp 10 = PP at *
              generalize afterOp 10 d = dd at *
              have hx2 : IntKind.i64.wrap ((d : Int) - (TT : Int)) = (d : Int) - (TT : Int) := IntWalk.i64_in _ (by omega)
              have hx3 : IntKind.i64.wrap ((d : Int) - (TT : Int) + (PP : Int)) = (dd : Int) := by rw [hdp.out]; exact IntWalk.i64_in _ (by omega)
              obtain ⟨c1, g1⟩ : ∃ t, t = c ++ simB 10 m := ⟨_, rfl⟩
              have q0 := add_str c (simB 10 m) (by omega)
              rw [← g1] at q0 hstep
              replace hstep := Lib.hid hstep
              replace g1 := Lib.hid g1
              replace hdp := Lib.hid hdp
              replace hq := Lib.hid hq
              clear hER
              go_quiet (fail)
              go_wp2_with fail
              refine (simple_z (below_drewN hB _) 10 m _ _ (by first | rfl | omega) (by first | rfl | omega) (by omega) (by omega)).mono ?_
              clear hB
              rintro e w1 ⟨rfl, hB⟩
              have hfin := hstep.out _ hB
              go_wp2_with fail
              exact ⟨⟨k + 1, _, _, _, rfl, rfl, by first | rfl | go_num, by omega, by omega, hfin⟩, by simp [intOf]; omega⟩
            · have hq : madeOp o d = 9 := by rw [hbad, if_neg hd6]
              have hdq : ((d : Int) == 16) = false := by rw [beq_eq_false_iff_ne]; omega
              replace hd6 := Lib.hid hd6
              go_quiet (fail)
              go_wp2_with fail
              refine name_wp ?_
              intro wy hwy
              have hBy : Below w.heap.size w wy := by rw [hwy]; exact below_drewN hB _
              clear hwy hB t00 p00
              have hB := hBy
              clear hBy
              rw [hq] at mk hstep
              obtain ⟨mk1, _, _, _, mk2, mk3⟩ := mk
              have hER := hE.below hB
              have t0 := hER.takes 9 (by omega)
              have p0 := hER.puts 9 (by omega)
              have hq8 : simLen 9 ≤ 3 := by unfold simLen; split <;> omega
              have hlq : (simB 9 m).length ≤ 3 := by rw [simB_len]; exact hq8
              have hdp : Hid ((d : Int) - (takesOp 9 : Nat) + (putsOp 9 : Nat) = ((afterOp 9 d : Nat) : Int)) := by show _ = _; unfold afterOp; omega
              have hx1 : putsOp 9 ≤ 2 := by unfold afterOp at mk3; exact puts_le2 9
              generalize takesOp 9 = TT at *
              generalize putsOp 9 = PP at *
              generalize afterOp 9 d = dd at *
              have hx2 : IntKind.i64.wrap ((d : Int) - (TT : Int)) = (d : Int) - (TT : Int) := IntWalk.i64_in _ (by omega)
              have hx3 : IntKind.i64.wrap ((d : Int) - (TT : Int) + (PP : Int)) = (dd : Int) := by rw [hdp.out]; exact IntWalk.i64_in _ (by omega)
              obtain ⟨c1, g1⟩ : ∃ t, t = c ++ simB 9 m := ⟨_, rfl⟩
              have q0 := add_str c (simB 9 m) (by omega)
              rw [← g1] at q0 hstep
              replace hstep := Lib.hid hstep
              replace g1 := Lib.hid g1
              replace hdp := Lib.hid hdp
              replace hq := Lib.hid hq
              clear hER
              go_quiet (fail)
              go_wp2_with fail
              refine (simple_z (below_drewN hB _) 9 m _ _ (by first | rfl | omega) (by first | rfl | omega) (by omega) (by omega)).mono ?_
              clear hB
              rintro e w1 ⟨rfl, hB⟩
              have hfin := hstep.out _ hB
              go_wp2_with fail
              exact ⟨⟨k + 1, _, _, _, rfl, rfl, by first | rfl | go_num, by omega, by omega, hfin⟩, by simp [intOf]; omega⟩
          · have hdl : decide ((d : Int) < ((takesOp o : Nat) : Int)) = false := by simp; omega
            have hy2 : IntKind.i64.wrap ((d : Int) - ((takesOp o : Nat) : Int)) = (d : Int) - ((takesOp o : Nat) : Int) := IntWalk.i64_in _ (by omega)
            have hy3 : IntKind.i64.wrap ((d : Int) - ((takesOp o : Nat) : Int) + ((putsOp o : Nat) : Int)) = ((afterOp o d : Nat) : Int) := by rw [show (d : Int) - ((takesOp o : Nat) : Int) + ((putsOp o : Nat) : Int) = ((afterOp o d : Nat) : Int) by unfold afterOp; omega]; exact IntWalk.i64_in _ (by unfold afterOp; omega)
            by_cases hov : 16 < afterOp o d
            · have hgt : decide (16 < ((afterOp o d : Nat) : Int)) = true := by simp; omega
              have hbad : madeOp o d = if d = 16 then 10 else 9 := by unfold madeOp; rw [if_pos (by omega)]
              go_wp2_with fail
              have mk := madeOp_ok (o := o) hd16
              by_cases hd6 : d = 16
              · have hq : madeOp o d = 10 := by rw [hbad, if_pos hd6]
                have hdq : ((d : Int) == 16) = true := by rw [beq_iff_eq]; omega
                replace hd6 := Lib.hid hd6
                go_quiet (fail)
                go_wp2_with fail
                refine name_wp ?_
                intro wy hwy
                have hBy : Below w.heap.size w wy := by rw [hwy]; exact below_drewN hB _
                clear hwy hB t00 p00
                have hB := hBy
                clear hBy
                rw [hq] at mk hstep
                obtain ⟨mk1, _, _, _, mk2, mk3⟩ := mk
                have hER := hE.below hB
                have t0 := hER.takes 10 (by omega)
                have p0 := hER.puts 10 (by omega)
                have hq8 : simLen 10 ≤ 3 := by unfold simLen; split <;> omega
                have hlq : (simB 10 m).length ≤ 3 := by rw [simB_len]; exact hq8
                have hdp : Hid ((d : Int) - (takesOp 10 : Nat) + (putsOp 10 : Nat) = ((afterOp 10 d : Nat) : Int)) := by show _ = _; unfold afterOp; omega
                have hx1 : putsOp 10 ≤ 2 := by unfold afterOp at mk3; exact puts_le2 10
                generalize takesOp 10 = TT at *
                generalize putsOp 10 = PP at *
                generalize afterOp 10 d = dd at *
                have hx2 : IntKind.i64.wrap ((d : Int) - (TT : Int)) = (d : Int) - (TT : Int) := IntWalk.i64_in _ (by omega)
                have hx3 : IntKind.i64.wrap ((d : Int) - (TT : Int) + (PP : Int)) = (dd : Int) := by rw [hdp.out]; exact IntWalk.i64_in _ (by omega)
                obtain ⟨c1, g1⟩ : ∃ t, t = c ++ simB 10 m := ⟨_, rfl⟩
                have q0 := add_str c (simB 10 m) (by omega)
                rw [← g1] at q0 hstep
                replace hstep := Lib.hid hstep
                replace g1 := Lib.hid g1
                replace hdp := Lib.hid hdp
                replace hq := Lib.hid hq
                clear hER
                go_quiet (fail)
                go_wp2_with fail
                refine (simple_z (below_drewN hB _) 10 m _ _ (by first | rfl | omega) (by first | rfl | omega) (by omega) (by omega)).mono ?_
                clear hB
                rintro e w1 ⟨rfl, hB⟩
                have hfin := hstep.out _ hB
                go_wp2_with fail
                exact ⟨⟨k + 1, _, _, _, rfl, rfl, by first | rfl | go_num, by omega, by omega, hfin⟩, by simp [intOf]; omega⟩
              · have hq : madeOp o d = 9 := by rw [hbad, if_neg hd6]
                have hdq : ((d : Int) == 16) = false := by rw [beq_eq_false_iff_ne]; omega
                replace hd6 := Lib.hid hd6
                go_quiet (fail)
                go_wp2_with fail
                refine name_wp ?_
                intro wy hwy
                have hBy : Below w.heap.size w wy := by rw [hwy]; exact below_drewN hB _
                clear hwy hB t00 p00
                have hB := hBy
                clear hBy
                rw [hq] at mk hstep
                obtain ⟨mk1, _, _, _, mk2, mk3⟩ := mk
                have hER := hE.below hB
                have t0 := hER.takes 9 (by omega)
                have p0 := hER.puts 9 (by omega)
                have hq8 : simLen 9 ≤ 3 := by unfold simLen; split <;> omega
                have hlq : (simB 9 m).length ≤ 3 := by rw [simB_len]; exact hq8
                have hdp : Hid ((d : Int) - (takesOp 9 : Nat) + (putsOp 9 : Nat) = ((afterOp 9 d : Nat) : Int)) := by show _ = _; unfold afterOp; omega
                have hx1 : putsOp 9 ≤ 2 := by unfold afterOp at mk3; exact puts_le2 9
                generalize takesOp 9 = TT at *
                generalize putsOp 9 = PP at *
                generalize afterOp 9 d = dd at *
                have hx2 : IntKind.i64.wrap ((d : Int) - (TT : Int)) = (d : Int) - (TT : Int) := IntWalk.i64_in _ (by omega)
                have hx3 : IntKind.i64.wrap ((d : Int) - (TT : Int) + (PP : Int)) = (dd : Int) := by rw [hdp.out]; exact IntWalk.i64_in _ (by omega)
                obtain ⟨c1, g1⟩ : ∃ t, t = c ++ simB 9 m := ⟨_, rfl⟩
                have q0 := add_str c (simB 9 m) (by omega)
                rw [← g1] at q0 hstep
                replace hstep := Lib.hid hstep
                replace g1 := Lib.hid g1
                replace hdp := Lib.hid hdp
                replace hq := Lib.hid hq
                clear hER
                go_quiet (fail)
                go_wp2_with fail
                refine (simple_z (below_drewN hB _) 9 m _ _ (by first | rfl | omega) (by first | rfl | omega) (by omega) (by omega)).mono ?_
                clear hB
                rintro e w1 ⟨rfl, hB⟩
                have hfin := hstep.out _ hB
                go_wp2_with fail
                exact ⟨⟨k + 1, _, _, _, rfl, rfl, by first | rfl | go_num, by omega, by omega, hfin⟩, by simp [intOf]; omega⟩
            · have hgt : decide (16 < ((afterOp o d : Nat) : Int)) = false := by simp; omega
              have hq : madeOp o d = o := by unfold madeOp; rw [if_neg (by omega)]
              go_wp2_with fail
              go_quiet (fail)
              go_wp2_with fail
              refine name_wp ?_
              intro wy hwy
              have hBy : Below w.heap.size w wy := by rw [hwy]; exact below_drewN hB _
              clear hwy hB t00 p00
              have hB := hBy
              clear hBy
              have mk := madeOp_ok (o := o) hd16
              go_wp2_with fail
              rw [hq] at mk hstep
              obtain ⟨mk1, _, _, _, mk2, mk3⟩ := mk
              have hER := hE.below hB
              have t0 := hER.takes o (by omega)
              have p0 := hER.puts o (by omega)
              have hq8 : simLen o ≤ 3 := by unfold simLen; split <;> omega
              have hlq : (simB o m).length ≤ 3 := by rw [simB_len]; exact hq8
              have hdp : Hid ((d : Int) - (takesOp o : Nat) + (putsOp o : Nat) = ((afterOp o d : Nat) : Int)) := by show _ = _; unfold afterOp; omega
              have hx1 : putsOp o ≤ 2 := by unfold afterOp at mk3; exact puts_le2 o
              generalize takesOp o = TT at *
              generalize putsOp o = PP at *
              generalize afterOp o d = dd at *
              have hx2 : IntKind.i64.wrap ((d : Int) - (TT : Int)) = (d : Int) - (TT : Int) := IntWalk.i64_in _ (by omega)
              have hx3 : IntKind.i64.wrap ((d : Int) - (TT : Int) + (PP : Int)) = (dd : Int) := by rw [hdp.out]; exact IntWalk.i64_in _ (by omega)
              obtain ⟨c1, g1⟩ : ∃ t, t = c ++ simB o m := ⟨_, rfl⟩
              have q0 := add_str c (simB o m) (by omega)
              rw [← g1] at q0 hstep
              replace hstep := Lib.hid hstep
              replace g1 := Lib.hid g1
              replace hdp := Lib.hid hdp
              replace hq := Lib.hid hq
              clear hER
              go_quiet (fail)
              go_wp2_with fail
              refine (simple_z (below_drewN hB _) o m _ _ (by first | rfl | omega) (by first | rfl | omega) (by omega) (by omega)).mono ?_
              clear hB
              rintro e w1 ⟨rfl, hB⟩
              have hfin := hstep.out _ hB
              go_wp2_with fail
              exact ⟨⟨k + 1, _, _, _, rfl, rfl, by first | rfl | go_num, by omega, by omega, hfin⟩, by simp [intOf]; omega⟩
        · by_cases ho : o = 12
          · subst ho
            by_cases hd15 : d < 15
            · have hdd : decide ((d : Int) < 15) = true := by simp; omega
              have e1 : chunkN d 12 = 10 := by unfold chunkN; rw [if_pos ⟨rfl, hd15⟩]
              have e2 : chunkD d 12 = d := by unfold chunkD; rw [if_pos ⟨rfl, hd15⟩]
              have e3 : chunkB a d 12 m = simB 0 (m % 2) ++ (simB 8 (a + 10) ++ (simB 0 m ++ simB 10 0)) := by unfold chunkB; rw [if_pos ⟨rfl, hd15⟩]
              rw [e1, e2, e3] at hstep
              have hwa : IntKind.i64.wrap ((a : Int) + 10) = (a : Int) + 10 := IntWalk.i64_in _ (by omega)
              have l0 : (simB 0 (m % 2)).length ≤ 3 := by rw [simB_len]; unfold simLen; split <;> omega
              have l1 : (simB 8 (a + 10)).length ≤ 3 := by rw [simB_len]; unfold simLen; split <;> omega
              have l2 : (simB 0 m).length ≤ 3 := by rw [simB_len]; unfold simLen; split <;> omega
              have l3 : (simB 10 0).length ≤ 3 := by rw [simB_len]; unfold simLen; split <;> omega
              obtain ⟨c1, g1⟩ : ∃ t, t = c ++ simB 0 (m % 2) := ⟨_, rfl⟩
              have q0 := add_str c (simB 0 (m % 2)) (by omega)
              rw [← g1] at q0
              have n1 : c1.length ≤ a + 3 := by rw [g1, List.length_append]; omega
              replace g1 := Lib.hid g1
              obtain ⟨c2, g2⟩ : ∃ t, t = c1 ++ simB 8 (a + 10) := ⟨_, rfl⟩
              have q1 := add_str c1 (simB 8 (a + 10)) (by omega)
              rw [← g2] at q1
              have n2 : c2.length ≤ a + 6 := by rw [g2, List.length_append]; omega
              replace g2 := Lib.hid g2
              obtain ⟨c3, g3⟩ : ∃ t, t = c2 ++ simB 0 m := ⟨_, rfl⟩
              have q2 := add_str c2 (simB 0 m) (by omega)
              rw [← g3] at q2
              have n3 : c3.length ≤ a + 9 := by rw [g3, List.length_append]; omega
              replace g3 := Lib.hid g3
              obtain ⟨c4, g4⟩ : ∃ t, t = c3 ++ simB 10 0 := ⟨_, rfl⟩
              have q3 := add_str c3 (simB 10 0) (by omega)
              rw [← g4] at q3
              have n4 : c4.length ≤ a + 12 := by rw [g4, List.length_append]; omega
              replace g4 := Lib.hid g4
              replace hstep := Lib.hid hstep
              go_wp2_with fail
              refine (simple_z hB 0 (m % 2) _ _ (by first | rfl | omega) (by first | rfl | omega) (by omega) (by omega)).mono ?_
              clear hB
              rintro e w1 ⟨rfl, hB⟩
              go_wp2_with fail
              refine (simple_z hB 8 (a + 10) _ _ (by first | rfl | omega) (by first | rfl | omega) (by omega) (by omega)).mono ?_
              clear hB
              rintro e w2 ⟨rfl, hB⟩
              go_wp2_with fail
              refine (simple_z hB 0 m _ _ (by first | rfl | omega) (by first | rfl | omega) (by omega) (by omega)).mono ?_
              clear hB
              rintro e w3 ⟨rfl, hB⟩
              go_wp2_with fail
              refine (simple_z hB 10 0 _ _ (by first | rfl | omega) (by first | rfl | omega) (by omega) (by omega)).mono ?_
              clear hB
              rintro e w4 ⟨rfl, hB⟩
              have hfin := hstep.out _ hB
              simp only [← List.append_assoc] at hfin
              rw [← g1.out, ← g2.out, ← g3.out, ← g4.out] at hfin
              go_wp2_with fail
              exact ⟨⟨k + 1, _, _, _, rfl, rfl, by first | rfl | go_num, by omega, by omega, hfin⟩, by simp [intOf]; omega⟩
            · have hdd : decide ((d : Int) < 15) = false := by simp; omega
              have e1 : chunkN d 12 = simLen (madeOp 12 d) := by unfold chunkN; rw [if_neg (by omega), if_neg (by omega)]
              have e2 : chunkD d 12 = afterOp (madeOp 12 d) d := by unfold chunkD; rw [if_neg (by omega), if_neg (by omega)]
              have e3 : chunkB a d 12 m = simB (madeOp 12 d) m := by unfold chunkB; rw [if_neg (by omega), if_neg (by omega)]
              rw [e1, e2, e3] at hstep
              clear e1 e2 e3
              have hbad : madeOp 12 d = if d = 16 then 10 else 9 := by unfold madeOp; rw [if_pos (by omega)]
              go_wp2_with fail
              have mk := madeOp_ok (o := 12) hd16
              by_cases hd6 : d = 16
              · have hq : madeOp 12 d = 10 := by rw [hbad, if_pos hd6]
                have hdq : ((d : Int) == 16) = true := by rw [beq_iff_eq]; omega
                replace hd6 := Lib.hid hd6
                go_quiet (fail)
                go_wp2_with fail
                refine name_wp ?_
                intro wy hwy
                have hBy : Below w.heap.size w wy := by rw [hwy]; exact below_drewN hB _
                clear hwy hB
                have hB := hBy
                clear hBy
                rw [hq] at mk hstep
                obtain ⟨mk1, _, _, _, mk2, mk3⟩ := mk
                have hER := hE.below hB
                have t0 := hER.takes 10 (by omega)
                have p0 := hER.puts 10 (by omega)
                have hq8 : simLen 10 ≤ 3 := by unfold simLen; split <;> omega
                have hlq : (simB 10 m).length ≤ 3 := by rw [simB_len]; exact hq8
                have hdp : Hid ((d : Int) - (takesOp 10 : Nat) + (putsOp 10 : Nat) = ((afterOp 10 d : Nat) : Int)) := by show _ = _; unfold afterOp; omega
                have hx1 : putsOp 10 ≤ 2 := by unfold afterOp at mk3; exact puts_le2 10
                generalize takesOp 10 = TT at *
                generalize putsOp 10 = PP at *
                generalize afterOp 10 d = dd at *
                have hx2 : IntKind.i64.wrap ((d : Int) - (TT : Int)) = (d : Int) - (TT : Int) := IntWalk.i64_in _ (by omega)
                have hx3 : IntKind.i64.wrap ((d : Int) - (TT : Int) + (PP : Int)) = (dd : Int) := by rw [hdp.out]; exact IntWalk.i64_in _ (by omega)
                obtain ⟨c1, g1⟩ : ∃ t, t = c ++ simB 10 m := ⟨_, rfl⟩
                have q0 := add_str c (simB 10 m) (by omega)
                rw [← g1] at q0 hstep
                replace hstep := Lib.hid hstep
                replace g1 := Lib.hid g1
                replace hdp := Lib.hid hdp
                replace hq := Lib.hid hq
                clear hER
                go_quiet (fail)
                go_wp2_with fail
                refine (simple_z (below_drewN hB _) 10 m _ _ (by first | rfl | omega) (by first | rfl | omega) (by omega) (by omega)).mono ?_
                clear hB
                rintro e w1 ⟨rfl, hB⟩
                have hfin := hstep.out _ hB
                go_wp2_with fail
                exact ⟨⟨k + 1, _, _, _, rfl, rfl, by first | rfl | go_num, by omega, by omega, hfin⟩, by simp [intOf]; omega⟩
              · have hq : madeOp 12 d = 9 := by rw [hbad, if_neg hd6]
                have hdq : ((d : Int) == 16) = false := by rw [beq_eq_false_iff_ne]; omega
                replace hd6 := Lib.hid hd6
                go_quiet (fail)
                go_wp2_with fail
                refine name_wp ?_
                intro wy hwy
                have hBy : Below w.heap.size w wy := by rw [hwy]; exact below_drewN hB _
                clear hwy hB
                have hB := hBy
                clear hBy
                rw [hq] at mk hstep
                obtain ⟨mk1, _, _, _, mk2, mk3⟩ := mk
                have hER := hE.below hB
                have t0 := hER.takes 9 (by omega)
                have p0 := hER.puts 9 (by omega)
                have hq8 : simLen 9 ≤ 3 := by unfold simLen; split <;> omega
                have hlq : (simB 9 m).length ≤ 3 := by rw [simB_len]; exact hq8
                have hdp : Hid ((d : Int) - (takesOp 9 : Nat) + (putsOp 9 : Nat) = ((afterOp 9 d : Nat) : Int)) := by show _ = _; unfold afterOp; omega
                have hx1 : putsOp 9 ≤ 2 := by unfold afterOp at mk3; exact puts_le2 9
                generalize takesOp 9 = TT at *
                generalize putsOp 9 = PP at *
                generalize afterOp 9 d = dd at *
                have hx2 : IntKind.i64.wrap ((d : Int) - (TT : Int)) = (d : Int) - (TT : Int) := IntWalk.i64_in _ (by omega)
                have hx3 : IntKind.i64.wrap ((d : Int) - (TT : Int) + (PP : Int)) = (dd : Int) := by rw [hdp.out]; exact IntWalk.i64_in _ (by omega)
                obtain ⟨c1, g1⟩ : ∃ t, t = c ++ simB 9 m := ⟨_, rfl⟩
                have q0 := add_str c (simB 9 m) (by omega)
                rw [← g1] at q0 hstep
                replace hstep := Lib.hid hstep
                replace g1 := Lib.hid g1
                replace hdp := Lib.hid hdp
                replace hq := Lib.hid hq
                clear hER
                go_quiet (fail)
                go_wp2_with fail
                refine (simple_z (below_drewN hB _) 9 m _ _ (by first | rfl | omega) (by first | rfl | omega) (by omega) (by omega)).mono ?_
                clear hB
                rintro e w1 ⟨rfl, hB⟩
                have hfin := hstep.out _ hB
                go_wp2_with fail
                exact ⟨⟨k + 1, _, _, _, rfl, rfl, by first | rfl | go_num, by omega, by omega, hfin⟩, by simp [intOf]; omega⟩
          · obtain rfl : o = 13 := by omega
            by_cases hd13 : d < 13
            · have hdd : decide ((d : Int) < 13) = true := by simp; omega
              have e1 : chunkN d 13 = 19 := by unfold chunkN; rw [if_neg (by omega), if_pos ⟨rfl, hd13⟩]
              have e2 : chunkD d 13 = d := by unfold chunkD; rw [if_neg (by omega), if_pos ⟨rfl, hd13⟩]
              have e3 : chunkB a d 13 m = simB 9 0 ++ (simB 1 0 ++ (simB 0 0 ++ (simB 6 0 ++ (simB 8 (a + 18) ++ (simB 0 m ++ (simB 4 0 ++ (simB 10 0 ++ (simB 7 a ++ (simB 4 0 ++ simB 3 0))))))))) := by unfold chunkB; rw [if_neg (by omega), if_pos ⟨rfl, hd13⟩]
              rw [e1, e2, e3] at hstep
              have hwa : IntKind.i64.wrap ((a : Int) + 18) = (a : Int) + 18 := IntWalk.i64_in _ (by omega)
              have l0 : (simB 9 0).length ≤ 3 := by rw [simB_len]; unfold simLen; split <;> omega
              have l1 : (simB 1 0).length ≤ 3 := by rw [simB_len]; unfold simLen; split <;> omega
              have l2 : (simB 0 0).length ≤ 3 := by rw [simB_len]; unfold simLen; split <;> omega
              have l3 : (simB 6 0).length ≤ 3 := by rw [simB_len]; unfold simLen; split <;> omega
              have l4 : (simB 8 (a + 18)).length ≤ 3 := by rw [simB_len]; unfold simLen; split <;> omega
              have l5 : (simB 0 m).length ≤ 3 := by rw [simB_len]; unfold simLen; split <;> omega
              have l6 : (simB 4 0).length ≤ 3 := by rw [simB_len]; unfold simLen; split <;> omega
              have l7 : (simB 10 0).length ≤ 3 := by rw [simB_len]; unfold simLen; split <;> omega
              have l8 : (simB 7 a).length ≤ 3 := by rw [simB_len]; unfold simLen; split <;> omega
              have l9 : (simB 4 0).length ≤ 3 := by rw [simB_len]; unfold simLen; split <;> omega
              have l10 : (simB 3 0).length ≤ 3 := by rw [simB_len]; unfold simLen; split <;> omega
              obtain ⟨c1, g1⟩ : ∃ t, t = c ++ simB 9 0 := ⟨_, rfl⟩
              have q0 := add_str c (simB 9 0) (by omega)
              rw [← g1] at q0
              have n1 : c1.length ≤ a + 3 := by rw [g1, List.length_append]; omega
              replace g1 := Lib.hid g1
              obtain ⟨c2, g2⟩ : ∃ t, t = c1 ++ simB 1 0 := ⟨_, rfl⟩
              have q1 := add_str c1 (simB 1 0) (by omega)
              rw [← g2] at q1
              have n2 : c2.length ≤ a + 6 := by rw [g2, List.length_append]; omega
              replace g2 := Lib.hid g2
              obtain ⟨c3, g3⟩ : ∃ t, t = c2 ++ simB 0 0 := ⟨_, rfl⟩
              have q2 := add_str c2 (simB 0 0) (by omega)
              rw [← g3] at q2
              have n3 : c3.length ≤ a + 9 := by rw [g3, List.length_append]; omega
              replace g3 := Lib.hid g3
              obtain ⟨c4, g4⟩ : ∃ t, t = c3 ++ simB 6 0 := ⟨_, rfl⟩
              have q3 := add_str c3 (simB 6 0) (by omega)
              rw [← g4] at q3
              have n4 : c4.length ≤ a + 12 := by rw [g4, List.length_append]; omega
              replace g4 := Lib.hid g4
              obtain ⟨c5, g5⟩ : ∃ t, t = c4 ++ simB 8 (a + 18) := ⟨_, rfl⟩
              have q4 := add_str c4 (simB 8 (a + 18)) (by omega)
              rw [← g5] at q4
              have n5 : c5.length ≤ a + 15 := by rw [g5, List.length_append]; omega
              replace g5 := Lib.hid g5
              obtain ⟨c6, g6⟩ : ∃ t, t = c5 ++ simB 0 m := ⟨_, rfl⟩
              have q5 := add_str c5 (simB 0 m) (by omega)
              rw [← g6] at q5
              have n6 : c6.length ≤ a + 18 := by rw [g6, List.length_append]; omega
              replace g6 := Lib.hid g6
              obtain ⟨c7, g7⟩ : ∃ t, t = c6 ++ simB 4 0 := ⟨_, rfl⟩
              have q6 := add_str c6 (simB 4 0) (by omega)
              rw [← g7] at q6
              have n7 : c7.length ≤ a + 21 := by rw [g7, List.length_append]; omega
              replace g7 := Lib.hid g7
              obtain ⟨c8, g8⟩ : ∃ t, t = c7 ++ simB 10 0 := ⟨_, rfl⟩
              have q7 := add_str c7 (simB 10 0) (by omega)
              rw [← g8] at q7
              have n8 : c8.length ≤ a + 24 := by rw [g8, List.length_append]; omega
              replace g8 := Lib.hid g8
              obtain ⟨c9, g9⟩ : ∃ t, t = c8 ++ simB 7 a := ⟨_, rfl⟩
              have q8 := add_str c8 (simB 7 a) (by omega)
              rw [← g9] at q8
              have n9 : c9.length ≤ a + 27 := by rw [g9, List.length_append]; omega
              replace g9 := Lib.hid g9
              obtain ⟨c10, g10⟩ : ∃ t, t = c9 ++ simB 4 0 := ⟨_, rfl⟩
              have q9 := add_str c9 (simB 4 0) (by omega)
              rw [← g10] at q9
              have n10 : c10.length ≤ a + 30 := by rw [g10, List.length_append]; omega
              replace g10 := Lib.hid g10
              obtain ⟨c11, g11⟩ : ∃ t, t = c10 ++ simB 3 0 := ⟨_, rfl⟩
              have q10 := add_str c10 (simB 3 0) (by omega)
              rw [← g11] at q10
              have n11 : c11.length ≤ a + 33 := by rw [g11, List.length_append]; omega
              replace g11 := Lib.hid g11
              replace hstep := Lib.hid hstep
              go_wp2_with fail
              refine (simple_z hB 9 0 _ _ (by first | rfl | omega) (by first | rfl | omega) (by omega) (by omega)).mono ?_
              clear hB
              rintro e w1 ⟨rfl, hB⟩
              go_wp2_with fail
              refine (simple_z hB 1 0 _ _ (by first | rfl | omega) (by first | rfl | omega) (by omega) (by omega)).mono ?_
              clear hB
              rintro e w2 ⟨rfl, hB⟩
              go_wp2_with fail
              refine (simple_z hB 0 0 _ _ (by first | rfl | omega) (by first | rfl | omega) (by omega) (by omega)).mono ?_
              clear hB
              rintro e w3 ⟨rfl, hB⟩
              go_wp2_with fail
              refine (simple_z hB 6 0 _ _ (by first | rfl | omega) (by first | rfl | omega) (by omega) (by omega)).mono ?_
              clear hB
              rintro e w4 ⟨rfl, hB⟩
              go_wp2_with fail
              refine (simple_z hB 8 (a + 18) _ _ (by first | rfl | omega) (by first | rfl | omega) (by omega) (by omega)).mono ?_
              clear hB
              rintro e w5 ⟨rfl, hB⟩
              go_wp2_with fail
              refine (simple_z hB 0 m _ _ (by first | rfl | omega) (by first | rfl | omega) (by omega) (by omega)).mono ?_
              clear hB
              rintro e w6 ⟨rfl, hB⟩
              go_wp2_with fail
              refine (simple_z hB 4 0 _ _ (by first | rfl | omega) (by first | rfl | omega) (by omega) (by omega)).mono ?_
              clear hB
              rintro e w7 ⟨rfl, hB⟩
              go_wp2_with fail
              refine (simple_z hB 10 0 _ _ (by first | rfl | omega) (by first | rfl | omega) (by omega) (by omega)).mono ?_
              clear hB
              rintro e w8 ⟨rfl, hB⟩
              go_wp2_with fail
              refine (simple_z hB 7 a _ _ (by first | rfl | omega) (by first | rfl | omega) (by omega) (by omega)).mono ?_
              clear hB
              rintro e w9 ⟨rfl, hB⟩
              go_wp2_with fail
              refine (simple_z hB 4 0 _ _ (by first | rfl | omega) (by first | rfl | omega) (by omega) (by omega)).mono ?_
              clear hB
              rintro e w10 ⟨rfl, hB⟩
              go_wp2_with fail
              refine (simple_z hB 3 0 _ _ (by first | rfl | omega) (by first | rfl | omega) (by omega) (by omega)).mono ?_
              clear hB
              rintro e w11 ⟨rfl, hB⟩
              have hfin := hstep.out _ hB
              simp only [← List.append_assoc] at hfin
              rw [← g1.out, ← g2.out, ← g3.out, ← g4.out, ← g5.out, ← g6.out, ← g7.out, ← g8.out, ← g9.out, ← g10.out, ← g11.out] at hfin
              go_wp2_with fail
              exact ⟨⟨k + 1, _, _, _, rfl, rfl, by first | rfl | go_num, by omega, by omega, hfin⟩, by simp [intOf]; omega⟩
            · have hdd : decide ((d : Int) < 13) = false := by simp; omega
              have e1 : chunkN d 13 = simLen (madeOp 13 d) := by unfold chunkN; rw [if_neg (by omega), if_neg (by omega)]
              have e2 : chunkD d 13 = afterOp (madeOp 13 d) d := by unfold chunkD; rw [if_neg (by omega), if_neg (by omega)]
              have e3 : chunkB a d 13 m = simB (madeOp 13 d) m := by unfold chunkB; rw [if_neg (by omega), if_neg (by omega)]
              rw [e1, e2, e3] at hstep
              clear e1 e2 e3
              have hbad : madeOp 13 d = if d = 16 then 10 else 9 := by unfold madeOp; rw [if_pos (by omega)]
              go_wp2_with fail
              have mk := madeOp_ok (o := 13) hd16
              by_cases hd6 : d = 16
              · have hq : madeOp 13 d = 10 := by rw [hbad, if_pos hd6]
                have hdq : ((d : Int) == 16) = true := by rw [beq_iff_eq]; omega
                replace hd6 := Lib.hid hd6
                go_quiet (fail)
                go_wp2_with fail
                refine name_wp ?_
                intro wy hwy
                have hBy : Below w.heap.size w wy := by rw [hwy]; exact below_drewN hB _
                clear hwy hB
                have hB := hBy
                clear hBy
                rw [hq] at mk hstep
                obtain ⟨mk1, _, _, _, mk2, mk3⟩ := mk
                have hER := hE.below hB
                have t0 := hER.takes 10 (by omega)
                have p0 := hER.puts 10 (by omega)
                have hq8 : simLen 10 ≤ 3 := by unfold simLen; split <;> omega
                have hlq : (simB 10 m).length ≤ 3 := by rw [simB_len]; exact hq8
                have hdp : Hid ((d : Int) - (takesOp 10 : Nat) + (putsOp 10 : Nat) = ((afterOp 10 d : Nat) : Int)) := by show _ = _; unfold afterOp; omega
                have hx1 : putsOp 10 ≤ 2 := by unfold afterOp at mk3; exact puts_le2 10
                generalize takesOp 10 = TT at *
                generalize putsOp 10 = PP at *
                generalize afterOp 10 d = dd at *
                have hx2 : IntKind.i64.wrap ((d : Int) - (TT : Int)) = (d : Int) - (TT : Int) := IntWalk.i64_in _ (by omega)
                have hx3 : IntKind.i64.wrap ((d : Int) - (TT : Int) + (PP : Int)) = (dd : Int) := by rw [hdp.out]; exact IntWalk.i64_in _ (by omega)
                obtain ⟨c1, g1⟩ : ∃ t, t = c ++ simB 10 m := ⟨_, rfl⟩
                have q0 := add_str c (simB 10 m) (by omega)
                rw [← g1] at q0 hstep
                replace hstep := Lib.hid hstep
                replace g1 := Lib.hid g1
                replace hdp := Lib.hid hdp
                replace hq := Lib.hid hq
                clear hER
                go_quiet (fail)
                go_wp2_with fail
                refine (simple_z (below_drewN hB _) 10 m _ _ (by first | rfl | omega) (by first | rfl | omega) (by omega) (by omega)).mono ?_
                clear hB
                rintro e w1 ⟨rfl, hB⟩
                have hfin := hstep.out _ hB
                go_wp2_with fail
                exact ⟨⟨k + 1, _, _, _, rfl, rfl, by first | rfl | go_num, by omega, by omega, hfin⟩, by simp [intOf]; omega⟩
              · have hq : madeOp 13 d = 9 := by rw [hbad, if_neg hd6]
                have hdq : ((d : Int) == 16) = false := by rw [beq_eq_false_iff_ne]; omega
                replace hd6 := Lib.hid hd6
                go_quiet (fail)
                go_wp2_with fail
                refine name_wp ?_
                intro wy hwy
                have hBy : Below w.heap.size w wy := by rw [hwy]; exact below_drewN hB _
                clear hwy hB
                have hB := hBy
                clear hBy
                rw [hq] at mk hstep
                obtain ⟨mk1, _, _, _, mk2, mk3⟩ := mk
                have hER := hE.below hB
                have t0 := hER.takes 9 (by omega)
                have p0 := hER.puts 9 (by omega)
                have hq8 : simLen 9 ≤ 3 := by unfold simLen; split <;> omega
                have hlq : (simB 9 m).length ≤ 3 := by rw [simB_len]; exact hq8
                have hdp : Hid ((d : Int) - (takesOp 9 : Nat) + (putsOp 9 : Nat) = ((afterOp 9 d : Nat) : Int)) := by show _ = _; unfold afterOp; omega
                have hx1 : putsOp 9 ≤ 2 := by unfold afterOp at mk3; exact puts_le2 9
                generalize takesOp 9 = TT at *
                generalize putsOp 9 = PP at *
                generalize afterOp 9 d = dd at *
                have hx2 : IntKind.i64.wrap ((d : Int) - (TT : Int)) = (d : Int) - (TT : Int) := IntWalk.i64_in _ (by omega)
                have hx3 : IntKind.i64.wrap ((d : Int) - (TT : Int) + (PP : Int)) = (dd : Int) := by rw [hdp.out]; exact IntWalk.i64_in _ (by omega)
                obtain ⟨c1, g1⟩ : ∃ t, t = c ++ simB 9 m := ⟨_, rfl⟩
                have q0 := add_str c (simB 9 m) (by omega)
                rw [← g1] at q0 hstep
                replace hstep := Lib.hid hstep
                replace g1 := Lib.hid g1
                replace hdp := Lib.hid hdp
                replace hq := Lib.hid hq
                clear hER
                go_quiet (fail)
                go_wp2_with fail
                refine (simple_z (below_drewN hB _) 9 m _ _ (by first | rfl | omega) (by first | rfl | omega) (by omega) (by omega)).mono ?_
                clear hB
                rintro e w1 ⟨rfl, hB⟩
                have hfin := hstep.out _ hB
                go_wp2_with fail
                exact ⟨⟨k + 1, _, _, _, rfl, rfl, by first | rfl | go_num, by omega, by omega, hfin⟩, by simp [intOf]; omega⟩
      · have hd40 : decide ((k : Int) < 40) = false := by simp; omega
        have heq : Hid (madeB 0 0 (prs40 zs) = c ++ simB 11 0) := by show _ = _; rw [hM.eq, prs40_end hz (by omega)]; rfl
        have l0 : (simB 11 0).length ≤ 3 := by rw [simB_len]; unfold simLen; split <;> omega
        have q0 := add_str c (simB 11 0) (by omega)
        replace hcs := Lib.hid hcs
        clear hM hall
        go_wp2_with fail
        refine (simple_z hB 11 0 _ _ (by first | rfl | omega) (by first | rfl | omega) (by omega) (by omega)).mono ?_
        clear hB
        rintro e w1 ⟨rfl, hB⟩
        go_wp2_with fail
        go_ret
        exact ⟨by rw [heq.out]; rfl, hB⟩
    · have hdn : decide ((k : Int) < (n : Int)) = false := by simpa using hlt
      have heq : Hid (madeB 0 0 (prs40 zs) = c ++ simB 11 0) := by show _ = _; rw [hM.eq, prs40_end hz (by omega)]; rfl
      have l0 : (simB 11 0).length ≤ 3 := by rw [simB_len]; unfold simLen; split <;> omega
      have q0 := add_str c (simB 11 0) (by omega)
      replace hcs := Lib.hid hcs
      clear hM hall
      go_wp2_with fail
      refine (simple_z hB 11 0 _ _ (by first | rfl | omega) (by first | rfl | omega) (by omega) (by omega)).mono ?_
      clear hB
      rintro e w1 ⟨rfl, hB⟩
      go_wp2_with fail
      go_ret
      exact ⟨by rw [heq.out]; rfl, hB⟩
end Go.Proofs.YtainohbfcehpoaaDoor
