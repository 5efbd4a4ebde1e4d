/-
  The contract of the iterator that (*processor).run gives.
-/
import Derived.Test.YtkgbknjpnhoadaaGreatDoorCq6
import Derived.Test.YtkgbknjpnhoadaaGreatDoorCq7
import Derived.BigRegionIn
import Derived.StillTailTactics
namespace Go.Proofs.YtkgbknjpnhoadaaGreatDoor
open Go.RowKit Go.Shelf

attribute [local go_sem] Oper.semAt_some

def evAgg (e : Ev) : Value := .agg #[.int .i64 e.t, .int .i64 e.k, .int .i64 e.a, .int .i64 e.b]
theorem runs_len (f : Nat) (x : Cpu) : (runs f x).length ≤ f := by
  induction f generalizing x with
  | zero => simp [runs]
  | succ f ih =>
    rw [runs]
    split
    · simp
    · rw [List.length_append]
      have h1 := ih { (({ x with c := (x.c + 2) % 256 } : Cpu).op (x.mem.getD x.c 0) (x.mem.getD ((x.c + 1) % 256) 0) (x.mem.getD (x.mem.getD ((x.c + 1) % 256) 0) 0)).1 with time := x.time + 1 }
      have h2 : ∀ o : Option Ev, o.toList.length ≤ 1 := fun o => by cases o <;> simp
      have h3 := h2 (({ x with c := (x.c + 2) % 256 } : Cpu).op (x.mem.getD x.c 0) (x.mem.getD ((x.c + 1) % 256) 0) (x.mem.getD (x.mem.getD ((x.c + 1) % 256) 0) 0)).2
      omega
/-- The operation at the counter, its number, the byte of the memory there. -/
def Cpu.o (x : Cpu) : Nat := x.mem.getD x.c 0
def Cpu.n (x : Cpu) : Nat := x.mem.getD ((x.c + 1) % 256) 0
def Cpu.m (x : Cpu) : Nat := x.mem.getD x.n 0
def Cpu.next (x : Cpu) : Cpu := { x with c := (x.c + 2) % 256 }
def Cpu.go (x : Cpu) : Cpu × Option Ev := x.next.op x.o x.n x.m
theorem op_time (x : Cpu) (o n m : Nat) : (x.op o n m).1.time = x.time := by
  unfold Cpu.op
  split <;> first | rfl | (dsimp only; split <;> rfl) | (dsimp only; rw [take_eq])
theorem runs_halt {f : Nat} {x : Cpu} (h : x.o = 0 ∨ 17 ≤ x.o) : runs (f + 1) x = [⟨x.time, 4, x.o, x.n⟩] := by
  rw [runs]; exact if_pos h
theorem runs_go {f : Nat} {x : Cpu} (h : ¬ (x.o = 0 ∨ 17 ≤ x.o)) : runs (f + 1) x = x.go.2.toList ++ runs f { x.go.1 with time := x.time + 1 } := by
  rw [runs]; exact if_neg h
theorem CpuAt.load4 {w : World} {b : Nat} {e : Ev} (h : Arr w b 39 (evCells [e])) : w.cell? ⟨b, 0, none⟩ = some (.int .i64 e.t) ∧ w.cell? ⟨b, 1, none⟩ = some (.int .i64 e.k) ∧ w.cell? ⟨b, 2, none⟩ = some (.int .i64 e.a) ∧ w.cell? ⟨b, 3, none⟩ = some (.int .i64 e.b) :=
  ⟨h.cell (j := 0) rfl, h.cell (j := 1) rfl, h.cell (j := 2) rfl, h.cell (j := 3) rfl⟩
/-- The time in the computer's cell. -/
def timeOf (B : Nat) (w : World) : Nat := match w.cell? ⟨B, 515, none⟩ with | some (.int _ t) => t.toNat | _ => 0
theorem timeOf_eq {w : World} {B : Nat} {x : Cpu} (h : CpuAt w B x) : timeOf B w = x.time := by unfold timeOf; rw [h.time]; simp
/-- What a round keeps. -/
def KeepR (n₀ : Nat) (W W' : World) : Prop := Below n₀ W W' ∧ KeepsT W W'

set_option maxHeartbeats 400000 in
theorem run_any (B : Nat) (most : Int) (w : World) :
    Calls Tryz.prog 40 #[.pointer (some ⟨B, 0, none⟩), .int .i64 most] w fun e w' => e = .returned (.func (.func 64) #[] #[.pointer (some ⟨w.heap.size, 0, none⟩), .pointer (some ⟨w.heap.size + 1, 0, none⟩)]) ∧
      Arr w' w.heap.size 72 [.pointer (some ⟨B, 0, none⟩)] ∧ Arr w' (w.heap.size + 1) 3 [.int .i64 most] ∧ Below w.heap.size w w' := by
  have hmf : ∀ (fn : Fn) (first cap : Array Value) (w : World), (Instr.makeFunc fn first cap).run Tryz.prog w = .ok (.func fn first cap) w := fun _ _ _ _ => rfl
  go_enter Tryz.func40, Tryz.ntmps40
  go_wp2
  go_ret
  exact ⟨rfl, (Arr.new rfl rfl).alloc _, Arr.new rfl (by simp), ((Below.refl _ _).alloc (Nat.le_refl _) _).alloc (by simp) _⟩

set_option maxRecDepth 100000 in
set_option maxHeartbeats 4000000 in
theorem run1_stops (m B b1 b2 most : Nat) (x0 : Cpu) (w : World) (hmost : most ≤ 20000) (ht0 : x0.time ≤ most) (hC : CpuAt w B x0)
    (hb1 : Arr w b1 72 [.pointer (some ⟨B, 0, none⟩)]) (hb2 : Arr w b2 3 [.int .i64 (most : Int)]) :
    SeqStopsB Fence.wide m Tryz.prog 64 #[.pointer (some ⟨b1, 0, none⟩), .pointer (some ⟨b2, 0, none⟩)] (fun e : Ev => #[evAgg e]) (KeepR w.heap.size) (fun xs => xs = runs (most - x0.time) x0) (fun _ => True) (most - x0.time) B w := by
  intro l J Jx W hW hJa hJxa hY h0
  have hBn := hC.lt
  have hCW := hC.below hW
  have hb1W := hb1.below hW
  have hb2W := hb2.below hW
  clear hC hb1 hb2
  refine callsIn_of_wp Tryz.func64 rfl trivial ?_ rfl
  simp only [Tryz.ntmps64, List.size_toArray, List.length_cons, List.length_nil, Nat.reduceAdd, Nat.reduceSub, Array.replicate_succ, Array.replicate_zero, List.push_toArray, List.append_toArray, List.nil_append, List.cons_append]
  gi_wp2_with (fail)
  refine ⟨trivial, fun h => by simp [Fence.wide] at h, (callsIn_wide.2 (operations_any B W)).mono ?_⟩
  rintro e W1 ⟨K, rfl, hK1, hK2, ⟨L, hL, hst⟩, hbo⟩
  have hJ1 := hJa _ _ _ h0 (BelowBut.of hbo)
  have hC1 := hCW.below hbo
  have hb1' := hb1W.below hbo
  have hb2' := hb2W.below hbo
  clear h0 hCW hb1W hb2W hbo
  replace hst := Lib.hid hst
  have hln := runs_len (most - x0.time) x0
  gi_wp2_with (fail)
  gi_loopw [5] (fun _ wr => ∃ (pre : List Ev) (x : Cpu), CpuAt wr B x ∧ x.time ≤ most ∧ pre ++ runs (most - x.time) x = runs (most - x0.time) x0 ∧ J pre wr ∧ KeepsT W1 wr) (fun _ wr => most - timeOf B wr)
  case atStart => exact ⟨[], x0, hC1, ht0, rfl, hJ1, KeepsT.refl _⟩
  case round =>
    clear hC1 hJ1
    obtain ⟨pre, x, hC, htm, hpre, hJ, hT⟩ := hrel
    have htO := Lib.hid (timeOf_eq hC)
    have c1 := hT.cell (o := 0) hb1' rfl (by decide) (by decide) (by decide)
    have c2 := hT.cell (o := 0) hb2' rfl (by decide) (by decide) (by decide)
    have cT := hC.time
    by_cases hlt : x.time < most
    · have hd : decide ((x.time : Int) < (most : Int)) = true := by simp; omega
      gi_wp2_with (fail)
      refine wpIn_wide.2 ?_
      go_quiet (fail)
      refine name_then ?_
      intro w2 hw2
      replace hC : CpuAt w2 B x := by rw [hw2]; exact hC.drewN _
      replace hJ : J pre w2 := by rw [hw2]; exact hJa _ _ _ hJ ((BelowBut.refl _ _ _).drewN _)
      replace hT : KeepsT W1 w2 := by rw [hw2]; exact hT.trans (KeepsT.of_below (below_drewN (Below.refl _ _) _))
      clear hw2 c1 c2 cT hd
      have c1 := hT.cell (o := 0) hb1' rfl (by decide) (by decide) (by decide)
      have cC := hC.c
      have hxc := hC.wf.c
      have cO := hC.mem hC.wf.c
      have cN := hC.mem (show (x.c + 1) % 256 < 256 by omega)
      have hO := getD_lt hC.wf.memB x.c
      have hN := getD_lt hC.wf.memB ((x.c + 1) % 256)
      change _ = some (Value.int .u8 ((x.o : Nat) : Int)) at cO
      change _ = some (Value.int .u8 ((x.n : Nat) : Int)) at cN
      change x.o < 256 at hO
      change x.n < 256 at hN
      have s1 : IntKind.u8.wrap ((x.c : Int) + 1) = (((x.c + 1) % 256 : Nat) : Int) := by rw [u8n]; omega
      have hq : (x.c + 1) % 256 < 256 := by omega
      generalize (x.c + 1) % 256 = q at s1 cN hq
      have t1 : (x.c : Int) < 256 := by omega
      have t2 : (q : Int) < 256 := by omega
      gi_wp2_with (fail)
      refine wpIn_wide.2 ?_
      go_quiet (fail)
      refine name_then ?_
      intro w3 hw2
      replace hC : CpuAt w3 B x := by rw [hw2]; exact hC.drewN _
      replace hJ : J pre w3 := by rw [hw2]; exact hJa _ _ _ hJ ((BelowBut.refl _ _ _).drewN _)
      replace hT : KeepsT W1 w3 := by rw [hw2]; exact hT.trans (KeepsT.of_below (below_drewN (Below.refl _ _) _))
      clear hw2 c1 cC cO cN s1 hq t1 t2
      obtain ⟨f, hf⟩ : ∃ f, most - x.time = f + 1 := ⟨most - x.time - 1, by omega⟩
      rw [hf] at hpre
      have cC := hC.c
      have fC := hC.free 514
      have hs : CpuAt (w3.setCell ⟨B, 514, none⟩ (.int .u8 (((x.c : Int) + 2) % 256))) B x.next := hC.setC (v := (x.c + 2) % 256) (by omega)
      have hJ4 := hJa _ _ _ hJ ((BelowBut.refl w3.heap.size B w3).setCell 514 (.int .u8 (((x.c : Int) + 2) % 256)))
      have hT4 := hT.trans (KeepsT.of_but hC ((BelowBut.refl w3.heap.size B w3).setCell 514 (.int .u8 (((x.c : Int) + 2) % 256))))
      have c1 := hT.cell (o := 0) hb1' rfl (by decide) (by decide) (by decide)
      have c14 := hT4.cell (o := 0) hb1' rfl (by decide) (by decide) (by decide)
      replace hs := Lib.hid hs
      replace hf := Lib.hid hf
      by_cases hh : x.o = 0 ∨ 17 ≤ x.o
      · rw [runs_halt hh] at hpre
        have hlen : pre.length < most - x0.time := by
          have := congrArg List.length hpre
          rw [List.length_append, List.length_singleton] at this
          omega
        replace hpre := Lib.hid hpre
        have hor : ((x.o : Int) == 0) = true ∨ (((x.o : Int) == 0) = false ∧ decide ((17 : Int) ≤ (x.o : Int)) = true) := by
          rcases hh with h | h
          · exact .inl (by simp [h])
          · exact .inr ⟨by rw [beq_eq_false_iff_ne]; omega, by simp; omega⟩
        clear hh
        rcases hor with e1 | ⟨e1, e2⟩
        all_goals
          gi_wp2_with (fail)
          refine ⟨trivial, fun h => by simp [Fence.wide] at h, (callsIn_wide.2 (event_any _ B x.next 4 x.o x.n hs.out hO hN)).mono ?_⟩
          rintro e w5 ⟨rfl, hA, hb5⟩
          have hJ5 := hJa _ _ _ hJ4 (BelowBut.of hb5)
          rw [show (w3.setCell ⟨B, 514, none⟩ (.int .u8 (((x.c : Int) + 2) % 256))).heap.size = w3.heap.size by simp [World.setCell]] at hA
          obtain ⟨l0, l1, l2, l3⟩ := CpuAt.load4 hA
          dsimp only at l0 l1 l2 l3
          change w5.cell? _ = some (Value.int .i64 (x.time : Int)) at l0
          obtain ⟨fn, tmps, assign, body, hy, hR⟩ := hY pre ⟨x.time, 4, (x.o : Int), (x.n : Int)⟩ w5 hJ5 hlen
          dsimp only [evAgg] at hy
          gi_wp2_with (fail)
          refine ⟨fun h => by simp [Fence.wide] at h, hR.mono ?_⟩
          clear hR hy
          rintro e W3 (⟨rfl, hJ3, hk3⟩ | ⟨rfl, hJx3⟩)
          · gi_wp2
            refine bodyPost_ret (results_none rfl _ _ _) rfl ?_
            exact ⟨⟨_, rfl⟩, .inl ⟨_, hpre.out, hJ3⟩⟩
          · gi_wp2
            refine bodyPost_ret (results_none rfl _ _ _) rfl ?_
            exact ⟨⟨_, rfl⟩, .inr ⟨_, trivial, hJx3⟩⟩
      · rw [runs_go hh] at hpre
        have e1 : ((x.o : Int) == 0) = false := by rw [beq_eq_false_iff_ne]; omega
        have e2 : decide ((17 : Int) ≤ (x.o : Int)) = false := by simp; omega
        have e3 : (x.o : Int) < 17 := by omega
        have e4 : (0 : Int) ≤ (x.o : Int) := by omega
        obtain ⟨v, hv, hstep⟩ := hst.out x.o (by omega) (by omega)
        obtain ⟨g, lb, rfl, eg, hgo⟩ := hstep
        have cK := hT4.cell hL hv (by decide) (by decide) (by decide)
        have cM := hs.out.mem hN
        change _ = some (Value.int .u8 ((x.m : Nat) : Int)) at cM
        have hM : x.m < 256 := getD_lt hC.wf.memB x.n
        have t1 : (x.n : Int) < 256 := by omega
        replace hpre := Lib.hid hpre
        clear hh hv
        gi_wp2_with (fail)
        refine wpIn_wide.2 ?_
        refine name_wp ?_
        intro w4 hw4
        replace hs : CpuAt w4 B x.next := by rw [hw4]; exact hs.out
        replace hJ4 : J pre w4 := by rw [hw4]; exact hJ4
        replace hT4 : KeepsT W1 w4 := by rw [hw4]; exact hT4
        replace c14 : w4.cell? ⟨b1, 0, none⟩ = some (.pointer (some ⟨B, 0, none⟩)) := by rw [hw4]; exact c14
        replace cK : w4.cell? ⟨K, x.o, none⟩ = some (.func (.func g) #[] lb) := by rw [hw4]; exact cK
        replace cM : w4.cell? ⟨B, 1 + x.n, none⟩ = some (.int .u8 ((x.m : Nat) : Int)) := by rw [hw4]; exact cM
        clear hw4 cC fC c1 hC hJ hT e1 e2
        have t0 : (0 : Int) ≤ (x.n : Int) := by omega
        go_still_tail 12, (by kernel_rfl)
        change wpList _ _ _ _ _ w4.drew
        have hCd := hs.drew
        have hJd := hJa _ _ _ hJ4 (BelowBut.refl w4.heap.size B w4).drew
        have hTd : KeepsT W1 w4.drew := hT4
        clear hs hJ4 hT4 c14 cK cM
        generalize w4.drew = w4d at *
        go_wp2_with (fail)
        refine (hgo w4d x.next x.n x.m hTd hCd hN hM).mono ?_
        rintro e w5 ⟨p, rfl, hp, hC5, hb5⟩
        have hJ5 := hJa _ _ _ hJd hb5
        have hT5 := hTd.trans (KeepsT.of_but hCd hb5)
        have hti : (x.next.op x.o x.n x.m).1.time = x.time := op_time _ _ _ _
        change pre ++ (x.go.2.toList ++ runs f { x.go.1 with time := x.time + 1 }) = runs (most - x0.time) x0 at hpre
        change CpuAt w5 B x.go.1 at hC5
        change x.go.1.time = x.time at hti
        change (match x.go.2 with | none => p = none | some v => ∃ b, p = some ⟨b, 0, none⟩ ∧ b ≠ B ∧ Arr w5 b 39 (evCells [v])) at hp
        clear hCd hJd hTd hb5 hgo
        cases hev : x.go.2 with
        | none =>
          rw [hev] at hp hpre
          obtain rfl : p = none := hp
          simp only [Option.toList, List.nil_append] at hpre
          replace hpre := Lib.hid hpre
          clear hev
          generalize x.go.1 = y at *
          have c1 := hT5.cell (o := 0) hb1' rfl (by decide) (by decide) (by decide)
          have cT := hC5.time
          rw [hti] at cT
          have fT := hC5.free 515
          have hs6 := Lib.hid (hC5.setTime (x.time + 1))
          have hJ6 := hJa _ _ _ hJ5 ((BelowBut.refl w5.heap.size B w5).setCell 515 (.int .i64 ((x.time + 1 : Nat) : Int)))
          have hT6 := hT5.trans (KeepsT.of_but hC5 ((BelowBut.refl w5.heap.size B w5).setCell 515 (.int .i64 ((x.time + 1 : Nat) : Int))))
          replace hti := Lib.hid hti
          clear hC5 hJ5 hT5
          go_wp2_with (fail)
          gi_wp2_with (fail)
          refine ⟨(fun f h => (by cases h)), ?_⟩
          gi_wp2_with (fail)
          exact ⟨⟨pre, { y with time := x.time + 1 }, hs6.out, by show x.time + 1 ≤ most; omega, by rw [show most - ({ y with time := x.time + 1 } : Cpu).time = f by show most - (x.time + 1) = f; have := hf.out; omega]; exact hpre.out, hJ6, hT6⟩, by
            have e1 := timeOf_eq hs6.out
            change timeOf B _ = x.time + 1 at e1
            have e2 := htO.out
            show most - timeOf B (w5.setCell ⟨B, 515, none⟩ (.int .i64 ((x.time + 1 : Nat) : Int))) < most - timeOf B wr
            rw [e1, e2]; omega⟩
        | some ev =>
          rw [hev] at hp hpre
          obtain ⟨b, rfl, hbB, hA⟩ := hp
          obtain ⟨l0, l1, l2, l3⟩ := CpuAt.load4 hA
          simp only [Option.toList, List.singleton_append] at hpre
          have hlen : pre.length < most - x0.time := by
            have := congrArg List.length hpre
            rw [List.length_append, List.length_cons] at this
            omega
          replace hpre := Lib.hid hpre
          clear hev
          generalize x.go.1 = y at *
          replace hti := Lib.hid hti
          obtain ⟨fn, tmps, assign, body, hy, hR⟩ := hY pre ev w5 hJ5 hlen
          dsimp only [evAgg] at hy
          go_wp2_with (fail)
          gi_wp2_with (fail)
          refine ⟨fun h => by simp [Fence.wide] at h, hR.mono ?_⟩
          clear hR hy
          rintro e W3 (⟨rfl, hJ3, hk3⟩ | ⟨rfl, hJx3⟩)
          · have hC6 := hC5.belowAt hk3.1 hBn
            have hT6 := hT5.trans hk3.2
            have c1 := hT6.cell (o := 0) hb1' rfl (by decide) (by decide) (by decide)
            have cT := hC6.time
            rw [hti.out] at cT
            have fT := hC6.free 515
            have hs7 := Lib.hid (hC6.setTime (x.time + 1))
            have hJ7 := hJa _ _ _ hJ3 ((BelowBut.refl W3.heap.size B W3).setCell 515 (.int .i64 ((x.time + 1 : Nat) : Int)))
            have hT7 := hT6.trans (KeepsT.of_but hC6 ((BelowBut.refl W3.heap.size B W3).setCell 515 (.int .i64 ((x.time + 1 : Nat) : Int))))
            clear hC5 hC6 hJ5 hJ3 hT5 hT6 hk3 l0 l1 l2 l3
            gi_wp2_with (fail)
            exact ⟨⟨pre ++ [ev], { y with time := x.time + 1 }, hs7.out, by show x.time + 1 ≤ most; omega, by rw [show most - ({ y with time := x.time + 1 } : Cpu).time = f by show most - (x.time + 1) = f; have := hf.out; omega]; rw [List.append_assoc]; exact hpre.out, hJ7, hT7⟩, by
              have e1 := timeOf_eq hs7.out
              change timeOf B _ = x.time + 1 at e1
              have e2 := htO.out
              show most - timeOf B (W3.setCell ⟨B, 515, none⟩ (.int .i64 ((x.time + 1 : Nat) : Int))) < most - timeOf B wr
              rw [e1, e2]; omega⟩
          · gi_wp2
            refine bodyPost_ret (results_none rfl _ _ _) rfl ?_
            exact ⟨⟨_, rfl⟩, .inr ⟨_, trivial, hJx3⟩⟩
    · have hd : decide ((x.time : Int) < (most : Int)) = false := by simp; omega
      have hz : most - x.time = 0 := by omega
      rw [hz] at hpre
      simp only [runs, List.append_nil] at hpre
      replace hpre := Lib.hid hpre
      gi_wp2_with (fail)
      refine wpIn_wide.2 ?_
      go_quiet (fail)
      refine name_then ?_
      intro w2 hw2
      replace hJ : J pre w2 := by rw [hw2]; exact hJa _ _ _ hJ ((BelowBut.refl _ _ _).drewN _)
      clear hw2 hz
      gi_wp2
      go_end0
      exact ⟨⟨_, rfl⟩, .inl ⟨_, hpre.out, hJ⟩⟩
end Go.Proofs.YtkgbknjpnhoadaaGreatDoor
