/-
  The reference's Step, the operations with an event, KEY, and the halt.
-/
import Derived.Test.YtkgbknjpnhoadaaGreatDoorDsC
namespace Go.Proofs.YtkgbknjpnhoadaaGreatDoor
open Go.RowKit Go.Shelf


set_option maxRecDepth 100000 in
set_option maxHeartbeats 4000000 in
theorem mstep12 (w : World) (B base : Nat) (ks : List Ev) (kv : Value) (x : Cpu) (tk : Nat) (ev : Value) (L : List Ev) (h : MPre w B base ks kv x tk ev L) (hop : x.mem.getD x.c 0 = 12) :
    Calls Tryz.prog 45 #[.pointer (some ⟨B, 0, none⟩), kv] w fun e w' => e = .returned (.tuple #[]) ∧ MPost w w' B base ks x.nx (L ++ x.evs) false := by
  obtain ⟨hms, hkeys, hrest, htk, hks, hlen, htime⟩ := h
  have hwf := hms.mach.wf
  have hc := hwf.c
  have ha := hwf.a
  have hN := getD_lt hwf.memB ((x.c + 1) % 256)
  have hMv := getD_lt hwf.memB (x.mem.getD ((x.c + 1) % 256) 0)
  have cC := hms.mach.c
  have cO := hms.mach.mem hc
  have cN := hms.mach.mem (j := (x.c + 1) % 256) (by omega)
  obtain ⟨n, hn⟩ : ∃ n, n = x.mem.getD ((x.c + 1) % 256) 0 := ⟨_, rfl⟩
  obtain ⟨m, hm⟩ : ∃ m, m = x.mem.getD n 0 := ⟨_, rfl⟩
  rw [← hn] at hN hMv cN
  rw [← hm] at hMv
  rw [hop] at cO
  have jn : (n : Int) < 256 := by omega
  have jc : (x.c : Int) < 256 := by omega
  have jm : (m : Int) < 256 := by omega
  have ja : (x.a : Int) < 256 := by omega
  have jc1 : ((x.c : Int) + 1) % 256 < 256 := by omega
  replace hn := Lib.hid hn
  replace hm := Lib.hid hm
  replace hms := Lib.hid hms
  go_enter Tryz.func45, Tryz.ntmps45
  go_wp2_with fail
  go_quiet (fail)
  go_wp2_with fail
  go_quiet (fail)
  refine name_then ?_
  intro W hW
  have hM : MS w W B base x tk false ev L := by rw [hW]; first | exact (hms.out.drewN _).drewN _ | exact hms.out.drewN _
  clear hW cC cO cN
  have cM : W.cell? ⟨B, n, none⟩ = some (.int .i64 (m : Int)) := by rw [hm.out]; exact hM.mach.mem hN
  have cC := hM.mach.c
  have fC := hM.mach.free 513
  have cA := hM.mach.a
  have fA := hM.mach.free 512
  have cT := hM.mach.time
  have fT := hM.mach.free 514
  have hs0 := hM.setC (v := (x.c + 2) % 256) (by omega)
  have hev := Lib.hid (hs0.event (by omega) 1 ((m : Int) % 80) x.a)
  have hev2 := Lib.hid (hs0.drew.event (by omega) 1 ((m : Int) % 80) x.a)
  have hnx : Hid (x.nx = { ({ x with c := (x.c + 2) % 256 } : Cpu) with time := x.time + 1 } ∧ x.evs = [⟨x.time, 1, ((m : Int) % 80), x.a⟩]) := by
    show _ ∧ _
    try rw [hm.out]
    try rw [hn.out]
    unfold Cpu.nx Cpu.evs
    rw [hop]
    exact ⟨rfl, rfl⟩
  clear hs0 hM hms

  go_wp2_with fail
  first | refine hev.out.mono ?_ | refine hev2.out.mono ?_
  rintro e w2 ⟨rfl, ev', h2⟩
  clear cT fT
  have cT2 : w2.cell? ⟨B, 514, none⟩ = some (.int .i64 (x.time : Int)) := h2.mach.time
  have fT2 := h2.mach.free 514
  have hs := Lib.hid (h2.setTime (x.time + 1))
  clear h2
  go_wp2_with fail
  go_end0
  refine ⟨rfl, tk, ev', ?_, ?_, htk⟩
  · rw [hnx.out.1, hnx.out.2]
    exact hs.out
  · rw [hnx.out.1]
    exact hrest

set_option maxRecDepth 100000 in
set_option maxHeartbeats 4000000 in
theorem mstep13 (w : World) (B base : Nat) (ks : List Ev) (kv : Value) (x : Cpu) (tk : Nat) (ev : Value) (L : List Ev) (h : MPre w B base ks kv x tk ev L) (hop : x.mem.getD x.c 0 = 13) :
    Calls Tryz.prog 45 #[.pointer (some ⟨B, 0, none⟩), kv] w fun e w' => e = .returned (.tuple #[]) ∧ MPost w w' B base ks x.nx (L ++ x.evs) false := by
  obtain ⟨hms, hkeys, hrest, htk, hks, hlen, htime⟩ := h
  have hwf := hms.mach.wf
  have hc := hwf.c
  have ha := hwf.a
  have hN := getD_lt hwf.memB ((x.c + 1) % 256)
  have hMv := getD_lt hwf.memB (x.mem.getD ((x.c + 1) % 256) 0)
  have cC := hms.mach.c
  have cO := hms.mach.mem hc
  have cN := hms.mach.mem (j := (x.c + 1) % 256) (by omega)
  obtain ⟨n, hn⟩ : ∃ n, n = x.mem.getD ((x.c + 1) % 256) 0 := ⟨_, rfl⟩
  obtain ⟨m, hm⟩ : ∃ m, m = x.mem.getD n 0 := ⟨_, rfl⟩
  rw [← hn] at hN hMv cN
  rw [← hm] at hMv
  rw [hop] at cO
  have jn : (n : Int) < 256 := by omega
  have jc : (x.c : Int) < 256 := by omega
  have jm : (m : Int) < 256 := by omega
  have ja : (x.a : Int) < 256 := by omega
  have jc1 : ((x.c : Int) + 1) % 256 < 256 := by omega
  replace hn := Lib.hid hn
  replace hm := Lib.hid hm
  replace hms := Lib.hid hms
  go_enter Tryz.func45, Tryz.ntmps45
  go_wp2_with fail
  go_quiet (fail)
  go_wp2_with fail
  go_quiet (fail)
  refine name_then ?_
  intro W hW
  have hM : MS w W B base x tk false ev L := by rw [hW]; first | exact (hms.out.drewN _).drewN _ | exact hms.out.drewN _
  clear hW cC cO cN
  have cM : W.cell? ⟨B, n, none⟩ = some (.int .i64 (m : Int)) := by rw [hm.out]; exact hM.mach.mem hN
  have cC := hM.mach.c
  have fC := hM.mach.free 513
  have cA := hM.mach.a
  have fA := hM.mach.free 512
  have cT := hM.mach.time
  have fT := hM.mach.free 514
  have hs0 := hM.setC (v := (x.c + 2) % 256) (by omega)
  have hev := Lib.hid (hs0.event (by omega) 2 m ((x.a : Int) % 2))
  have hev2 := Lib.hid (hs0.drew.event (by omega) 2 m ((x.a : Int) % 2))
  have hnx : Hid (x.nx = { ({ x with c := (x.c + 2) % 256 } : Cpu) with time := x.time + 1 } ∧ x.evs = [⟨x.time, 2, m, ((x.a : Int) % 2)⟩]) := by
    show _ ∧ _
    try rw [hm.out]
    try rw [hn.out]
    unfold Cpu.nx Cpu.evs
    rw [hop]
    exact ⟨rfl, rfl⟩
  clear hs0 hM hms

  go_wp2_with fail
  first | refine hev.out.mono ?_ | refine hev2.out.mono ?_
  rintro e w2 ⟨rfl, ev', h2⟩
  clear cT fT
  have cT2 : w2.cell? ⟨B, 514, none⟩ = some (.int .i64 (x.time : Int)) := h2.mach.time
  have fT2 := h2.mach.free 514
  have hs := Lib.hid (h2.setTime (x.time + 1))
  clear h2
  go_wp2_with fail
  go_end0
  refine ⟨rfl, tk, ev', ?_, ?_, htk⟩
  · rw [hnx.out.1, hnx.out.2]
    exact hs.out
  · rw [hnx.out.1]
    exact hrest

set_option maxRecDepth 100000 in
set_option maxHeartbeats 4000000 in
theorem mstep15 (w : World) (B base : Nat) (ks : List Ev) (kv : Value) (x : Cpu) (tk : Nat) (ev : Value) (L : List Ev) (h : MPre w B base ks kv x tk ev L) (hop : x.mem.getD x.c 0 = 15) :
    Calls Tryz.prog 45 #[.pointer (some ⟨B, 0, none⟩), kv] w fun e w' => e = .returned (.tuple #[]) ∧ MPost w w' B base ks x.nx (L ++ x.evs) false := by
  obtain ⟨hms, hkeys, hrest, htk, hks, hlen, htime⟩ := h
  have hwf := hms.mach.wf
  have hc := hwf.c
  have ha := hwf.a
  have hN := getD_lt hwf.memB ((x.c + 1) % 256)
  have hMv := getD_lt hwf.memB (x.mem.getD ((x.c + 1) % 256) 0)
  have cC := hms.mach.c
  have cO := hms.mach.mem hc
  have cN := hms.mach.mem (j := (x.c + 1) % 256) (by omega)
  obtain ⟨n, hn⟩ : ∃ n, n = x.mem.getD ((x.c + 1) % 256) 0 := ⟨_, rfl⟩
  obtain ⟨m, hm⟩ : ∃ m, m = x.mem.getD n 0 := ⟨_, rfl⟩
  rw [← hn] at hN hMv cN
  rw [← hm] at hMv
  rw [hop] at cO
  have jn : (n : Int) < 256 := by omega
  have jc : (x.c : Int) < 256 := by omega
  have jm : (m : Int) < 256 := by omega
  have ja : (x.a : Int) < 256 := by omega
  have jc1 : ((x.c : Int) + 1) % 256 < 256 := by omega
  replace hn := Lib.hid hn
  replace hm := Lib.hid hm
  replace hms := Lib.hid hms
  go_enter Tryz.func45, Tryz.ntmps45
  go_wp2_with fail
  go_quiet (fail)
  go_wp2_with fail
  go_quiet (fail)
  refine name_then ?_
  intro W hW
  have hM : MS w W B base x tk false ev L := by rw [hW]; first | exact (hms.out.drewN _).drewN _ | exact hms.out.drewN _
  clear hW cC cO cN
  have cM : W.cell? ⟨B, n, none⟩ = some (.int .i64 (m : Int)) := by rw [hm.out]; exact hM.mach.mem hN
  have cC := hM.mach.c
  have fC := hM.mach.free 513
  have cA := hM.mach.a
  have fA := hM.mach.free 512
  have cT := hM.mach.time
  have fT := hM.mach.free 514
  have hs0 := hM.setC (v := (x.c + 2) % 256) (by omega)
  have fD := hM.mach.free (256 + m)
  have cD := hM.mach.disk hMv
  generalize x.disk.getD m 0 = q at cD
  have hsD := hs0.setDisk hMv ha
  have hev := Lib.hid (hsD.event (by omega) 3 m x.a)
  have hev2 := Lib.hid (hsD.drew.event (by omega) 3 m x.a)
  have hnx : Hid (x.nx = { ({ ({ x with c := (x.c + 2) % 256 } : Cpu) with disk := x.disk.set m x.a } : Cpu) with time := x.time + 1 } ∧ x.evs = [⟨x.time, 3, m, x.a⟩]) := by
    show _ ∧ _
    try rw [hm.out]
    try rw [hn.out]
    unfold Cpu.nx Cpu.evs
    rw [hop]
    exact ⟨rfl, rfl⟩
  clear hs0 hM hms hsD

  go_wp2_with fail
  go_region
  go_wp2_with fail
  first | refine hev.out.mono ?_ | refine hev2.out.mono ?_
  rintro e w2 ⟨rfl, ev', h2⟩
  clear cT fT
  have cT2 : w2.cell? ⟨B, 514, none⟩ = some (.int .i64 (x.time : Int)) := h2.mach.time
  have fT2 := h2.mach.free 514
  have hs := Lib.hid (h2.setTime (x.time + 1))
  clear h2
  go_wp2_with fail
  go_end0
  refine ⟨rfl, tk, ev', ?_, ?_, htk⟩
  · rw [hnx.out.1, hnx.out.2]
    exact hs.out
  · rw [hnx.out.1]
    exact hrest

set_option maxRecDepth 100000 in
set_option maxHeartbeats 4000000 in
theorem mhalt0 (w : World) (B base : Nat) (ks : List Ev) (kv : Value) (x : Cpu) (tk : Nat) (ev : Value) (L : List Ev) (h : MPre w B base ks kv x tk ev L) (hop : x.mem.getD x.c 0 = 0) :
    Calls Tryz.prog 45 #[.pointer (some ⟨B, 0, none⟩), kv] w fun e w' => e = .returned (.tuple #[]) ∧ MPost w w' B base ks { x with c := (x.c + 2) % 256, time := x.time + 1 } (L ++ [x.halt]) true := by
  obtain ⟨hms, hkeys, hrest, htk, hks, hlen, htime⟩ := h
  have hwf := hms.mach.wf
  have hc := hwf.c
  have ha := hwf.a
  have hN := getD_lt hwf.memB ((x.c + 1) % 256)
  have hMv := getD_lt hwf.memB (x.mem.getD ((x.c + 1) % 256) 0)
  have cC := hms.mach.c
  have cO := hms.mach.mem hc
  have cN := hms.mach.mem (j := (x.c + 1) % 256) (by omega)
  obtain ⟨n, hn⟩ : ∃ n, n = x.mem.getD ((x.c + 1) % 256) 0 := ⟨_, rfl⟩
  obtain ⟨m, hm⟩ : ∃ m, m = x.mem.getD n 0 := ⟨_, rfl⟩
  rw [← hn] at hN hMv cN
  rw [← hm] at hMv
  rw [hop] at cO
  have jn : (n : Int) < 256 := by omega
  have jc : (x.c : Int) < 256 := by omega
  have jm : (m : Int) < 256 := by omega
  have ja : (x.a : Int) < 256 := by omega
  have jc1 : ((x.c : Int) + 1) % 256 < 256 := by omega
  replace hn := Lib.hid hn
  replace hm := Lib.hid hm
  replace hms := Lib.hid hms
  go_enter Tryz.func45, Tryz.ntmps45
  go_wp2_with fail
  go_quiet (fail)
  go_wp2_with fail
  go_quiet (fail)
  refine name_then ?_
  intro W hW
  have hM : MS w W B base x tk false ev L := by rw [hW]; first | exact (hms.out.drewN _).drewN _ | exact hms.out.drewN _
  clear hW cC cO cN
  have cM : W.cell? ⟨B, n, none⟩ = some (.int .i64 (m : Int)) := by rw [hm.out]; exact hM.mach.mem hN
  have cC := hM.mach.c
  have fC := hM.mach.free 513
  have cA := hM.mach.a
  have fA := hM.mach.free 512
  have cT := hM.mach.time
  have fT := hM.mach.free 514
  have hs0 := hM.setC (v := (x.c + 2) % 256) (by omega)
  have hev := Lib.hid (hs0.event (by omega) 4 0 n)
  have hnx : Hid (x.halt = ⟨x.time, 4, 0, n⟩) := by
    show _ = _
    try rw [hn.out]
    unfold Cpu.halt
    rw [hop]
    try rfl
  clear hs0 hM hms

  go_wp2_with fail
  refine hev.out.mono ?_
  rintro e w2 ⟨rfl, ev', h2⟩
  clear cT fT
  have cT2 : w2.cell? ⟨B, 514, none⟩ = some (.int .i64 (x.time : Int)) := h2.mach.time
  have fT2 := h2.mach.free 514
  have cH2 : w2.cell? ⟨B, 516, none⟩ = some (.bool false) := h2.mach.halted
  have fH2 := h2.mach.free 516
  have hs := Lib.hid ((h2.setHalted true).setTime (x.time + 1))
  clear h2
  go_wp2_with fail
  go_end0
  refine ⟨rfl, tk, ev', ?_, hrest, htk⟩
  rw [hnx.out]
  exact hs.out

set_option maxRecDepth 100000 in
set_option maxHeartbeats 4000000 in
theorem mhalt17 (w : World) (B base : Nat) (ks : List Ev) (kv : Value) (x : Cpu) (tk : Nat) (ev : Value) (L : List Ev) (h : MPre w B base ks kv x tk ev L) (o : Nat) (hop : x.mem.getD x.c 0 = o) (ho17 : 17 ≤ o) :
    Calls Tryz.prog 45 #[.pointer (some ⟨B, 0, none⟩), kv] w fun e w' => e = .returned (.tuple #[]) ∧ MPost w w' B base ks { x with c := (x.c + 2) % 256, time := x.time + 1 } (L ++ [x.halt]) true := by
  obtain ⟨hms, hkeys, hrest, htk, hks, hlen, htime⟩ := h
  have hwf := hms.mach.wf
  have hc := hwf.c
  have ha := hwf.a
  have hN := getD_lt hwf.memB ((x.c + 1) % 256)
  have hMv := getD_lt hwf.memB (x.mem.getD ((x.c + 1) % 256) 0)
  have cC := hms.mach.c
  have cO := hms.mach.mem hc
  have cN := hms.mach.mem (j := (x.c + 1) % 256) (by omega)
  obtain ⟨n, hn⟩ : ∃ n, n = x.mem.getD ((x.c + 1) % 256) 0 := ⟨_, rfl⟩
  obtain ⟨m, hm⟩ : ∃ m, m = x.mem.getD n 0 := ⟨_, rfl⟩
  rw [← hn] at hN hMv cN
  rw [← hm] at hMv
  rw [hop] at cO
  have jn : (n : Int) < 256 := by omega
  have jc : (x.c : Int) < 256 := by omega
  have jm : (m : Int) < 256 := by omega
  have ja : (x.a : Int) < 256 := by omega
  have jc1 : ((x.c : Int) + 1) % 256 < 256 := by omega
  replace hn := Lib.hid hn
  replace hm := Lib.hid hm
  replace hms := Lib.hid hms
  go_enter Tryz.func45, Tryz.ntmps45
  go_wp2_with fail
  go_quiet (fail)
  go_wp2_with fail
  go_quiet (fail)
  refine name_then ?_
  intro W hW
  have hM : MS w W B base x tk false ev L := by rw [hW]; first | exact (hms.out.drewN _).drewN _ | exact hms.out.drewN _
  clear hW cC cO cN
  have cM : W.cell? ⟨B, n, none⟩ = some (.int .i64 (m : Int)) := by rw [hm.out]; exact hM.mach.mem hN
  have cC := hM.mach.c
  have fC := hM.mach.free 513
  have cA := hM.mach.a
  have fA := hM.mach.free 512
  have cT := hM.mach.time
  have fT := hM.mach.free 514
  have hs0 := hM.setC (v := (x.c + 2) % 256) (by omega)
  have b1 : ((o : Int) == 1) = false := by rw [beq_eq_false_iff_ne]; omega
  have b2 : ((o : Int) == 2) = false := by rw [beq_eq_false_iff_ne]; omega
  have b3 : ((o : Int) == 3) = false := by rw [beq_eq_false_iff_ne]; omega
  have b4 : ((o : Int) == 4) = false := by rw [beq_eq_false_iff_ne]; omega
  have b5 : ((o : Int) == 5) = false := by rw [beq_eq_false_iff_ne]; omega
  have b6 : ((o : Int) == 6) = false := by rw [beq_eq_false_iff_ne]; omega
  have b7 : ((o : Int) == 7) = false := by rw [beq_eq_false_iff_ne]; omega
  have b8 : ((o : Int) == 8) = false := by rw [beq_eq_false_iff_ne]; omega
  have b9 : ((o : Int) == 9) = false := by rw [beq_eq_false_iff_ne]; omega
  have b10 : ((o : Int) == 10) = false := by rw [beq_eq_false_iff_ne]; omega
  have b11 : ((o : Int) == 11) = false := by rw [beq_eq_false_iff_ne]; omega
  have b12 : ((o : Int) == 12) = false := by rw [beq_eq_false_iff_ne]; omega
  have b13 : ((o : Int) == 13) = false := by rw [beq_eq_false_iff_ne]; omega
  have b14 : ((o : Int) == 14) = false := by rw [beq_eq_false_iff_ne]; omega
  have b15 : ((o : Int) == 15) = false := by rw [beq_eq_false_iff_ne]; omega
  have b16 : ((o : Int) == 16) = false := by rw [beq_eq_false_iff_ne]; omega
  have hev := Lib.hid (hs0.event (by omega) 4 o n)
  have hnx : Hid (x.halt = ⟨x.time, 4, o, n⟩) := by
    show _ = _
    try rw [hn.out]
    unfold Cpu.halt
    rw [hop]
    try rfl
  clear hs0 hM hms

  go_wp2_with fail
  refine hev.out.mono ?_
  rintro e w2 ⟨rfl, ev', h2⟩
  clear cT fT
  have cT2 : w2.cell? ⟨B, 514, none⟩ = some (.int .i64 (x.time : Int)) := h2.mach.time
  have fT2 := h2.mach.free 514
  have cH2 : w2.cell? ⟨B, 516, none⟩ = some (.bool false) := h2.mach.halted
  have fH2 := h2.mach.free 516
  have hs := Lib.hid ((h2.setHalted true).setTime (x.time + 1))
  clear h2
  go_wp2_with fail
  go_end0
  refine ⟨rfl, tk, ev', ?_, hrest, htk⟩
  rw [hnx.out]
  exact hs.out
end Go.Proofs.YtkgbknjpnhoadaaGreatDoor
