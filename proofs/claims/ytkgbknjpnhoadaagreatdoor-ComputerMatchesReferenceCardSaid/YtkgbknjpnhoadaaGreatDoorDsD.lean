/-
  The reference's Step, the operations that are plain stores.
-/
import Derived.Test.YtkgbknjpnhoadaaGreatDoorDsC
namespace Go.Proofs.YtkgbknjpnhoadaaGreatDoor
open Go.RowKit Go.Shelf


set_option maxRecDepth 100000 in
set_option maxHeartbeats 4000000 in
theorem mstep1 (w : World) (B base : Nat) (ks : List Ev) (kv : Value) (x : Cpu) (tk : Nat) (ev : Value) (L : List Ev) (h : MPre w B base ks kv x tk ev L) (hop : x.mem.getD x.c 0 = 1) :
    Calls Tryz.prog 45 #[.pointer (some ⟨B, 0, none⟩), kv] w fun e w' => e = .returned (.tuple #[]) ∧ MPost w w' B base ks x.nx (L ++ x.evs) false := by
  obtain ⟨hms, hkeys, hrest, htk, hks, hlen, htime⟩ := h
  have hwf := hms.mach.wf
  have hc := hwf.c
  have ha := hwf.a
  have hN := getD_lt hwf.memB ((x.c + 1) % 256)
  have hMv := getD_lt hwf.memB (x.mem.getD ((x.c + 1) % 256) 0)
  have cC := hms.mach.c
  have cO := hms.mach.mem hc
  have cN := hms.mach.mem (j := (x.c + 1) % 256) (by omega)
  obtain ⟨n, hn⟩ : ∃ n, n = x.mem.getD ((x.c + 1) % 256) 0 := ⟨_, rfl⟩
  obtain ⟨m, hm⟩ : ∃ m, m = x.mem.getD n 0 := ⟨_, rfl⟩
  rw [← hn] at hN hMv cN
  rw [← hm] at hMv
  rw [hop] at cO
  have jn : (n : Int) < 256 := by omega
  have jc : (x.c : Int) < 256 := by omega
  have jm : (m : Int) < 256 := by omega
  have ja : (x.a : Int) < 256 := by omega
  have jc1 : ((x.c : Int) + 1) % 256 < 256 := by omega
  replace hn := Lib.hid hn
  replace hm := Lib.hid hm
  replace hms := Lib.hid hms
  go_enter Tryz.func45, Tryz.ntmps45
  go_wp2_with fail
  go_quiet (fail)
  go_wp2_with fail
  go_quiet (fail)
  refine name_then ?_
  intro W hW
  have hM : MS w W B base x tk false ev L := by rw [hW]; first | exact (hms.out.drewN _).drewN _ | exact hms.out.drewN _
  clear hW cC cO cN
  have cM : W.cell? ⟨B, n, none⟩ = some (.int .i64 (m : Int)) := by rw [hm.out]; exact hM.mach.mem hN
  have cC := hM.mach.c
  have fC := hM.mach.free 513
  have cA := hM.mach.a
  have fA := hM.mach.free 512
  have cT := hM.mach.time
  have fT := hM.mach.free 514
  have hs0 := hM.setC (v := (x.c + 2) % 256) (by omega)
  have hs := Lib.hid (MS.setTime (hs0.setA hN) (x.time + 1))
  have hnx : Hid (x.nx = { (({ x with c := (x.c + 2) % 256 } : Cpu).op 1 n m).1 with time := x.time + 1 } ∧ x.evs = (({ x with c := (x.c + 2) % 256 } : Cpu).op 1 n m).2.toList) := by
    show _ ∧ _
    try rw [hm.out]
    try rw [hn.out]
    unfold Cpu.nx Cpu.evs
    rw [hop]
    exact ⟨rfl, rfl⟩
  clear hs0 hM hms

  go_wp2_with fail
  go_end0
  refine ⟨rfl, tk, ev, ?_, ?_, htk⟩
  · rw [hnx.out.1, hnx.out.2]
    show MS _ _ _ _ _ _ _ _ (L ++ [])
    rw [List.append_nil]
    first | exact hs.out | exact hs.out.drew
  · rw [hnx.out.1]
    exact hrest

set_option maxRecDepth 100000 in
set_option maxHeartbeats 4000000 in
theorem mstep2 (w : World) (B base : Nat) (ks : List Ev) (kv : Value) (x : Cpu) (tk : Nat) (ev : Value) (L : List Ev) (h : MPre w B base ks kv x tk ev L) (hop : x.mem.getD x.c 0 = 2) :
    Calls Tryz.prog 45 #[.pointer (some ⟨B, 0, none⟩), kv] w fun e w' => e = .returned (.tuple #[]) ∧ MPost w w' B base ks x.nx (L ++ x.evs) false := by
  obtain ⟨hms, hkeys, hrest, htk, hks, hlen, htime⟩ := h
  have hwf := hms.mach.wf
  have hc := hwf.c
  have ha := hwf.a
  have hN := getD_lt hwf.memB ((x.c + 1) % 256)
  have hMv := getD_lt hwf.memB (x.mem.getD ((x.c + 1) % 256) 0)
  have cC := hms.mach.c
  have cO := hms.mach.mem hc
  have cN := hms.mach.mem (j := (x.c + 1) % 256) (by omega)
  obtain ⟨n, hn⟩ : ∃ n, n = x.mem.getD ((x.c + 1) % 256) 0 := ⟨_, rfl⟩
  obtain ⟨m, hm⟩ : ∃ m, m = x.mem.getD n 0 := ⟨_, rfl⟩
  rw [← hn] at hN hMv cN
  rw [← hm] at hMv
  rw [hop] at cO
  have jn : (n : Int) < 256 := by omega
  have jc : (x.c : Int) < 256 := by omega
  have jm : (m : Int) < 256 := by omega
  have ja : (x.a : Int) < 256 := by omega
  have jc1 : ((x.c : Int) + 1) % 256 < 256 := by omega
  replace hn := Lib.hid hn
  replace hm := Lib.hid hm
  replace hms := Lib.hid hms
  go_enter Tryz.func45, Tryz.ntmps45
  go_wp2_with fail
  go_quiet (fail)
  go_wp2_with fail
  go_quiet (fail)
  refine name_then ?_
  intro W hW
  have hM : MS w W B base x tk false ev L := by rw [hW]; first | exact (hms.out.drewN _).drewN _ | exact hms.out.drewN _
  clear hW cC cO cN
  have cM : W.cell? ⟨B, n, none⟩ = some (.int .i64 (m : Int)) := by rw [hm.out]; exact hM.mach.mem hN
  have cC := hM.mach.c
  have fC := hM.mach.free 513
  have cA := hM.mach.a
  have fA := hM.mach.free 512
  have cT := hM.mach.time
  have fT := hM.mach.free 514
  have hs0 := hM.setC (v := (x.c + 2) % 256) (by omega)
  have hs := Lib.hid (MS.setTime (hs0.setA hMv) (x.time + 1))
  have hnx : Hid (x.nx = { (({ x with c := (x.c + 2) % 256 } : Cpu).op 2 n m).1 with time := x.time + 1 } ∧ x.evs = (({ x with c := (x.c + 2) % 256 } : Cpu).op 2 n m).2.toList) := by
    show _ ∧ _
    try rw [hm.out]
    try rw [hn.out]
    unfold Cpu.nx Cpu.evs
    rw [hop]
    exact ⟨rfl, rfl⟩
  clear hs0 hM hms

  go_wp2_with fail
  go_end0
  refine ⟨rfl, tk, ev, ?_, ?_, htk⟩
  · rw [hnx.out.1, hnx.out.2]
    show MS _ _ _ _ _ _ _ _ (L ++ [])
    rw [List.append_nil]
    first | exact hs.out | exact hs.out.drew
  · rw [hnx.out.1]
    exact hrest

set_option maxRecDepth 100000 in
set_option maxHeartbeats 4000000 in
theorem mstep3 (w : World) (B base : Nat) (ks : List Ev) (kv : Value) (x : Cpu) (tk : Nat) (ev : Value) (L : List Ev) (h : MPre w B base ks kv x tk ev L) (hop : x.mem.getD x.c 0 = 3) :
    Calls Tryz.prog 45 #[.pointer (some ⟨B, 0, none⟩), kv] w fun e w' => e = .returned (.tuple #[]) ∧ MPost w w' B base ks x.nx (L ++ x.evs) false := by
  obtain ⟨hms, hkeys, hrest, htk, hks, hlen, htime⟩ := h
  have hwf := hms.mach.wf
  have hc := hwf.c
  have ha := hwf.a
  have hN := getD_lt hwf.memB ((x.c + 1) % 256)
  have hMv := getD_lt hwf.memB (x.mem.getD ((x.c + 1) % 256) 0)
  have cC := hms.mach.c
  have cO := hms.mach.mem hc
  have cN := hms.mach.mem (j := (x.c + 1) % 256) (by omega)
  obtain ⟨n, hn⟩ : ∃ n, n = x.mem.getD ((x.c + 1) % 256) 0 := ⟨_, rfl⟩
  obtain ⟨m, hm⟩ : ∃ m, m = x.mem.getD n 0 := ⟨_, rfl⟩
  rw [← hn] at hN hMv cN
  rw [← hm] at hMv
  rw [hop] at cO
  have jn : (n : Int) < 256 := by omega
  have jc : (x.c : Int) < 256 := by omega
  have jm : (m : Int) < 256 := by omega
  have ja : (x.a : Int) < 256 := by omega
  have jc1 : ((x.c : Int) + 1) % 256 < 256 := by omega
  replace hn := Lib.hid hn
  replace hm := Lib.hid hm
  replace hms := Lib.hid hms
  go_enter Tryz.func45, Tryz.ntmps45
  go_wp2_with fail
  go_quiet (fail)
  go_wp2_with fail
  go_quiet (fail)
  refine name_then ?_
  intro W hW
  have hM : MS w W B base x tk false ev L := by rw [hW]; first | exact (hms.out.drewN _).drewN _ | exact hms.out.drewN _
  clear hW cC cO cN
  have cM : W.cell? ⟨B, n, none⟩ = some (.int .i64 (m : Int)) := by rw [hm.out]; exact hM.mach.mem hN
  have cC := hM.mach.c
  have fC := hM.mach.free 513
  have cA := hM.mach.a
  have fA := hM.mach.free 512
  have cT := hM.mach.time
  have fT := hM.mach.free 514
  have hs0 := hM.setC (v := (x.c + 2) % 256) (by omega)
  have fM := hM.mach.free n
  have hs := Lib.hid (MS.setTime (hs0.setMem hN ha) (x.time + 1))
  have hnx : Hid (x.nx = { (({ x with c := (x.c + 2) % 256 } : Cpu).op 3 n m).1 with time := x.time + 1 } ∧ x.evs = (({ x with c := (x.c + 2) % 256 } : Cpu).op 3 n m).2.toList) := by
    show _ ∧ _
    try rw [hm.out]
    try rw [hn.out]
    unfold Cpu.nx Cpu.evs
    rw [hop]
    exact ⟨rfl, rfl⟩
  clear hs0 hM hms

  go_wp2_with fail
  go_region
  go_wp2_with fail
  go_end0
  refine ⟨rfl, tk, ev, ?_, ?_, htk⟩
  · rw [hnx.out.1, hnx.out.2]
    show MS _ _ _ _ _ _ _ _ (L ++ [])
    rw [List.append_nil]
    first | exact hs.out | exact hs.out.drew
  · rw [hnx.out.1]
    exact hrest

set_option maxRecDepth 100000 in
set_option maxHeartbeats 4000000 in
theorem mstep4 (w : World) (B base : Nat) (ks : List Ev) (kv : Value) (x : Cpu) (tk : Nat) (ev : Value) (L : List Ev) (h : MPre w B base ks kv x tk ev L) (hop : x.mem.getD x.c 0 = 4) :
    Calls Tryz.prog 45 #[.pointer (some ⟨B, 0, none⟩), kv] w fun e w' => e = .returned (.tuple #[]) ∧ MPost w w' B base ks x.nx (L ++ x.evs) false := by
  obtain ⟨hms, hkeys, hrest, htk, hks, hlen, htime⟩ := h
  have hwf := hms.mach.wf
  have hc := hwf.c
  have ha := hwf.a
  have hN := getD_lt hwf.memB ((x.c + 1) % 256)
  have hMv := getD_lt hwf.memB (x.mem.getD ((x.c + 1) % 256) 0)
  have cC := hms.mach.c
  have cO := hms.mach.mem hc
  have cN := hms.mach.mem (j := (x.c + 1) % 256) (by omega)
  obtain ⟨n, hn⟩ : ∃ n, n = x.mem.getD ((x.c + 1) % 256) 0 := ⟨_, rfl⟩
  obtain ⟨m, hm⟩ : ∃ m, m = x.mem.getD n 0 := ⟨_, rfl⟩
  rw [← hn] at hN hMv cN
  rw [← hm] at hMv
  rw [hop] at cO
  have jn : (n : Int) < 256 := by omega
  have jc : (x.c : Int) < 256 := by omega
  have jm : (m : Int) < 256 := by omega
  have ja : (x.a : Int) < 256 := by omega
  have jc1 : ((x.c : Int) + 1) % 256 < 256 := by omega
  replace hn := Lib.hid hn
  replace hm := Lib.hid hm
  replace hms := Lib.hid hms
  go_enter Tryz.func45, Tryz.ntmps45
  go_wp2_with fail
  go_quiet (fail)
  go_wp2_with fail
  go_quiet (fail)
  refine name_then ?_
  intro W hW
  have hM : MS w W B base x tk false ev L := by rw [hW]; first | exact (hms.out.drewN _).drewN _ | exact hms.out.drewN _
  clear hW cC cO cN
  have cM : W.cell? ⟨B, n, none⟩ = some (.int .i64 (m : Int)) := by rw [hm.out]; exact hM.mach.mem hN
  have cC := hM.mach.c
  have fC := hM.mach.free 513
  have cA := hM.mach.a
  have fA := hM.mach.free 512
  have cT := hM.mach.time
  have fT := hM.mach.free 514
  have hs0 := hM.setC (v := (x.c + 2) % 256) (by omega)
  obtain ⟨q, hq⟩ : ∃ q, q = x.mem.getD m 0 := ⟨_, rfl⟩
  have cQ : W.cell? ⟨B, m, none⟩ = some (.int .i64 (q : Int)) := by rw [hq]; exact hM.mach.mem hMv
  have hs := Lib.hid (MS.setTime (hs0.setA (v := q) (by rw [hq]; exact getD_lt hwf.memB m)) (x.time + 1))
  have hnx : Hid (x.nx = { (({ x with c := (x.c + 2) % 256 } : Cpu).op 4 n m).1 with time := x.time + 1 } ∧ x.evs = (({ x with c := (x.c + 2) % 256 } : Cpu).op 4 n m).2.toList) := by
    show _ ∧ _
    try rw [hm.out]
    try rw [hn.out]
    unfold Cpu.nx Cpu.evs
    rw [hop]
    exact ⟨rfl, rfl⟩
  replace hq := Lib.hid hq
  clear hs0 hM hms

  go_wp2_with fail
  go_end0
  refine ⟨rfl, tk, ev, ?_, ?_, htk⟩
  · rw [hnx.out.1, hnx.out.2]
    show MS _ _ _ _ _ _ _ _ (L ++ [])
    rw [List.append_nil]
    obtain rfl := hq.out
    first | exact hs.out | exact hs.out.drew
  · rw [hnx.out.1]
    exact hrest

set_option maxRecDepth 100000 in
set_option maxHeartbeats 4000000 in
theorem mstep5 (w : World) (B base : Nat) (ks : List Ev) (kv : Value) (x : Cpu) (tk : Nat) (ev : Value) (L : List Ev) (h : MPre w B base ks kv x tk ev L) (hop : x.mem.getD x.c 0 = 5) :
    Calls Tryz.prog 45 #[.pointer (some ⟨B, 0, none⟩), kv] w fun e w' => e = .returned (.tuple #[]) ∧ MPost w w' B base ks x.nx (L ++ x.evs) false := by
  obtain ⟨hms, hkeys, hrest, htk, hks, hlen, htime⟩ := h
  have hwf := hms.mach.wf
  have hc := hwf.c
  have ha := hwf.a
  have hN := getD_lt hwf.memB ((x.c + 1) % 256)
  have hMv := getD_lt hwf.memB (x.mem.getD ((x.c + 1) % 256) 0)
  have cC := hms.mach.c
  have cO := hms.mach.mem hc
  have cN := hms.mach.mem (j := (x.c + 1) % 256) (by omega)
  obtain ⟨n, hn⟩ : ∃ n, n = x.mem.getD ((x.c + 1) % 256) 0 := ⟨_, rfl⟩
  obtain ⟨m, hm⟩ : ∃ m, m = x.mem.getD n 0 := ⟨_, rfl⟩
  rw [← hn] at hN hMv cN
  rw [← hm] at hMv
  rw [hop] at cO
  have jn : (n : Int) < 256 := by omega
  have jc : (x.c : Int) < 256 := by omega
  have jm : (m : Int) < 256 := by omega
  have ja : (x.a : Int) < 256 := by omega
  have jc1 : ((x.c : Int) + 1) % 256 < 256 := by omega
  replace hn := Lib.hid hn
  replace hm := Lib.hid hm
  replace hms := Lib.hid hms
  go_enter Tryz.func45, Tryz.ntmps45
  go_wp2_with fail
  go_quiet (fail)
  go_wp2_with fail
  go_quiet (fail)
  refine name_then ?_
  intro W hW
  have hM : MS w W B base x tk false ev L := by rw [hW]; first | exact (hms.out.drewN _).drewN _ | exact hms.out.drewN _
  clear hW cC cO cN
  have cM : W.cell? ⟨B, n, none⟩ = some (.int .i64 (m : Int)) := by rw [hm.out]; exact hM.mach.mem hN
  have cC := hM.mach.c
  have fC := hM.mach.free 513
  have cA := hM.mach.a
  have fA := hM.mach.free 512
  have cT := hM.mach.time
  have fT := hM.mach.free 514
  have hs0 := hM.setC (v := (x.c + 2) % 256) (by omega)
  have fM := hM.mach.free m
  have cMm := hM.mach.mem hMv
  generalize x.mem.getD m 0 = q at cMm
  have hs := Lib.hid (MS.setTime (hs0.setMem hMv ha) (x.time + 1))
  have hnx : Hid (x.nx = { (({ x with c := (x.c + 2) % 256 } : Cpu).op 5 n m).1 with time := x.time + 1 } ∧ x.evs = (({ x with c := (x.c + 2) % 256 } : Cpu).op 5 n m).2.toList) := by
    show _ ∧ _
    try rw [hm.out]
    try rw [hn.out]
    unfold Cpu.nx Cpu.evs
    rw [hop]
    exact ⟨rfl, rfl⟩
  clear hs0 hM hms

  go_wp2_with fail
  go_region
  go_wp2_with fail
  go_end0
  refine ⟨rfl, tk, ev, ?_, ?_, htk⟩
  · rw [hnx.out.1, hnx.out.2]
    show MS _ _ _ _ _ _ _ _ (L ++ [])
    rw [List.append_nil]
    first | exact hs.out | exact hs.out.drew
  · rw [hnx.out.1]
    exact hrest

set_option maxRecDepth 100000 in
set_option maxHeartbeats 4000000 in
theorem mstep6 (w : World) (B base : Nat) (ks : List Ev) (kv : Value) (x : Cpu) (tk : Nat) (ev : Value) (L : List Ev) (h : MPre w B base ks kv x tk ev L) (hop : x.mem.getD x.c 0 = 6) :
    Calls Tryz.prog 45 #[.pointer (some ⟨B, 0, none⟩), kv] w fun e w' => e = .returned (.tuple #[]) ∧ MPost w w' B base ks x.nx (L ++ x.evs) false := by
  obtain ⟨hms, hkeys, hrest, htk, hks, hlen, htime⟩ := h
  have hwf := hms.mach.wf
  have hc := hwf.c
  have ha := hwf.a
  have hN := getD_lt hwf.memB ((x.c + 1) % 256)
  have hMv := getD_lt hwf.memB (x.mem.getD ((x.c + 1) % 256) 0)
  have cC := hms.mach.c
  have cO := hms.mach.mem hc
  have cN := hms.mach.mem (j := (x.c + 1) % 256) (by omega)
  obtain ⟨n, hn⟩ : ∃ n, n = x.mem.getD ((x.c + 1) % 256) 0 := ⟨_, rfl⟩
  obtain ⟨m, hm⟩ : ∃ m, m = x.mem.getD n 0 := ⟨_, rfl⟩
  rw [← hn] at hN hMv cN
  rw [← hm] at hMv
  rw [hop] at cO
  have jn : (n : Int) < 256 := by omega
  have jc : (x.c : Int) < 256 := by omega
  have jm : (m : Int) < 256 := by omega
  have ja : (x.a : Int) < 256 := by omega
  have jc1 : ((x.c : Int) + 1) % 256 < 256 := by omega
  replace hn := Lib.hid hn
  replace hm := Lib.hid hm
  replace hms := Lib.hid hms
  go_enter Tryz.func45, Tryz.ntmps45
  go_wp2_with fail
  go_quiet (fail)
  go_wp2_with fail
  go_quiet (fail)
  refine name_then ?_
  intro W hW
  have hM : MS w W B base x tk false ev L := by rw [hW]; first | exact (hms.out.drewN _).drewN _ | exact hms.out.drewN _
  clear hW cC cO cN
  have cM : W.cell? ⟨B, n, none⟩ = some (.int .i64 (m : Int)) := by rw [hm.out]; exact hM.mach.mem hN
  have cC := hM.mach.c
  have fC := hM.mach.free 513
  have cA := hM.mach.a
  have fA := hM.mach.free 512
  have cT := hM.mach.time
  have fT := hM.mach.free 514
  have hs0 := hM.setC (v := (x.c + 2) % 256) (by omega)
  have hs := Lib.hid (MS.setTime (hs0.setA (v := (x.a + m) % 256) (by omega)) (x.time + 1))
  have hnx : Hid (x.nx = { (({ x with c := (x.c + 2) % 256 } : Cpu).op 6 n m).1 with time := x.time + 1 } ∧ x.evs = (({ x with c := (x.c + 2) % 256 } : Cpu).op 6 n m).2.toList) := by
    show _ ∧ _
    try rw [hm.out]
    try rw [hn.out]
    unfold Cpu.nx Cpu.evs
    rw [hop]
    exact ⟨rfl, rfl⟩
  clear hs0 hM hms

  go_wp2_with fail
  go_end0
  refine ⟨rfl, tk, ev, ?_, ?_, htk⟩
  · rw [hnx.out.1, hnx.out.2]
    show MS _ _ _ _ _ _ _ _ (L ++ [])
    rw [List.append_nil]
    first | exact hs.out | exact hs.out.drew
  · rw [hnx.out.1]
    exact hrest

set_option maxRecDepth 100000 in
set_option maxHeartbeats 4000000 in
theorem mstep7 (w : World) (B base : Nat) (ks : List Ev) (kv : Value) (x : Cpu) (tk : Nat) (ev : Value) (L : List Ev) (h : MPre w B base ks kv x tk ev L) (hop : x.mem.getD x.c 0 = 7) :
    Calls Tryz.prog 45 #[.pointer (some ⟨B, 0, none⟩), kv] w fun e w' => e = .returned (.tuple #[]) ∧ MPost w w' B base ks x.nx (L ++ x.evs) false := by
  obtain ⟨hms, hkeys, hrest, htk, hks, hlen, htime⟩ := h
  have hwf := hms.mach.wf
  have hc := hwf.c
  have ha := hwf.a
  have hN := getD_lt hwf.memB ((x.c + 1) % 256)
  have hMv := getD_lt hwf.memB (x.mem.getD ((x.c + 1) % 256) 0)
  have cC := hms.mach.c
  have cO := hms.mach.mem hc
  have cN := hms.mach.mem (j := (x.c + 1) % 256) (by omega)
  obtain ⟨n, hn⟩ : ∃ n, n = x.mem.getD ((x.c + 1) % 256) 0 := ⟨_, rfl⟩
  obtain ⟨m, hm⟩ : ∃ m, m = x.mem.getD n 0 := ⟨_, rfl⟩
  rw [← hn] at hN hMv cN
  rw [← hm] at hMv
  rw [hop] at cO
  have jn : (n : Int) < 256 := by omega
  have jc : (x.c : Int) < 256 := by omega
  have jm : (m : Int) < 256 := by omega
  have ja : (x.a : Int) < 256 := by omega
  have jc1 : ((x.c : Int) + 1) % 256 < 256 := by omega
  replace hn := Lib.hid hn
  replace hm := Lib.hid hm
  replace hms := Lib.hid hms
  go_enter Tryz.func45, Tryz.ntmps45
  go_wp2_with fail
  go_quiet (fail)
  go_wp2_with fail
  go_quiet (fail)
  refine name_then ?_
  intro W hW
  have hM : MS w W B base x tk false ev L := by rw [hW]; first | exact (hms.out.drewN _).drewN _ | exact hms.out.drewN _
  clear hW cC cO cN
  have cM : W.cell? ⟨B, n, none⟩ = some (.int .i64 (m : Int)) := by rw [hm.out]; exact hM.mach.mem hN
  have cC := hM.mach.c
  have fC := hM.mach.free 513
  have cA := hM.mach.a
  have fA := hM.mach.free 512
  have cT := hM.mach.time
  have fT := hM.mach.free 514
  have hs0 := hM.setC (v := (x.c + 2) % 256) (by omega)
  have hs7 : MS w ((W.setCell ⟨B, 513, none⟩ (.int .i64 (((x.c + 2) % 256 : Nat) : Int))).setCell ⟨B, 512, none⟩ (.int .i64 (((x.a : Int) + 256 - (m : Int)) % 256))) B base { ({ x with c := (x.c + 2) % 256 } : Cpu) with a := (x.a + 256 - m) % 256 } tk false ev L := by
    rw [show ((x.a : Int) + 256 - (m : Int)) % 256 = (((x.a + 256 - m) % 256 : Nat) : Int) from by omega]
    exact hs0.setA (by omega)
  have hs := Lib.hid (MS.setTime (hs7) (x.time + 1))
  have hnx : Hid (x.nx = { (({ x with c := (x.c + 2) % 256 } : Cpu).op 7 n m).1 with time := x.time + 1 } ∧ x.evs = (({ x with c := (x.c + 2) % 256 } : Cpu).op 7 n m).2.toList) := by
    show _ ∧ _
    try rw [hm.out]
    try rw [hn.out]
    unfold Cpu.nx Cpu.evs
    rw [hop]
    exact ⟨rfl, rfl⟩
  clear hs0 hM hms

  go_wp2_with fail
  go_end0
  refine ⟨rfl, tk, ev, ?_, ?_, htk⟩
  · rw [hnx.out.1, hnx.out.2]
    show MS _ _ _ _ _ _ _ _ (L ++ [])
    rw [List.append_nil]
    first | exact hs.out | exact hs.out.drew
  · rw [hnx.out.1]
    exact hrest

set_option maxRecDepth 100000 in
set_option maxHeartbeats 4000000 in
theorem mstep8 (w : World) (B base : Nat) (ks : List Ev) (kv : Value) (x : Cpu) (tk : Nat) (ev : Value) (L : List Ev) (h : MPre w B base ks kv x tk ev L) (hop : x.mem.getD x.c 0 = 8) :
    Calls Tryz.prog 45 #[.pointer (some ⟨B, 0, none⟩), kv] w fun e w' => e = .returned (.tuple #[]) ∧ MPost w w' B base ks x.nx (L ++ x.evs) false := by
  obtain ⟨hms, hkeys, hrest, htk, hks, hlen, htime⟩ := h
  have hwf := hms.mach.wf
  have hc := hwf.c
  have ha := hwf.a
  have hN := getD_lt hwf.memB ((x.c + 1) % 256)
  have hMv := getD_lt hwf.memB (x.mem.getD ((x.c + 1) % 256) 0)
  have cC := hms.mach.c
  have cO := hms.mach.mem hc
  have cN := hms.mach.mem (j := (x.c + 1) % 256) (by omega)
  obtain ⟨n, hn⟩ : ∃ n, n = x.mem.getD ((x.c + 1) % 256) 0 := ⟨_, rfl⟩
  obtain ⟨m, hm⟩ : ∃ m, m = x.mem.getD n 0 := ⟨_, rfl⟩
  rw [← hn] at hN hMv cN
  rw [← hm] at hMv
  rw [hop] at cO
  have jn : (n : Int) < 256 := by omega
  have jc : (x.c : Int) < 256 := by omega
  have jm : (m : Int) < 256 := by omega
  have ja : (x.a : Int) < 256 := by omega
  have jc1 : ((x.c : Int) + 1) % 256 < 256 := by omega
  replace hn := Lib.hid hn
  replace hm := Lib.hid hm
  replace hms := Lib.hid hms
  go_enter Tryz.func45, Tryz.ntmps45
  go_wp2_with fail
  go_quiet (fail)
  go_wp2_with fail
  go_quiet (fail)
  refine name_then ?_
  intro W hW
  have hM : MS w W B base x tk false ev L := by rw [hW]; first | exact (hms.out.drewN _).drewN _ | exact hms.out.drewN _
  clear hW cC cO cN
  have cM : W.cell? ⟨B, n, none⟩ = some (.int .i64 (m : Int)) := by rw [hm.out]; exact hM.mach.mem hN
  have cC := hM.mach.c
  have fC := hM.mach.free 513
  have cA := hM.mach.a
  have fA := hM.mach.free 512
  have cT := hM.mach.time
  have fT := hM.mach.free 514
  have hs0 := hM.setC (v := (x.c + 2) % 256) (by omega)
  have hs := Lib.hid (MS.setTime (hs0.setC hN) (x.time + 1))
  have hnx : Hid (x.nx = { (({ x with c := (x.c + 2) % 256 } : Cpu).op 8 n m).1 with time := x.time + 1 } ∧ x.evs = (({ x with c := (x.c + 2) % 256 } : Cpu).op 8 n m).2.toList) := by
    show _ ∧ _
    try rw [hm.out]
    try rw [hn.out]
    unfold Cpu.nx Cpu.evs
    rw [hop]
    exact ⟨rfl, rfl⟩
  clear hs0 hM hms

  go_wp2_with fail
  go_end0
  refine ⟨rfl, tk, ev, ?_, ?_, htk⟩
  · rw [hnx.out.1, hnx.out.2]
    show MS _ _ _ _ _ _ _ _ (L ++ [])
    rw [List.append_nil]
    first | exact hs.out | exact hs.out.drew
  · rw [hnx.out.1]
    exact hrest

set_option maxRecDepth 100000 in
set_option maxHeartbeats 4000000 in
theorem mstep9a (w : World) (B base : Nat) (ks : List Ev) (kv : Value) (x : Cpu) (tk : Nat) (ev : Value) (L : List Ev) (h : MPre w B base ks kv x tk ev L) (hop : x.mem.getD x.c 0 = 9) (hcd : x.a = 0) :
    Calls Tryz.prog 45 #[.pointer (some ⟨B, 0, none⟩), kv] w fun e w' => e = .returned (.tuple #[]) ∧ MPost w w' B base ks x.nx (L ++ x.evs) false := by
  obtain ⟨hms, hkeys, hrest, htk, hks, hlen, htime⟩ := h
  have hwf := hms.mach.wf
  have hc := hwf.c
  have ha := hwf.a
  have hN := getD_lt hwf.memB ((x.c + 1) % 256)
  have hMv := getD_lt hwf.memB (x.mem.getD ((x.c + 1) % 256) 0)
  have cC := hms.mach.c
  have cO := hms.mach.mem hc
  have cN := hms.mach.mem (j := (x.c + 1) % 256) (by omega)
  obtain ⟨n, hn⟩ : ∃ n, n = x.mem.getD ((x.c + 1) % 256) 0 := ⟨_, rfl⟩
  obtain ⟨m, hm⟩ : ∃ m, m = x.mem.getD n 0 := ⟨_, rfl⟩
  rw [← hn] at hN hMv cN
  rw [← hm] at hMv
  rw [hop] at cO
  have jn : (n : Int) < 256 := by omega
  have jc : (x.c : Int) < 256 := by omega
  have jm : (m : Int) < 256 := by omega
  have ja : (x.a : Int) < 256 := by omega
  have jc1 : ((x.c : Int) + 1) % 256 < 256 := by omega
  replace hn := Lib.hid hn
  replace hm := Lib.hid hm
  replace hms := Lib.hid hms
  go_enter Tryz.func45, Tryz.ntmps45
  go_wp2_with fail
  go_quiet (fail)
  go_wp2_with fail
  go_quiet (fail)
  refine name_then ?_
  intro W hW
  have hM : MS w W B base x tk false ev L := by rw [hW]; first | exact (hms.out.drewN _).drewN _ | exact hms.out.drewN _
  clear hW cC cO cN
  have cM : W.cell? ⟨B, n, none⟩ = some (.int .i64 (m : Int)) := by rw [hm.out]; exact hM.mach.mem hN
  have cC := hM.mach.c
  have fC := hM.mach.free 513
  have cA := hM.mach.a
  have fA := hM.mach.free 512
  have cT := hM.mach.time
  have fT := hM.mach.free 514
  have hs0 := hM.setC (v := (x.c + 2) % 256) (by omega)
  have hb : ((x.a : Int) == 0) = true := by simp; omega
  have hs := Lib.hid (MS.setTime (hs0.setC hN) (x.time + 1))
  have hnx : Hid (x.nx = { ({ ({ x with c := (x.c + 2) % 256 } : Cpu) with c := n } : Cpu) with time := x.time + 1 } ∧ x.evs = []) := by
    show _ ∧ _
    try rw [hm.out]
    try rw [hn.out]
    unfold Cpu.nx Cpu.evs
    rw [hop]
    unfold Cpu.op
    dsimp only
    rw [if_pos hcd]
    exact ⟨rfl, rfl⟩
  clear hs0 hM hms

  go_wp2_with fail
  go_end0
  refine ⟨rfl, tk, ev, ?_, ?_, htk⟩
  · rw [hnx.out.1, hnx.out.2]
    show MS _ _ _ _ _ _ _ _ (L ++ [])
    rw [List.append_nil]
    first | exact hs.out | exact hs.out.drew
  · rw [hnx.out.1]
    exact hrest

set_option maxRecDepth 100000 in
set_option maxHeartbeats 4000000 in
theorem mstep9b (w : World) (B base : Nat) (ks : List Ev) (kv : Value) (x : Cpu) (tk : Nat) (ev : Value) (L : List Ev) (h : MPre w B base ks kv x tk ev L) (hop : x.mem.getD x.c 0 = 9) (hcd : ¬ x.a = 0) :
    Calls Tryz.prog 45 #[.pointer (some ⟨B, 0, none⟩), kv] w fun e w' => e = .returned (.tuple #[]) ∧ MPost w w' B base ks x.nx (L ++ x.evs) false := by
  obtain ⟨hms, hkeys, hrest, htk, hks, hlen, htime⟩ := h
  have hwf := hms.mach.wf
  have hc := hwf.c
  have ha := hwf.a
  have hN := getD_lt hwf.memB ((x.c + 1) % 256)
  have hMv := getD_lt hwf.memB (x.mem.getD ((x.c + 1) % 256) 0)
  have cC := hms.mach.c
  have cO := hms.mach.mem hc
  have cN := hms.mach.mem (j := (x.c + 1) % 256) (by omega)
  obtain ⟨n, hn⟩ : ∃ n, n = x.mem.getD ((x.c + 1) % 256) 0 := ⟨_, rfl⟩
  obtain ⟨m, hm⟩ : ∃ m, m = x.mem.getD n 0 := ⟨_, rfl⟩
  rw [← hn] at hN hMv cN
  rw [← hm] at hMv
  rw [hop] at cO
  have jn : (n : Int) < 256 := by omega
  have jc : (x.c : Int) < 256 := by omega
  have jm : (m : Int) < 256 := by omega
  have ja : (x.a : Int) < 256 := by omega
  have jc1 : ((x.c : Int) + 1) % 256 < 256 := by omega
  replace hn := Lib.hid hn
  replace hm := Lib.hid hm
  replace hms := Lib.hid hms
  go_enter Tryz.func45, Tryz.ntmps45
  go_wp2_with fail
  go_quiet (fail)
  go_wp2_with fail
  go_quiet (fail)
  refine name_then ?_
  intro W hW
  have hM : MS w W B base x tk false ev L := by rw [hW]; first | exact (hms.out.drewN _).drewN _ | exact hms.out.drewN _
  clear hW cC cO cN
  have cM : W.cell? ⟨B, n, none⟩ = some (.int .i64 (m : Int)) := by rw [hm.out]; exact hM.mach.mem hN
  have cC := hM.mach.c
  have fC := hM.mach.free 513
  have cA := hM.mach.a
  have fA := hM.mach.free 512
  have cT := hM.mach.time
  have fT := hM.mach.free 514
  have hs0 := hM.setC (v := (x.c + 2) % 256) (by omega)
  have hb : ((x.a : Int) == 0) = false := by simp; omega
  have hs := Lib.hid (MS.setTime (hs0) (x.time + 1))
  have hnx : Hid (x.nx = { ({ x with c := (x.c + 2) % 256 } : Cpu) with time := x.time + 1 } ∧ x.evs = []) := by
    show _ ∧ _
    try rw [hm.out]
    try rw [hn.out]
    unfold Cpu.nx Cpu.evs
    rw [hop]
    unfold Cpu.op
    dsimp only
    rw [if_neg hcd]
    exact ⟨rfl, rfl⟩
  clear hs0 hM hms

  go_wp2_with fail
  go_end0
  refine ⟨rfl, tk, ev, ?_, ?_, htk⟩
  · rw [hnx.out.1, hnx.out.2]
    show MS _ _ _ _ _ _ _ _ (L ++ [])
    rw [List.append_nil]
    first | exact hs.out | exact hs.out.drew
  · rw [hnx.out.1]
    exact hrest

set_option maxRecDepth 100000 in
set_option maxHeartbeats 4000000 in
theorem mstep10a (w : World) (B base : Nat) (ks : List Ev) (kv : Value) (x : Cpu) (tk : Nat) (ev : Value) (L : List Ev) (h : MPre w B base ks kv x tk ev L) (hop : x.mem.getD x.c 0 = 10) (hcd : 128 ≤ x.a) :
    Calls Tryz.prog 45 #[.pointer (some ⟨B, 0, none⟩), kv] w fun e w' => e = .returned (.tuple #[]) ∧ MPost w w' B base ks x.nx (L ++ x.evs) false := by
  obtain ⟨hms, hkeys, hrest, htk, hks, hlen, htime⟩ := h
  have hwf := hms.mach.wf
  have hc := hwf.c
  have ha := hwf.a
  have hN := getD_lt hwf.memB ((x.c + 1) % 256)
  have hMv := getD_lt hwf.memB (x.mem.getD ((x.c + 1) % 256) 0)
  have cC := hms.mach.c
  have cO := hms.mach.mem hc
  have cN := hms.mach.mem (j := (x.c + 1) % 256) (by omega)
  obtain ⟨n, hn⟩ : ∃ n, n = x.mem.getD ((x.c + 1) % 256) 0 := ⟨_, rfl⟩
  obtain ⟨m, hm⟩ : ∃ m, m = x.mem.getD n 0 := ⟨_, rfl⟩
  rw [← hn] at hN hMv cN
  rw [← hm] at hMv
  rw [hop] at cO
  have jn : (n : Int) < 256 := by omega
  have jc : (x.c : Int) < 256 := by omega
  have jm : (m : Int) < 256 := by omega
  have ja : (x.a : Int) < 256 := by omega
  have jc1 : ((x.c : Int) + 1) % 256 < 256 := by omega
  replace hn := Lib.hid hn
  replace hm := Lib.hid hm
  replace hms := Lib.hid hms
  go_enter Tryz.func45, Tryz.ntmps45
  go_wp2_with fail
  go_quiet (fail)
  go_wp2_with fail
  go_quiet (fail)
  refine name_then ?_
  intro W hW
  have hM : MS w W B base x tk false ev L := by rw [hW]; first | exact (hms.out.drewN _).drewN _ | exact hms.out.drewN _
  clear hW cC cO cN
  have cM : W.cell? ⟨B, n, none⟩ = some (.int .i64 (m : Int)) := by rw [hm.out]; exact hM.mach.mem hN
  have cC := hM.mach.c
  have fC := hM.mach.free 513
  have cA := hM.mach.a
  have fA := hM.mach.free 512
  have cT := hM.mach.time
  have fT := hM.mach.free 514
  have hs0 := hM.setC (v := (x.c + 2) % 256) (by omega)
  have hb : decide ((x.a : Int) ≥ 128) = true := by simp; omega
  have hs := Lib.hid (MS.setTime (hs0.setC hN) (x.time + 1))
  have hnx : Hid (x.nx = { ({ ({ x with c := (x.c + 2) % 256 } : Cpu) with c := n } : Cpu) with time := x.time + 1 } ∧ x.evs = []) := by
    show _ ∧ _
    try rw [hm.out]
    try rw [hn.out]
    unfold Cpu.nx Cpu.evs
    rw [hop]
    unfold Cpu.op
    dsimp only
    rw [if_pos hcd]
    exact ⟨rfl, rfl⟩
  clear hs0 hM hms

  go_wp2_with fail
  go_end0
  refine ⟨rfl, tk, ev, ?_, ?_, htk⟩
  · rw [hnx.out.1, hnx.out.2]
    show MS _ _ _ _ _ _ _ _ (L ++ [])
    rw [List.append_nil]
    first | exact hs.out | exact hs.out.drew
  · rw [hnx.out.1]
    exact hrest

set_option maxRecDepth 100000 in
set_option maxHeartbeats 4000000 in
theorem mstep10b (w : World) (B base : Nat) (ks : List Ev) (kv : Value) (x : Cpu) (tk : Nat) (ev : Value) (L : List Ev) (h : MPre w B base ks kv x tk ev L) (hop : x.mem.getD x.c 0 = 10) (hcd : ¬ 128 ≤ x.a) :
    Calls Tryz.prog 45 #[.pointer (some ⟨B, 0, none⟩), kv] w fun e w' => e = .returned (.tuple #[]) ∧ MPost w w' B base ks x.nx (L ++ x.evs) false := by
  obtain ⟨hms, hkeys, hrest, htk, hks, hlen, htime⟩ := h
  have hwf := hms.mach.wf
  have hc := hwf.c
  have ha := hwf.a
  have hN := getD_lt hwf.memB ((x.c + 1) % 256)
  have hMv := getD_lt hwf.memB (x.mem.getD ((x.c + 1) % 256) 0)
  have cC := hms.mach.c
  have cO := hms.mach.mem hc
  have cN := hms.mach.mem (j := (x.c + 1) % 256) (by omega)
  obtain ⟨n, hn⟩ : ∃ n, n = x.mem.getD ((x.c + 1) % 256) 0 := ⟨_, rfl⟩
  obtain ⟨m, hm⟩ : ∃ m, m = x.mem.getD n 0 := ⟨_, rfl⟩
  rw [← hn] at hN hMv cN
  rw [← hm] at hMv
  rw [hop] at cO
  have jn : (n : Int) < 256 := by omega
  have jc : (x.c : Int) < 256 := by omega
  have jm : (m : Int) < 256 := by omega
  have ja : (x.a : Int) < 256 := by omega
  have jc1 : ((x.c : Int) + 1) % 256 < 256 := by omega
  replace hn := Lib.hid hn
  replace hm := Lib.hid hm
  replace hms := Lib.hid hms
  go_enter Tryz.func45, Tryz.ntmps45
  go_wp2_with fail
  go_quiet (fail)
  go_wp2_with fail
  go_quiet (fail)
  refine name_then ?_
  intro W hW
  have hM : MS w W B base x tk false ev L := by rw [hW]; first | exact (hms.out.drewN _).drewN _ | exact hms.out.drewN _
  clear hW cC cO cN
  have cM : W.cell? ⟨B, n, none⟩ = some (.int .i64 (m : Int)) := by rw [hm.out]; exact hM.mach.mem hN
  have cC := hM.mach.c
  have fC := hM.mach.free 513
  have cA := hM.mach.a
  have fA := hM.mach.free 512
  have cT := hM.mach.time
  have fT := hM.mach.free 514
  have hs0 := hM.setC (v := (x.c + 2) % 256) (by omega)
  have hb : decide ((x.a : Int) ≥ 128) = false := by simp; omega
  have hs := Lib.hid (MS.setTime (hs0) (x.time + 1))
  have hnx : Hid (x.nx = { ({ x with c := (x.c + 2) % 256 } : Cpu) with time := x.time + 1 } ∧ x.evs = []) := by
    show _ ∧ _
    try rw [hm.out]
    try rw [hn.out]
    unfold Cpu.nx Cpu.evs
    rw [hop]
    unfold Cpu.op
    dsimp only
    rw [if_neg hcd]
    exact ⟨rfl, rfl⟩
  clear hs0 hM hms

  go_wp2_with fail
  go_end0
  refine ⟨rfl, tk, ev, ?_, ?_, htk⟩
  · rw [hnx.out.1, hnx.out.2]
    show MS _ _ _ _ _ _ _ _ (L ++ [])
    rw [List.append_nil]
    first | exact hs.out | exact hs.out.drew
  · rw [hnx.out.1]
    exact hrest

set_option maxRecDepth 100000 in
set_option maxHeartbeats 4000000 in
theorem mstep14 (w : World) (B base : Nat) (ks : List Ev) (kv : Value) (x : Cpu) (tk : Nat) (ev : Value) (L : List Ev) (h : MPre w B base ks kv x tk ev L) (hop : x.mem.getD x.c 0 = 14) :
    Calls Tryz.prog 45 #[.pointer (some ⟨B, 0, none⟩), kv] w fun e w' => e = .returned (.tuple #[]) ∧ MPost w w' B base ks x.nx (L ++ x.evs) false := by
  obtain ⟨hms, hkeys, hrest, htk, hks, hlen, htime⟩ := h
  have hwf := hms.mach.wf
  have hc := hwf.c
  have ha := hwf.a
  have hN := getD_lt hwf.memB ((x.c + 1) % 256)
  have hMv := getD_lt hwf.memB (x.mem.getD ((x.c + 1) % 256) 0)
  have cC := hms.mach.c
  have cO := hms.mach.mem hc
  have cN := hms.mach.mem (j := (x.c + 1) % 256) (by omega)
  obtain ⟨n, hn⟩ : ∃ n, n = x.mem.getD ((x.c + 1) % 256) 0 := ⟨_, rfl⟩
  obtain ⟨m, hm⟩ : ∃ m, m = x.mem.getD n 0 := ⟨_, rfl⟩
  rw [← hn] at hN hMv cN
  rw [← hm] at hMv
  rw [hop] at cO
  have jn : (n : Int) < 256 := by omega
  have jc : (x.c : Int) < 256 := by omega
  have jm : (m : Int) < 256 := by omega
  have ja : (x.a : Int) < 256 := by omega
  have jc1 : ((x.c : Int) + 1) % 256 < 256 := by omega
  replace hn := Lib.hid hn
  replace hm := Lib.hid hm
  replace hms := Lib.hid hms
  go_enter Tryz.func45, Tryz.ntmps45
  go_wp2_with fail
  go_quiet (fail)
  go_wp2_with fail
  go_quiet (fail)
  refine name_then ?_
  intro W hW
  have hM : MS w W B base x tk false ev L := by rw [hW]; first | exact (hms.out.drewN _).drewN _ | exact hms.out.drewN _
  clear hW cC cO cN
  have cM : W.cell? ⟨B, n, none⟩ = some (.int .i64 (m : Int)) := by rw [hm.out]; exact hM.mach.mem hN
  have cC := hM.mach.c
  have fC := hM.mach.free 513
  have cA := hM.mach.a
  have fA := hM.mach.free 512
  have cT := hM.mach.time
  have fT := hM.mach.free 514
  have hs0 := hM.setC (v := (x.c + 2) % 256) (by omega)
  obtain ⟨q, hq⟩ : ∃ q, q = x.disk.getD m 0 := ⟨_, rfl⟩
  have cQ : W.cell? ⟨B, 256 + m, none⟩ = some (.int .i64 (q : Int)) := by rw [hq]; exact hM.mach.disk hMv
  have hs := Lib.hid (MS.setTime (hs0.setA (v := q) (by rw [hq]; exact getD_lt hwf.diskB m)) (x.time + 1))
  have hnx : Hid (x.nx = { (({ x with c := (x.c + 2) % 256 } : Cpu).op 14 n m).1 with time := x.time + 1 } ∧ x.evs = (({ x with c := (x.c + 2) % 256 } : Cpu).op 14 n m).2.toList) := by
    show _ ∧ _
    try rw [hm.out]
    try rw [hn.out]
    unfold Cpu.nx Cpu.evs
    rw [hop]
    exact ⟨rfl, rfl⟩
  replace hq := Lib.hid hq
  clear hs0 hM hms

  go_wp2_with fail
  go_end0
  refine ⟨rfl, tk, ev, ?_, ?_, htk⟩
  · rw [hnx.out.1, hnx.out.2]
    show MS _ _ _ _ _ _ _ _ (L ++ [])
    rw [List.append_nil]
    obtain rfl := hq.out
    first | exact hs.out | exact hs.out.drew
  · rw [hnx.out.1]
    exact hrest

set_option maxRecDepth 100000 in
set_option maxHeartbeats 4000000 in
theorem mstep16 (w : World) (B base : Nat) (ks : List Ev) (kv : Value) (x : Cpu) (tk : Nat) (ev : Value) (L : List Ev) (h : MPre w B base ks kv x tk ev L) (hop : x.mem.getD x.c 0 = 16) :
    Calls Tryz.prog 45 #[.pointer (some ⟨B, 0, none⟩), kv] w fun e w' => e = .returned (.tuple #[]) ∧ MPost w w' B base ks x.nx (L ++ x.evs) false := by
  obtain ⟨hms, hkeys, hrest, htk, hks, hlen, htime⟩ := h
  have hwf := hms.mach.wf
  have hc := hwf.c
  have ha := hwf.a
  have hN := getD_lt hwf.memB ((x.c + 1) % 256)
  have hMv := getD_lt hwf.memB (x.mem.getD ((x.c + 1) % 256) 0)
  have cC := hms.mach.c
  have cO := hms.mach.mem hc
  have cN := hms.mach.mem (j := (x.c + 1) % 256) (by omega)
  obtain ⟨n, hn⟩ : ∃ n, n = x.mem.getD ((x.c + 1) % 256) 0 := ⟨_, rfl⟩
  obtain ⟨m, hm⟩ : ∃ m, m = x.mem.getD n 0 := ⟨_, rfl⟩
  rw [← hn] at hN hMv cN
  rw [← hm] at hMv
  rw [hop] at cO
  have jn : (n : Int) < 256 := by omega
  have jc : (x.c : Int) < 256 := by omega
  have jm : (m : Int) < 256 := by omega
  have ja : (x.a : Int) < 256 := by omega
  have jc1 : ((x.c : Int) + 1) % 256 < 256 := by omega
  replace hn := Lib.hid hn
  replace hm := Lib.hid hm
  replace hms := Lib.hid hms
  go_enter Tryz.func45, Tryz.ntmps45
  go_wp2_with fail
  go_quiet (fail)
  go_wp2_with fail
  go_quiet (fail)
  refine name_then ?_
  intro W hW
  have hM : MS w W B base x tk false ev L := by rw [hW]; first | exact (hms.out.drewN _).drewN _ | exact hms.out.drewN _
  clear hW cC cO cN
  have cM : W.cell? ⟨B, n, none⟩ = some (.int .i64 (m : Int)) := by rw [hm.out]; exact hM.mach.mem hN
  have cC := hM.mach.c
  have fC := hM.mach.free 513
  have cA := hM.mach.a
  have fA := hM.mach.free 512
  have cT := hM.mach.time
  have fT := hM.mach.free 514
  have hs0 := hM.setC (v := (x.c + 2) % 256) (by omega)
  have hs := Lib.hid (MS.setTime (hs0.setA (v := x.time % 256) (by omega)) (x.time + 1))
  have hnx : Hid (x.nx = { (({ x with c := (x.c + 2) % 256 } : Cpu).op 16 n m).1 with time := x.time + 1 } ∧ x.evs = (({ x with c := (x.c + 2) % 256 } : Cpu).op 16 n m).2.toList) := by
    show _ ∧ _
    try rw [hm.out]
    try rw [hn.out]
    unfold Cpu.nx Cpu.evs
    rw [hop]
    exact ⟨rfl, rfl⟩
  clear hs0 hM hms

  go_wp2_with fail
  go_end0
  refine ⟨rfl, tk, ev, ?_, ?_, htk⟩
  · rw [hnx.out.1, hnx.out.2]
    show MS _ _ _ _ _ _ _ _ (L ++ [])
    rw [List.append_nil]
    first | exact hs.out | exact hs.out.drew
  · rw [hnx.out.1]
    exact hrest
end Go.Proofs.YtkgbknjpnhoadaaGreatDoor
