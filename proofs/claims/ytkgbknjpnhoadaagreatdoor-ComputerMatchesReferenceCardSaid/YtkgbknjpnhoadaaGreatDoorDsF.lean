/-
  The reference's Step, KEY.
-/
import Derived.Test.YtkgbknjpnhoadaaGreatDoorDsC
namespace Go.Proofs.YtkgbknjpnhoadaaGreatDoor
open Go.RowKit Go.Shelf


set_option maxRecDepth 100000 in
set_option maxHeartbeats 4000000 in
theorem mkey0 (w : World) (B base : Nat) (ks : List Ev) (kv : Value) (x : Cpu) (tk : Nat) (ev : Value) (L : List Ev) (h : MPre w B base ks kv x tk ev L) (hop : x.mem.getD x.c 0 = 11) (hend : tk = ks.length) :
    Calls Tryz.prog 45 #[.pointer (some ⟨B, 0, none⟩), kv] w fun e w' => e = .returned (.tuple #[]) ∧ MPost w w' B base ks x.nx (L ++ x.evs) false := by
  obtain ⟨hms, hkeys, hrest, htk, hks, hlen, htime⟩ := h
  have hwf := hms.mach.wf
  have hc := hwf.c
  have ha := hwf.a
  have hN := getD_lt hwf.memB ((x.c + 1) % 256)
  have hMv := getD_lt hwf.memB (x.mem.getD ((x.c + 1) % 256) 0)
  have cC := hms.mach.c
  have cO := hms.mach.mem hc
  have cN := hms.mach.mem (j := (x.c + 1) % 256) (by omega)
  obtain ⟨ka, kc, rfl, hk1, hk2, hcell⟩ := sliceCells hkeys
  unfold maxLen at hk2
  replace hcell := Lib.hid hcell
  obtain ⟨n, hn⟩ : ∃ n, n = x.mem.getD ((x.c + 1) % 256) 0 := ⟨_, rfl⟩
  obtain ⟨m, hm⟩ : ∃ m, m = x.mem.getD n 0 := ⟨_, rfl⟩
  rw [← hn] at hN hMv cN
  rw [← hm] at hMv
  rw [hop] at cO
  have jn : (n : Int) < 256 := by omega
  have jc : (x.c : Int) < 256 := by omega
  have jm : (m : Int) < 256 := by omega
  have ja : (x.a : Int) < 256 := by omega
  have jc1 : ((x.c : Int) + 1) % 256 < 256 := by omega
  replace hn := Lib.hid hn
  replace hm := Lib.hid hm
  replace hms := Lib.hid hms
  go_enter Tryz.func45, Tryz.ntmps45
  go_wp2_with fail
  go_quiet (fail)
  go_wp2_with fail
  go_quiet (fail)
  refine name_then ?_
  intro W hW
  have hM : MS w W B base x tk false ev L := by rw [hW]; first | exact (hms.out.drewN _).drewN _ | exact hms.out.drewN _
  clear hW cC cO cN
  have cM : W.cell? ⟨B, n, none⟩ = some (.int .i64 (m : Int)) := by rw [hm.out]; exact hM.mach.mem hN
  have cC := hM.mach.c
  have fC := hM.mach.free 513
  have cA := hM.mach.a
  have fA := hM.mach.free 512
  have cT := hM.mach.time
  have fT := hM.mach.free 514
  have hs0 := hM.setC (v := (x.c + 2) % 256) (by omega)
  have cK := hM.mach.taken
  have fK := hM.mach.free 515
  have hd : decide ((tk : Int) < (ks.length : Int)) = false := by simp; omega
  have hd2 : ¬ tk < ks.length := by omega
  have hsA := Lib.hid (hs0.setA (v := 0) (by omega))
  have hnx : Hid (x.nx = { ({ x with c := (x.c + 2) % 256 } : Cpu).take with time := x.time + 1 } ∧ x.evs = []) := by
    show _ ∧ _
    unfold Cpu.nx Cpu.evs
    rw [hop]
    exact ⟨rfl, rfl⟩
  have htake : Hid (({ x with c := (x.c + 2) % 256 } : Cpu).take = { ({ x with c := (x.c + 2) % 256 } : Cpu) with a := 0 }) := by
    show _ = _
    have e : x.keys = [] := by rw [hrest, hend]; simp
    unfold Cpu.take
    dsimp only
    rw [e]
  replace hend := Lib.hid hend
  have hBW := hM.below
  clear hs0 hM hms
  go_wp2_with fail
  go_quiet (fail)
  refine name_then ?_
  intro W2 hW2
  have h2 : MS w W2 B base { ({ x with c := (x.c + 2) % 256 } : Cpu) with a := 0 } tk false ev L := by rw [hW2]; first | exact hsA.out.drewN _ | exact (hsA.out.drewN _).drewN _ | exact hsA.out.drew
  clear hW2 cC fC cA fA cT fT cK fK hsA cM
  have cT2 : W2.cell? ⟨B, 514, none⟩ = some (.int .i64 (x.time : Int)) := h2.mach.time
  have fT2 := h2.mach.free 514
  have hs := Lib.hid (h2.setTime (x.time + 1))
  clear h2 hBW
  go_wp2_with fail
  go_end0
  refine ⟨rfl, tk, ev, ?_, ?_, htk⟩
  · rw [hnx.out.1, hnx.out.2, htake.out, List.append_nil]
    exact hs.out
  · rw [hnx.out.1, htake.out]
    exact hrest

set_option maxRecDepth 100000 in
set_option maxHeartbeats 4000000 in
theorem mkey1 (w : World) (B base : Nat) (ks : List Ev) (kv : Value) (x : Cpu) (tk : Nat) (ev : Value) (L : List Ev) (h : MPre w B base ks kv x tk ev L) (hop : x.mem.getD x.c 0 = 11) (hlt : tk < ks.length) (hlate : ¬ ks[tk]!.t ≤ (x.time : Int)) :
    Calls Tryz.prog 45 #[.pointer (some ⟨B, 0, none⟩), kv] w fun e w' => e = .returned (.tuple #[]) ∧ MPost w w' B base ks x.nx (L ++ x.evs) false := by
  obtain ⟨hms, hkeys, hrest, htk, hks, hlen, htime⟩ := h
  have hwf := hms.mach.wf
  have hc := hwf.c
  have ha := hwf.a
  have hN := getD_lt hwf.memB ((x.c + 1) % 256)
  have hMv := getD_lt hwf.memB (x.mem.getD ((x.c + 1) % 256) 0)
  have cC := hms.mach.c
  have cO := hms.mach.mem hc
  have cN := hms.mach.mem (j := (x.c + 1) % 256) (by omega)
  obtain ⟨ka, kc, rfl, hk1, hk2, hcell⟩ := sliceCells hkeys
  unfold maxLen at hk2
  replace hcell := Lib.hid hcell
  obtain ⟨n, hn⟩ : ∃ n, n = x.mem.getD ((x.c + 1) % 256) 0 := ⟨_, rfl⟩
  obtain ⟨m, hm⟩ : ∃ m, m = x.mem.getD n 0 := ⟨_, rfl⟩
  rw [← hn] at hN hMv cN
  rw [← hm] at hMv
  rw [hop] at cO
  have jn : (n : Int) < 256 := by omega
  have jc : (x.c : Int) < 256 := by omega
  have jm : (m : Int) < 256 := by omega
  have ja : (x.a : Int) < 256 := by omega
  have jc1 : ((x.c : Int) + 1) % 256 < 256 := by omega
  replace hn := Lib.hid hn
  replace hm := Lib.hid hm
  replace hms := Lib.hid hms
  go_enter Tryz.func45, Tryz.ntmps45
  go_wp2_with fail
  go_quiet (fail)
  go_wp2_with fail
  go_quiet (fail)
  refine name_then ?_
  intro W hW
  have hM : MS w W B base x tk false ev L := by rw [hW]; first | exact (hms.out.drewN _).drewN _ | exact hms.out.drewN _
  clear hW cC cO cN
  have cM : W.cell? ⟨B, n, none⟩ = some (.int .i64 (m : Int)) := by rw [hm.out]; exact hM.mach.mem hN
  have cC := hM.mach.c
  have fC := hM.mach.free 513
  have cA := hM.mach.a
  have fA := hM.mach.free 512
  have cT := hM.mach.time
  have fT := hM.mach.free 514
  have hs0 := hM.setC (v := (x.c + 2) % 256) (by omega)
  have cK := hM.mach.taken
  have fK := hM.mach.free 515
  have hd : decide ((tk : Int) < (ks.length : Int)) = true := by simp; omega
  obtain ⟨b, o, rfl, hbB, hcl⟩ := hcell.out tk hlt
  have hbne : b ≠ B := by omega
  have hbne2 : B ≠ b := by omega
  obtain ⟨q0, _, q2, _⟩ := hcl W (hM.below.block b hbB)
  have i0 : (0 : Int) ≤ (tk : Int) := by omega
  have i1 : (tk : Int) < (ks.length : Int) := by omega
  have hdr : ks.drop tk = ks[tk]! :: ks.drop (tk + 1) := by rw [List.drop_eq_getElem_cons hlt, getElem!_pos ks tk hlt]
  have hkk := hwf.keys
  rw [hrest, hdr] at hkk
  generalize ks[tk]! = y at *
  have hd3 : decide (y.t ≤ (x.time : Int)) = false := by simpa using hlate
  have hsA := Lib.hid (hs0.setA (v := 0) (by omega))
  have hnx : Hid (x.nx = { ({ x with c := (x.c + 2) % 256 } : Cpu).take with time := x.time + 1 } ∧ x.evs = []) := by
    show _ ∧ _
    unfold Cpu.nx Cpu.evs
    rw [hop]
    exact ⟨rfl, rfl⟩
  have htake : Hid (({ x with c := (x.c + 2) % 256 } : Cpu).take = { ({ x with c := (x.c + 2) % 256 } : Cpu) with a := 0 }) := by
    show _ = _
    unfold Cpu.take
    dsimp only
    rw [hrest, hdr]
    dsimp only
    rw [if_pos (by omega)]
  clear hcl hkk
  replace hdr := Lib.hid hdr
  have hBW := hM.below
  clear hs0 hM hms
  go_wp2_with fail
  go_quiet (fail)
  refine name_then ?_
  intro W2 hW2
  have h2 : MS w W2 B base { ({ x with c := (x.c + 2) % 256 } : Cpu) with a := 0 } tk false ev L := by rw [hW2]; first | exact hsA.out.drewN _ | exact (hsA.out.drewN _).drewN _ | exact hsA.out.drew
  clear hW2 cC fC cA fA cT fT cK fK hsA cM
  have cT2 : W2.cell? ⟨B, 514, none⟩ = some (.int .i64 (x.time : Int)) := h2.mach.time
  have fT2 := h2.mach.free 514
  have hs := Lib.hid (h2.setTime (x.time + 1))
  clear h2 hBW
  go_wp2_with fail
  go_end0
  refine ⟨rfl, tk, ev, ?_, ?_, htk⟩
  · rw [hnx.out.1, hnx.out.2, htake.out, List.append_nil]
    exact hs.out
  · rw [hnx.out.1, htake.out]
    exact hrest

set_option maxRecDepth 100000 in
set_option maxHeartbeats 4000000 in
theorem mkey2 (w : World) (B base : Nat) (ks : List Ev) (kv : Value) (x : Cpu) (tk : Nat) (ev : Value) (L : List Ev) (h : MPre w B base ks kv x tk ev L) (hop : x.mem.getD x.c 0 = 11) (hlt : tk < ks.length) (hin : ks[tk]!.t ≤ (x.time : Int)) :
    Calls Tryz.prog 45 #[.pointer (some ⟨B, 0, none⟩), kv] w fun e w' => e = .returned (.tuple #[]) ∧ MPost w w' B base ks x.nx (L ++ x.evs) false := by
  obtain ⟨hms, hkeys, hrest, htk, hks, hlen, htime⟩ := h
  have hwf := hms.mach.wf
  have hc := hwf.c
  have ha := hwf.a
  have hN := getD_lt hwf.memB ((x.c + 1) % 256)
  have hMv := getD_lt hwf.memB (x.mem.getD ((x.c + 1) % 256) 0)
  have cC := hms.mach.c
  have cO := hms.mach.mem hc
  have cN := hms.mach.mem (j := (x.c + 1) % 256) (by omega)
  obtain ⟨ka, kc, rfl, hk1, hk2, hcell⟩ := sliceCells hkeys
  unfold maxLen at hk2
  replace hcell := Lib.hid hcell
  obtain ⟨n, hn⟩ : ∃ n, n = x.mem.getD ((x.c + 1) % 256) 0 := ⟨_, rfl⟩
  obtain ⟨m, hm⟩ : ∃ m, m = x.mem.getD n 0 := ⟨_, rfl⟩
  rw [← hn] at hN hMv cN
  rw [← hm] at hMv
  rw [hop] at cO
  have jn : (n : Int) < 256 := by omega
  have jc : (x.c : Int) < 256 := by omega
  have jm : (m : Int) < 256 := by omega
  have ja : (x.a : Int) < 256 := by omega
  have jc1 : ((x.c : Int) + 1) % 256 < 256 := by omega
  replace hn := Lib.hid hn
  replace hm := Lib.hid hm
  replace hms := Lib.hid hms
  go_enter Tryz.func45, Tryz.ntmps45
  go_wp2_with fail
  go_quiet (fail)
  go_wp2_with fail
  go_quiet (fail)
  refine name_then ?_
  intro W hW
  have hM : MS w W B base x tk false ev L := by rw [hW]; first | exact (hms.out.drewN _).drewN _ | exact hms.out.drewN _
  clear hW cC cO cN
  have cM : W.cell? ⟨B, n, none⟩ = some (.int .i64 (m : Int)) := by rw [hm.out]; exact hM.mach.mem hN
  have cC := hM.mach.c
  have fC := hM.mach.free 513
  have cA := hM.mach.a
  have fA := hM.mach.free 512
  have cT := hM.mach.time
  have fT := hM.mach.free 514
  have hs0 := hM.setC (v := (x.c + 2) % 256) (by omega)
  have cK := hM.mach.taken
  have fK := hM.mach.free 515
  have hd : decide ((tk : Int) < (ks.length : Int)) = true := by simp; omega
  obtain ⟨b, o, rfl, hbB, hcl⟩ := hcell.out tk hlt
  have hbne : b ≠ B := by omega
  have hbne2 : B ≠ b := by omega
  obtain ⟨q0, _, q2, _⟩ := hcl W (hM.below.block b hbB)
  have i0 : (0 : Int) ≤ (tk : Int) := by omega
  have i1 : (tk : Int) < (ks.length : Int) := by omega
  have hdr : ks.drop tk = ks[tk]! :: ks.drop (tk + 1) := by rw [List.drop_eq_getElem_cons hlt, getElem!_pos ks tk hlt]
  have hkk := hwf.keys
  rw [hrest, hdr] at hkk
  have hnk : ∀ k ∈ ks.drop (tk + 1), keyOk k = true := fun k hk => hkk k (List.mem_cons_of_mem _ hk)
  have hyk := keyOk_parts (hkk ks[tk]! (by simp))
  generalize ks[tk]! = y at *
  have hd3 : decide (y.t ≤ (x.time : Int)) = true := by simpa using hin
  obtain ⟨av, hav⟩ : ∃ av : Nat, y.a = (av : Int) := ⟨y.a.toNat, by omega⟩
  have hav2 : y.a.toNat = av := by omega
  have hav3 : av < 256 := by omega
  rw [hav] at q2
  have hsA := Lib.hid (hs0.setA (v := 0) (by omega))
  have hnx : Hid (x.nx = { ({ x with c := (x.c + 2) % 256 } : Cpu).take with time := x.time + 1 } ∧ x.evs = []) := by
    show _ ∧ _
    unfold Cpu.nx Cpu.evs
    rw [hop]
    exact ⟨rfl, rfl⟩
  have htake : Hid (({ x with c := (x.c + 2) % 256 } : Cpu).take = { ({ x with c := (x.c + 2) % 256 } : Cpu) with a := av, keys := ks.drop (tk + 1) }) := by
    show _ = _
    unfold Cpu.take
    dsimp only
    rw [hrest, hdr]
    dsimp only
    rw [if_neg (by omega), hav2]
  replace hdr := Lib.hid hdr
  have hBW := hM.below
  clear hs0 hM hms
  go_wp2_with fail
  go_quiet (fail)
  refine name_then ?_
  intro W2 hW2
  have h2 : MS w W2 B base { ({ x with c := (x.c + 2) % 256 } : Cpu) with a := 0 } tk false ev L := by rw [hW2]; first | exact hsA.out.drewN _ | exact (hsA.out.drewN _).drewN _ | exact hsA.out.drew
  clear hW2 cC fC cA fA cT fT cK fK hsA cM
  have cC2 := h2.mach.a
  have fC2 := h2.mach.free 512
  have cK2 := h2.mach.taken
  have fK2 := h2.mach.free 515
  have cT2 : W2.cell? ⟨B, 514, none⟩ = some (.int .i64 (x.time : Int)) := h2.mach.time
  have fT2 := h2.mach.free 514
  obtain ⟨_, _, q2, _⟩ := hcl W2 (h2.below.block b hbB)
  rw [hav] at q2
  have hs := Lib.hid (((h2.setA hav3).setTaken (tk + 1) _ hnk).setTime (x.time + 1))
  have hw1 : IntKind.i64.wrap ((tk : Int) + 1) = (tk : Int) + 1 := IntWalk.i64_in _ (by omega)
  clear h2 hcl hnk hkk hBW
  replace hav := Lib.hid hav
  replace hav2 := Lib.hid hav2
  go_wp2_with fail
  go_end0
  refine ⟨rfl, tk + 1, ev, ?_, ?_, hlt⟩
  · rw [hnx.out.1, hnx.out.2, htake.out, List.append_nil]
    exact hs.out
  · rw [hnx.out.1, htake.out]
end Go.Proofs.YtkgbknjpnhoadaaGreatDoor
