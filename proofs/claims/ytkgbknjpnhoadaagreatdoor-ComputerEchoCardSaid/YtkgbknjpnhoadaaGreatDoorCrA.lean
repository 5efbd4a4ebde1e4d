/-
  The law ComputerEcho returns true.
-/
import Derived.Test.YtkgbknjpnhoadaaGreatDoorCqY
import Derived.Test.YtkgbknjpnhoadaaGreatDoorCqR
namespace Go.Proofs.YtkgbknjpnhoadaaGreatDoor
open Go.RowKit Go.Shelf

/-- The first keys' signs. -/
def firstS (ks : List Ev) (k : Nat) : List UInt8 := (ks.take k).map fun k => UInt8.ofNat (ofS k.a)
theorem firstS_snoc (ks : List Ev) (k : Nat) (hk : k < ks.length) : firstS ks (k + 1) = firstS ks k ++ [UInt8.ofNat (ofS ks[k]!.a)] := by
  unfold firstS
  rw [take_snoc ks k hk, List.map_append, getElem!_pos ks k hk]
  rfl
theorem firstS_len (ks : List Ev) (k : Nat) : (firstS ks k).length ≤ ks.length := by unfold firstS; simp; omega
theorem firstS_all (ks : List Ev) : firstS ks ks.length ++ List.replicate (80 - ks.length) 32 = echoS ks := by unfold firstS echoS; rw [List.take_length]
/-- The screen so far: the keys and n blanks. -/
def padS (ks : List Ev) (n : Nat) : List UInt8 := firstS ks ks.length ++ List.replicate n 32
theorem padS_len (ks : List Ev) (n : Nat) : (padS ks n).length = ks.length + n := by unfold padS firstS; simp
theorem padS_snoc (ks : List Ev) (n : Nat) : padS ks n ++ [32] = padS ks (n + 1) := by
  unfold padS
  rw [List.append_assoc, List.replicate_succ']
theorem padS_zero (ks : List Ev) : padS ks 0 = firstS ks ks.length := by unfold padS; simp

set_option maxRecDepth 100000 in
set_option maxHeartbeats 8000000 in
theorem Echo_walk (v0 : Value) (n0 : Nat) (z0 : List Int) (w : World)
    (s0 : SliceAt w w.heap.size v0 n0 (z0.map (Value.int .i64))) (e0 : z0.length = n0 * 2) (g0 : ∀ z ∈ z0, I64 z) (hE : Env w) :
    Calls Tryz.prog 6 #[v0] w fun e w' => e = .returned (.bool true) ∧ Below w.heap.size w w' := by
  have hS := Lib.hid (sane_any w hE)
  obtain ⟨x0, c0, hv0, _⟩ := id s0
  have hty := fun (W : World) (hb : Below w.heap.size w W) => Typed_any v0 n0 z0 W (s0.later hb) e0 g0
  rw [hv0] at hty
  rw [hv0]
  replace hty := Lib.hid hty
  clear s0 hv0 e0 g0 hE
  go_enter Tryz.func6, Tryz.ntmps6
  go_wp2_with fail
  refine hS.out.mono ?_
  rintro e w1 ⟨rfl, hb1⟩
  go_wp2_with fail
  refine (hty.out w1 hb1).mono ?_
  rintro e w4 ⟨kv, ks, rfl, hko, hkt, hb4⟩
  have hB4 := hb1.trans (hb4.mono hb1.size)
  have hK := sliceAt_of_own hko
  obtain ⟨ka, kc, rfl⟩ := own_val hko
  clear hb1 hb4 hko
  have hkl := hkt.len
  have hko : ∀ j, j < ks.length → 1 ≤ ks[j]!.a ∧ ks[j]!.a ≤ 255 := fun j hj => by
    rw [getElem!_pos ks j hj]
    have := (hkt.all _ (List.getElem_mem hj)).1
    simp only [keyOk, Bool.and_eq_true, decide_eq_true_eq] at this
    omega
  have hok : perfOk echoB [] ks 3000 = true := by
    simp only [perfOk, progOk, hkt.keys, Bool.and_eq_true, decide_eq_true_eq, Bool.and_true]
    decide
  have hPf := fun (W : World) h => Perform_any (str echoB) (str []) (.slice ka ks.length kc) ks 3000 W h
  have hl1 : perfL (str echoB) (str []) ks 3000 = perf echoB [] ks 3000 ∧ perfE (str echoB) (str []) ks 3000 = 0 := by
    unfold perfL perfE
    rw [str_list, str_list]
    simp only [hok]
    exact ⟨rfl, rfl⟩
  rw [hl1.1, hl1.2] at hPf
  obtain ⟨hlen, hev⟩ := echo_perf ks hkl (fun k hk => hkt.all k hk)
  have hscr := echo_screen (perf echoB [] ks 3000) ks hlen (by omega) hev
  generalize perf echoB [] ks 3000 = E at *
  have hev' : ∀ j, j < ks.length → EchoEv j ks[j]! E[j]! := fun j hj => by
    rw [getElem!_pos ks j hj, getElem!_pos E j (by omega)]
    exact hev j (by omega) hj
  replace hPf := Lib.hid hPf
  replace hscr := Lib.hid hscr
  clear hok hl1 hev hkt
  go_wp2_with fail
  refine (hPf.out w4 hK).mono ?_
  rintro e w6 ⟨u6, rfl, ho6, hb6⟩
  have hL := sliceAt_of_own ho6
  obtain ⟨la, lc, rfl⟩ := own_val ho6
  replace hK := hK.later hb6
  have hB6 := hB4.trans (hb6.mono hB4.size)
  clear hB4 hb6 ho6 hPf
  rw [hlen] at hL
  rw [hlen]
  replace hlen := Lib.hid hlen
  have hd0 : ((ks.length : Int) != (ks.length : Int)) = false := by simp
  have hd0' : (ks.length != ks.length) = false := by simp
  have hSc := fun (W : World) (h : Below w6.heap.size w6 W) => Screen_any (.slice la ks.length lc) E W (by rw [hlen.out]; exact hL.later h)
  have hmw : echoS ks = padS ks (80 - ks.length) := by rw [padS]; exact (firstS_all ks).symm
  obtain ⟨_, _, hmv, _, _, hmc⟩ := sliceCells (l := E) (by rw [hlen.out]; exact hL)
  obtain ⟨_, _, hlv, _, _, hlc⟩ := sliceCells hK
  rw [hlen.out] at hmv hmc
  injection hmv with q1 _ q3
  injection hlv with r1 _ r3
  subst q1 q3 r1 r3
  replace hmc := Lib.hid hmc
  replace hlc := Lib.hid hlc
  replace hSc := Lib.hid hSc
  replace hmw := Lib.hid hmw
  clear hL hK
  go_wp2_with fail
  go_loopw [8, 7] (fun i v wr => ∃ k : Nat, k ≤ ks.length ∧ i = .int .i64 k ∧ v = .string (str (firstS ks k)) ∧ Aside (Below w6.heap.size w6 wr)) (fun i _ _ => ks.length - (intOf i).toNat)
  case atStart => exact ⟨0, Nat.zero_le _, rfl, rfl, Below.refl _ _⟩
  case round =>
    obtain ⟨k, hk, rfl, rfl, BW⟩ := hrel
    have hBr := hB6.trans (BW.out.mono hB6.size)
    by_cases hlt : k < ks.length
    · have hd : decide ((k : Int) < (ks.length : Int)) = true := by simpa using hlt
      obtain ⟨b, o, rfl, hb, hcell⟩ := hmc.out k (by have := hlen.out; omega)
      obtain ⟨m0, m1, m2, m3⟩ := hcell wr (BW.out.block b hb)
      obtain ⟨b', o', rfl, hb', hcell'⟩ := hlc.out k hlt
      obtain ⟨j0, j1, j2, j3⟩ := hcell' wr (BW.out.block b' hb')
      obtain ⟨t1, t2, t3, t4⟩ := hev' k hlt
      have ty := hko k hlt
      have hsn := firstS_snoc ks k hlt
      have hfl := firstS_len ks k
      generalize ks[k]! = y at *
      generalize E[k]! = x at *
      have f1 : (x.k != 1) = false := by simpa using t1
      have f2 : (x.a != (k : Int)) = false := by simpa using t2
      have f3 : (x.b != y.a) = false := by simpa using t3
      have f4 : decide (x.t < y.t) = false := by simp; omega
      have hw1 : IntKind.i64.wrap ((k : Int) + 1) = (k : Int) + 1 := IntWalk.i64_in _ (by omega)
      have hw8 : IntKind.u8.wrap y.a = y.a := IntWalk.u8_in _ (by omega)
      have hofs : strOfNums [y.a] = str [UInt8.ofNat (ofS y.a)] := by
        have e : y.a = ((ofS y.a : Nat) : Int) := by unfold ofS; omega
        have h : strOfNums [((ofS y.a : Nat) : Int)] = str [UInt8.ofNat (ofS y.a)] := strOfNums_nums [ofS y.a]
        rwa [← e] at h
      have hadd := fun W : World => add_str (firstS ks k) [UInt8.ofNat (ofS y.a)] (by simp; omega) W
      rw [← hsn] at hadd
      replace hsn := Lib.hid hsn
      have hcv := fun nq : Nat => run_convert_bytes_arg (P := Tryz.prog) ((wr.drewN nq).alloc (.cells #[.int .u8 y.a] 5)) 41 5 Tryz.underlying41 Tryz.underlying5 wr.heap.size 0 1 1 [y.a] rfl (fun j hj => by
        obtain rfl : j = 0 := by omega
        simp [World.cell?, World.alloc]) 9 Tryz.underlying9
      rw [hofs] at hcv
      clear hcell hcell' hmc hlc t1 t2 t3 t4
      go_wp2_with fail
      go_quiet (fail)
      go_wp2_with fail
      go_roundw
      case measure => simp [intOf]; omega
      case rel => exact ⟨k + 1, by omega, by go_num, by rw [hsn.out], (below_drewN BW.out _).alloc (below_drewN BW.out _).size _⟩
    · have hke : k = ks.length := by omega
      subst hke
      have hd : decide ((ks.length : Int) < (ks.length : Int)) = false := by simp
      clear hmc hlc hev' hko
      have hkl' := Lib.hid hkl
      go_wp2_with fail
      rw [← padS_zero]
      go_loopw [7] (fun v wr' => ∃ n : Nat, n ≤ 80 - ks.length ∧ v = .string (str (padS ks n)) ∧ Aside (Below wr.heap.size wr wr')) (fun v _ => 80 - ((match v with | .string s => s.size | _ => 0)))
      case atStart => exact ⟨0, Nat.zero_le _, rfl, Below.refl _ _⟩
      case round =>
        obtain ⟨n, hn, rfl, BV⟩ := hrel
        have hln := padS_len ks n
        have hsz : (str (padS ks n)).size = ks.length + n := by rw [← hln]; simp [str, ByteArray.size]
        by_cases hlt : n < 80 - ks.length
        · have hd2 : decide (((str (padS ks n)).size : Int) < 80) = true := by rw [hsz]; simp; omega
          have hd3 : decide (((ks.length + n : Nat) : Int) < 80) = true := by simp; omega
          have hd4 : decide ((ks.length : Int) + (n : Int) < 80) = true := by simp; omega
          have happ : str (padS ks n) ++ { data := #[32] } = str (padS ks (n + 1)) := by
            have := str_append (padS ks n) [32]
            rw [padS_snoc] at this
            exact this
          replace happ := Lib.hid happ
          go_wp2_with fail
          go_roundw
          case measure => simp [happ.out, hsz, str_size, padS_len]; omega
          case rel => exact ⟨n + 1, by omega, by rw [happ.out], BV.out⟩
        · have hd2 : decide (((str (padS ks n)).size : Int) < 80) = false := by rw [hsz]; simp; omega
          have hd3 : decide (((ks.length + n : Nat) : Int) < 80) = false := by simp; omega
          have hd4 : decide ((ks.length : Int) + (n : Int) < 80) = false := by simp; omega
          have hnn : n = 80 - ks.length := by omega
          rw [← hnn] at hmw
          replace hnn := Lib.hid hnn
          have hBv := BW.out.trans (BV.out.mono BW.out.size)
          have hBw := hB6.trans (hBv.mono hB6.size)
          have heq : ((str (bytesOf (screenL E))).toList == (str (padS ks n)).toList) = true := by rw [hscr.out, hmw.out]; exact beq_self_eq_true _
          go_wp2_with fail
          refine (hSc.out _ hBv).mono ?_
          rintro e w9 ⟨rfl, hb9⟩
          have hB9 := hBw.trans (hb9.mono hBw.size)
          go_wp2_with fail
          go_ret
          exact ⟨rfl, hB9⟩
end Go.Proofs.YtkgbknjpnhoadaaGreatDoor
