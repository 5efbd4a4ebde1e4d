/-
  MachineCalculates: the walk.
-/
import Derived.Test.YtainohbfcehpoaaDoorMpk
import Derived.Test.YtainohbfcehpoaaDoorMf2
namespace Go.Proofs.YtainohbfcehpoaaDoor
open Go.RowKit Go.Shelf

theorem extract_take (s : List UInt8) (n : Nat) : (str s).extract 0 n = str (s.take n) := by
  have := extract_mid s 0 n
  simpa using this
theorem conv_new (W : World) (xs : List Int) (n : Nat) (hn : n = xs.length) (g : Nat) (hg : g = W.heap.size) : (convert 46 9 (.slice (some ⟨g, 0, none⟩) n n)).run Tryd.prog (W.alloc (.cells (xs.map (Value.int .u8)).toArray 5)) = .ok (.string (strOfNums xs)) (W.alloc (.cells (xs.map (Value.int .u8)).toArray 5)) := by
  subst hn hg
  refine run_convert_bytes_arg (P := Tryd.prog) _ 46 5 Tryd.underlying46 Tryd.underlying5 W.heap.size 0 xs.length xs.length xs rfl (fun i hi => ?_) 9 Tryd.underlying9
  have hA : Arr (W.alloc (.cells (xs.map (Value.int .u8)).toArray 5)) W.heap.size 5 (xs.map (Value.int .u8)) := Arr.new rfl rfl
  rw [Nat.zero_add]
  refine hA.cell ?_
  rw [List.getElem?_map, List.getElem?_eq_getElem hi, List.getD_eq_getElem?_getD, List.getElem?_eq_getElem hi]
  rfl
theorem strOfNums_one (z : Int) (h : 0 ≤ z) : strOfNums [z] = str [UInt8.ofNat z.toNat] := by
  have := strOfNums_nats [z.toNat]
  simp only [List.map_cons, List.map_nil] at this
  rw [← this, Int.toNat_of_nonneg h]
set_option maxRecDepth 100000 in
set_option maxHeartbeats 8000000 in
theorem Calculates_walk (a b : Nat) (op : Int) (inp : List UInt8) (w : World) (ha : a < 65536) (hb : b < 65536) (hop : I64 op) (hi : inp.length ≤ 9223372036854775807) (hE : Env w) :
    Calls Tryd.prog 10 #[.int .u16 (a : Int), .int .u16 (b : Int), .int .i64 op, .string (str inp)] w fun e w' => e = .returned (.bool true) ∧ Below w.heap.size w w' := by
  have hsn := Lib.hid (sane_any w hE)
  have hex := extract_take inp
  have hps := str_size inp
  have hmn : (min (inp.length : Int) 200).toNat = min inp.length 200 := by omega
  have hm1 : (0 : Int) ≤ min (inp.length : Int) 200 := by omega
  have hm2 : min (inp.length : Int) 200 ≤ (inp.length : Int) := by omega
  have hpk := fun w => pick_any op 3 w hop (by omega) (by omega)
  have hpl := pickv_lt op 3 (by omega)
  obtain ⟨i2, hi2⟩ : ∃ i2, i2 = inp.take (min inp.length 200) := ⟨_, rfl⟩
  have hil : i2.length ≤ 200 := by rw [hi2, List.length_take]; omega
  replace hi2 := Lib.hid hi2
  generalize pickv op 3 = pk at *
  have hc1 := fun W => conv_new W [0, (a : Int) / 256, (a : Int) % 256, 0, (b : Int) / 256, (b : Int) % 256] 6 rfl
  rw [show strOfNums [0, (a : Int) / 256, (a : Int) % 256, 0, (b : Int) / 256, (b : Int) % 256] = str [0, UInt8.ofNat (a / 256), UInt8.ofNat (a % 256), 0, UInt8.ofNat (b / 256), UInt8.ofNat (b % 256)] from strOfNums_nats [0, a / 256, a % 256, 0, b / 256, b % 256]] at hc1
  have hc3 := fun W => conv_new W [9, 1, 0, 0, 0, 6, 8, 0, 17, 0, (a : Int) / 256, (a : Int) % 256, 4, 10, 7, 0, 0, 3, 11] 19 rfl
  rw [show strOfNums [9, 1, 0, 0, 0, 6, 8, 0, 17, 0, (a : Int) / 256, (a : Int) % 256, 4, 10, 7, 0, 0, 3, 11] = str (loopC a) from strOfNums_nats [9, 1, 0, 0, 0, 6, 8, 0, 17, 0, a / 256, a % 256, 4, 10, 7, 0, 0, 3, 11]] at hc3
  simp only [List.map_cons, List.map_nil] at hc1 hc3
  have hR2 := fun w hO => (Run_any (loopC a) i2 5000 w (by show 19 ≤ 1000000; decide) (by omega) hO ⟨by decide, by decide⟩).mono fun e w' h => And.intro (run_yes h (loop_formed ha) (loop_good a) (by decide) (by decide)) h.2
  rw [show (5000 : Int).toNat = 5000 from rfl, loop_runOf a ha i2 hil] at hR2
  unfold runE at hR2
  dsimp only at hR2
  have hR1 := fun o w hO (ho : o = 4 ∨ o = 5 ∨ o = 6) => (Run_any (calcC a b o) i2 100 w (by show 9 ≤ 1000000; decide) (by omega) hO ⟨by decide, by decide⟩).mono fun e w' h => And.intro (run_yes h (calc_formed ha hb ho) (calc_good ho) (by decide) (by decide)) h.2
  simp only [show (100 : Int).toNat = 100 from rfl] at hR1
  have hwA : IntKind.i64.wrap ((a : Int) + (b : Int)) = (a : Int) + (b : Int) := IntWalk.i64_in _ (by omega)
  have hwS : IntKind.i64.wrap ((a : Int) - (b : Int)) = (a : Int) - (b : Int) := IntWalk.i64_in _ (by omega)
  have hadd := fun o => add_str [0, UInt8.ofNat (a / 256), UInt8.ofNat (a % 256), 0, UInt8.ofNat (b / 256), UInt8.ofNat (b % 256)] [UInt8.ofNat o, 10, 11] (by simp only [List.length_cons, List.length_nil]; omega)
  have hcc : ∀ o, [0, UInt8.ofNat (a / 256), UInt8.ofNat (a % 256), 0, UInt8.ofNat (b / 256), UInt8.ofNat (b % 256)] ++ [UInt8.ofNat o, 10, 11] = calcC a b o := fun _ => rfl
  simp only [hcc] at hadd
  have hfm : [0, UInt8.ofNat (a / 256), UInt8.ofNat (a % 256), 0, UInt8.ofNat (b / 256), UInt8.ofNat (b % 256)].length = 6 := rfl
  obtain ⟨p1, hp1⟩ : ∃ p1, p1 = [0, UInt8.ofNat (a / 256), UInt8.ofNat (a % 256), 0, UInt8.ofNat (b / 256), UInt8.ofNat (b % 256)] := ⟨_, rfl⟩
  rw [← hp1] at hc1
  simp only [← hp1] at hadd
  obtain ⟨lc, hlc⟩ : ∃ lc, lc = loopC a := ⟨_, rfl⟩
  rw [← hlc] at hc3
  simp only [← hlc] at hR2
  replace hp1 := Lib.hid hp1
  replace hlc := Lib.hid hlc
  clear hcc hfm
  replace hc3 := Lib.hid hc3
  replace hR2 := Lib.hid hR2
  have hmain : ∀ o, (o = 4 ∨ o = 5 ∨ o = 6) → True := fun _ _ => trivial
  clear hmain
  replace hpk := Lib.hid hpk
  have hpk3 : pk = 0 ∨ pk = 1 ∨ pk = 2 := by omega
  rcases hpk3 with rfl | rfl | rfl
  · skip
    have hR := fun w hO => (hR1 4 w hO (.inl rfl))
    rw [calc_run ha hb (.inl rfl)] at hR
    unfold runE at hR
    dsimp only at hR
    rw [show calcW a b 4 = (a : Int) + (b : Int) from by unfold calcW; rfl] at hR
    have hadd4 := hadd 4
    obtain ⟨cc, hcc⟩ : ∃ cc, cc = calcC a b 4 := ⟨_, rfl⟩
    rw [← hcc] at hadd4
    simp only [← hcc] at hR
    replace hcc := Lib.hid hcc
    have hc2 := fun W => conv_new W [4, 10, 11] 3 rfl
    rw [show strOfNums [4, 10, 11] = str [UInt8.ofNat 4, 10, 11] from strOfNums_nats [4, 10, 11]] at hc2
    have hc4 := fun W => conv_new W [((a : Int) + (b : Int)) % 256] 1 rfl
    rw [strOfNums_one (((a : Int) + (b : Int)) % 256) (by omega)] at hc4
    obtain ⟨p2, hp2⟩ : ∃ p2, p2 = [UInt8.ofNat 4, 10, 11] := ⟨_, rfl⟩
    rw [← hp2] at hadd4 hc2
    replace hp2 := Lib.hid hp2
    simp only [List.map_cons, List.map_nil] at hc2 hc4
    obtain ⟨wb, hwb⟩ : ∃ wb, wb = UInt8.ofNat (((a : Int) + (b : Int)) % 256).toNat := ⟨_, rfl⟩
    rw [← hwb] at hc4
    simp only [← hwb] at hR
    replace hwb := Lib.hid hwb
    replace hR := Lib.hid hR
    clear hR1 hadd
    go_enter Tryd.func10, Tryd.ntmps10
    go_wp2_with fail
    refine hsn.out.mono ?_
    rintro e w1 ⟨rfl, hb1⟩
    have hE1 := hE.below hb1
    go_wp2_with fail
    refine (hpk.out _).mono ?_
    rintro e w2 ⟨rfl, rfl⟩
    rw [← hi2.out]
    have hps2 : (str i2).size = i2.length := str_size i2
    have hPG : ∀ j (h : j < (str i2).size), (((str i2)[j].toNat : Nat) : Int) = (i2[j]!.toNat : Nat) := fun j h => by
      rw [getElem!_pos i2 j (by rw [str_size] at h; exact h)]
      show (((str i2).data[j]'_ : UInt8).toNat : Int) = _
      simp [str]
    generalize str i2 = P at *
    replace hPG := Lib.hid hPG
    go_wp2_with fail
    obtain ⟨w3, hw3⟩ : ∃ w3, w3 = (w2.alloc (.cells #[.int .u8 0, .int .u8 ((a : Int) / 256), .int .u8 ((a : Int) % 256), .int .u8 0, .int .u8 ((b : Int) / 256), .int .u8 ((b : Int) % 256)] 5)).alloc (.cells #[.int .u8 4, .int .u8 10, .int .u8 11] 5) := ⟨_, rfl⟩
    have hB3 : Below w.heap.size w w3 := by rw [hw3]; exact (hb1.alloc hb1.size _).alloc (by have := hb1.size; simp; omega) _
    rw [← hw3]
    clear hw3
    refine (hR.out _ (hE.below hB3).ops).mono ?_
    rintro e w4 ⟨rfl, hb4⟩
    have hB4 := hB3.trans (hb4.mono hB3.size)
    have hc3' := hc3.out
    go_wp2_with fail
    refine name_calls ?_
    intro w5 hw5
    have hB5 : Below w.heap.size w w5 := by rw [hw5]; exact (hB4.alloc hB4.size _).alloc (by have := hB4.size; simp; omega) _
    clear hw5 hc3' hc1 hc2 hc4 hR hadd4
    refine (hR2.out _ (hE.below hB5).ops).mono ?_
    rintro e w6 ⟨rfl, hb6⟩
    have hB6 := hB5.trans (hb6.mono hB5.size)
    go_wp2_with fail
    go_loopw [19, 20] (fun v i wr => ∃ k : Nat, k ≤ i2.length ∧ i = .int .i64 (k : Int) ∧ Hid (wr.ownsRow w.heap.size 5 1 v k (u8C ((i2.take k).map (addB a))) ∧ Below w.heap.size w wr)) (fun _ i _ => i2.length - (intOf i).toNat)
    case atStart => exact ⟨0, Nat.zero_le _, rfl, (show Hid _ from ⟨World.ownsRow_nil _ _ _ _, hB6⟩)⟩
    case round =>
      obtain ⟨k, hk, rfl, hall⟩ := hrel
      obtain ⟨hrow, hBr⟩ := hall.out
      clear hall hB6 hb6
      obtain ⟨vo, vc, rfl⟩ := own_val hrow
      by_cases hlt : k < i2.length
      · have hd : decide ((k : Int) < (i2.length : Int)) = true := by simpa using hlt
        have hj0 : k < P.size := by omega
        have hg := hPG.out k hj0
        have hx := (i2[k]!).toNat_lt
        have htk : (i2.take (k + 1)).map (addB a) = (i2.take k).map (addB a) ++ [addB a i2[k]!] := by
          rw [List.take_succ_eq_append_getElem hlt, List.map_append, getElem!_pos i2 k hlt]
          rfl
        have hbn : (((addB a i2[k]!).toNat : Nat) : Int) = ((i2[k]!.toNat : Int) + (a : Int)) % 256 := by unfold addB; rw [UInt8.toNat_ofNat']; omega
        have hal : Below wr.heap.size wr (wr.alloc (.cells #[.int .u8 ((addB a i2[k]!).toNat : Int)] 5)) := (Below.refl _ _).alloc (Nat.le_refl _) _
        obtain ⟨v', w7, m7, hrun, hm7, hown7, hgr7⟩ := append_bytes (wr.alloc (.cells #[.int .u8 ((addB a i2[k]!).toNat : Int)] 5)) w.heap.size _ ((i2.take k).map (addB a)) [addB a i2[k]!] k (by simp; omega) (own_below hrow hal) wr.heap.size 1 rfl (Arr.new rfl rfl) (by simp; omega) (by simp) (by have := hBr.size; simp; omega)
        have hB7 : Below w.heap.size w w7 := grown_below (hBr.alloc hBr.size _) (own_below hrow hal) hgr7 (Nat.le_refl _) (by have := hBr.size; simp; omega)
        have hmk : m7 = k + 1 := by rw [hm7]; simp; omega
        subst hmk
        rw [← htk] at hown7
        obtain ⟨va7, vc7, rfl⟩ := own_val hown7
        generalize addB a i2[k]! = bz at *
        generalize (i2[k]!).toNat = xz at *
        have hwx : IntKind.i64.wrap ((xz : Int) + (a : Int)) = (xz : Int) + (a : Int) := IntWalk.i64_in _ (by omega)
        have hwy : IntKind.u8.wrap ((xz : Int) + (a : Int)) = (bz.toNat : Int) := by rw [hbn]; simp [IntKind.wrap, IntKind.bits, IntKind.signed]
        have hwz : ((xz : Int) + (a : Int)) % 256 = (bz.toNat : Int) := hbn.symm
        have hw1k : IntKind.i64.wrap ((k : Int) + 1) = ((k + 1 : Nat) : Int) := by rw [Int.natCast_succ]; exact IntWalk.i64_in _ (by omega)
        replace hrun := Lib.hid hrun
        replace hbn := Lib.hid hbn
        replace htk := Lib.hid htk
        replace hown7 := Lib.hid hown7
        clear hrow hgr7 hal hm7
        go_wp2_with (at_builtin; go_loud (refine wpList_append_known rfl _ _ _ _ rfl _ _ rfl rfl hrun.out ?_))
        refine ⟨⟨k + 1, by omega, by first | rfl | go_num, (show Hid _ from ⟨hown7.out, hB7⟩)⟩, by simp [intOf]; omega⟩
      · have hd : decide ((k : Int) < (i2.length : Int)) = false := by simpa using hlt
        obtain rfl : k = i2.length := by omega
        rw [List.take_length] at hrow
        have hcv : (convert 46 9 (.slice vo i2.length vc)).run Tryd.prog wr = .ok (.string (str (i2.map (addB a)))) wr := conv_u8 (out := i2.map (addB a)) (by rw [List.length_map]; exact hrow)
        have hw9 : IntKind.i64.wrap (9 * (i2.length : Int)) = 9 * (i2.length : Int) := IntWalk.i64_in _ (by omega)
        have hw7 : IntKind.i64.wrap (9 * (i2.length : Int) + 7) = 9 * (i2.length : Int) + 7 := IntWalk.i64_in _ (by omega)
        generalize i2.map (addB a) = mp at *
        clear hrow
        go_wp2_with fail
        go_ret
        exact ⟨rfl, hBr⟩
  · skip
    have hR := fun w hO => (hR1 5 w hO (.inr (.inl rfl)))
    rw [calc_run ha hb (.inr (.inl rfl))] at hR
    unfold runE at hR
    dsimp only at hR
    rw [show calcW a b 5 = (a : Int) - (b : Int) from by unfold calcW; rfl] at hR
    have hadd4 := hadd 5
    obtain ⟨cc, hcc⟩ : ∃ cc, cc = calcC a b 5 := ⟨_, rfl⟩
    rw [← hcc] at hadd4
    simp only [← hcc] at hR
    replace hcc := Lib.hid hcc
    have hc2 := fun W => conv_new W [5, 10, 11] 3 rfl
    rw [show strOfNums [5, 10, 11] = str [UInt8.ofNat 5, 10, 11] from strOfNums_nats [5, 10, 11]] at hc2
    have hc4 := fun W => conv_new W [((a : Int) - (b : Int)) % 256] 1 rfl
    rw [strOfNums_one (((a : Int) - (b : Int)) % 256) (by omega)] at hc4
    obtain ⟨p2, hp2⟩ : ∃ p2, p2 = [UInt8.ofNat 5, 10, 11] := ⟨_, rfl⟩
    rw [← hp2] at hadd4 hc2
    replace hp2 := Lib.hid hp2
    simp only [List.map_cons, List.map_nil] at hc2 hc4
    obtain ⟨wb, hwb⟩ : ∃ wb, wb = UInt8.ofNat (((a : Int) - (b : Int)) % 256).toNat := ⟨_, rfl⟩
    rw [← hwb] at hc4
    simp only [← hwb] at hR
    replace hwb := Lib.hid hwb
    replace hR := Lib.hid hR
    clear hR1 hadd
    go_enter Tryd.func10, Tryd.ntmps10
    go_wp2_with fail
    refine hsn.out.mono ?_
    rintro e w1 ⟨rfl, hb1⟩
    have hE1 := hE.below hb1
    go_wp2_with fail
    refine (hpk.out _).mono ?_
    rintro e w2 ⟨rfl, rfl⟩
    rw [← hi2.out]
    have hps2 : (str i2).size = i2.length := str_size i2
    have hPG : ∀ j (h : j < (str i2).size), (((str i2)[j].toNat : Nat) : Int) = (i2[j]!.toNat : Nat) := fun j h => by
      rw [getElem!_pos i2 j (by rw [str_size] at h; exact h)]
      show (((str i2).data[j]'_ : UInt8).toNat : Int) = _
      simp [str]
    generalize str i2 = P at *
    replace hPG := Lib.hid hPG
    go_wp2_with fail
    obtain ⟨w3, hw3⟩ : ∃ w3, w3 = (w2.alloc (.cells #[.int .u8 0, .int .u8 ((a : Int) / 256), .int .u8 ((a : Int) % 256), .int .u8 0, .int .u8 ((b : Int) / 256), .int .u8 ((b : Int) % 256)] 5)).alloc (.cells #[.int .u8 5, .int .u8 10, .int .u8 11] 5) := ⟨_, rfl⟩
    have hB3 : Below w.heap.size w w3 := by rw [hw3]; exact (hb1.alloc hb1.size _).alloc (by have := hb1.size; simp; omega) _
    rw [← hw3]
    clear hw3
    refine (hR.out _ (hE.below hB3).ops).mono ?_
    rintro e w4 ⟨rfl, hb4⟩
    have hB4 := hB3.trans (hb4.mono hB3.size)
    have hc3' := hc3.out
    go_wp2_with fail
    refine name_calls ?_
    intro w5 hw5
    have hB5 : Below w.heap.size w w5 := by rw [hw5]; exact (hB4.alloc hB4.size _).alloc (by have := hB4.size; simp; omega) _
    clear hw5 hc3' hc1 hc2 hc4 hR hadd4
    refine (hR2.out _ (hE.below hB5).ops).mono ?_
    rintro e w6 ⟨rfl, hb6⟩
    have hB6 := hB5.trans (hb6.mono hB5.size)
    go_wp2_with fail
    go_loopw [19, 20] (fun v i wr => ∃ k : Nat, k ≤ i2.length ∧ i = .int .i64 (k : Int) ∧ Hid (wr.ownsRow w.heap.size 5 1 v k (u8C ((i2.take k).map (addB a))) ∧ Below w.heap.size w wr)) (fun _ i _ => i2.length - (intOf i).toNat)
    case atStart => exact ⟨0, Nat.zero_le _, rfl, (show Hid _ from ⟨World.ownsRow_nil _ _ _ _, hB6⟩)⟩
    case round =>
      obtain ⟨k, hk, rfl, hall⟩ := hrel
      obtain ⟨hrow, hBr⟩ := hall.out
      clear hall hB6 hb6
      obtain ⟨vo, vc, rfl⟩ := own_val hrow
      by_cases hlt : k < i2.length
      · have hd : decide ((k : Int) < (i2.length : Int)) = true := by simpa using hlt
        have hj0 : k < P.size := by omega
        have hg := hPG.out k hj0
        have hx := (i2[k]!).toNat_lt
        have htk : (i2.take (k + 1)).map (addB a) = (i2.take k).map (addB a) ++ [addB a i2[k]!] := by
          rw [List.take_succ_eq_append_getElem hlt, List.map_append, getElem!_pos i2 k hlt]
          rfl
        have hbn : (((addB a i2[k]!).toNat : Nat) : Int) = ((i2[k]!.toNat : Int) + (a : Int)) % 256 := by unfold addB; rw [UInt8.toNat_ofNat']; omega
        have hal : Below wr.heap.size wr (wr.alloc (.cells #[.int .u8 ((addB a i2[k]!).toNat : Int)] 5)) := (Below.refl _ _).alloc (Nat.le_refl _) _
        obtain ⟨v', w7, m7, hrun, hm7, hown7, hgr7⟩ := append_bytes (wr.alloc (.cells #[.int .u8 ((addB a i2[k]!).toNat : Int)] 5)) w.heap.size _ ((i2.take k).map (addB a)) [addB a i2[k]!] k (by simp; omega) (own_below hrow hal) wr.heap.size 1 rfl (Arr.new rfl rfl) (by simp; omega) (by simp) (by have := hBr.size; simp; omega)
        have hB7 : Below w.heap.size w w7 := grown_below (hBr.alloc hBr.size _) (own_below hrow hal) hgr7 (Nat.le_refl _) (by have := hBr.size; simp; omega)
        have hmk : m7 = k + 1 := by rw [hm7]; simp; omega
        subst hmk
        rw [← htk] at hown7
        obtain ⟨va7, vc7, rfl⟩ := own_val hown7
        generalize addB a i2[k]! = bz at *
        generalize (i2[k]!).toNat = xz at *
        have hwx : IntKind.i64.wrap ((xz : Int) + (a : Int)) = (xz : Int) + (a : Int) := IntWalk.i64_in _ (by omega)
        have hwy : IntKind.u8.wrap ((xz : Int) + (a : Int)) = (bz.toNat : Int) := by rw [hbn]; simp [IntKind.wrap, IntKind.bits, IntKind.signed]
        have hwz : ((xz : Int) + (a : Int)) % 256 = (bz.toNat : Int) := hbn.symm
        have hw1k : IntKind.i64.wrap ((k : Int) + 1) = ((k + 1 : Nat) : Int) := by rw [Int.natCast_succ]; exact IntWalk.i64_in _ (by omega)
        replace hrun := Lib.hid hrun
        replace hbn := Lib.hid hbn
        replace htk := Lib.hid htk
        replace hown7 := Lib.hid hown7
        clear hrow hgr7 hal hm7
        go_wp2_with (at_builtin; go_loud (refine wpList_append_known rfl _ _ _ _ rfl _ _ rfl rfl hrun.out ?_))
        refine ⟨⟨k + 1, by omega, by first | rfl | go_num, (show Hid _ from ⟨hown7.out, hB7⟩)⟩, by simp [intOf]; omega⟩
      · have hd : decide ((k : Int) < (i2.length : Int)) = false := by simpa using hlt
        obtain rfl : k = i2.length := by omega
        rw [List.take_length] at hrow
        have hcv : (convert 46 9 (.slice vo i2.length vc)).run Tryd.prog wr = .ok (.string (str (i2.map (addB a)))) wr := conv_u8 (out := i2.map (addB a)) (by rw [List.length_map]; exact hrow)
        have hw9 : IntKind.i64.wrap (9 * (i2.length : Int)) = 9 * (i2.length : Int) := IntWalk.i64_in _ (by omega)
        have hw7 : IntKind.i64.wrap (9 * (i2.length : Int) + 7) = 9 * (i2.length : Int) + 7 := IntWalk.i64_in _ (by omega)
        generalize i2.map (addB a) = mp at *
        clear hrow
        go_wp2_with fail
        go_ret
        exact ⟨rfl, hBr⟩
  · by_cases hab : a < b
    · skip
      have hR := fun w hO => (hR1 6 w hO (.inr (.inr rfl)))
      rw [calc_run ha hb (.inr (.inr rfl))] at hR
      unfold runE at hR
      dsimp only at hR
      rw [show calcW a b 6 = (1 : Int) from by unfold calcW; rw [if_neg (by decide), if_neg (by decide), if_pos hab]] at hR
      have hadd4 := hadd 6
      obtain ⟨cc, hcc⟩ : ∃ cc, cc = calcC a b 6 := ⟨_, rfl⟩
      rw [← hcc] at hadd4
      simp only [← hcc] at hR
      replace hcc := Lib.hid hcc
      have hc2 := fun W => conv_new W [6, 10, 11] 3 rfl
      rw [show strOfNums [6, 10, 11] = str [UInt8.ofNat 6, 10, 11] from strOfNums_nats [6, 10, 11]] at hc2
      have hc4 := fun W => conv_new W [(1 : Int)] 1 rfl
      rw [strOfNums_one ((1 : Int)) (by omega)] at hc4
      obtain ⟨p2, hp2⟩ : ∃ p2, p2 = [UInt8.ofNat 6, 10, 11] := ⟨_, rfl⟩
      rw [← hp2] at hadd4 hc2
      replace hp2 := Lib.hid hp2
      simp only [List.map_cons, List.map_nil] at hc2 hc4
      obtain ⟨wb, hwb⟩ : ∃ wb, wb = UInt8.ofNat ((1 : Int)).toNat := ⟨_, rfl⟩
      rw [← hwb] at hc4
      rw [show UInt8.ofNat ((1 : Int) % 256).toNat = wb from hwb.symm] at hR
      replace hwb := Lib.hid hwb
      replace hR := Lib.hid hR
      clear hR1 hadd
      go_enter Tryd.func10, Tryd.ntmps10
      go_wp2_with fail
      refine hsn.out.mono ?_
      rintro e w1 ⟨rfl, hb1⟩
      have hE1 := hE.below hb1
      go_wp2_with fail
      refine (hpk.out _).mono ?_
      rintro e w2 ⟨rfl, rfl⟩
      rw [← hi2.out]
      have hps2 : (str i2).size = i2.length := str_size i2
      have hPG : ∀ j (h : j < (str i2).size), (((str i2)[j].toNat : Nat) : Int) = (i2[j]!.toNat : Nat) := fun j h => by
        rw [getElem!_pos i2 j (by rw [str_size] at h; exact h)]
        show (((str i2).data[j]'_ : UInt8).toNat : Int) = _
        simp [str]
      generalize str i2 = P at *
      replace hPG := Lib.hid hPG
      go_wp2_with fail
      obtain ⟨w3, hw3⟩ : ∃ w3, w3 = (w2.alloc (.cells #[.int .u8 0, .int .u8 ((a : Int) / 256), .int .u8 ((a : Int) % 256), .int .u8 0, .int .u8 ((b : Int) / 256), .int .u8 ((b : Int) % 256)] 5)).alloc (.cells #[.int .u8 6, .int .u8 10, .int .u8 11] 5) := ⟨_, rfl⟩
      have hB3 : Below w.heap.size w w3 := by rw [hw3]; exact (hb1.alloc hb1.size _).alloc (by have := hb1.size; simp; omega) _
      rw [← hw3]
      clear hw3
      refine (hR.out _ (hE.below hB3).ops).mono ?_
      rintro e w4 ⟨rfl, hb4⟩
      have hB4 := hB3.trans (hb4.mono hB3.size)
      have hc3' := hc3.out
      go_wp2_with fail
      refine name_calls ?_
      intro w5 hw5
      have hB5 : Below w.heap.size w w5 := by rw [hw5]; exact (hB4.alloc hB4.size _).alloc (by have := hB4.size; simp; omega) _
      clear hw5 hc3' hc1 hc2 hc4 hR hadd4
      refine (hR2.out _ (hE.below hB5).ops).mono ?_
      rintro e w6 ⟨rfl, hb6⟩
      have hB6 := hB5.trans (hb6.mono hB5.size)
      go_wp2_with fail
      go_loopw [19, 20] (fun v i wr => ∃ k : Nat, k ≤ i2.length ∧ i = .int .i64 (k : Int) ∧ Hid (wr.ownsRow w.heap.size 5 1 v k (u8C ((i2.take k).map (addB a))) ∧ Below w.heap.size w wr)) (fun _ i _ => i2.length - (intOf i).toNat)
      case atStart => exact ⟨0, Nat.zero_le _, rfl, (show Hid _ from ⟨World.ownsRow_nil _ _ _ _, hB6⟩)⟩
      case round =>
        obtain ⟨k, hk, rfl, hall⟩ := hrel
        obtain ⟨hrow, hBr⟩ := hall.out
        clear hall hB6 hb6
        obtain ⟨vo, vc, rfl⟩ := own_val hrow
        by_cases hlt : k < i2.length
        · have hd : decide ((k : Int) < (i2.length : Int)) = true := by simpa using hlt
          have hj0 : k < P.size := by omega
          have hg := hPG.out k hj0
          have hx := (i2[k]!).toNat_lt
          have htk : (i2.take (k + 1)).map (addB a) = (i2.take k).map (addB a) ++ [addB a i2[k]!] := by
            rw [List.take_succ_eq_append_getElem hlt, List.map_append, getElem!_pos i2 k hlt]
            rfl
          have hbn : (((addB a i2[k]!).toNat : Nat) : Int) = ((i2[k]!.toNat : Int) + (a : Int)) % 256 := by unfold addB; rw [UInt8.toNat_ofNat']; omega
          have hal : Below wr.heap.size wr (wr.alloc (.cells #[.int .u8 ((addB a i2[k]!).toNat : Int)] 5)) := (Below.refl _ _).alloc (Nat.le_refl _) _
          obtain ⟨v', w7, m7, hrun, hm7, hown7, hgr7⟩ := append_bytes (wr.alloc (.cells #[.int .u8 ((addB a i2[k]!).toNat : Int)] 5)) w.heap.size _ ((i2.take k).map (addB a)) [addB a i2[k]!] k (by simp; omega) (own_below hrow hal) wr.heap.size 1 rfl (Arr.new rfl rfl) (by simp; omega) (by simp) (by have := hBr.size; simp; omega)
          have hB7 : Below w.heap.size w w7 := grown_below (hBr.alloc hBr.size _) (own_below hrow hal) hgr7 (Nat.le_refl _) (by have := hBr.size; simp; omega)
          have hmk : m7 = k + 1 := by rw [hm7]; simp; omega
          subst hmk
          rw [← htk] at hown7
          obtain ⟨va7, vc7, rfl⟩ := own_val hown7
          generalize addB a i2[k]! = bz at *
          generalize (i2[k]!).toNat = xz at *
          have hwx : IntKind.i64.wrap ((xz : Int) + (a : Int)) = (xz : Int) + (a : Int) := IntWalk.i64_in _ (by omega)
          have hwy : IntKind.u8.wrap ((xz : Int) + (a : Int)) = (bz.toNat : Int) := by rw [hbn]; simp [IntKind.wrap, IntKind.bits, IntKind.signed]
          have hwz : ((xz : Int) + (a : Int)) % 256 = (bz.toNat : Int) := hbn.symm
          have hw1k : IntKind.i64.wrap ((k : Int) + 1) = ((k + 1 : Nat) : Int) := by rw [Int.natCast_succ]; exact IntWalk.i64_in _ (by omega)
          replace hrun := Lib.hid hrun
          replace hbn := Lib.hid hbn
          replace htk := Lib.hid htk
          replace hown7 := Lib.hid hown7
          clear hrow hgr7 hal hm7
          go_wp2_with (at_builtin; go_loud (refine wpList_append_known rfl _ _ _ _ rfl _ _ rfl rfl hrun.out ?_))
          refine ⟨⟨k + 1, by omega, by first | rfl | go_num, (show Hid _ from ⟨hown7.out, hB7⟩)⟩, by simp [intOf]; omega⟩
        · have hd : decide ((k : Int) < (i2.length : Int)) = false := by simpa using hlt
          obtain rfl : k = i2.length := by omega
          rw [List.take_length] at hrow
          have hcv : (convert 46 9 (.slice vo i2.length vc)).run Tryd.prog wr = .ok (.string (str (i2.map (addB a)))) wr := conv_u8 (out := i2.map (addB a)) (by rw [List.length_map]; exact hrow)
          have hw9 : IntKind.i64.wrap (9 * (i2.length : Int)) = 9 * (i2.length : Int) := IntWalk.i64_in _ (by omega)
          have hw7 : IntKind.i64.wrap (9 * (i2.length : Int) + 7) = 9 * (i2.length : Int) + 7 := IntWalk.i64_in _ (by omega)
          generalize i2.map (addB a) = mp at *
          clear hrow
          go_wp2_with fail
          go_ret
          exact ⟨rfl, hBr⟩
    · skip
      have hR := fun w hO => (hR1 6 w hO (.inr (.inr rfl)))
      rw [calc_run ha hb (.inr (.inr rfl))] at hR
      unfold runE at hR
      dsimp only at hR
      rw [show calcW a b 6 = (0 : Int) from by unfold calcW; rw [if_neg (by decide), if_neg (by decide), if_neg hab]] at hR
      have hadd4 := hadd 6
      obtain ⟨cc, hcc⟩ : ∃ cc, cc = calcC a b 6 := ⟨_, rfl⟩
      rw [← hcc] at hadd4
      simp only [← hcc] at hR
      replace hcc := Lib.hid hcc
      have hc2 := fun W => conv_new W [6, 10, 11] 3 rfl
      rw [show strOfNums [6, 10, 11] = str [UInt8.ofNat 6, 10, 11] from strOfNums_nats [6, 10, 11]] at hc2
      have hc4 := fun W => conv_new W [(0 : Int)] 1 rfl
      rw [strOfNums_one ((0 : Int)) (by omega)] at hc4
      obtain ⟨p2, hp2⟩ : ∃ p2, p2 = [UInt8.ofNat 6, 10, 11] := ⟨_, rfl⟩
      rw [← hp2] at hadd4 hc2
      replace hp2 := Lib.hid hp2
      simp only [List.map_cons, List.map_nil] at hc2 hc4
      obtain ⟨wb, hwb⟩ : ∃ wb, wb = UInt8.ofNat ((0 : Int)).toNat := ⟨_, rfl⟩
      rw [← hwb] at hc4
      rw [show UInt8.ofNat ((0 : Int) % 256).toNat = wb from hwb.symm] at hR
      replace hwb := Lib.hid hwb
      replace hR := Lib.hid hR
      clear hR1 hadd
      go_enter Tryd.func10, Tryd.ntmps10
      go_wp2_with fail
      refine hsn.out.mono ?_
      rintro e w1 ⟨rfl, hb1⟩
      have hE1 := hE.below hb1
      go_wp2_with fail
      refine (hpk.out _).mono ?_
      rintro e w2 ⟨rfl, rfl⟩
      rw [← hi2.out]
      have hps2 : (str i2).size = i2.length := str_size i2
      have hPG : ∀ j (h : j < (str i2).size), (((str i2)[j].toNat : Nat) : Int) = (i2[j]!.toNat : Nat) := fun j h => by
        rw [getElem!_pos i2 j (by rw [str_size] at h; exact h)]
        show (((str i2).data[j]'_ : UInt8).toNat : Int) = _
        simp [str]
      generalize str i2 = P at *
      replace hPG := Lib.hid hPG
      go_wp2_with fail
      obtain ⟨w3, hw3⟩ : ∃ w3, w3 = (w2.alloc (.cells #[.int .u8 0, .int .u8 ((a : Int) / 256), .int .u8 ((a : Int) % 256), .int .u8 0, .int .u8 ((b : Int) / 256), .int .u8 ((b : Int) % 256)] 5)).alloc (.cells #[.int .u8 6, .int .u8 10, .int .u8 11] 5) := ⟨_, rfl⟩
      have hB3 : Below w.heap.size w w3 := by rw [hw3]; exact (hb1.alloc hb1.size _).alloc (by have := hb1.size; simp; omega) _
      rw [← hw3]
      clear hw3
      refine (hR.out _ (hE.below hB3).ops).mono ?_
      rintro e w4 ⟨rfl, hb4⟩
      have hB4 := hB3.trans (hb4.mono hB3.size)
      have hc3' := hc3.out
      go_wp2_with fail
      refine name_calls ?_
      intro w5 hw5
      have hB5 : Below w.heap.size w w5 := by rw [hw5]; exact (hB4.alloc hB4.size _).alloc (by have := hB4.size; simp; omega) _
      clear hw5 hc3' hc1 hc2 hc4 hR hadd4
      refine (hR2.out _ (hE.below hB5).ops).mono ?_
      rintro e w6 ⟨rfl, hb6⟩
      have hB6 := hB5.trans (hb6.mono hB5.size)
      go_wp2_with fail
      go_loopw [19, 20] (fun v i wr => ∃ k : Nat, k ≤ i2.length ∧ i = .int .i64 (k : Int) ∧ Hid (wr.ownsRow w.heap.size 5 1 v k (u8C ((i2.take k).map (addB a))) ∧ Below w.heap.size w wr)) (fun _ i _ => i2.length - (intOf i).toNat)
      case atStart => exact ⟨0, Nat.zero_le _, rfl, (show Hid _ from ⟨World.ownsRow_nil _ _ _ _, hB6⟩)⟩
      case round =>
        obtain ⟨k, hk, rfl, hall⟩ := hrel
        obtain ⟨hrow, hBr⟩ := hall.out
        clear hall hB6 hb6
        obtain ⟨vo, vc, rfl⟩ := own_val hrow
        by_cases hlt : k < i2.length
        · have hd : decide ((k : Int) < (i2.length : Int)) = true := by simpa using hlt
          have hj0 : k < P.size := by omega
          have hg := hPG.out k hj0
          have hx := (i2[k]!).toNat_lt
          have htk : (i2.take (k + 1)).map (addB a) = (i2.take k).map (addB a) ++ [addB a i2[k]!] := by
            rw [List.take_succ_eq_append_getElem hlt, List.map_append, getElem!_pos i2 k hlt]
            rfl
          have hbn : (((addB a i2[k]!).toNat : Nat) : Int) = ((i2[k]!.toNat : Int) + (a : Int)) % 256 := by unfold addB; rw [UInt8.toNat_ofNat']; omega
          have hal : Below wr.heap.size wr (wr.alloc (.cells #[.int .u8 ((addB a i2[k]!).toNat : Int)] 5)) := (Below.refl _ _).alloc (Nat.le_refl _) _
          obtain ⟨v', w7, m7, hrun, hm7, hown7, hgr7⟩ := append_bytes (wr.alloc (.cells #[.int .u8 ((addB a i2[k]!).toNat : Int)] 5)) w.heap.size _ ((i2.take k).map (addB a)) [addB a i2[k]!] k (by simp; omega) (own_below hrow hal) wr.heap.size 1 rfl (Arr.new rfl rfl) (by simp; omega) (by simp) (by have := hBr.size; simp; omega)
          have hB7 : Below w.heap.size w w7 := grown_below (hBr.alloc hBr.size _) (own_below hrow hal) hgr7 (Nat.le_refl _) (by have := hBr.size; simp; omega)
          have hmk : m7 = k + 1 := by rw [hm7]; simp; omega
          subst hmk
          rw [← htk] at hown7
          obtain ⟨va7, vc7, rfl⟩ := own_val hown7
          generalize addB a i2[k]! = bz at *
          generalize (i2[k]!).toNat = xz at *
          have hwx : IntKind.i64.wrap ((xz : Int) + (a : Int)) = (xz : Int) + (a : Int) := IntWalk.i64_in _ (by omega)
          have hwy : IntKind.u8.wrap ((xz : Int) + (a : Int)) = (bz.toNat : Int) := by rw [hbn]; simp [IntKind.wrap, IntKind.bits, IntKind.signed]
          have hwz : ((xz : Int) + (a : Int)) % 256 = (bz.toNat : Int) := hbn.symm
          have hw1k : IntKind.i64.wrap ((k : Int) + 1) = ((k + 1 : Nat) : Int) := by rw [Int.natCast_succ]; exact IntWalk.i64_in _ (by omega)
          replace hrun := Lib.hid hrun
          replace hbn := Lib.hid hbn
          replace htk := Lib.hid htk
          replace hown7 := Lib.hid hown7
          clear hrow hgr7 hal hm7
          go_wp2_with (at_builtin; go_loud (refine wpList_append_known rfl _ _ _ _ rfl _ _ rfl rfl hrun.out ?_))
          refine ⟨⟨k + 1, by omega, by first | rfl | go_num, (show Hid _ from ⟨hown7.out, hB7⟩)⟩, by simp [intOf]; omega⟩
        · have hd : decide ((k : Int) < (i2.length : Int)) = false := by simpa using hlt
          obtain rfl : k = i2.length := by omega
          rw [List.take_length] at hrow
          have hcv : (convert 46 9 (.slice vo i2.length vc)).run Tryd.prog wr = .ok (.string (str (i2.map (addB a)))) wr := conv_u8 (out := i2.map (addB a)) (by rw [List.length_map]; exact hrow)
          have hw9 : IntKind.i64.wrap (9 * (i2.length : Int)) = 9 * (i2.length : Int) := IntWalk.i64_in _ (by omega)
          have hw7 : IntKind.i64.wrap (9 * (i2.length : Int) + 7) = 9 * (i2.length : Int) + 7 := IntWalk.i64_in _ (by omega)
          generalize i2.map (addB a) = mp at *
          clear hrow
          go_wp2_with fail
          go_ret
          exact ⟨rfl, hBr⟩
end Go.Proofs.YtainohbfcehpoaaDoor
