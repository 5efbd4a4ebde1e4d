/-
  The reference's Perform.
  The reference's Screen and Bitmap.
-/
import Derived.Test.YtkgbknjpnhoadaaGreatDoorDsG
import Derived.Laws.MakeOwn
namespace Go.Proofs.YtkgbknjpnhoadaaGreatDoor
open Go.RowKit Go.Shelf

theorem evs_len (x : Cpu) : x.evs.length ≤ 1 := by
  unfold Cpu.evs
  cases (({ x with c := (x.c + 2) % 256 } : Cpu).op (x.mem.getD x.c 0) (x.mem.getD ((x.c + 1) % 256) 0) (x.mem.getD (x.mem.getD ((x.c + 1) % 256) 0) 0)).2 <;> simp
/-- The performance so far. -/
structure PerI (w0 W : World) (B : Nat) (ks : List Ev) (R : List Ev) (most : Nat) (x : Cpu) (tk : Nat) (hl : Bool) (ev : Value) (L : List Ev) : Prop where
  ms : MS w0 W B (B + 1) x tk hl ev L
  rest : x.keys = ks.drop tk
  tk : tk ≤ ks.length
  time : x.time ≤ most
  eq : R = L ++ (if hl then [] else runs (most - x.time) x)
  len : L.length ≤ x.time
theorem MS.now {w0 W : World} {B base : Nat} {x : Cpu} {tk : Nat} {hl : Bool} {ev : Value} {L : List Ev} (h : MS w0 W B base x tk hl ev L) : MS W W B base x tk hl ev L := ⟨h.mach, h.own, Below.refl _ _, h.lt, h.le⟩
theorem MS.from {w0 W W' : World} {B base : Nat} {x : Cpu} {tk : Nat} {hl : Bool} {ev : Value} {L : List Ev} (h : MS W W' B base x tk hl ev L) (hb : Below B w0 W) : MS w0 W' B base x tk hl ev L := ⟨h.mach, h.own, hb.trans h.below, h.lt, h.le⟩
theorem PerI.go {w0 W W' : World} {B : Nat} {ks R : List Ev} {most : Nat} {x : Cpu} {tk : Nat} {ev : Value} {L : List Ev} (h : PerI w0 W B ks R most x tk false ev L) (hlt : x.time < most) (hh : ¬ x.halts) (hp : MPost W W' B (B + 1) ks x.nx (L ++ x.evs) false) :
    ∃ tk' ev', PerI w0 W' B ks R most x.nx tk' false ev' (L ++ x.evs) := by
  obtain ⟨tk', ev', h1, h2, h3⟩ := hp
  refine ⟨tk', ev', h1.from h.ms.below, h2, h3, by rw [nx_time]; omega, ?_, ?_⟩
  · rw [h.eq, nx_time, List.append_assoc]
    congr 1
    rw [show most - x.time = (most - (x.time + 1)) + 1 from by omega, runs_succ, if_neg hh]
    rfl
  · have := h.len
    have := evs_len x
    rw [List.length_append, nx_time]; omega
theorem PerI.halt {w0 W W' : World} {B : Nat} {ks R : List Ev} {most : Nat} {x : Cpu} {tk : Nat} {ev : Value} {L : List Ev} (h : PerI w0 W B ks R most x tk false ev L) (hlt : x.time < most) (hh : x.halts) (hp : MPost W W' B (B + 1) ks { x with c := (x.c + 2) % 256, time := x.time + 1 } (L ++ [x.halt]) true) :
    ∃ tk' ev', PerI w0 W' B ks R most { x with c := (x.c + 2) % 256, time := x.time + 1 } tk' true ev' (L ++ [x.halt]) := by
  obtain ⟨tk', ev', h1, h2, h3⟩ := hp
  refine ⟨tk', ev', h1.from h.ms.below, h2, h3, hlt, ?_, ?_⟩
  · rw [h.eq]
    have e : runs (most - x.time) x = [x.halt] := by rw [show most - x.time = (most - (x.time + 1)) + 1 from by omega, runs_succ, if_pos hh]
    show L ++ runs (most - x.time) x = L ++ [x.halt] ++ []
    rw [e, List.append_nil]
  · have := h.len
    show (L ++ [x.halt]).length ≤ x.time + 1
    rw [List.length_append, List.length_singleton]; omega
theorem PerI.done {w0 W : World} {B : Nat} {ks R : List Ev} {most : Nat} {x : Cpu} {tk : Nat} {hl : Bool} {ev : Value} {L : List Ev} (h : PerI w0 W B ks R most x tk hl ev L) (hd : hl = true ∨ most ≤ x.time) : R = L := by
  rw [h.eq]
  rcases hd with rfl | hd
  · simp
  · rw [show most - x.time = 0 from by omega]
    cases hl <;> simp [runs]
def timeAt (W : World) (B : Nat) : Nat := match W.cell? ⟨B, 514, none⟩ with | some (.int _ t) => t.toNat | _ => 0
theorem MS.timeAt {w0 W : World} {B base : Nat} {x : Cpu} {tk : Nat} {hl : Bool} {ev : Value} {L : List Ev} (h : MS w0 W B base x tk hl ev L) : timeAt W B = x.time := by
  unfold Go.Proofs.YtkgbknjpnhoadaaGreatDoor.timeAt
  rw [h.mach.time]
  simp

set_option maxRecDepth 100000 in
set_option maxHeartbeats 8000000 in
theorem refPerform_any (p d : List UInt8) (kv : Value) (keys : List Ev) (most : Int) (w : World) (hk : SliceAt w w.heap.size kv keys.length (evCells keys)) :
    Calls Tryz.prog 22 #[.string (str p), .string (str d), kv, .int .i64 most] w fun e w' => ∃ v, e = .returned (.tuple #[v, .int .i64 (perfE (str p) (str d) keys most)]) ∧
      w'.ownsRow w.heap.size 39 4 v (perfL (str p) (str d) keys most).length (evCells (perfL (str p) (str d) keys most)) ∧ Below w.heap.size w w' := by
  have hV := Lib.hid (refValid_any (str p) (str d) w)
  have hK := Lib.hid (fun (W : World) (hb : Below w.heap.size w W) => refKeys_any kv keys W (hk.later hb))
  have hno : perfOk p d keys most = false → perfE (str p) (str d) keys most = 120 ∧ perfL (str p) (str d) keys most = [] := fun h => ⟨if_neg (by rw [str_list, str_list, h]; decide), if_neg (by rw [str_list, str_list, h]; decide)⟩
  have hyes : perfOk p d keys most = true → perfE (str p) (str d) keys most = 0 ∧ perfL (str p) (str d) keys most = perf p d keys most.toNat := fun h => by
    constructor
    · exact if_pos (by rw [str_list, str_list, h])
    · unfold perfL
      rw [str_list, str_list, h]
      rfl
  rw [str_list, str_list] at hV
  obtain ⟨ka, kc, rfl, _⟩ := id hk
  by_cases hok : perfOk p d keys most = true
  · rw [(hyes hok).1, (hyes hok).2]
    simp only [perfOk, Bool.and_eq_true, decide_eq_true_eq] at hok
    obtain ⟨⟨⟨q1, q2⟩, q3⟩, q4⟩ := hok
    obtain ⟨mo, rfl⟩ : ∃ mo : Nat, most = mo := ⟨most.toNat, by omega⟩
    have hpd := q1
    simp only [progOk, Bool.and_eq_true, decide_eq_true_eq] at hpd
    have hks := q2
    simp only [keysOk, Bool.and_eq_true, decide_eq_true_eq, List.all_eq_true] at hks
    have hkl := hks.1.1
    have hLo := Lib.hid (fun W => refLoad_any p d keys W hpd.1.1 hpd.2 (fun k hk => hks.1.2 k hk))
    have hd3 : decide ((mo : Int) < 0) = false := by simp
    have hd4 : decide ((mo : Int) > 20000) = false := by simp; omega
    rw [q1] at hV
    simp only [q2] at hK
    have hR : perf p d keys (mo : Int).toNat = runs mo (mach0 p d keys) := rfl
    rw [hR]
    generalize hRR : runs mo (mach0 p d keys) = R at *
    replace hRR := Lib.hid hRR
    clear hno hyes hpd hks q1 q2 hR
    go_enter Tryz.func22, Tryz.ntmps22
    go_wp2_with fail
    refine hV.out.mono ?_
    rintro e w1 ⟨rfl, z1, rfl⟩
    have hb1 := below_drewN (Below.refl w.heap.size w) z1
    go_wp2_with fail
    refine (hK.out _ hb1).mono ?_
    rintro e w2 ⟨rfl, hb2⟩
    have hB2 := hb1.trans (hb2.mono hb1.size)
    have hk2 := hk.later hB2
    clear hb1 hb2 hK hV
    go_wp2_with fail
    refine (hLo.out w2).mono ?_
    rintro e w3 ⟨rfl, hM3, hb3⟩
    obtain ⟨B, hB⟩ : ∃ B, B = w2.heap.size := ⟨_, rfl⟩
    rw [← hB] at hM3 hb3 hk2 ⊢
    have hI0 : PerI w2 w3 B keys R mo (mach0 p d keys) 0 false (.slice none 0 0) [] := ⟨⟨hM3, World.ownsRow_nil _ _ _ _, hb3, by omega, hM3.lt⟩, rfl, Nat.zero_le _, Nat.zero_le _, hRR.out.symm, Nat.zero_le _⟩
    replace hI0 := Lib.hid hI0
    have hBw : w.heap.size ≤ B := by rw [hB]; exact hB2.size
    replace hB := Lib.hid hB
    clear hM3 hb3 hLo
    go_wp2_with fail
    go_loopw [] (fun wr => ∃ (x : Cpu) (tk : Nat) (hl : Bool) (ev : Value) (L : List Ev), Hid (PerI w2 wr B keys R mo x tk hl ev L)) (fun wr => mo - timeAt wr B)
    case atStart => exact ⟨_, _, _, _, _, hI0⟩
    case round =>
      clear hI0
      obtain ⟨x, tk, hl, ev, L, hI⟩ := hrel
      have cT := hI.out.ms.mach.time
      have cH := hI.out.ms.mach.halted
      have cE := hI.out.ms.mach.events
      have htm := hI.out.time
      have hta := hI.out.ms.timeAt
      by_cases hlt : x.time < mo
      · have hd : decide ((x.time : Int) < (mo : Int)) = true := by simpa using hlt
        cases hl with
        | false =>
          have hpre : MPre wr B (B + 1) keys (.slice ka keys.length kc) x tk ev L := ⟨hI.out.ms.now, hk2.below hI.out.ms.below (Nat.le_refl _), hI.out.rest, hI.out.tk, by omega, by have := hI.out.len; omega, by omega⟩
          clear cE
          by_cases hh : x.halts
          · have hSt := Lib.hid (step_halt hpre hh)
            replace hh := Lib.hid hh
            replace hta := Lib.hid hta
            clear hpre hk2
            go_wp2_with fail
            refine hSt.out.mono ?_
            rintro e w4 ⟨rfl, hp⟩
            obtain ⟨tk', ev', hI2⟩ := hI.out.halt hlt hh.out hp
            have hta2 := hI2.ms.timeAt
            replace hI2 := Lib.hid hI2
            clear hp cT cH
            go_wp2_with fail
            exact ⟨⟨_, _, _, _, _, hI2⟩, by rw [hta.out, hta2]; show mo - (x.time + 1) < mo - x.time; omega⟩
          · have hSt := Lib.hid (step_go hpre hh)
            replace hh := Lib.hid hh
            replace hta := Lib.hid hta
            clear hpre hk2
            go_wp2_with fail
            refine hSt.out.mono ?_
            rintro e w4 ⟨rfl, hp⟩
            obtain ⟨tk', ev', hI2⟩ := hI.out.go hlt hh.out hp
            have hta2 := hI2.ms.timeAt
            rw [nx_time] at hta2
            replace hI2 := Lib.hid hI2
            clear hp cT cH
            go_wp2_with fail
            exact ⟨⟨_, _, _, _, _, hI2⟩, by rw [hta.out, hta2]; omega⟩
        | true =>
          have hdn := hI.out.done (.inl rfl)
          have ho := hI.out.ms.own
          have hbb := hI.out.ms.below
          subst hdn
          have ho2 := own_mono ho (show w.heap.size ≤ B + 1 by omega)
          have hB4 := hB2.trans (hbb.mono hBw)
          replace ho2 := Lib.hid ho2
          clear hI ho hbb
          go_wp2_with fail
          go_ret2
          exact ⟨ev, rfl, ho2.out, hB4⟩
      · have hd : decide ((x.time : Int) < (mo : Int)) = false := by simpa using hlt
        have hdn := hI.out.done (.inr (by omega))
        have ho := hI.out.ms.own
        have hbb := hI.out.ms.below
        subst hdn
        have ho2 := own_mono ho (show w.heap.size ≤ B + 1 by omega)
        have hB4 := hB2.trans (hbb.mono hBw)
        replace ho2 := Lib.hid ho2
        clear hI ho hbb
        go_wp2_with fail
        go_ret2
        exact ⟨ev, rfl, ho2.out, hB4⟩
  · have hokf : perfOk p d keys most = false := by simpa using hok
    rw [(hno hokf).1, (hno hokf).2]
    cases q1 : progOk p d with
    | false =>
      rw [q1] at hV
      clear hokf q1
      clear hno hyes hk
      go_enter Tryz.func22, Tryz.ntmps22
      go_wp2_with fail
      refine hV.out.mono ?_
      rintro e w1 ⟨rfl, z1, rfl⟩
      have hb1 := below_drewN (Below.refl w.heap.size w) z1
      go_wp2_with fail
      refine (hK.out _ hb1).mono ?_
      rintro e w2 ⟨rfl, hb2⟩
      have hB2 := hb1.trans (hb2.mono hb1.size)
      go_wp2_with fail
      go_ret2
      exact ⟨_, rfl, World.ownsRow_nil _ _ _ _, hB2⟩
    | true =>
      rw [q1] at hV
      cases q2 : keysOk keys with
      | false =>
        simp only [q2] at hK
        clear hokf q1 q2
        clear hno hyes hk
        go_enter Tryz.func22, Tryz.ntmps22
        go_wp2_with fail
        refine hV.out.mono ?_
        rintro e w1 ⟨rfl, z1, rfl⟩
        have hb1 := below_drewN (Below.refl w.heap.size w) z1
        go_wp2_with fail
        refine (hK.out _ hb1).mono ?_
        rintro e w2 ⟨rfl, hb2⟩
        have hB2 := hb1.trans (hb2.mono hb1.size)
        go_wp2_with fail
        go_ret2
        exact ⟨_, rfl, World.ownsRow_nil _ _ _ _, hB2⟩
      | true =>
        simp only [q2] at hK
        by_cases q3 : most < 0
        · have hd : decide (most < 0) = true := by simpa using q3
          clear hokf q1 q2
          clear hno hyes hk
          go_enter Tryz.func22, Tryz.ntmps22
          go_wp2_with fail
          refine hV.out.mono ?_
          rintro e w1 ⟨rfl, z1, rfl⟩
          have hb1 := below_drewN (Below.refl w.heap.size w) z1
          go_wp2_with fail
          refine (hK.out _ hb1).mono ?_
          rintro e w2 ⟨rfl, hb2⟩
          have hB2 := hb1.trans (hb2.mono hb1.size)
          go_wp2_with fail
          go_ret2
          exact ⟨_, rfl, World.ownsRow_nil _ _ _ _, hB2⟩
        · have hd : decide (most < 0) = false := by simpa using q3
          have q4 : 20000 < most := by
            simp only [perfOk, q1, q2, Bool.true_and, Bool.and_eq_false_iff, decide_eq_false_iff_not] at hokf
            omega
          have hd2 : decide (most > 20000) = true := by simpa using q4
          clear hokf q1 q2
          clear hno hyes hk
          go_enter Tryz.func22, Tryz.ntmps22
          go_wp2_with fail
          refine hV.out.mono ?_
          rintro e w1 ⟨rfl, z1, rfl⟩
          have hb1 := below_drewN (Below.refl w.heap.size w) z1
          go_wp2_with fail
          refine (hK.out _ hb1).mono ?_
          rintro e w2 ⟨rfl, hb2⟩
          have hB2 := hb1.trans (hb2.mono hb1.size)
          go_wp2_with fail
          go_ret2
          exact ⟨_, rfl, World.ownsRow_nil _ _ _ _, hB2⟩
end Go.Proofs.YtkgbknjpnhoadaaGreatDoor
namespace Go.Proofs.YtkgbknjpnhoadaaGreatDoor
open Go.RowKit Go.Shelf

theorem fill_step (k N e : Nat) (hk : k < N) : (List.replicate k e ++ List.replicate (N - k) 0).set k e = List.replicate (k + 1) e ++ List.replicate (N - (k + 1)) 0 := by
  rw [List.set_append_right _ _ (by simp), List.length_replicate, Nat.sub_self, show N - k = (N - (k + 1)) + 1 from by omega, List.replicate_succ, List.set_cons_zero, List.replicate_succ', List.append_assoc]
  rfl
theorem tmod2 (x : Int) : (x % 2 = 0 → x.tmod 2 = 0) ∧ (x % 2 ≠ 0 → x.tmod 2 ≠ 0) := by
  rcases Int.le_total 0 x with h | h
  · rw [Int.tmod_eq_emod_of_nonneg h]
    exact ⟨id, id⟩
  · have e : x.tmod 2 = -((-x) % 2) := by
      rw [← Int.tmod_eq_emod_of_nonneg (by omega : (0 : Int) ≤ -x), Int.neg_tmod, Int.neg_neg]
    rw [e]
    omega
theorem make_bytes (w : World) (n : Nat) (hn : n ≤ 1000) : ∃ w1, (Instr.makeSlice 41 (.int .i64 (n : Int)) (.int .i64 (n : Int))).run Tryz.prog w = .ok (.slice (some ⟨w.heap.size, 0, none⟩) n n) w1 ∧
    Arr w1 w.heap.size 5 (nums (List.replicate n 0)) ∧ Below w.heap.size w w1 := by
  obtain ⟨i0, hi, hz0, hz1, hz2⟩ := info_parts info_byte4
  have h := run_makeSlice (P := Tryz.prog) w 41 5 i0 (.int .u8 0) Tryz.underlying41 hi hz0 .i64 .i64 n n (by omega) (by omega) (by rw [hz1]; omega) (by rw [hz2]; omega) (by omega)
  rw [Int.toNat_natCast] at h
  refine ⟨_, h, Arr.new ?_ rfl, (Below.refl _ _).alloc (Nat.le_refl _) _⟩
  rw [hz1, Nat.mul_one]
  apply Array.ext'
  simp [madeCells, Value.cells, nums, Nat.mod_one]
  rw [List.map_const', List.length_range]

set_option maxRecDepth 100000 in
set_option maxHeartbeats 8000000 in
theorem refScreen_any (v : Value) (l : List Ev) (w : World) (hv : SliceAt w w.heap.size v l.length (evCells l)) :
    Calls Tryz.prog 23 #[v] w fun e w' => e = .returned (.string (str (bytesOf (screenL l)))) ∧ Below w.heap.size w w' := by
  obtain ⟨a, c, rfl, h1, h2, hc⟩ := sliceCells hv
  unfold maxLen at h2
  obtain ⟨w1, hmk, hA1, hB1⟩ := make_bytes w 80 (by omega)
  obtain ⟨g, hg⟩ : ∃ g, g = w.heap.size := ⟨_, rfl⟩
  rw [← hg] at hA1 hmk
  have hmk2 : (Instr.makeSlice 41 (.int .i64 80) (.int .i64 80)).run Tryz.prog w = .ok (.slice (some ⟨g, 0, none⟩) 80 80) w1 := hmk
  have hgw : w.heap.size ≤ g := by omega
  clear hmk
  replace hg := Lib.hid hg
  replace hc := Lib.hid hc
  have hfin : shownL 1 32 80 ofS l = screenL l := rfl
  rw [← hfin]
  clear hv hfin
  go_enter Tryz.func23, Tryz.ntmps23
  go_wp2_with fail
  clear hmk2
  go_loopw [4] (fun i wr => ∃ k : Nat, k ≤ 80 ∧ i = .int .i64 k ∧ Aside (Below w.heap.size w wr) ∧ Aside (Arr wr g 5 (nums (List.replicate k 32 ++ List.replicate (80 - k) 0)))) (fun i _ => 80 - (intOf i).toNat)
  case atStart => exact ⟨0, Nat.zero_le _, rfl, hB1, hA1⟩
  case round =>
    clear hA1 hB1
    obtain ⟨k, hk, rfl, BW, A⟩ := hrel
    by_cases hlt : k < 80
    · have hd : decide ((k : Int) < 80) = true := by simp; omega
      have hfree := A.out.free k
      have hln : (List.replicate k 32 ++ List.replicate (80 - k) 0).length = 80 := by simp; omega
      have hex : wr.cell? ⟨g, k, none⟩ = some (.int .u8 ((List.replicate k 32 ++ List.replicate (80 - k) 0).getD k 0 : Nat)) := A.out.cell (nums_at (by omega))
      generalize (List.replicate k 32 ++ List.replicate (80 - k) 0).getD k 0 = q at hex
      have hA2 : Hid (Arr (wr.setCell ⟨g, k, none⟩ (.int .u8 (32 : Nat))) g 5 (nums (List.replicate (k + 1) 32 ++ List.replicate (80 - (k + 1)) 0))) := by
        show Arr _ _ _ _
        rw [← fill_step k 80 32 hlt, ← nums_set]
        exact A.out.set k _
      have hB2 : Hid (Below w.heap.size w (wr.setCell ⟨g, k, none⟩ (.int .u8 (32 : Nat)))) := BW.out.setCell (p := ⟨g, k, none⟩) hgw _
      clear A BW hln
      go_wp2_with fail
      exact ⟨⟨k + 1, by omega, by go_num, hB2.out, hA2.out⟩, by simp [intOf]; omega⟩
    · obtain ⟨w2, hw2⟩ : ∃ w2, w2 = wr := ⟨_, rfl⟩
      subst hw2
      obtain rfl : k = 80 := by omega
      have hd : decide (((80 : Nat) : Int) < 80) = false := by decide
      have hd' : decide ((80 : Int) < 80) = false := by decide
      have hB2 := BW.out
      have hA2 : Arr w2 g 5 (nums (shownL 1 32 80 ofS (l.take 0))) := by
        have e : shownL 1 32 80 ofS (l.take 0) = List.replicate 80 32 ++ List.replicate (80 - 80) 0 := by simp [shownL]
        rw [e]; exact A.out
      clear A BW
      go_wp2_with fail
      go_loopw [5] (fun i wr => ∃ k : Nat, k ≤ l.length ∧ i = .int .i64 k ∧ Aside (Below w.heap.size w wr) ∧ Aside (Arr wr g 5 (nums (shownL 1 32 80 ofS (l.take k))))) (fun i _ => l.length - (intOf i).toNat)
      case atStart => exact ⟨0, Nat.zero_le _, rfl, hB2, hA2⟩
      case round =>
        clear hA2 hB2
        obtain ⟨k, hk, rfl, BW, A⟩ := hrel
        have hgs := A.out.lt
        by_cases hlt : k < l.length
        · have hd : decide ((k : Int) < (l.length : Int)) = true := by simpa using hlt
          obtain ⟨b, o, rfl, hb, hcell⟩ := hc.out k hlt
          obtain ⟨l0, l1, l2, l3⟩ := hcell wr (BW.out.block b hb)
          have hbs := BW.out.size
          have hbr : b < wr.heap.size := Nat.lt_of_lt_of_le hb hbs
          have hst := take_snoc l k hlt
          have hsn := shownL_snoc 1 32 80 ofS (l.take k) l[k]!
          have hln := shownL_len 1 32 80 ofS (l.take k)
          rw [← hst] at hsn
          generalize shownL 1 32 80 ofS (l.take k) = out at *
          generalize l[k]! = x at *
          clear hst hcell
          obtain ⟨xt, xk, xa, xb⟩ := x
          dsimp only at l0 l1 l2 l3
          unfold shownStep at hsn
          dsimp only at hsn
          have hB3 := fun o : Obj => BW.out.alloc (by omega) o
          by_cases hif : xk = 1 ∧ 0 ≤ xa ∧ xa < 80
          · obtain ⟨rfl, ha0, ha1⟩ := hif
            obtain ⟨m, rfl⟩ : ∃ m : Nat, xa = m := ⟨xa.toNat, by omega⟩
            have hd1 : decide ((m : Int) ≥ 0) = true := by simp
            have hd2 : decide ((m : Int) < 80) = true := by simp; omega
            have i0 : (0 : Int) ≤ (m : Int) := by omega
            have i1 : (m : Int) < 80 := by omega
            rw [if_pos (by omega)] at hsn
            replace hsn := Lib.hid hsn
            have hfree0 := A.out.free m
            have hex0 : wr.cell? ⟨g, m, none⟩ = some (.int .u8 (out.getD m 0 : Nat)) := A.out.cell (nums_at (by omega))
            generalize out.getD m 0 = q at hex0
            have hgne : g ≠ wr.heap.size := by omega
            have hgne2 : wr.heap.size ≠ g := by omega
            have hB4 := Lib.hid (fun (u : Value) (o : Obj) => (BW.out.setCell (p := ⟨g, m, none⟩) hgw u).alloc (by simp [World.setCell]; omega) o)
            have hB5 := Lib.hid (fun (u u' : Value) (o : Obj) => ((BW.out.setCell (p := ⟨g, m, none⟩) hgw u).setCell (p := ⟨g, m, none⟩) hgw u').alloc (by simp [World.setCell]; omega) o)
            have hA3 := Lib.hid (fun (u : Value) (o : Obj) => (A.out.set m u).alloc o)
            have hA6 := Lib.hid (fun (u u' : Value) (o : Obj) => ((A.out.set m u).set m u').alloc o)
            clear hc hB3 BW A
            replace hln := Lib.hid hln
            have hxb : ((ofS xb : Nat) : Int) = xb % 256 := by unfold ofS; omega
            replace hxb := Lib.hid hxb
            go_wp2_with fail
            go_roundw
            case measure => simp [intOf]; omega
            case rel => exact ⟨k + 1, by omega, by go_num, hB4.out _ _, (by rw [hsn.out, ← nums_set, Int.toNat_natCast, hxb.out]; exact hA3.out _ _)⟩
          · rw [if_neg (by omega)] at hsn
            clear hc
            replace hsn := Lib.hid hsn
            have hcases : (¬ xk = 1 ∧ (xk == 1) = false) ∨ (xk = 1 ∧ (xk == 1) = true ∧ decide (xa ≥ 0) = false ∧ ¬ 0 ≤ xa) ∨ (xk = 1 ∧ (xk == 1) = true ∧ decide (xa ≥ 0) = true ∧ 0 ≤ xa ∧ decide (xa < 80) = false ∧ ¬ xa < 80) := by
              simp only [beq_eq_false_iff_ne, beq_iff_eq, decide_eq_false_iff_not, decide_eq_true_eq]; omega
            have hA3 := fun o : Obj => A.out.alloc o
            replace hB3 := Lib.hid hB3
            replace hA3 := Lib.hid hA3
            clear hif A BW
            rcases hcases with ⟨p1, h1⟩ | ⟨p1, h1, h2, p2⟩ | ⟨p1, h1, h2, p2, h3, p3⟩
            all_goals
              go_wp2_with fail
              go_roundw
              case measure => simp [intOf]; omega
              case rel => exact ⟨k + 1, by omega, by go_num, hB3.out _, (by rw [hsn.out]; exact hA3.out _)⟩
        · obtain rfl : k = l.length := by omega
          have hd : decide ((l.length : Int) < (l.length : Int)) = false := by simp
          clear hc
          rw [List.take_length] at A
          have hlen := shownL_len 1 32 80 ofS l
          obtain ⟨out, hout⟩ : ∃ out, shownL 1 32 80 ofS l = out := ⟨_, rfl⟩
          rw [hout] at A hlen
          replace hout := Lib.hid hout
          have hcv := run_convert_bytes_arg (P := Tryz.prog) wr 41 5 Tryz.underlying41 Tryz.underlying5 g 0 80 80 (out.map fun n : Nat => (n : Int)) (by simp [hlen]) (fun j hj => by
            rw [Nat.zero_add]
            refine A.out.cell ?_
            rw [nums_at (by omega)]
            simp [List.getD_eq_getElem?_getD]
            cases out[j]? <;> rfl) 9 Tryz.underlying9
          rw [strOfNums_nums] at hcv
          have hB3 := BW.out
          replace hB3 := Lib.hid hB3
          replace hlen := Lib.hid hlen
          clear A BW
          go_wp2_with fail
          go_ret
          exact ⟨by rw [hout.out]; rfl, hB3.out⟩

set_option maxRecDepth 100000 in
set_option maxHeartbeats 8000000 in
theorem refBitmap_any (v : Value) (l : List Ev) (w : World) (hv : SliceAt w w.heap.size v l.length (evCells l)) :
    Calls Tryz.prog 25 #[v] w fun e w' => e = .returned (.string (str (bytesOf (bitmapL l)))) ∧ Below w.heap.size w w' := by
  obtain ⟨a, c, rfl, h1, h2, hc⟩ := sliceCells hv
  unfold maxLen at h2
  obtain ⟨w1, hmk, hA1, hB1⟩ := make_bytes w 256 (by omega)
  obtain ⟨g, hg⟩ : ∃ g, g = w.heap.size := ⟨_, rfl⟩
  rw [← hg] at hA1 hmk
  have hmk2 : (Instr.makeSlice 41 (.int .i64 256) (.int .i64 256)).run Tryz.prog w = .ok (.slice (some ⟨g, 0, none⟩) 256 256) w1 := hmk
  have hgw : w.heap.size ≤ g := by omega
  clear hmk
  replace hg := Lib.hid hg
  replace hc := Lib.hid hc
  have hfin : shownL 2 48 256 ofP l = bitmapL l := rfl
  rw [← hfin]
  clear hv hfin
  go_enter Tryz.func25, Tryz.ntmps25
  go_wp2_with fail
  clear hmk2
  go_loopw [4] (fun i wr => ∃ k : Nat, k ≤ 256 ∧ i = .int .i64 k ∧ Aside (Below w.heap.size w wr) ∧ Aside (Arr wr g 5 (nums (List.replicate k 48 ++ List.replicate (256 - k) 0)))) (fun i _ => 256 - (intOf i).toNat)
  case atStart => exact ⟨0, Nat.zero_le _, rfl, hB1, hA1⟩
  case round =>
    clear hA1 hB1
    obtain ⟨k, hk, rfl, BW, A⟩ := hrel
    by_cases hlt : k < 256
    · have hd : decide ((k : Int) < 256) = true := by simp; omega
      have hfree := A.out.free k
      have hln : (List.replicate k 48 ++ List.replicate (256 - k) 0).length = 256 := by simp; omega
      have hex : wr.cell? ⟨g, k, none⟩ = some (.int .u8 ((List.replicate k 48 ++ List.replicate (256 - k) 0).getD k 0 : Nat)) := A.out.cell (nums_at (by omega))
      generalize (List.replicate k 48 ++ List.replicate (256 - k) 0).getD k 0 = q at hex
      have hA2 : Hid (Arr (wr.setCell ⟨g, k, none⟩ (.int .u8 (48 : Nat))) g 5 (nums (List.replicate (k + 1) 48 ++ List.replicate (256 - (k + 1)) 0))) := by
        show Arr _ _ _ _
        rw [← fill_step k 256 48 hlt, ← nums_set]
        exact A.out.set k _
      have hB2 : Hid (Below w.heap.size w (wr.setCell ⟨g, k, none⟩ (.int .u8 (48 : Nat)))) := BW.out.setCell (p := ⟨g, k, none⟩) hgw _
      clear A BW hln
      go_wp2_with fail
      exact ⟨⟨k + 1, by omega, by go_num, hB2.out, hA2.out⟩, by simp [intOf]; omega⟩
    · obtain ⟨w2, hw2⟩ : ∃ w2, w2 = wr := ⟨_, rfl⟩
      subst hw2
      obtain rfl : k = 256 := by omega
      have hd : decide (((256 : Nat) : Int) < 256) = false := by decide
      have hd' : decide ((256 : Int) < 256) = false := by decide
      have hB2 := BW.out
      have hA2 : Arr w2 g 5 (nums (shownL 2 48 256 ofP (l.take 0))) := by
        have e : shownL 2 48 256 ofP (l.take 0) = List.replicate 256 48 ++ List.replicate (256 - 256) 0 := by simp [shownL]
        rw [e]; exact A.out
      clear A BW
      go_wp2_with fail
      go_loopw [5] (fun i wr => ∃ k : Nat, k ≤ l.length ∧ i = .int .i64 k ∧ Aside (Below w.heap.size w wr) ∧ Aside (Arr wr g 5 (nums (shownL 2 48 256 ofP (l.take k))))) (fun i _ => l.length - (intOf i).toNat)
      case atStart => exact ⟨0, Nat.zero_le _, rfl, hB2, hA2⟩
      case round =>
        clear hA2 hB2
        obtain ⟨k, hk, rfl, BW, A⟩ := hrel
        have hgs := A.out.lt
        by_cases hlt : k < l.length
        · have hd : decide ((k : Int) < (l.length : Int)) = true := by simpa using hlt
          obtain ⟨b, o, rfl, hb, hcell⟩ := hc.out k hlt
          obtain ⟨l0, l1, l2, l3⟩ := hcell wr (BW.out.block b hb)
          have hbs := BW.out.size
          have hbr : b < wr.heap.size := Nat.lt_of_lt_of_le hb hbs
          have hst := take_snoc l k hlt
          have hsn := shownL_snoc 2 48 256 ofP (l.take k) l[k]!
          have hln := shownL_len 2 48 256 ofP (l.take k)
          rw [← hst] at hsn
          generalize shownL 2 48 256 ofP (l.take k) = out at *
          generalize l[k]! = x at *
          clear hst hcell
          obtain ⟨xt, xk, xa, xb⟩ := x
          dsimp only at l0 l1 l2 l3
          unfold shownStep at hsn
          dsimp only at hsn
          have hB3 := fun o : Obj => BW.out.alloc (by omega) o
          by_cases hif : xk = 2 ∧ 0 ≤ xa ∧ xa < 256
          · obtain ⟨rfl, ha0, ha1⟩ := hif
            obtain ⟨m, rfl⟩ : ∃ m : Nat, xa = m := ⟨xa.toNat, by omega⟩
            have hd1 : decide ((m : Int) ≥ 0) = true := by simp
            have hd2 : decide ((m : Int) < 256) = true := by simp; omega
            have i0 : (0 : Int) ≤ (m : Int) := by omega
            have i1 : (m : Int) < 256 := by omega
            rw [if_pos (by omega)] at hsn
            replace hsn := Lib.hid hsn
            have hfree0 := A.out.free m
            have hex0 : wr.cell? ⟨g, m, none⟩ = some (.int .u8 (out.getD m 0 : Nat)) := A.out.cell (nums_at (by omega))
            generalize out.getD m 0 = q at hex0
            have hgne : g ≠ wr.heap.size := by omega
            have hgne2 : wr.heap.size ≠ g := by omega
            have hB4 := Lib.hid (fun (u : Value) (o : Obj) => (BW.out.setCell (p := ⟨g, m, none⟩) hgw u).alloc (by simp [World.setCell]; omega) o)
            have hB5 := Lib.hid (fun (u u' : Value) (o : Obj) => ((BW.out.setCell (p := ⟨g, m, none⟩) hgw u).setCell (p := ⟨g, m, none⟩) hgw u').alloc (by simp [World.setCell]; omega) o)
            have hA3 := Lib.hid (fun (u : Value) (o : Obj) => (A.out.set m u).alloc o)
            have hA6 := Lib.hid (fun (u u' : Value) (o : Obj) => ((A.out.set m u).set m u').alloc o)
            clear hc hB3 BW A
            replace hln := Lib.hid hln
            by_cases hpar : xb % 2 = 0
            · have hof : ofP xb = 48 := by simp [ofP, hpar]
              have ht := (tmod2 xb).1 hpar
              have ht2 : (xb.tmod 2 != 0) = false := by rw [ht]; rfl
              replace hof := Lib.hid hof
              go_wp2_with fail
              go_roundw
              case measure => simp [intOf]; omega
              case rel => exact ⟨k + 1, by omega, by go_num, hB4.out _ _, (by rw [hsn.out, ← nums_set, Int.toNat_natCast, hof.out]; exact hA3.out _ _)⟩
            · have hof : ofP xb = 49 := by simp [ofP, hpar]
              have ht := (tmod2 xb).2 hpar
              have ht2 : (xb.tmod 2 != 0) = true := by simpa using ht
              replace hof := Lib.hid hof
              go_wp2_with fail
              go_roundw
              case measure => simp [intOf]; omega
              case rel => exact ⟨k + 1, by omega, by go_num, hB5.out _ _ _, (by rw [hsn.out, ← nums_set, Int.toNat_natCast, hof.out]; have h := hA6.out (.int .u8 48) (.int .u8 49); rw [List.set_set] at h; exact h _)⟩
          · rw [if_neg (by omega)] at hsn
            clear hc
            replace hsn := Lib.hid hsn
            have hcases : (¬ xk = 2 ∧ (xk == 2) = false) ∨ (xk = 2 ∧ (xk == 2) = true ∧ decide (xa ≥ 0) = false ∧ ¬ 0 ≤ xa) ∨ (xk = 2 ∧ (xk == 2) = true ∧ decide (xa ≥ 0) = true ∧ 0 ≤ xa ∧ decide (xa < 256) = false ∧ ¬ xa < 256) := by
              simp only [beq_eq_false_iff_ne, beq_iff_eq, decide_eq_false_iff_not, decide_eq_true_eq]; omega
            have hA3 := fun o : Obj => A.out.alloc o
            replace hB3 := Lib.hid hB3
            replace hA3 := Lib.hid hA3
            clear hif A BW
            rcases hcases with ⟨p1, h1⟩ | ⟨p1, h1, h2, p2⟩ | ⟨p1, h1, h2, p2, h3, p3⟩
            all_goals
              go_wp2_with fail
              go_roundw
              case measure => simp [intOf]; omega
              case rel => exact ⟨k + 1, by omega, by go_num, hB3.out _, (by rw [hsn.out]; exact hA3.out _)⟩
        · obtain rfl : k = l.length := by omega
          have hd : decide ((l.length : Int) < (l.length : Int)) = false := by simp
          clear hc
          rw [List.take_length] at A
          have hlen := shownL_len 2 48 256 ofP l
          obtain ⟨out, hout⟩ : ∃ out, shownL 2 48 256 ofP l = out := ⟨_, rfl⟩
          rw [hout] at A hlen
          replace hout := Lib.hid hout
          have hcv := run_convert_bytes_arg (P := Tryz.prog) wr 41 5 Tryz.underlying41 Tryz.underlying5 g 0 256 256 (out.map fun n : Nat => (n : Int)) (by simp [hlen]) (fun j hj => by
            rw [Nat.zero_add]
            refine A.out.cell ?_
            rw [nums_at (by omega)]
            simp [List.getD_eq_getElem?_getD]
            cases out[j]? <;> rfl) 9 Tryz.underlying9
          rw [strOfNums_nums] at hcv
          have hB3 := BW.out
          replace hB3 := Lib.hid hB3
          replace hlen := Lib.hid hlen
          clear A BW
          go_wp2_with fail
          go_ret
          exact ⟨by rw [hout.out]; rfl, hB3.out⟩
end Go.Proofs.YtkgbknjpnhoadaaGreatDoor
