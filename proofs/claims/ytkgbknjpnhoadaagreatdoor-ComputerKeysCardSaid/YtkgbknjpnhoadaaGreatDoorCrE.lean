/-
  The law ComputerKeys returns true.
-/
import Derived.Test.YtkgbknjpnhoadaaGreatDoorCrD
namespace Go.Proofs.YtkgbknjpnhoadaaGreatDoor
open Go.RowKit Go.Shelf

/-- One event is appended to a row of the call's own: the run, ahead of the walk. -/
theorem append_one (ws : World) (base : Nat) (v : Value) (l : List Ev) (e : Ev) (hown : ws.ownsRow base 39 4 v l.length (evCells l)) (hl : l.length ≤ 1000000) (hb : base ≤ ws.heap.size) :
    ∃ v' w', (Builtin.append_ #[33, 33] 33 #[v, .slice (some ⟨ws.heap.size, 0, none⟩) 1 1]).run Tryz.prog (ws.alloc (.cells #[.int .i64 e.t, .int .i64 e.k, .int .i64 e.a, .int .i64 e.b] 39)) = .ok v' w' ∧
      w'.ownsRow base 39 4 v' (l ++ [e]).length (evCells (l ++ [e])) ∧ (ws.alloc (.cells #[.int .i64 e.t, .int .i64 e.k, .int .i64 e.a, .int .i64 e.b] 39)).grownBy w' v.ownBlock ∧ v' ≠ .slice none 0 0 ∧
      (v'.ownBlock = v.ownBlock ∨ v'.ownBlock = some (ws.heap.size + 1)) ∧ (∀ B u, B ≤ base → Below B u ws → Below B u w') := by
  obtain ⟨i0, hi, hz0, hz1, hz2⟩ := info_parts Tryz.info_ev
  have hown2 := own_below hown ((Below.refl ws.heap.size ws).alloc (Nat.le_refl _) (.cells #[.int .i64 e.t, .int .i64 e.k, .int .i64 e.a, .int .i64 e.b] 39))
  have hnew : Arr (ws.alloc (.cells #[.int .i64 e.t, .int .i64 e.k, .int .i64 e.a, .int .i64 e.b] 39)) ws.heap.size 39 (evCells [e]) := Arr.new rfl rfl
  obtain ⟨v', w', hrun, r1, r2, r3, r4⟩ := run_append_own_at (P := Tryz.prog) (ws.alloc (.cells #[.int .i64 e.t, .int .i64 e.k, .int .i64 e.a, .int .i64 e.b] 39)) base 33 33 39 i0 (.agg #[.int .i64 0, .int .i64 0, .int .i64 0, .int .i64 0]) 4 32 Tryz.underlying33 hi hz0 hz1 hz2 rfl (by decide) v l.length (evCells l) hown2 ⟨ws.heap.size, 0, none⟩ 1 1 (evCells [e]) rfl (fun j u hu => by rw [Addr.add_mid, Nat.zero_add]; exact hnew.cell hu)
    (by intro u hu; simp [evCells] at hu; rcases hu with rfl | rfl | rfl | rfl <;> rfl) (by unfold maxLen; omega) (by omega) (by simp; omega)
  refine ⟨v', w', hrun, by rw [List.length_append, evCells_app]; exact r1, r2, fun e => absurd (r3.1 e).2 (by decide), by simpa using r4, fun B u hB hu => ?_⟩
  exact (hu.alloc (by omega) _).grown r2 (by simp; omega) (fun j ej => Nat.le_trans hB (hown2.lt j ej).1)
def LatI (wE w7 wr : World) (xv : Value) (l : List Ev) (v : Value) : Prop :=
  Below wE.heap.size wE wr ∧ wr.ownsRow wE.heap.size 39 4 v l.length (evCells l) ∧ (∀ b, xv.ownBlock = some b → b < w7.heap.size ∧ wr.heap[b]? = w7.heap[b]? ∧ v.ownBlock ≠ some b) ∧ w7.heap.size ≤ wr.heap.size
def EarI (w4 wr : World) (l : List Ev) (v : Value) : Prop := Below w4.heap.size w4 wr ∧ wr.ownsRow w4.heap.size 39 4 v l.length (evCells l)

set_option maxRecDepth 100000 in
set_option maxHeartbeats 8000000 in
theorem Keys_walk (v0 : Value) (n0 : Nat) (z0 : List Int) (v1 : Value) (n1 : Nat) (z1 : List Int) (a2 a3 : ByteArray) (a4 : Int) (v5 : Value) (n5 : Nat) (z5 : List Int) (w : World)
    (s0 : SliceAt w w.heap.size v0 n0 (z0.map (Value.int .i64))) (e0 : z0.length = n0 * 2) (g0 : ∀ z ∈ z0, I64 z)
    (s1 : SliceAt w w.heap.size v1 n1 (z1.map (Value.int .i64))) (e1 : z1.length = n1 * 2) (g1 : ∀ z ∈ z1, I64 z)
    (h2 : a2.size ≤ 9223372036854775807) (h3 : a3.size ≤ 9223372036854775807) (h4 : I64 a4)
    (s5 : SliceAt w w.heap.size v5 n5 (z5.map (Value.int .i64))) (e5 : z5.length = n5 * 2) (g5 : ∀ z ∈ z5, I64 z) (hE : Env w) :
    Calls Tryz.prog 5 #[v0, v1, .string a2, .string a3, .int .i64 a4, v5] w fun e w' => e = .returned (.bool true) ∧ Below w.heap.size w w' := by
  have hS := Lib.hid (sane_any w hE)
  have hP4 : ∀ W : World, Calls Tryz.prog 16 #[.int .i64 a4, .int .i64 1500] W fun e w' => e = .returned (.int .i64 (pickv a4 1500 : Nat)) ∧ w' = W := fun W => pick_any a4 1500 W h4 (by omega) (by omega)
  have hC := fun (W : World) => cut_any a2 256 W (by omega) h2
  have hD := fun (W : World) => cut_any a3 256 W (by omega) h3
  have b4 := pickv_lt a4 1500 (by omega)
  generalize pickv a4 1500 = mo at *
  have hdl : (a2.data.toList.take 256).length ≤ 256 := by rw [List.length_take]; omega
  generalize a2.data.toList.take 256 = dk at *
  have hdl2 : (a3.data.toList.take 256).length ≤ 256 := by rw [List.length_take]; omega
  generalize a3.data.toList.take 256 = dk2 at *
  obtain ⟨x0, c0, hv0, _⟩ := id s0
  obtain ⟨x1, c1, hv1, _⟩ := id s1
  obtain ⟨x5, c5, hv5, _⟩ := id s5
  have hco := fun (W : World) (hb : Below w.heap.size w W) => Code_any v0 n0 z0 W (s0.later hb) e0 g0
  have hty := fun (W : World) (hb : Below w.heap.size w W) => Typed_any v1 n1 z1 W (s1.later hb) e1 g1
  have hty5 := fun (W : World) (hb : Below w.heap.size w W) => Typed_any v5 n5 z5 W (s5.later hb) e5 g5
  rw [hv0] at hco
  rw [hv1] at hty
  rw [hv5] at hty5
  rw [hv0, hv1, hv5]
  replace hP4 := Lib.hid hP4
  replace hC := Lib.hid hC
  replace hD := Lib.hid hD
  replace hco := Lib.hid hco
  replace hty := Lib.hid hty
  replace hty5 := Lib.hid hty5
  clear s0 s1 s5 hv0 hv1 hv5 e0 e1 e5 g0 g1 g5 hE h2 h3 h4
  go_enter Tryz.func5, Tryz.ntmps5
  go_wp2_with fail
  refine hS.out.mono ?_
  rintro e w1 ⟨rfl, hb1⟩
  go_wp2_with fail
  refine (hP4.out _).mono ?_
  rintro e w2 ⟨rfl, hw2⟩
  rw [hw2]
  clear hw2 w2 hP4 hS
  go_wp2_with fail
  refine (hco.out w1 hb1).mono ?_
  rintro e w3 ⟨s, rfl, hs1, hs2, hb3⟩
  have hB3 := hb1.trans (hb3.mono hb1.size)
  clear hb3 hb1 hco
  go_wp2_with fail
  refine (hty.out w3 hB3).mono ?_
  rintro e w4 ⟨kv, ks, rfl, hko, hkt, hb4⟩
  have hB4 := hB3.trans (hb4.mono hB3.size)
  have hK := sliceAt_of_own hko
  obtain ⟨ka, kc, rfl⟩ := own_val hko
  obtain ⟨_, _, hkv, _, hkc2, hkc⟩ := sliceCells hK
  injection hkv with q1 _ q3
  subst q1 q3
  unfold maxLen at hkc2
  have hk20 := hkt.len
  replace hkc := Lib.hid hkc
  clear hB3 hb4 hko hK hty
  go_wp2_with fail
  go_loopw [17, 16] (fun i v wr => ∃ k : Nat, k ≤ ks.length ∧ i = .int .i64 k ∧ Hid (EarI w4 wr (early ks mo k) v)) (fun i _ _ => ks.length - (intOf i).toNat)
  case atStart => exact ⟨0, Nat.zero_le _, rfl, (show EarI _ _ _ _ from ⟨Below.refl _ _, World.ownsRow_nil _ _ _ _⟩)⟩
  case round =>
    obtain ⟨k, hk, rfl, hI⟩ := hrel
    obtain ⟨ao, vc, rfl⟩ := own_val hI.out.2
    have hel := early_len ks mo k
    by_cases hlt : k < ks.length
    · have hd : decide ((k : Int) < (ks.length : Int)) = true := by simpa using hlt
      obtain ⟨b, o, rfl, hb, hcell⟩ := hkc.out k hlt
      obtain ⟨m0, m1, m2, m3⟩ := hcell wr (hI.out.1.block b hb)
      have ey := early_yes (m := mo) hlt
      have en := early_no (m := mo) hlt
      generalize ks[k]! = x at *
      have ha := fun hx : x.t < (mo : Int) => append_one wr w4.heap.size _ _ x hI.out.2 (by omega) hI.out.1.size
      have hI1 := hI.out.1
      have hI2 := Lib.hid hI.out.2
      generalize early ks mo k = l at *
      clear hkc hcell hI
      by_cases hx : x.t < (mo : Int)
      · have hdx : decide (x.t < (mo : Int)) = true := by simpa using hx
        obtain ⟨v', w', hrun, r1, _, _, _, r5⟩ := ha hx
        have hIn : EarI w4 w' (l ++ [x]) v' := ⟨r5 _ _ (Nat.le_refl _) hI1, r1⟩
        replace hIn := Lib.hid hIn
        have e2 := Lib.hid (ey hx)
        replace hrun := Lib.hid hrun
        clear ha ey en r1 r5
        go_wp2_with (at_builtin; go_loud (refine wpList_append_known rfl _ _ _ _ rfl _ _ rfl rfl hrun.out ?_))
        exact ⟨⟨k + 1, by omega, by go_num, by rw [e2.out]; exact hIn⟩, by simp [intOf]; omega⟩
      · have hdx : decide (x.t < (mo : Int)) = false := by simpa using hx
        have e2 := Lib.hid (en hx)
        clear ha ey en
        go_wp2_with fail
        exact ⟨⟨k + 1, by omega, by go_num, by rw [e2.out]; exact (show EarI _ _ _ _ from ⟨hI1, hI2.out⟩)⟩, by simp [intOf]; omega⟩
    · obtain ⟨wE, hwE⟩ : ∃ wE, wE = wr := ⟨_, rfl⟩
      subst hwE
      obtain rfl : k = ks.length := by omega
      have hd : decide ((ks.length : Int) < (ks.length : Int)) = false := by simp
      have hKE := sliceAt_of_own hI.out.2
      have hB5 := hB4.trans (hI.out.1.mono hB4.size)
      have hek := early_ok hkt mo
      have hlk := fun X hX => late_ok (X := X) hkt hX mo (by omega)
      have hlp := fun X hX => late_perf (ks := ks) (X := X) hX s dk mo
      generalize early ks mo ks.length = el at *
      clear hkc hI hB4 hkt
      have hown : (wE.alloc (.cells #[] 39)).ownsRow wE.heap.size 39 4 (.slice (some ⟨wE.heap.size, 0, none⟩) 0 0) 0 [] :=
        ⟨rfl, .inr ⟨wE.heap.size, 0, #[], rfl, Nat.le_refl _, World.alloc_heap_new wE _, Nat.le_refl _, by unfold maxLen; omega, rfl, rfl⟩⟩
      have hKE2 := hKE.below ((Below.refl wE.heap.size wE).alloc (Nat.le_refl _) (.cells #[] 39)) (Nat.le_refl _)
      obtain ⟨v6, w6, hrun, ho6, hg6, hv6⟩ := append_ev (wE.alloc (.cells #[] 39)) wE.heap.size (.slice (some ⟨wE.heap.size, 0, none⟩) 0 0) [] el (.slice ao el.length vc) hown (by simp) wE.heap.size hKE2 (by simp; omega) (by simp)
      rw [List.nil_append] at ho6
      have hb6 : Below wE.heap.size wE w6 := ((Below.refl wE.heap.size wE).alloc (Nat.le_refl _) _).grown hg6 (by simp) (fun j e => (hown.lt j e).1)
      replace hrun := Lib.hid hrun
      clear hown hKE2 hg6
      go_wp2_with (at_builtin; go_loud (refine wpList_append_known rfl _ _ _ _ rfl _ _ rfl rfl hrun.out ?_))
      clear hrun
      have hB6 := hB5.trans (hb6.mono hB5.size)
      refine (hty5.out w6 hB6).mono ?_
      rintro e w7 ⟨xv, xs, rfl, hxo, hxt, hb7⟩
      have hB7 := hB6.trans (hb7.mono hB6.size)
      have hb67 := hb6.trans (hb7.mono hb6.size)
      have ho7 := own_below ho6 hb7
      have hX := sliceAt_of_own hxo
      obtain ⟨xa, xc, rfl⟩ := own_val hxo
      have hI0 : LatI wE w7 w7 (.slice xa xs.length xc) el v6 := ⟨hb67, ho7, fun b hb => ⟨(hxo.lt b hb).2, rfl, fun h => by
        have h1 := (hxo.lt b hb).1
        have h2 := (ho6.lt b h).2
        omega⟩, Nat.le_refl _⟩
      replace hI0 := Lib.hid hI0
      have hlk' := hlk xs hxt
      have hlp' := hlp xs hxt
      have hxl := hxt.len
      obtain ⟨_, _, hxv, _, hxc2, hxc⟩ := sliceCells hX
      injection hxv with q1 _ q3
      subst q1 q3
      unfold maxLen at hxc2
      replace hxc := Lib.hid hxc
      clear hlk hlp hty5 hxo hX ho7 ho6 hb6 hb7 hb67 hB6
      go_wp2_with fail
      go_loopw [20, 18] (fun i v wr => ∃ k : Nat, k ≤ xs.length ∧ i = .int .i64 k ∧ Hid (LatI wE w7 wr (.slice xa xs.length xc) (lateOf el xs mo k) v)) (fun i _ _ => xs.length - (intOf i).toNat)
      case atStart => exact ⟨0, Nat.zero_le _, rfl, by rw [late_zero]; exact hI0⟩
      case round =>
        clear hI0
        obtain ⟨k, hk, rfl, hI⟩ := hrel
        obtain ⟨lo, lc, rfl⟩ := own_val hI.out.2.1
        have hll := late_len el xs mo k
        by_cases hlt : k < xs.length
        · have hd : decide ((k : Int) < (xs.length : Int)) = true := by simpa using hlt
          obtain ⟨b, o, rfl, hb, hcell⟩ := hxc.out k hlt
          obtain ⟨hb2, hbk, hbn⟩ := hI.out.2.2.1 b rfl
          obtain ⟨m0, m1, m2, m3⟩ := hcell wr hbk
          have hsn := late_snoc el xs mo k hlt
          have hxk := (hxt.all _ (List.getElem_mem hlt)).2
          rw [← getElem!_pos xs k hlt] at hxk
          have hx0 := (keyOk_parts (hxt.all _ (List.getElem_mem hlt)).1).2.1
          rw [← getElem!_pos xs k hlt] at hx0
          generalize xs[k]! = x at *
          generalize lateOf el xs mo k = l at *
          have hwr : IntKind.i64.wrap (x.t + (mo : Int)) = x.t + (mo : Int) := IntWalk.i64_in _ (by omega)
          have hI1 := hI.out.1
          have hI2 := own_below hI.out.2.1 ((Below.refl wr.heap.size wr).alloc (Nat.le_refl _) (.cells #[.int .i64 (shiftE mo x).t, .int .i64 (shiftE mo x).k, .int .i64 (shiftE mo x).a, .int .i64 (shiftE mo x).b] 39))
          have hI4 := hI.out.2.2.2
          obtain ⟨v', w', hrun, r1, r2, r3, r4, r5⟩ := append_one (wr.alloc (.cells #[.int .i64 (shiftE mo x).t, .int .i64 (shiftE mo x).k, .int .i64 (shiftE mo x).a, .int .i64 (shiftE mo x).b] 39)) wE.heap.size _ l (shiftE mo x) hI2 (by omega) (by have := hI1.size; simp; omega)
          have hIn : LatI wE w7 w' (.slice (some ⟨b, o, none⟩) xs.length xc) (l ++ [shiftE mo x]) v' := ⟨r5 _ _ (Nat.le_refl _) (hI1.alloc hI1.size _), r1, fun b2 hb2' => by
            obtain rfl : b = b2 := by simpa [Value.ownBlock] using hb2'
            refine ⟨hb, ?_, fun h => ?_⟩
            · rw [r2.block b (by simp; omega) (fun h => hbn h.symm), ← hbk]
              rw [Below.heap_alloc _ _ _ (by simp; omega), Below.heap_alloc _ _ _ (by omega)]
            · rcases r4 with h4 | h4
              · exact hbn (h4 ▸ h)
              · rw [h4] at h
                injection h with h
                simp at h
                omega, by have := r2.size; simp at this; omega⟩
          replace hIn := Lib.hid hIn
          simp only [shiftE, World.size_alloc] at hrun
          replace hrun := Lib.hid hrun
          replace hsn := Lib.hid hsn
          clear hxk hI1 hI2 r1 r2 r3 r4 r5 hI hbn hbk hcell hxc hxt
          go_wp2_with (at_builtin; go_loud (refine wpList_append_known rfl _ _ _ _ rfl _ _ rfl rfl hrun.out ?_))
          exact ⟨⟨k + 1, by omega, by go_num, by rw [hsn.out]; exact hIn⟩, by simp [intOf]; omega⟩
        · obtain ⟨wF, hwF⟩ : ∃ wF, wF = wr := ⟨_, rfl⟩
          subst hwF
          obtain rfl : k = xs.length := by omega
          have hd : decide ((xs.length : Int) < (xs.length : Int)) = false := by simp
          have hLF := sliceAt_of_own hI.out.2.1
          have hKF := hKE.later hI.out.1
          have hBF := hB5.trans (hI.out.1.mono hB5.size)
          generalize lateOf el xs mo xs.length = ll at *
          have hok : ∀ (p d : List UInt8) (ks : List Ev), keysOk ks = true → p.length ≤ 256 → p.length % 2 = 0 → d.length ≤ 256 → perfL (str p) (str d) ks mo = perf p d ks mo ∧ perfE (str p) (str d) ks mo = 0 := fun p d ks hk h1 h2 h3 => by
            have h : perfOk p d ks (mo : Int) = true := by
              simp only [perfOk, progOk, hk, Bool.and_eq_true, decide_eq_true_eq, Bool.and_true]
              omega
            unfold perfL perfE
            rw [str_list, str_list, h]
            exact ⟨rfl, rfl⟩
          have hPf := fun (W : World) h => Perform_any (str s) (str dk) (.slice ao el.length vc) el mo W h
          rw [(hok s dk el hek (by omega) hs1 hdl).1, (hok s dk el hek (by omega) hs1 hdl).2] at hPf
          have hPm := fun (W : World) h => Perform_any (str s) (str dk) (.slice lo ll.length lc) ll mo W h
          rw [(hok s dk ll hlk' (by omega) hs1 hdl).1, (hok s dk ll hlk' (by omega) hs1 hdl).2, hlp'] at hPm
          have hPn := fun (q : List UInt8) (h1 : q.length ≤ 256) (h2 : q.length % 2 = 0) (W : World) h => Perform_any (str q) (str dk) (.slice ao el.length vc) el mo W h
          have hPo := fun (q : List UInt8) (h1 : q.length ≤ 256) (h2 : q.length % 2 = 0) (W : World) h => Perform_any (str q) (str dk2) (.slice ao el.length vc) el mo W h
          have hqs : ∀ k, k ≤ 128 → perfL (str (qOf s k)) (str dk) el mo = perf (qOf s k) dk el mo ∧ perfE (str (qOf s k)) (str dk) el mo = 0 ∧ perfL (str (qOf s k)) (str dk2) el mo = perf (qOf s k) dk el mo ∧ perfE (str (qOf s k)) (str dk2) el mo = 0 := fun k hk => by
            have e := hok (qOf s k) dk el hek (by rw [qOf_len]; omega) (by rw [qOf_len]; omega) hdl
            have e' := hok (qOf s k) dk2 el hek (by rw [qOf_len]; omega) (by rw [qOf_len]; omega) hdl2
            exact ⟨e.1, e.2, by rw [e'.1]; exact perf_disk _ _ _ _ _ (plain4_q s k), e'.2⟩
          obtain ⟨m, hm⟩ : ∃ m, s.length = 2 * m := ⟨s.length / 2, by omega⟩
          generalize perf s dk el mo = E1 at *
          replace hPf := Lib.hid hPf
          replace hPm := Lib.hid hPm
          clear hPn hPo hok hI hll hxc hxt hlp' hlk' hek
          go_wp2_with fail
          refine (hC.out _).mono ?_
          rintro e w8 ⟨rfl, hw8⟩
          rw [hw8]
          clear hw8 w8
          go_wp2_with fail
          refine (hPf.out wF hKF).mono ?_
          rintro e w8 ⟨u8, rfl, ho8, hb8⟩
          have h8 := sliceAt_of_own ho8
          obtain ⟨a8, c8, rfl⟩ := own_val ho8
          have hLG := hLF.later hb8
          have hKG := hKF.later hb8
          have hBG := hBF.trans (hb8.mono hBF.size)
          clear hBF hb8 ho8 hLF hKF hPf
          go_wp2_with fail
          refine (hC.out _).mono ?_
          rintro e w9 ⟨rfl, hw9⟩
          rw [hw9]
          clear hw9 w9
          go_wp2_with fail
          refine (hPm.out w8 hLG).mono ?_
          rintro e w9 ⟨u9, rfl, ho9, hb9⟩
          have h9 := sliceAt_of_own ho9
          obtain ⟨a9, c9, rfl⟩ := own_val ho9
          have h89 := h8.later hb9
          have hKH := hKG.later hb9
          have hBH := hBG.trans (hb9.mono hBG.size)
          have hSE := SameEvents_any _ _ E1 E1 w9 h89 h9
          rw [(sameB_iff E1 E1).2 rfl] at hSE
          replace hSE := Lib.hid hSE
          clear hBG hb9 ho9 hLG hKG hPm h89 h9 h8
          go_wp2_with fail
          refine hSE.out.mono ?_
          rintro e w10 ⟨rfl, hb10⟩
          have hKI := hKH.later hb10
          have hBI := hBH.trans (hb10.mono hBH.size)
          clear hBH hb10 hKH hSE
          have hPG : ∀ j (h : j < (str s).size), (str s)[j].toNat = (s.getD j 0).toNat := fun j h => by
            rw [str_at, List.getD_eq_getElem?_getD, List.getElem?_eq_getElem]
            rfl
          have hps : (str s).size = 2 * m := by rw [str_size, hm]
          have hm60 : m ≤ 60 := by omega
          generalize str s = P at *
          replace hPG := Lib.hid hPG
          replace hps := Lib.hid hps
          go_wp2_with fail
          go_loopw [27, 26] (fun i q wr => ∃ k j : Nat, k ≤ m ∧ j = 2 * k ∧ i = .int .i64 j ∧ q = .string (str (qOf s k)) ∧ Aside (Below w10.heap.size w10 wr)) (fun i _ _ => 2 * m - (intOf i).toNat)
          case atStart => exact ⟨0, 0, Nat.zero_le _, rfl, rfl, rfl, Below.refl _ _⟩
          case round =>
            obtain ⟨k, j, hk, hj, rfl, rfl, BW⟩ := hrel
            have hps' := hps.out
            by_cases hlt : k < m
            · have hjs : j + 1 < P.size := by omega
              have hjs2 : (j : Int) + 1 < (P.size : Int) := by omega
              have hd : decide ((j : Int) + 1 < (P.size : Int)) = true := by simpa using hjs2
              have hj0 : j < P.size := by omega
              have hg := hPG.out j hj0
              have hsn : qOf s (k + 1) = qOf s k ++ [UInt8.ofNat (q4 (P[j]'hj0).toNat), 120] := by rw [hg, hj]; rfl
              have hqk := qOf_len s k
              have hcase : ((P[j]'hj0).toNat ≤ 1 ∧ q4 (P[j]'hj0).toNat = (P[j]'hj0).toNat) ∨ ((P[j]'hj0).toNat = 12 ∧ q4 (P[j]'hj0).toNat = 12) ∨ ((P[j]'hj0).toNat = 13 ∧ q4 (P[j]'hj0).toNat = 13) ∨ (1 < (P[j]'hj0).toNat ∧ (P[j]'hj0).toNat ≠ 12 ∧ (P[j]'hj0).toNat ≠ 13 ∧ q4 (P[j]'hj0).toNat = 1) := by
                generalize (P[j]'hj0).toNat = o
                unfold q4
                by_cases h1 : 1 < o
                · by_cases h12 : o = 12
                  · exact .inr (.inl ⟨h12, by simp [h12]⟩)
                  · by_cases h13 : o = 13
                    · exact .inr (.inr (.inl ⟨h13, by simp [h13]⟩))
                    · exact .inr (.inr (.inr ⟨h1, h12, h13, by simp [h1, h12, h13]⟩))
                · exact .inl ⟨by omega, by simp [h1]⟩
              have hcv := fun z : Int => run_convert_bytes_arg (P := Tryz.prog) (wr.alloc (.cells #[.int .u8 z, .int .u8 120] 5)) 41 5 Tryz.underlying41 Tryz.underlying5 wr.heap.size 0 2 2 [z, 120] rfl (fun i hi => by
                have hc := cells_new wr [.int .u8 z, .int .u8 120] 5 i (.int .u8 ([z, 120].getD i 0)) (by rcases (show i = 0 ∨ i = 1 by omega) with rfl | rfl <;> rfl)
                rwa [Addr.add_mid] at hc) 9 Tryz.underlying9
              have hadd := fun (o : UInt8) (W : World) => add_str (qOf s k) [o, 120] (by simp; omega) W
              have hw2 : IntKind.i64.wrap ((j : Int) + 2) = (j : Int) + 2 := IntWalk.i64_in _ (by omega)
              have hw1 : IntKind.i64.wrap ((j : Int) + 1) = (j : Int) + 1 := IntWalk.i64_in _ (by omega)
              replace hqk := Lib.hid hqk
              replace hps' := Lib.hid hps'
              replace hj := Lib.hid hj
              clear hg
              rcases hcase with ⟨c1, c2⟩ | ⟨c1, c2⟩ | ⟨c1, c2⟩ | ⟨c1, c3, c4, c2⟩
              · have d1 : decide (((P[j]'hj0).toNat : Int) > 1) = false := by simp; omega
                have eo : strOfNums [(((P[j]'hj0).toNat : Nat) : Int), 120] = str [P[j]'hj0, 120] := by
                  have h := strOfNums_nums [(P[j]'hj0).toNat, 120]
                  simpa [bytesOf] using h
                replace hcv := hcv (((P[j]'hj0).toNat : Nat) : Int)
                rw [eo] at hcv
                replace hadd := hadd (P[j]'hj0)
                rw [c2, UInt8.ofNat_toNat] at hsn
                rw [← hsn] at hadd
                clear eo c2 hsn
                go_wp2_with fail
                go_roundw
                case measure => (have := hj.out; simp [intOf]; omega)
                case rel => exact ⟨k + 1, j + 2, by omega, by have := hj.out; omega, by go_num, rfl, BW.out.alloc BW.out.size _⟩
              · have d1 : decide ((12 : Int) > 1) = true := by decide
                have d2 : ((12 : Int) != 12) = false := by decide
                replace hcv := hcv 12
                rw [show strOfNums [(12 : Int), 120] = str [12, 120] from strOfNums_nums [12, 120]] at hcv
                replace hadd := hadd 12
                rw [c2, show UInt8.ofNat 12 = 12 from rfl] at hsn
                rw [← hsn] at hadd
                clear c2 hsn
                go_wp2_with fail
                go_roundw
                case measure => (have := hj.out; simp [intOf]; omega)
                case rel => exact ⟨k + 1, j + 2, by omega, by have := hj.out; omega, by go_num, rfl, BW.out.alloc BW.out.size _⟩
              · have d1 : decide ((13 : Int) > 1) = true := by decide
                have d2 : ((13 : Int) != 12) = true := by decide
                have d3 : ((13 : Int) != 13) = false := by decide
                replace hcv := hcv 13
                rw [show strOfNums [(13 : Int), 120] = str [13, 120] from strOfNums_nums [13, 120]] at hcv
                replace hadd := hadd 13
                rw [c2, show UInt8.ofNat 13 = 13 from rfl] at hsn
                rw [← hsn] at hadd
                clear c2 hsn
                go_wp2_with fail
                go_roundw
                case measure => (have := hj.out; simp [intOf]; omega)
                case rel => exact ⟨k + 1, j + 2, by omega, by have := hj.out; omega, by go_num, rfl, BW.out.alloc BW.out.size _⟩
              · have d1 : decide (((P[j]'hj0).toNat : Int) > 1) = true := by simp; omega
                have d2 : ((((P[j]'hj0).toNat : Nat) : Int) != 12) = true := by simp; omega
                have d3 : ((((P[j]'hj0).toNat : Nat) : Int) != 13) = true := by simp; omega
                replace hcv := hcv 1
                rw [show strOfNums [(1 : Int), 120] = str [1, 120] from strOfNums_nums [1, 120]] at hcv
                replace hadd := hadd 1
                rw [c2, show UInt8.ofNat 1 = 1 from rfl] at hsn
                rw [← hsn] at hadd
                clear c2 hsn
                go_wp2_with fail
                go_roundw
                case measure => (have := hj.out; simp [intOf]; omega)
                case rel => exact ⟨k + 1, j + 2, by omega, by have := hj.out; omega, by go_num, rfl, BW.out.alloc BW.out.size _⟩
            · obtain rfl : k = m := by omega
              have hjs : ¬ j + 1 < P.size := by omega
              have hjs2 : ¬ (j : Int) + 1 < (P.size : Int) := by omega
              have hd : decide ((j : Int) + 1 < (P.size : Int)) = false := by simpa using hjs2
              have hw1 : IntKind.i64.wrap ((j : Int) + 1) = (j : Int) + 1 := IntWalk.i64_in _ (by omega)
              obtain ⟨wJ, hwJ⟩ : ∃ wJ, wJ = wr := ⟨_, rfl⟩
              subst hwJ
              have hKJ := hKI.later BW.out
              have hBJ := hBI.trans (BW.out.mono hBI.size)
              obtain ⟨t1, t2, t3, t4⟩ := hqs k (by omega)
              have hPn := fun (W : World) h => Perform_any (str (qOf s k)) (str dk) (.slice ao el.length vc) el mo W h
              have hPo := fun (W : World) h => Perform_any (str (qOf s k)) (str dk2) (.slice ao el.length vc) el mo W h
              rw [t1, t2] at hPn
              rw [t3, t4] at hPo
              generalize perf (qOf s k) dk el mo = E2 at *
              generalize str (qOf s k) = Q at *
              replace hPn := Lib.hid hPn
              replace hPo := Lib.hid hPo
              replace hps' := Lib.hid hps'
              clear t1 t2 t3 t4 hqs hj
              go_wp2_with fail
              refine (hC.out _).mono ?_
              rintro e w11 ⟨rfl, hw11⟩
              rw [hw11]
              clear hw11 w11
              go_wp2_with fail
              refine (hPn.out wJ hKJ).mono ?_
              rintro e w11 ⟨u11, rfl, ho11, hb11⟩
              have h11 := sliceAt_of_own ho11
              obtain ⟨a11, c11, rfl⟩ := own_val ho11
              have hKK := hKJ.later hb11
              have hBK := hBJ.trans (hb11.mono hBJ.size)
              clear hBJ hb11 ho11 hKJ hPn
              go_wp2_with fail
              refine (hD.out _).mono ?_
              rintro e w12 ⟨rfl, hw12⟩
              rw [hw12]
              clear hw12 w12
              go_wp2_with fail
              refine (hPo.out w11 hKK).mono ?_
              rintro e w12 ⟨u12, rfl, ho12, hb12⟩
              have h12 := sliceAt_of_own ho12
              obtain ⟨a12, c12, rfl⟩ := own_val ho12
              have h112 := h11.later hb12
              have hBL := hBK.trans (hb12.mono hBK.size)
              have hSE2 := SameEvents_any _ _ E2 E2 w12 h112 h12
              rw [(sameB_iff E2 E2).2 rfl] at hSE2
              replace hSE2 := Lib.hid hSE2
              clear hBK hb12 ho12 hKK hPo h112 h12 h11
              go_wp2_with fail
              refine hSE2.out.mono ?_
              rintro e w13 ⟨rfl, hb13⟩
              have hBM := hBL.trans (hb13.mono hBL.size)
              go_wp2_with fail
              go_ret
              exact ⟨rfl, hBM⟩
end Go.Proofs.YtkgbknjpnhoadaaGreatDoor
