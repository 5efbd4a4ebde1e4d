/-
  The reference's Step at every machine; Load.
  The reference's Keys: whether a list is one of keys.
-/
import Derived.Test.YtkgbknjpnhoadaaGreatDoorDsD
import Derived.Test.YtkgbknjpnhoadaaGreatDoorDsE
import Derived.Test.YtkgbknjpnhoadaaGreatDoorDsF
namespace Go.Proofs.YtkgbknjpnhoadaaGreatDoor
open Go.RowKit Go.Shelf

theorem step_go {w : World} {B base : Nat} {ks : List Ev} {kv : Value} {x : Cpu} {tk : Nat} {ev : Value} {L : List Ev} (h : MPre w B base ks kv x tk ev L) (hh : ¬ x.halts) :
    Calls Tryz.prog 45 #[.pointer (some ⟨B, 0, none⟩), kv] w fun e w' => e = .returned (.tuple #[]) ∧ MPost w w' B base ks x.nx (L ++ x.evs) false := by
  unfold Cpu.halts at hh
  obtain ⟨o, ho⟩ : ∃ o, x.mem.getD x.c 0 = o := ⟨_, rfl⟩
  have hr : o = 1 ∨ o = 2 ∨ o = 3 ∨ o = 4 ∨ o = 5 ∨ o = 6 ∨ o = 7 ∨ o = 8 ∨ o = 9 ∨ o = 10 ∨ o = 11 ∨ o = 12 ∨ o = 13 ∨ o = 14 ∨ o = 15 ∨ o = 16 := by omega
  rcases hr with rfl | rfl | rfl | rfl | rfl | rfl | rfl | rfl | rfl | rfl | rfl | rfl | rfl | rfl | rfl | rfl
  · exact mstep1 w B base ks kv x tk ev L h ho
  · exact mstep2 w B base ks kv x tk ev L h ho
  · exact mstep3 w B base ks kv x tk ev L h ho
  · exact mstep4 w B base ks kv x tk ev L h ho
  · exact mstep5 w B base ks kv x tk ev L h ho
  · exact mstep6 w B base ks kv x tk ev L h ho
  · exact mstep7 w B base ks kv x tk ev L h ho
  · exact mstep8 w B base ks kv x tk ev L h ho
  · by_cases ha : x.a = 0
    · exact mstep9a w B base ks kv x tk ev L h ho ha
    · exact mstep9b w B base ks kv x tk ev L h ho ha
  · by_cases ha : 128 ≤ x.a
    · exact mstep10a w B base ks kv x tk ev L h ho ha
    · exact mstep10b w B base ks kv x tk ev L h ho ha
  · have htk := h.tk
    by_cases hl : tk < ks.length
    · by_cases ht : ks[tk]!.t ≤ (x.time : Int)
      · exact mkey2 w B base ks kv x tk ev L h ho hl ht
      · exact mkey1 w B base ks kv x tk ev L h ho hl ht
    · exact mkey0 w B base ks kv x tk ev L h ho (by omega)
  · exact mstep12 w B base ks kv x tk ev L h ho
  · exact mstep13 w B base ks kv x tk ev L h ho
  · exact mstep14 w B base ks kv x tk ev L h ho
  · exact mstep15 w B base ks kv x tk ev L h ho
  · exact mstep16 w B base ks kv x tk ev L h ho
theorem step_halt {w : World} {B base : Nat} {ks : List Ev} {kv : Value} {x : Cpu} {tk : Nat} {ev : Value} {L : List Ev} (h : MPre w B base ks kv x tk ev L) (hh : x.halts) :
    Calls Tryz.prog 45 #[.pointer (some ⟨B, 0, none⟩), kv] w fun e w' => e = .returned (.tuple #[]) ∧ MPost w w' B base ks { x with c := (x.c + 2) % 256, time := x.time + 1 } (L ++ [x.halt]) true := by
  rcases hh with hh | hh
  · exact mhalt0 w B base ks kv x tk ev L h hh
  · exact mhalt17 w B base ks kv x tk ev L h _ rfl hh

theorem loaded_set (p : List UInt8) (k : Nat) (hk : k < p.length) (hp : p.length ≤ 256) : (loaded (p.take k)).set k (p[k]!).toNat = loaded (p.take (k + 1)) := by
  unfold loaded
  rw [take_snoc p k hk]
  refine List.ext_getElem? fun j => ?_
  have hl : (List.map (fun x => x.toNat) (List.take k p)).length = k := by simp; omega
  rw [List.getElem?_set]
  simp only [List.length_append, List.length_take, List.length_map, List.length_singleton, List.map_append, List.length_replicate, List.map_cons, List.map_nil]
  by_cases e : k = j
  · subst e
    rw [if_pos rfl, if_pos (by omega), List.append_assoc, List.getElem?_append_right (by omega), hl, Nat.sub_self]
    rfl
  · rw [if_neg e]
    by_cases hlt : j < k
    · rw [List.getElem?_append_left (by omega), List.append_assoc, List.getElem?_append_left (by omega)]
    · rw [List.getElem?_append_right (by omega), List.getElem?_append_right (by simp; omega), hl, List.getElem?_replicate]
      simp only [List.length_append, hl, List.length_singleton, List.getElem?_replicate]
      by_cases h2 : j < 256
      · rw [if_pos (by omega), if_pos (by omega)]
      · rw [if_neg (by omega), if_neg (by omega)]
def mach0 (p d : List UInt8) (ks : List Ev) : Cpu := ⟨loaded p, loaded d, 0, 0, 0, ks⟩
theorem mach0_wf {p d : List UInt8} {ks : List Ev} (hp : p.length ≤ 256) (hd : d.length ≤ 256) (hk : ∀ k ∈ ks, keyOk k = true) : (mach0 p d ks).WF := ⟨loaded_len hp, loaded_len hd, loaded_lt _, loaded_lt _, Nat.zero_lt_succ _, Nat.zero_lt_succ _, hk⟩
theorem zero88 (ks : List Ev) : Tryz.zeroCells88 = (machCells (mach0 [] [] ks) 0 false (.slice none 0 0)).toArray := by kernel_rfl

set_option maxRecDepth 100000 in
set_option maxHeartbeats 4000000 in
theorem refLoad_any (p d : List UInt8) (ks : List Ev) (w : World) (hp : p.length ≤ 256) (hd : d.length ≤ 256) (hk : ∀ k ∈ ks, keyOk k = true) :
    Calls Tryz.prog 44 #[.string (str p), .string (str d)] w fun e w' => e = .returned (.pointer (some ⟨w.heap.size, 0, none⟩)) ∧ MachAt w' w.heap.size (mach0 p d ks) 0 false (.slice none 0 0) ∧ Below w.heap.size w w' := by
  have hpp : (str p).size = p.length := str_size p
  have hpd : (str d).size = d.length := str_size d
  have hGp : ∀ j (h : j < (str p).size), (((str p)[j].toNat : Nat) : Int) = (p[j]!.toNat : Nat) := fun j h => by
    rw [str_at, getElem!_pos p j (by rw [str_size] at h; exact h)]
  have hGd : ∀ j (h : j < (str d).size), (((str d)[j].toNat : Nat) : Int) = (d[j]!.toNat : Nat) := fun j h => by
    rw [str_at, getElem!_pos d j (by rw [str_size] at h; exact h)]
  generalize str p = P at *
  generalize str d = D at *
  replace hpp := Lib.hid hpp
  replace hpd := Lib.hid hpd
  replace hGp := Lib.hid hGp
  replace hGd := Lib.hid hGd
  go_enter Tryz.func44, Tryz.ntmps44
  go_wp2_with fail
  have hB1 := (Below.refl w.heap.size w).alloc (Nat.le_refl _) (.cells Tryz.zeroCells88 88)
  have hM1 : MachAt (w.alloc (.cells Tryz.zeroCells88 88)) w.heap.size (mach0 [] [] ks) 0 false (.slice none 0 0) := ⟨mach0_wf (by simp) (by simp) hk, Arr.new (zero88 ks) rfl⟩
  generalize w.alloc (.cells Tryz.zeroCells88 88) = w1 at *
  obtain ⟨B, hBw⟩ : ∃ B, B = w.heap.size := ⟨_, rfl⟩
  rw [← hBw] at hB1 hM1 ⊢
  replace hBw := Lib.hid hBw
  generalize Tryz.zeroCells88 = zc at *
  go_loopw [6] (fun i wr => ∃ k : Nat, k ≤ p.length ∧ i = .int .i64 k ∧ Aside (MachAt wr B (mach0 (p.take k) [] ks) 0 false (.slice none 0 0)) ∧ Aside (Below B w wr)) (fun i _ => p.length - (intOf i).toNat)
  case atStart => exact ⟨0, Nat.zero_le _, rfl, hM1, hB1⟩
  case round =>
    clear hM1 hB1
    obtain ⟨k, hk1, rfl, hM, hB⟩ := hrel
    have hps' := hpp.out
    by_cases hlt : k < p.length
    · have hj0 : k < P.size := by omega
      have hdd : decide ((k : Int) < (P.size : Int)) = true := by simp; omega
      have hg := hGp.out k hj0
      have hls := loaded_set p k hlt hp
      have hs := hM.out.setMem (j := k) (v := (p[k]!).toNat) (by omega) (p[k]!).toNat_lt
      have hs2 : Hid (MachAt (wr.setCell ⟨B, k, none⟩ (.int .i64 ((p[k]!.toNat : Nat) : Int))) B (mach0 (p.take (k + 1)) [] ks) 0 false (.slice none 0 0)) := by
        show MachAt _ _ _ _ _ _
        have e : ({ mach0 (p.take k) [] ks with mem := (mach0 (p.take k) [] ks).mem.set k (p[k]!).toNat } : Cpu) = mach0 (p.take (k + 1)) [] ks := by
          show (⟨(loaded (p.take k)).set k (p[k]!).toNat, _, _, _, _, _⟩ : Cpu) = _
          rw [hls]
          rfl
        rw [← e]
        exact hs
      have cM := hM.out.mem (j := k) (by omega)
      have fM := hM.out.free k
      generalize (mach0 (p.take k) [] ks).mem.getD k 0 = q at cM
      have hbl := (p[k]!).toNat_lt
      generalize (p[k]!).toNat = b at *
      have i0 : (0 : Int) ≤ (k : Int) := by omega
      have i1 : (k : Int) < 256 := by omega
      have i2 : (k : Int) < (P.size : Int) := by omega
      have hw1 : IntKind.i64.wrap (b : Int) = (b : Int) := IntWalk.i64_in _ (by omega)
      have hw2 : IntKind.i64.wrap (((P[k]'hj0).toNat : Nat) : Int) = (b : Int) := by rw [hg]; exact hw1
      have hBs : Hid (Below B w (wr.setCell ⟨B, k, none⟩ (.int .i64 (b : Int)))) := hB.out.setCell (Nat.le_refl _) _
      clear hs hls hM hB
      replace hps' := Lib.hid hps'
      go_wp2_with fail
      go_region
      go_wp2_with fail
      exact ⟨⟨k + 1, by omega, by go_num, hs2.out.drew, hBs.out.drew⟩, by simp [intOf]; omega⟩
    · obtain ⟨w2, hw2⟩ : ∃ w2, w2 = wr := ⟨_, rfl⟩
      subst hw2
      obtain rfl : k = p.length := by omega
      have hdd : decide ((p.length : Int) < (P.size : Int)) = false := by rw [hps']; simp
      have hj0 : ¬ p.length < P.size := by omega
      have hM2 := hM.out
      have hB2 := hB.out
      rw [List.take_length] at hM2
      replace hps' := Lib.hid hps'
      clear hM hB
      go_wp2_with fail
      go_loopw [7] (fun i wr => ∃ k : Nat, k ≤ d.length ∧ i = .int .i64 k ∧ Aside (MachAt wr B (mach0 p (d.take k) ks) 0 false (.slice none 0 0)) ∧ Aside (Below B w wr)) (fun i _ => d.length - (intOf i).toNat)
      case atStart => exact ⟨0, Nat.zero_le _, rfl, hM2, hB2⟩
      case round =>
        clear hM2 hB2
        obtain ⟨k, hk1, rfl, hM, hB⟩ := hrel
        have hps' := hpd.out
        by_cases hlt : k < d.length
        · have hj0 : k < D.size := by omega
          have hdd : decide ((k : Int) < (D.size : Int)) = true := by simp; omega
          have hg := hGd.out k hj0
          have hls := loaded_set d k hlt hd
          have hs := hM.out.setDisk (j := k) (v := (d[k]!).toNat) (by omega) (d[k]!).toNat_lt
          have hs2 : Hid (MachAt (wr.setCell ⟨B, 256 + k, none⟩ (.int .i64 ((d[k]!.toNat : Nat) : Int))) B (mach0 p (d.take (k + 1)) ks) 0 false (.slice none 0 0)) := by
            show MachAt _ _ _ _ _ _
            have e : ({ mach0 p (d.take k) ks with disk := (mach0 p (d.take k) ks).disk.set k (d[k]!).toNat } : Cpu) = mach0 p (d.take (k + 1)) ks := by
              show (⟨_, (loaded (d.take k)).set k (d[k]!).toNat, _, _, _, _⟩ : Cpu) = _
              rw [hls]
              rfl
            rw [← e]
            exact hs
          have cM := hM.out.disk (j := k) (by omega)
          have fM := hM.out.free (256 + k)
          generalize (mach0 p (d.take k) ks).disk.getD k 0 = q at cM
          have hbl := (d[k]!).toNat_lt
          generalize (d[k]!).toNat = b at *
          have i0 : (0 : Int) ≤ (k : Int) := by omega
          have i1 : (k : Int) < 256 := by omega
          have i2 : (k : Int) < (D.size : Int) := by omega
          have hw1 : IntKind.i64.wrap (b : Int) = (b : Int) := IntWalk.i64_in _ (by omega)
          have hw2 : IntKind.i64.wrap (((D[k]'hj0).toNat : Nat) : Int) = (b : Int) := by rw [hg]; exact hw1
          have hBs : Hid (Below B w (wr.setCell ⟨B, 256 + k, none⟩ (.int .i64 (b : Int)))) := hB.out.setCell (Nat.le_refl _) _
          clear hs hls hM hB
          replace hps' := Lib.hid hps'
          go_wp2_with fail
          go_region
          go_wp2_with fail
          exact ⟨⟨k + 1, by omega, by go_num, hs2.out.drew, hBs.out.drew⟩, by simp [intOf]; omega⟩
        · obtain rfl : k = d.length := by omega
          have hdd : decide ((d.length : Int) < (D.size : Int)) = false := by rw [hps']; simp
          have hj0 : ¬ d.length < D.size := by omega
          have hM3 := hM.out
          have hB3 := hB.out
          rw [List.take_length] at hM3
          replace hps' := Lib.hid hps'
          replace hM3 := Lib.hid hM3
          replace hB3 := Lib.hid hB3
          clear hM hB
          go_wp2_with fail
          go_ret
          obtain rfl := hBw.out
          exact ⟨rfl, hM3.out, hB3.out⟩
end Go.Proofs.YtkgbknjpnhoadaaGreatDoor
namespace Go.Proofs.YtkgbknjpnhoadaaGreatDoor
open Go.RowKit Go.Shelf

theorem keysOk_bad {l : List Ev} {j : Nat} (hj : j < l.length) (h : keyOk l[j]! = false) : keysOk l = false := by
  rw [← Bool.not_eq_true]
  intro hk
  simp only [keysOk, Bool.and_eq_true, List.all_eq_true] at hk
  have := hk.1.2 l[j]! (by rw [getElem!_pos l j hj]; exact List.getElem_mem hj)
  rw [h] at this
  cases this
theorem keysOk_ord {l : List Ev} {j : Nat} (hj : j < l.length) (h0 : 0 < j) (h : ¬ l[j - 1]!.t ≤ l[j]!.t) : keysOk l = false := by
  rw [← Bool.not_eq_true]
  intro hk
  simp only [keysOk, Bool.and_eq_true] at hk
  have := (inOrder_iff l).1 hk.2 (j - 1) (by omega)
  rw [show j - 1 + 1 = j from by omega] at this
  exact h this
theorem keysOk_all {l : List Ev} (h : ∀ j, j < l.length → keyOk l[j]! = true ∧ (0 < j → l[j - 1]!.t ≤ l[j]!.t)) : keysOk l = decide (l.length ≤ 100) := by
  have h1 : l.all keyOk = true := by
    rw [List.all_eq_true]
    intro e he
    obtain ⟨j, hj, rfl⟩ := List.getElem_of_mem he
    have := (h j hj).1
    rwa [getElem!_pos l j hj] at this
  have h2 : inOrder l = true := (inOrder_iff l).2 fun j hj => by
    have := (h (j + 1) hj).2 (by omega)
    simpa using this
  rw [keysOk, h1, h2]
  simp

set_option maxRecDepth 100000 in
set_option maxHeartbeats 8000000 in
theorem refKeys_any (v : Value) (l : List Ev) (w : World) (hv : SliceAt w w.heap.size v l.length (evCells l)) :
    Calls Tryz.prog 43 #[v] w fun e w' => e = .returned (.bool (keysOk l)) ∧ Below w.heap.size w w' := by
  obtain ⟨a, c, rfl, h1, h2, hc⟩ := sliceCells hv
  unfold maxLen at h2
  have hbad := fun j hj h => keysOk_bad (l := l) (j := j) hj h
  have hord := fun j hj h0 h => keysOk_ord (l := l) (j := j) hj h0 h
  have hall := keysOk_all (l := l)
  generalize keysOk l = R at *
  replace hc := Lib.hid hc
  replace hbad := Lib.hid hbad
  replace hord := Lib.hid hord
  replace hall := Lib.hid hall
  clear hv
  go_enter Tryz.func43, Tryz.ntmps43
  go_wp2_with fail
  go_loopw [3] (fun i wr => ∃ k : Nat, k ≤ l.length ∧ i = .int .i64 k ∧ Aside (Below w.heap.size w wr) ∧ Aside (∀ j, j < k → keyOk l[j]! = true ∧ (0 < j → l[j - 1]!.t ≤ l[j]!.t))) (fun i _ => l.length - (intOf i).toNat)
  case atStart => exact ⟨0, Nat.zero_le _, rfl, Below.refl _ _, fun j hj => by omega⟩
  case round =>
    obtain ⟨k, hk, rfl, BW, hA⟩ := hrel
    by_cases hlt : k < l.length
    · have hd : decide ((k : Int) < (l.length : Int)) = true := by simpa using hlt
      obtain ⟨b, o, rfl, hb, hcell⟩ := hc.out k hlt
      obtain ⟨m0, m1, m2, m3⟩ := hcell wr (BW.out.block b hb)
      have hprev : 0 < k → wr.cell? ⟨b, o + (k - 1) * 4, none⟩ = some (.int .i64 l[k - 1]!.t) := fun h0 => by
        obtain ⟨b', o', hbo, hb', hcell'⟩ := hc.out (k - 1) (by omega)
        injection hbo with hbo
        injection hbo with e1 e2
        subst e1 e2
        exact (hcell' wr (BW.out.block b hb)).1
      have hbadk := hbad.out k hlt
      have hordk := hord.out k hlt
      have hAk := hA.out
      have hB := BW.out
      have hB2 := fun o : Obj => hB.alloc hB.size o
      have hnext : keyOk l[k]! = true → (0 < k → l[k - 1]!.t ≤ l[k]!.t) → ∀ j, j < k + 1 → keyOk l[j]! = true ∧ (0 < j → l[j - 1]!.t ≤ l[j]!.t) := fun q1 q2 j hj => by
        by_cases e : j = k
        · subst e
          exact ⟨q1, q2⟩
        · exact hAk j (by omega)
      generalize hy : l[k - 1]! = y at *
      generalize hx : l[k]! = x at *
      replace hx := Lib.hid hx
      replace hy := Lib.hid hy
      have hbne : b < wr.heap.size := Nat.lt_of_lt_of_le hb hB.size
      have hbne2 : b ≠ wr.heap.size := by omega
      have i0 : (0 : Int) ≤ (k : Int) := by omega
      have i1 : (k : Int) < (l.length : Int) := by omega
      replace hnext := Lib.hid hnext
      replace hAk := Lib.hid hAk
      replace hB2 := Lib.hid hB2
      replace hB := Lib.hid hB
      clear hcell hc hA BW hbad hord hall
      by_cases p0 : x.k = 5
      · have d0 : (x.k != 5) = false := by simpa using p0
        by_cases p1 : ¬ x.t < 0
        · have d1 : decide (x.t < 0) = false := by simpa using p1
          by_cases p2 : ¬ x.t > 20000
          · have d2 : decide (x.t > 20000) = false := by simpa using p2
            by_cases p3 : ¬ x.a < 1
            · have d3 : decide (x.a < 1) = false := by simpa using p3
              by_cases p4 : ¬ x.a > 255
              · have d4 : decide (x.a > 255) = false := by simpa using p4
                by_cases p5 : x.b = 0
                · have d5 : (x.b != 0) = false := by simpa using p5
                  have hko : keyOk x = true := by simp [keyOk, p0, p5]; omega
                  by_cases p6 : 0 < k
                  · have d6 : decide ((k : Int) > 0) = true := by simp; omega
                    have cP := hprev p6
                    have i3 : (0 : Int) ≤ (k : Int) - 1 := by omega
                    have i4 : (k : Int) - 1 < (l.length : Int) := by omega
                    have i5 : ((k : Int) - 1).toNat = k - 1 := by omega
                    have hw3 : IntKind.i64.wrap ((k : Int) - 1) = (k : Int) - 1 := IntWalk.i64_in _ (by omega)
                    by_cases p7 : y.t > x.t
                    · have d7 : decide (y.t > x.t) = true := by simpa using p7
                      have hR : Hid (R = false) := hordk p6 (by omega)
                      clear hordk hbadk hprev
                      go_wp2_with fail
                      go_quiet (fail)
                      go_wp2_with fail
                      go_ret
                      exact ⟨by rw [hR.out]; rfl, below_drewN (hB2.out _) _⟩
                    · have d7 : decide (y.t > x.t) = false := by simpa using p7
                      have hn2 := Lib.hid (hnext.out hko (fun _ => by omega))
                      clear hordk hbadk hprev
                      go_wp2_with fail
                      go_quiet (fail)
                      go_wp2_with fail
                      exact ⟨⟨k + 1, by omega, by go_num, below_drewN (hB2.out _) _, hn2.out⟩, by simp [intOf]; omega⟩
                  · have d6 : decide ((k : Int) > 0) = false := by simp; omega
                    have hn2 := Lib.hid (hnext.out hko (fun h => absurd h p6))
                    clear hordk hbadk hprev
                    go_wp2_with fail
                    go_quiet (fail)
                    go_wp2_with fail
                    exact ⟨⟨k + 1, by omega, by go_num, below_drewN (hB2.out _) _, hn2.out⟩, by simp [intOf]; omega⟩
                · have d5 : (x.b != 0) = true := by simpa using p5
                  have hR : Hid (R = false) := hbadk (by simp [keyOk]; omega)
                  clear hordk hbadk hprev
                  go_wp2_with fail
                  go_quiet (fail)
                  go_wp2_with fail
                  go_ret
                  exact ⟨by rw [hR.out]; rfl, below_drewN (hB2.out _) _⟩
              · have d4 : decide (x.a > 255) = true := by simpa using p4
                have hR : Hid (R = false) := hbadk (by simp [keyOk]; omega)
                clear hordk hbadk hprev
                go_wp2_with fail
                go_quiet (fail)
                go_wp2_with fail
                go_ret
                exact ⟨by rw [hR.out]; rfl, below_drewN (hB2.out _) _⟩
            · have d3 : decide (x.a < 1) = true := by simpa using p3
              have hR : Hid (R = false) := hbadk (by simp [keyOk]; omega)
              clear hordk hbadk hprev
              go_wp2_with fail
              go_quiet (fail)
              go_wp2_with fail
              go_ret
              exact ⟨by rw [hR.out]; rfl, below_drewN (hB2.out _) _⟩
          · have d2 : decide (x.t > 20000) = true := by simpa using p2
            have hR : Hid (R = false) := hbadk (by simp [keyOk]; omega)
            clear hordk hbadk hprev
            go_wp2_with fail
            go_quiet (fail)
            go_wp2_with fail
            go_ret
            exact ⟨by rw [hR.out]; rfl, below_drewN (hB2.out _) _⟩
        · have d1 : decide (x.t < 0) = true := by simpa using p1
          have hR : Hid (R = false) := hbadk (by simp [keyOk]; omega)
          clear hordk hbadk hprev
          go_wp2_with fail
          go_quiet (fail)
          go_wp2_with fail
          go_ret
          exact ⟨by rw [hR.out]; rfl, below_drewN (hB2.out _) _⟩
      · have d0 : (x.k != 5) = true := by simpa using p0
        have hR : Hid (R = false) := hbadk (by simp [keyOk]; omega)
        clear hordk hbadk hprev
        go_wp2_with fail
        go_quiet (fail)
        go_wp2_with fail
        go_ret
        exact ⟨by rw [hR.out]; rfl, below_drewN (hB2.out _) _⟩
    · have hke : k = l.length := by omega
      subst hke
      have hd : decide ((l.length : Int) < (l.length : Int)) = false := by simp
      have hfin := hall.out hA.out
      have hB := BW.out
      clear hbad hord hall hA hc BW
      by_cases h100 : l.length ≤ 100
      · have hd2 : decide ((l.length : Int) ≤ 100) = true := by simp; omega
        have hR : Hid (R = true) := by show _ = _; rw [hfin]; simpa using h100
        clear hfin
        go_wp2_with fail
        go_ret
        exact ⟨by rw [hR.out]; rfl, hB⟩
      · have hd2 : decide ((l.length : Int) ≤ 100) = false := by simp; omega
        have hR : Hid (R = false) := by show _ = _; rw [hfin]; simpa using h100
        clear hfin
        go_wp2_with fail
        go_ret
        exact ⟨by rw [hR.out]; rfl, hB⟩
end Go.Proofs.YtkgbknjpnhoadaaGreatDoor
