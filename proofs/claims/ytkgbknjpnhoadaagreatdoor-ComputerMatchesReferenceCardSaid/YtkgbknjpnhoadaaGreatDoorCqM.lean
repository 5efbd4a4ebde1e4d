/-
  The contracts of evergreenref12.SameEvents, and of the law's cut and pick.
-/
import Derived.Test.YtkgbknjpnhoadaaGreatDoorCqL
namespace Go.Proofs.YtkgbknjpnhoadaaGreatDoor
open Go.RowKit Go.Shelf

def evB (a b : Ev) : Bool := a.t == b.t && a.k == b.k && a.a == b.a && a.b == b.b
theorem evB_iff (a b : Ev) : evB a b = true ↔ a = b := by
  obtain ⟨a1, a2, a3, a4⟩ := a
  obtain ⟨b1, b2, b3, b4⟩ := b
  simp [evB, and_assoc]
def sameB (l m : List Ev) : Bool := l.length == m.length && (List.range l.length).all fun j => evB l[j]! m[j]!
theorem sameB_iff (l m : List Ev) : sameB l m = true ↔ l = m := by
  unfold sameB
  rw [Bool.and_eq_true, beq_iff_eq, List.all_eq_true]
  constructor
  · rintro ⟨h1, h2⟩
    refine List.ext_getElem h1 (fun j hj hj2 => ?_)
    have := (evB_iff _ _).1 (h2 j (by rw [List.mem_range]; exact hj))
    rwa [getElem!_pos l j hj, getElem!_pos m j hj2] at this
  · rintro rfl
    exact ⟨rfl, fun j _ => (evB_iff _ _).2 rfl⟩
theorem run_ne_ev (a b : Ev) (w : World) : (binOp .neq 39 (.agg #[.int .i64 a.t, .int .i64 a.k, .int .i64 a.a, .int .i64 a.b]) (.agg #[.int .i64 b.t, .int .i64 b.k, .int .i64 b.a, .int .i64 b.b])).run Tryz.prog w = .ok (.bool !(evB a b)) w := by
  obtain ⟨a1, a2, a3, a4⟩ := a
  obtain ⟨b1, b2, b3, b4⟩ := b
  unfold evB
  dsimp only
  by_cases h1 : a1 = b1
  · by_cases h2 : a2 = b2
    · by_cases h3 : a3 = b3
      · by_cases h4 : a4 = b4
        · subst h1 h2 h3 h4
          go_simp
        · have h4' : (a4 == b4) = false := by simpa using h4
          subst h1 h2 h3
          go_simp
      · have h3' : (a3 == b3) = false := by simpa using h3
        subst h1 h2
        go_simp
    · have h2' : (a2 == b2) = false := by simpa using h2
      subst h1
      go_simp
  · have h1' : (a1 == b1) = false := by simpa using h1
    go_simp

theorem sliceCells {w : World} {B : Nat} {v : Value} {l : List Ev} (h : SliceAt w B v l.length (evCells l)) :
    ∃ a c, v = .slice a l.length c ∧ l.length ≤ c ∧ c ≤ maxLen ∧ ∀ k, k < l.length → ∃ b o, a = some ⟨b, o, none⟩ ∧ b < B ∧ ∀ (wr : World), wr.heap[b]? = w.heap[b]? → wr.cell? ⟨b, o + k * 4, none⟩ = some (.int .i64 l[k]!.t) ∧ wr.cell? ⟨b, o + k * 4 + 1, none⟩ = some (.int .i64 l[k]!.k) ∧ wr.cell? ⟨b, o + k * 4 + 2, none⟩ = some (.int .i64 l[k]!.a) ∧ wr.cell? ⟨b, o + k * 4 + 3, none⟩ = some (.int .i64 l[k]!.b) := by
  obtain ⟨a, c, rfl, h1, h2, hc⟩ := h
  refine ⟨a, c, rfl, h1, h2, fun k hk => ?_⟩
  obtain ⟨b, o, ha, hb, hx⟩ := hc (by omega)
  refine ⟨b, o, ha, hb, fun wr hB => ?_⟩
  have hh : ∀ i v, (encEv l[k]!)[i]? = some v → wr.cell? ⟨b, o + k * 4 + i, none⟩ = some v := fun i v hi => by
    have hi4 : i < 4 := (List.getElem?_eq_some_iff.1 hi).1
    rw [World.cell?_of_block (w' := wr) (w := w) (a := ⟨b, o + k * 4 + i, none⟩) hB, Nat.add_assoc]
    exact hx _ v ((evCells_at l k i hk hi4).trans hi)
  exact ⟨hh 0 _ rfl, hh 1 _ rfl, hh 2 _ rfl, hh 3 _ rfl⟩

set_option maxRecDepth 100000 in
set_option maxHeartbeats 4000000 in
theorem SameEvents_any (u v : Value) (l m : List Ev) (w : World) (hu : SliceAt w w.heap.size u l.length (evCells l)) (hv : SliceAt w w.heap.size v m.length (evCells m)) :
    Calls Tryz.prog 20 #[u, v] w fun e w' => e = .returned (.bool (sameB l m)) ∧ Below w.heap.size w w' := by
  obtain ⟨a, c, rfl, h1, h2, hc⟩ := sliceCells hu
  obtain ⟨a', c', rfl, h3, h4, hc'⟩ := sliceCells hv
  unfold maxLen at h2 h4
  have hB : Below w.heap.size w w := Below.refl _ _
  by_cases hlen : l.length = m.length
  · have hd : ((l.length : Int) != (m.length : Int)) = false := by simp [hlen]
    replace hc := Lib.hid hc
    replace hc' := Lib.hid hc'
    clear hu hv
    have hns := run_ne_ev
    replace hns := Lib.hid hns
    go_enter Tryz.func20, Tryz.ntmps20
    go_wp2
    go_loopw [5] (fun i wr => ∃ k : Nat, k ≤ l.length ∧ i = .int .i64 k ∧ Aside (Below w.heap.size w wr) ∧ Aside (∀ j, j < k → evB l[j]! m[j]! = true)) (fun i _ => l.length - (intOf i).toNat)
    case atStart => exact ⟨0, Nat.zero_le _, rfl, hB, fun j hj => by omega⟩
    case round =>
      obtain ⟨k, hk, rfl, BW, hA⟩ := hrel
      clear hB
      by_cases hlt : k < l.length
      · have hdl : decide ((k : Int) < (l.length : Int)) = true := by simpa using hlt
        have hltm : k < m.length := by omega
        obtain ⟨b, o, rfl, hb, hcell⟩ := hc.out k hlt
        obtain ⟨b', o', rfl, hb', hcell'⟩ := hc'.out k hltm
        obtain ⟨l0, l1, l2, l3⟩ := hcell wr (BW.out.block b hb)
        obtain ⟨k0, k1, k2, k3⟩ := hcell' wr (BW.out.block b' hb')
        have hne := hns.out l[k]! m[k]!
        have hAk := hA.out
        have hfl : evB l[k]! m[k]! = false → sameB l m = false := fun h => by
          rw [← Bool.not_eq_true]
          intro h2
          rw [sameB_iff] at h2
          subst h2
          rw [← Bool.not_eq_true, evB_iff] at h
          exact h rfl
        generalize hx : l[k]! = x at *
        generalize hy : m[k]! = y at *
        replace hx := Lib.hid hx
        replace hy := Lib.hid hy
        have hBd := BW.out
        clear hcell hcell' hc hc' hns
        replace hA := Lib.hid hA
        replace hAk := Lib.hid hAk
        replace hfl := Lib.hid hfl
        cases hxy : evB x y with
        | true =>
          rw [hxy] at hne
          replace hxy := Lib.hid hxy
          go_wp2
          go_quiet (fail)
          go_wp2
          refine ⟨⟨k + 1, by omega, by go_num, below_drewN BW.out _, (show Aside _ from fun j hj => ?_)⟩, by simp [intOf]; omega⟩
          by_cases e : j = k
          · subst e
            rw [hx.out, hy.out]
            exact hxy.out
          · exact hA.out.out j (by omega)
        | false =>
          rw [hxy] at hne
          have hfl2 := hfl.out hxy
          replace hxy := Lib.hid hxy
          go_wp2
          go_quiet (fail)
          go_wp2
          go_ret
          exact ⟨by rw [hfl2]; rfl, below_drewN hBd _⟩
      · have hdl : decide ((k : Int) < (l.length : Int)) = false := by simpa using hlt
        have hs : sameB l m = true := by
          unfold sameB
          rw [Bool.and_eq_true, beq_iff_eq, List.all_eq_true]
          exact ⟨hlen, fun j hj => hA.out j (by rw [List.mem_range] at hj; omega)⟩
        replace hs := Lib.hid hs
        clear hA hc hc' hns
        go_wp2
        go_ret
        exact ⟨by rw [hs.out]; rfl, BW.out⟩
  · have hd : ((l.length : Int) != (m.length : Int)) = true := by simp; omega
    have hs : sameB l m = false := by
      unfold sameB
      rw [Bool.and_eq_false_iff]
      exact .inl (by rw [beq_eq_false_iff_ne]; exact hlen)
    rw [hs]
    clear hc hc' hu hv
    go_enter Tryz.func20, Tryz.ntmps20
    go_wp2
    go_ret
    exact ⟨rfl, hB⟩
def pickv (c : Int) (n : Nat) : Nat := (if c < 0 then -(c + 1) else c).toNat % n
theorem pickv_lt (c : Int) (n : Nat) (h : 1 ≤ n) : pickv c n < n := Nat.mod_lt _ (by omega)
set_option maxHeartbeats 400000 in
theorem pick_any (c : Int) (n : Nat) (w : World) (hc : I64 c) (h1 : 1 ≤ n) (h2 : n ≤ 1000000000) :
    Calls Tryz.prog 16 #[.int .i64 c, .int .i64 n] w fun e w' => e = .returned (.int .i64 (pickv c n : Nat)) ∧ w' = w := by
  obtain ⟨hc1, hc2⟩ := hc
  by_cases h0 : c < 0
  · have hv : Hid (((pickv c n : Nat) : Int) = (-(c + 1)) % (n : Int)) := by
      show _ = _
      rw [pickv, if_pos h0, Int.natCast_emod, Int.toNat_of_nonneg (by omega)]
    have hd : decide (c < 0) = true := by simpa using h0
    have hnn : 0 ≤ -(c + 1) := by omega
    go_enter Tryz.func16, Tryz.ntmps16
    go_wp2
    go_ret
    exact ⟨ret_i64 (by rw [← Int.neg_tmod, Int.tmod_eq_emod_of_nonneg hnn]; exact hv.out.symm), rfl⟩
  · have hv : Hid (((pickv c n : Nat) : Int) = c % (n : Int)) := by
      show _ = _
      rw [pickv, if_neg h0, Int.natCast_emod, Int.toNat_of_nonneg (by omega)]
    have hd : decide (c < 0) = false := by simpa using h0
    have h0' : 0 ≤ c := by omega
    go_enter Tryz.func16, Tryz.ntmps16
    go_wp2
    go_ret
    exact ⟨ret_i64 hv.out.symm, rfl⟩
set_option maxHeartbeats 400000 in
theorem pickR_any (c : Int) (n : Nat) (w : World) (hc : I64 c) (h1 : 1 ≤ n) (h2 : n ≤ 1000000000) :
    Calls Tryz.prog 36 #[.int .i64 c, .int .i64 n] w fun e w' => e = .returned (.int .i64 (pickv c n : Nat)) ∧ w' = w := by
  obtain ⟨hc1, hc2⟩ := hc
  by_cases h0 : c < 0
  · have hv : Hid (((pickv c n : Nat) : Int) = (-(c + 1)) % (n : Int)) := by
      show _ = _
      rw [pickv, if_pos h0, Int.natCast_emod, Int.toNat_of_nonneg (by omega)]
    have hd : decide (c < 0) = true := by simpa using h0
    have hnn : 0 ≤ -(c + 1) := by omega
    go_enter Tryz.func36, Tryz.ntmps36
    go_wp2
    go_ret
    exact ⟨ret_i64 (by rw [← Int.neg_tmod, Int.tmod_eq_emod_of_nonneg hnn]; exact hv.out.symm), rfl⟩
  · have hv : Hid (((pickv c n : Nat) : Int) = c % (n : Int)) := by
      show _ = _
      rw [pickv, if_neg h0, Int.natCast_emod, Int.toNat_of_nonneg (by omega)]
    have hd : decide (c < 0) = false := by simpa using h0
    have h0' : 0 ≤ c := by omega
    go_enter Tryz.func36, Tryz.ntmps36
    go_wp2
    go_ret
    exact ⟨ret_i64 hv.out.symm, rfl⟩
theorem extract_take (s : ByteArray) (n : Nat) : s.extract 0 n = str (s.data.toList.take n) := by
  apply ByteArray.ext
  apply Array.ext'
  rw [Lib.extract_from_zero]
  rfl
set_option maxHeartbeats 400000 in
theorem cut_any (s : ByteArray) (n : Nat) (w : World) (hn : n ≤ 1000000) (hs : s.size ≤ 9223372036854775807) :
    Calls Tryz.prog 11 #[.string s, .int .i64 n] w fun e w' => e = .returned (.string (str (s.data.toList.take n))) ∧ w' = w := by
  have hm : min (s.size : Int) (n : Int) = ((min s.size n : Nat) : Int) := by omega
  have i1 : (0 : Int) ≤ ((min s.size n : Nat) : Int) := by omega
  have i2 : ((min s.size n : Nat) : Int) ≤ (s.size : Int) := by omega
  have hx : s.extract 0 (min s.size n) = str (s.data.toList.take n) := by
    rw [extract_take]
    congr 1
    rw [List.take_eq_take_iff]
    simp
    omega
  obtain ⟨k, hk⟩ : ∃ k, k = min s.size n := ⟨_, rfl⟩
  have hks : k ≤ s.size := by omega
  rw [← hk] at hm i1 i2 hx
  replace hk := Lib.hid hk
  go_enter Tryz.func11, Tryz.ntmps11
  go_wp2
  go_ret
  exact ⟨rfl, rfl⟩
end Go.Proofs.YtkgbknjpnhoadaaGreatDoor
