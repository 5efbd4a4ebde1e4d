/-
  Events in memory, one by one; the contracts of pick.
  The contract of performance.valid, at a valid performance.
  The contract of performance.valid, at a valid performance: its two searches.
  The contract of performance.Encode's put.
  The contract of performance.Encode, at a valid performance.
-/
import Derived.Test.YtocpnlifmeffkaaGreatDoorUG
import Derived.Test.YtocpnlifmeffkaaGreatDoorUB
import Derived.Test.YtocpnlifmeffkaaGreatDoorUD
import Derived.Test.YtocpnlifmeffkaaGreatDoorUH
namespace Go.Proofs.YtocpnlifmeffkaaGreatDoor
open Go.RowKit Go.Shelf

def evB (a b : Ev) : Bool := a.t == b.t && a.k == b.k && a.a == b.a && a.b == b.b
theorem evB_iff (a b : Ev) : evB a b = true ↔ a = b := by
  obtain ⟨a1, a2, a3, a4⟩ := a
  obtain ⟨b1, b2, b3, b4⟩ := b
  simp [evB, and_assoc]
def sameB (l m : List Ev) : Bool := l.length == m.length && (List.range l.length).all fun j => evB l[j]! m[j]!
theorem sameB_iff (l m : List Ev) : sameB l m = true ↔ l = m := by
  unfold sameB
  rw [Bool.and_eq_true, beq_iff_eq, List.all_eq_true]
  constructor
  · rintro ⟨h1, h2⟩
    refine List.ext_getElem h1 (fun j hj hj2 => ?_)
    have := (evB_iff _ _).1 (h2 j (by rw [List.mem_range]; exact hj))
    rwa [getElem!_pos l j hj, getElem!_pos m j hj2] at this
  · rintro rfl
    exact ⟨rfl, fun j _ => (evB_iff _ _).2 rfl⟩
theorem run_ne_ev (a b : Ev) (w : World) : (binOp .neq 60 (.agg #[.int .i64 a.t, .int .i64 a.k, .int .i64 a.a, .int .i64 a.b]) (.agg #[.int .i64 b.t, .int .i64 b.k, .int .i64 b.a, .int .i64 b.b])).run Tryz.prog w = .ok (.bool !(evB a b)) w := by
  obtain ⟨a1, a2, a3, a4⟩ := a
  obtain ⟨b1, b2, b3, b4⟩ := b
  unfold evB
  dsimp only
  by_cases h1 : a1 = b1
  · by_cases h2 : a2 = b2
    · by_cases h3 : a3 = b3
      · by_cases h4 : a4 = b4
        · subst h1 h2 h3 h4
          go_simp
        · have h4' : (a4 == b4) = false := by simpa using h4
          subst h1 h2 h3
          go_simp
      · have h3' : (a3 == b3) = false := by simpa using h3
        subst h1 h2
        go_simp
    · have h2' : (a2 == b2) = false := by simpa using h2
      subst h1
      go_simp
  · have h1' : (a1 == b1) = false := by simpa using h1
    go_simp

theorem sliceCells {w : World} {B : Nat} {v : Value} {l : List Ev} (h : SliceAt w B v l.length (evCells l)) :
    ∃ a c, v = .slice a l.length c ∧ l.length ≤ c ∧ c ≤ maxLen ∧ ∀ k, k < l.length → ∃ b o, a = some ⟨b, o, none⟩ ∧ b < B ∧ ∀ (wr : World), wr.heap[b]? = w.heap[b]? → wr.cell? ⟨b, o + k * 4, none⟩ = some (.int .i64 l[k]!.t) ∧ wr.cell? ⟨b, o + k * 4 + 1, none⟩ = some (.int .i64 l[k]!.k) ∧ wr.cell? ⟨b, o + k * 4 + 2, none⟩ = some (.int .i64 l[k]!.a) ∧ wr.cell? ⟨b, o + k * 4 + 3, none⟩ = some (.int .i64 l[k]!.b) := by
  obtain ⟨a, c, rfl, h1, h2, hc⟩ := h
  refine ⟨a, c, rfl, h1, h2, fun k hk => ?_⟩
  obtain ⟨b, o, ha, hb, hx⟩ := hc (by omega)
  refine ⟨b, o, ha, hb, fun wr hB => ?_⟩
  have hh : ∀ i v, (encEv l[k]!)[i]? = some v → wr.cell? ⟨b, o + k * 4 + i, none⟩ = some v := fun i v hi => by
    have hi4 : i < 4 := (List.getElem?_eq_some_iff.1 hi).1
    rw [World.cell?_of_block (w' := wr) (w := w) (a := ⟨b, o + k * 4 + i, none⟩) hB, Nat.add_assoc]
    exact hx _ v ((evCells_at l k i hk hi4).trans hi)
  exact ⟨hh 0 _ rfl, hh 1 _ rfl, hh 2 _ rfl, hh 3 _ rfl⟩

def pickv (c : Int) (n : Nat) : Nat := (if c < 0 then -(c + 1) else c).toNat % n
theorem pickv_lt (c : Int) (n : Nat) (h : 1 ≤ n) : pickv c n < n := Nat.mod_lt _ (by omega)
set_option maxHeartbeats 400000 in
theorem pick_any (c : Int) (n : Nat) (w : World) (hc : I64 c) (h1 : 1 ≤ n) (h2 : n ≤ 1000000000) :
    Calls Tryz.prog 7 #[.int .i64 c, .int .i64 n] w fun e w' => e = .returned (.int .i64 (pickv c n : Nat)) ∧ w' = w := by
  obtain ⟨hc1, hc2⟩ := hc
  by_cases h0 : c < 0
  · have hv : Hid (((pickv c n : Nat) : Int) = (-(c + 1)) % (n : Int)) := by
      show _ = _
      rw [pickv, if_pos h0, Int.natCast_emod, Int.toNat_of_nonneg (by omega)]
    have hd : decide (c < 0) = true := by simpa using h0
    have hnn : 0 ≤ -(c + 1) := by omega
    go_enter Tryz.func7, Tryz.ntmps7
    go_wp2
    go_ret
    exact ⟨ret_i64 (by rw [← Int.neg_tmod, Int.tmod_eq_emod_of_nonneg hnn]; exact hv.out.symm), rfl⟩
  · have hv : Hid (((pickv c n : Nat) : Int) = c % (n : Int)) := by
      show _ = _
      rw [pickv, if_neg h0, Int.natCast_emod, Int.toNat_of_nonneg (by omega)]
    have hd : decide (c < 0) = false := by simpa using h0
    have h0' : 0 ≤ c := by omega
    go_enter Tryz.func7, Tryz.ntmps7
    go_wp2
    go_ret
    exact ⟨ret_i64 hv.out.symm, rfl⟩
set_option maxHeartbeats 400000 in
theorem pickR_any (c : Int) (n : Nat) (w : World) (hc : I64 c) (h1 : 1 ≤ n) (h2 : n ≤ 1000000000) :
    Calls Tryz.prog 19 #[.int .i64 c, .int .i64 n] w fun e w' => e = .returned (.int .i64 (pickv c n : Nat)) ∧ w' = w := by
  obtain ⟨hc1, hc2⟩ := hc
  by_cases h0 : c < 0
  · have hv : Hid (((pickv c n : Nat) : Int) = (-(c + 1)) % (n : Int)) := by
      show _ = _
      rw [pickv, if_pos h0, Int.natCast_emod, Int.toNat_of_nonneg (by omega)]
    have hd : decide (c < 0) = true := by simpa using h0
    have hnn : 0 ≤ -(c + 1) := by omega
    go_enter Tryz.func19, Tryz.ntmps19
    go_wp2
    go_ret
    exact ⟨ret_i64 (by rw [← Int.neg_tmod, Int.tmod_eq_emod_of_nonneg hnn]; exact hv.out.symm), rfl⟩
  · have hv : Hid (((pickv c n : Nat) : Int) = c % (n : Int)) := by
      show _ = _
      rw [pickv, if_neg h0, Int.natCast_emod, Int.toNat_of_nonneg (by omega)]
    have hd : decide (c < 0) = false := by simpa using h0
    have h0' : 0 ≤ c := by omega
    go_enter Tryz.func19, Tryz.ntmps19
    go_wp2
    go_ret
    exact ⟨ret_i64 hv.out.symm, rfl⟩
theorem extract_take (s : ByteArray) (n : Nat) : s.extract 0 n = str (s.data.toList.take n) := by
  apply ByteArray.ext
  apply Array.ext'
  rw [Lib.extract_from_zero]
  rfl
theorem sliceAt_arr {w : World} {b : Nat} {T : TypeId} {l : List Ev} (h : Arr w b T (evCells l)) (hn : l.length ≤ maxLen) : SliceAt w w.heap.size (.slice (some ⟨b, 0, none⟩) l.length l.length) l.length (evCells l) :=
  ⟨_, _, rfl, Nat.le_refl _, hn, fun _ => ⟨b, 0, rfl, h.lt, fun j u hu => by rw [Nat.zero_add]; exact h.cell hu⟩⟩
theorem sliceAt_nil (w : World) (B : Nat) : SliceAt w B (.slice none 0 0) 0 (evCells []) := ⟨_, _, rfl, Nat.le_refl _, Nat.zero_le _, fun h => absurd h (Nat.lt_irrefl 0)⟩
theorem SliceAt.later {w w' : World} {v : Value} {n : Nat} {xs : List Value} (h : SliceAt w w.heap.size v n xs) (hb : Below w.heap.size w w') : SliceAt w' w'.heap.size v n xs := by
  obtain ⟨a, cap, hv, h1, h2, hc⟩ := h.below hb (Nat.le_refl _)
  exact ⟨a, cap, hv, h1, h2, fun hn => by
    obtain ⟨b, o, ha, hlt, hx⟩ := hc hn
    exact ⟨b, o, ha, Nat.lt_of_lt_of_le hlt hb.size, hx⟩⟩

end Go.Proofs.YtocpnlifmeffkaaGreatDoor
namespace Go.Proofs.YtocpnlifmeffkaaGreatDoor
open Go.RowKit Go.Shelf

attribute [local go_sem] Oper.semAt_some

theorem pwithin_any (n lo hi : Int) (w : World) :
    Calls Tryz.prog 35 #[.int .i64 n, .int .i64 lo, .int .i64 hi] w fun e w' => e = .returned (.bool (decide (lo ≤ n) && decide (n ≤ hi))) ∧ w' = w := by
  go_enter Tryz.func35, Tryz.ntmps35
  go_wp2
  all_goals (go_ret; exact ⟨by first | (simp_all; done) | (simp_all; omega), rfl⟩)
def cmpI (a b : Int) : Int := if a < b then -1 else if b < a then 1 else 0
theorem isNaN_any (a : Int) (w : World) : Calls Tryz.prog 150 #[.int .i64 a] w fun e w' => e = .returned (.bool false) ∧ w' = w := by
  have h : (a != a) = false := by simp
  go_enter Tryz.func150, Tryz.ntmps150
  go_wp2
  go_ret
  exact ⟨rfl, rfl⟩
set_option maxHeartbeats 1000000 in
theorem cmpI_any (a b : Int) (w : World) : Calls Tryz.prog 73 #[.int .i64 a, .int .i64 b] w fun e w' => e = .returned (.int .i64 (cmpI a b)) ∧ w' = w := by
  have h := Lib.hid isNaN_any
  unfold cmpI
  go_enter Tryz.func73, Tryz.ntmps73
  go_wp2_with (go_at_call 150; refine (h.out _ _).mono ?_; rintro e w1 ⟨rfl, rfl⟩)
  all_goals (go_ret; refine ⟨?_, rfl⟩; first | rfl | (simp_all; done) | (congr 2; split <;> first | omega | (split <;> omega)))

set_option maxHeartbeats 1000000 in
theorem pvalid1_any (x y : Ev) (w : World) :
    Calls Tryz.prog 72 #[evAgg x, evAgg y] w fun r w' => r = .returned (.int .i64 (cmpI x.t y.t)) ∧ Below w.heap.size w w' := by
  have hC := Lib.hid fun W => cmpI_any x.t y.t W
  obtain ⟨t, k, a, b⟩ := x
  obtain ⟨t', k', a', b'⟩ := y
  unfold evAgg
  dsimp only at *
  go_enter Tryz.func72, Tryz.ntmps72
  go_wp2_with (go_at_call 73; refine (hC.out _).mono ?_; rintro e w1 ⟨rfl, rfl⟩)
  go_ret
  exact ⟨rfl, ((Below.refl _ w).alloc (Nat.le_refl _) _).alloc (by simp) _⟩
def evOkB (e : Ev) : Bool := (decide (0 ≤ e.t) && decide (e.t ≤ 20000)) && (decide (1 ≤ e.k) && decide (e.k ≤ 5)) && (decide (0 ≤ e.a) && decide (e.a ≤ 65535)) && (decide (0 ≤ e.b) && decide (e.b ≤ 65535))
theorem evOkB_of {e : Ev} (h : evOk e) : evOkB e = true := by
  unfold evOk at h
  simp [evOkB]
  omega
set_option maxRecDepth 100000 in
set_option maxHeartbeats 4000000 in
theorem pvalid2_any (e : Ev) (w : World) :
    Calls Tryz.prog 74 #[evAgg e] w fun r w' => r = .returned (.bool (!evOkB e)) ∧ Below w.heap.size w w' := by
  have hW := Lib.hid pwithin_any
  have hB : Below w.heap.size w (w.alloc (.cells #[.int .i64 e.t, .int .i64 e.k, .int .i64 e.a, .int .i64 e.b] 60)) := (Below.refl _ w).alloc (Nat.le_refl _) _
  have hA : Arr (w.alloc (.cells #[.int .i64 e.t, .int .i64 e.k, .int .i64 e.a, .int .i64 e.b] 60)) w.heap.size 60 [.int .i64 e.t, .int .i64 e.k, .int .i64 e.a, .int .i64 e.b] := Arr.new rfl rfl
  have e0 := hA.cell (j := 0) rfl
  have e1 := hA.cell (j := 1) rfl
  have e2 := hA.cell (j := 2) rfl
  have e3 := hA.cell (j := 3) rfl
  clear hA
  unfold evAgg evOkB
  obtain ⟨t, k, a, b⟩ := e
  dsimp only at *
  go_enter Tryz.func74, Tryz.ntmps74
  cases h1 : (decide (0 ≤ t) && decide (t ≤ 20000)) with
  | false =>
    go_wp2_with (go_at_call 35; refine (hW.out _ _ _ _).mono ?_; rintro e w1 ⟨rfl, rfl⟩; simp only [h1])
    go_ret
    exact ⟨rfl, hB⟩
  | true =>
    cases h2 : (decide (1 ≤ k) && decide (k ≤ 5)) with
    | false =>
      go_wp2_with (go_at_call 35; refine (hW.out _ _ _ _).mono ?_; rintro e w1 ⟨rfl, rfl⟩; simp only [h1, h2])
      go_ret
      exact ⟨rfl, hB⟩
    | true =>
      cases h3 : (decide (0 ≤ a) && decide (a ≤ 65535)) with
      | false =>
        go_wp2_with (go_at_call 35; refine (hW.out _ _ _ _).mono ?_; rintro e w1 ⟨rfl, rfl⟩; simp only [h1, h2, h3])
        go_ret
        exact ⟨rfl, hB⟩
      | true =>
        cases h4 : (decide (0 ≤ b) && decide (b ≤ 65535)) with
        | false =>
          go_wp2_with (go_at_call 35; refine (hW.out _ _ _ _).mono ?_; rintro e w1 ⟨rfl, rfl⟩; simp only [h1, h2, h3, h4])
          go_ret
          exact ⟨rfl, hB⟩
        | true =>
          go_wp2_with (go_at_call 35; refine (hW.out _ _ _ _).mono ?_; rintro e w1 ⟨rfl, rfl⟩; simp only [h1, h2, h3, h4])
          go_ret
          exact ⟨rfl, hB⟩
end Go.Proofs.YtocpnlifmeffkaaGreatDoor
namespace Go.Proofs.YtocpnlifmeffkaaGreatDoor
open Go.RowKit Go.Shelf

theorem pred_evs (w : World) : PredBelow Tryz.prog 74 #[] (fun x => .agg (encEv x).toArray) (fun x => !evOkB x) w := fun W x hb =>
  (pvalid2_any x W).mono fun _ _ h => ⟨h.1, hb.trans (h.2.mono hb.size)⟩
theorem pcontains_any (b o c : Nat) (l : List Ev) (w : World) (hl : l.length ≤ 1000) (hb : b < w.heap.size) (hc : ∀ j u, (evCells l)[j]? = some u → w.cell? ⟨b, o + j, none⟩ = some u) :
    Calls Tryz.prog 58 #[.slice (some ⟨b, o, none⟩) l.length c, .func (.func 74) #[] #[]] w fun e w' => e = .returned (.bool (l.any fun x => !evOkB x)) ∧ Below w.heap.size w w' := by
  have h := AnyQ.slices_ContainsFunc Tryz.laysF8 4 Tryz.isAgg60 Tryz.sizeOf60 encEv (fun _ => rfl) (fun x => !evOkB x) 74 #[] (enters_of Tryz.func74 (by kernel_rfl) rfl) b o l.length c l w (pred_evs w) (Nat.le_refl _) (by omega) hb
    (fun j hj i v hv => by
      have hi : i < 4 := (List.getElem?_eq_some_iff.1 hv).1
      have := hc (j * 4 + i) v ((evCells_at l j i hj hi).trans hv)
      rwa [← Nat.add_assoc] at this)
  rwa [List.take_length] at h

set_option maxHeartbeats 1000000 in
theorem pcontains_none (a : Option Addr) (c : Nat) (w : World) :
    Calls Tryz.prog 58 #[.slice a 0 c, .func (.func 74) #[] #[]] w fun e w' => e = .returned (.bool false) ∧ Below w.heap.size w w' := by
  go_enter Tryz.func58, Tryz.ntmps58
  go_wp2
  go_loop [8] (fun i => i = .int .i64 0) (fun _ => 0)
  case atStart => rfl
  case round =>
    subst hrel
    go_wp2
    go_ret
    exact ⟨rfl, Below.refl _ w⟩

set_option maxRecDepth 100000 in
set_option maxHeartbeats 4000000 in
theorem psorted_any (b o c : Nat) (l : List Ev) (w : World) (hl : l.length ≤ 1000) (hn : 1 < l.length) (hb : b < w.heap.size) (ho : inOrder l = true) (hc : ∀ j u, (evCells l)[j]? = some u → w.cell? ⟨b, o + j, none⟩ = some u) :
    Calls Tryz.prog 59 #[.slice (some ⟨b, o, none⟩) l.length c, .func (.func 72) #[] #[]] w fun e w' => e = .returned (.bool true) ∧ Below w.heap.size w w' := by
  have hE : ∀ j, j < l.length → ∀ W : World, Below w.heap.size w W → W.cell? ⟨b, o + j * 4, none⟩ = some (.int .i64 l[j]!.t) ∧ W.cell? ⟨b, o + j * 4 + 1, none⟩ = some (.int .i64 l[j]!.k) ∧ W.cell? ⟨b, o + j * 4 + 2, none⟩ = some (.int .i64 l[j]!.a) ∧ W.cell? ⟨b, o + j * 4 + 3, none⟩ = some (.int .i64 l[j]!.b) := fun j hj W hW => by
    have hh : ∀ i v, (encEv l[j]!)[i]? = some v → W.cell? ⟨b, o + j * 4 + i, none⟩ = some v := fun i v hi => by
      have hi4 : i < 4 := (List.getElem?_eq_some_iff.1 hi).1
      rw [hW.cell (p := ⟨b, o + j * 4 + i, none⟩) hb, Nat.add_assoc]
      exact hc _ v ((evCells_at l j i hj hi4).trans hi)
    exact ⟨hh 0 _ rfl, hh 1 _ rfl, hh 2 _ rfl, hh 3 _ rfl⟩
  have hT := (inOrder_iff l).1 ho
  clear hc ho
  go_enter Tryz.func59, Tryz.ntmps59
  go_wp2
  go_loopw [5] (fun i wr => ∃ k : Nat, k < l.length ∧ i = .int .i64 k ∧ Aside (Below w.heap.size w wr) ∧ Aside True) (fun i _ => (intOf i).toNat)
  case atStart => exact ⟨l.length - 1, by omega, by congr 1; omega, Below.refl _ w, trivial⟩
  case round =>
    obtain ⟨k, hk, rfl, BW, A⟩ := hrel
    by_cases h0 : 0 < k
    · have hd : decide ((k : Int) > 0) = true := by simpa using h0
      obtain ⟨m, rfl⟩ : ∃ m, k = m + 1 := ⟨k - 1, by omega⟩
      obtain ⟨l10, l11, l12, l13⟩ := hE (m + 1) hk wr BW.out
      obtain ⟨l20, l21, l22, l23⟩ := hE m (by omega) wr BW.out
      have hle := hT m hk
      have hcall := pvalid1_any l[m + 1]! l[m]! wr.drew
      have hbr := BW.out
      clear hE hT A
      unfold evAgg at hcall
      generalize hx : l[m + 1]! = x at *
      generalize hy : l[m]! = y at *
      replace hx := Lib.hid hx
      replace hy := Lib.hid hy
      replace hcall := Lib.hid hcall
      have i1 : (0 : Int) ≤ (m : Int) + 1 := by omega
      have i2 : (m : Int) + 1 < (l.length : Int) := by omega
      have i3 : (m : Int) + 1 - 1 = (m : Int) := by omega
      have i4 : (0 : Int) ≤ (m : Int) := by omega
      have i5 : (m : Int) < (l.length : Int) := by omega
      have i6 : ((m : Int) + 1).toNat = m + 1 := by omega
      have i7 : IntKind.i64.wrap (m : Int) = (m : Int) := IntWalk.i64_in _ (by omega)
      go_wp2
      go_still_tail 10, (by kernel_rfl)
      change wpList _ _ _ _ _ wr.drew
      have hbd : Below w.heap.size w wr.drew := hbr.drew
      generalize wr.drew = wd at *
      go_wp2_with (fail)
      refine hcall.out.mono ?_
      rintro e w' ⟨rfl, hb'⟩
      have hb2 := hbd.trans (hb'.mono hbd.size)
      clear hbd hb' hcall l10 l11 l12 l13 l20 l21 l22 l23 hbr
      have hd : decide (cmpI x.t y.t < 0) = false := by
        unfold cmpI
        split
        · omega
        · split <;> simp
      replace hle := Lib.hid hle
      go_wp2_with (fail)
      go_roundw
      case measure => simp [intOf]
      case rel => exact ⟨m, by omega, by go_num, hb2, (show Aside True from trivial)⟩
    · obtain rfl : k = 0 := by omega
      go_wp2
      go_ret
      exact ⟨rfl, BW.out⟩

set_option maxHeartbeats 1000000 in
theorem psorted_none (a : Option Addr) (n c : Nat) (w : World) (hn : n ≤ 1) :
    Calls Tryz.prog 59 #[.slice a n c, .func (.func 72) #[] #[]] w fun e w' => e = .returned (.bool true) ∧ Below w.heap.size w w' := by
  have hd : decide ((n : Int) - 1 > 0) = false := by simp; omega
  have hd' : ¬ (0 < (n : Int) - 1) := by omega
  have hw : IntKind.i64.wrap ((n : Int) - 1) = (n : Int) - 1 := IntWalk.i64_in _ (by omega)
  go_enter Tryz.func59, Tryz.ntmps59
  go_wp2
  go_loop [5] (fun i => i = .int .i64 ((n : Int) - 1)) (fun _ => 0)
  case atStart => rfl
  case round =>
    subst hrel
    go_wp2
    go_ret
    exact ⟨rfl, Below.refl _ w⟩


theorem pcontains_all (v : Value) (l : List Ev) (w : World) (hl : l.length ≤ 1000) (hv : SliceAt w w.heap.size v l.length (evCells l)) :
    Calls Tryz.prog 58 #[v, .func (.func 74) #[] #[]] w fun e w' => e = .returned (.bool (l.any fun x => !evOkB x)) ∧ Below w.heap.size w w' := by
  obtain ⟨a, c, rfl, _, _, hc⟩ := hv
  match l with
  | [] => exact pcontains_none a c w
  | x :: r =>
    obtain ⟨b, o, rfl, hb, hx⟩ := hc (by simp)
    exact pcontains_any b o c _ w hl hb hx
theorem psorted_all (v : Value) (l : List Ev) (w : World) (hl : l.length ≤ 1000) (ho : inOrder l = true) (hv : SliceAt w w.heap.size v l.length (evCells l)) :
    Calls Tryz.prog 59 #[v, .func (.func 72) #[] #[]] w fun e w' => e = .returned (.bool true) ∧ Below w.heap.size w w' := by
  obtain ⟨a, c, rfl, _, _, hc⟩ := hv
  by_cases h1 : 1 < l.length
  · obtain ⟨b, o, rfl, hb, hx⟩ := hc (by omega)
    exact psorted_any b o c l w hl h1 hb ho hx
  · exact psorted_none a _ c w (by omega)
set_option maxHeartbeats 1000000 in
theorem pvalid_any (v : Value) (l : List Ev) (w : World) (hok : EvsOk l) (hv : SliceAt w w.heap.size v l.length (evCells l)) :
    Calls Tryz.prog 31 #[v] w fun e w' => e = .returned (.bool true) ∧ Below w.heap.size w w' := by
  have hl := hok.len
  have hC := fun w1 (hb : Below w.heap.size w w1) => pcontains_all v l w1 hl (hv.later hb)
  have hS := Lib.hid (psorted_all v l w hl hok.ord hv)
  have hany : (l.any fun x => !evOkB x) = false := by
    rw [List.any_eq_false]
    intro x hx
    simp [evOkB_of (hok.all x hx)]
  rw [hany] at hC
  replace hC := Lib.hid hC
  obtain ⟨a, c, rfl, h1, h2, _⟩ := hv
  have hd : decide ((l.length : Int) ≤ 1000) = true := by simp; omega
  go_enter Tryz.func31, Tryz.ntmps31
  go_wp2_with (first
    | (go_at_call 59; refine hS.out.mono ?_; rintro e w1 ⟨rfl, hb1⟩)
    | (go_at_call 58; refine (hC.out _ hb1).mono ?_; rintro e w2 ⟨rfl, hb2⟩))
  go_ret
  exact ⟨rfl, hb1.trans (hb2.mono hb1.size)⟩
end Go.Proofs.YtocpnlifmeffkaaGreatDoor
namespace Go.Proofs.YtocpnlifmeffkaaGreatDoor
open Go.RowKit Go.Shelf

attribute [local go_sem] Oper.semAt_some

def putL (ns : List Int) : List UInt8 := ns.flatMap putZ
theorem putL_take (ns : List Int) {k : Nat} (h : k < ns.length) : putL (ns.take (k + 1)) = putL (ns.take k) ++ putZ ns[k]! := by
  unfold putL
  rw [getElem!_pos ns k h, ← List.take_append_getElem h, List.flatMap_append]
  simp
theorem putL_len : ∀ ns : List Int, (putL ns).length ≤ 9 * ns.length
  | [] => Nat.le_refl _
  | n :: ns => by
    have := putL_len ns
    have := putZ_len n
    simp only [putL, List.flatMap_cons, List.length_append, List.length_cons] at *
    omega
/-- Bytes that are being written: a box g with a slice whose row is the call's own. -/
def OutI (w : World) (B g : Nat) (out : List UInt8) : Prop := ∃ v, Boxed w g 57 v ∧ w.ownsRow B 5 1 v out.length (Lib.byteCells out)
theorem OutI.lt {w : World} {B g : Nat} {out : List UInt8} (h : OutI w B g out) : g < w.heap.size := by obtain ⟨v, hv, _⟩ := h; exact hv.lt
theorem OutI.below {w w' : World} {B g : Nat} {out : List UInt8} (h : OutI w B g out) (hb : Below w.heap.size w w') : OutI w' B g out := by
  obtain ⟨v, hv, hr⟩ := h
  exact ⟨v, (hb.block _ hv.lt).trans hv, own_below hr hb⟩

theorem Arr.grown {w w' : World} {b B s k : Nat} {T e : TypeId} {L : List Value} {v : Value} {xs : List Value} (h : Arr w b T L) (hr : w.ownsRow B e s v k xs) (hne : T ≠ e) (hg : w.grownBy w' v.ownBlock) : Arr w' b T L := by
  refine (hg.block b h.lt fun ej => ?_).trans h
  rcases hr.2 with ⟨rfl, _⟩ | ⟨g, cap, cur, rfl, _, hgb, _⟩
  · cases ej
  · have : b = g := by simpa [Value.ownBlock] using ej
    subst this
    rw [show w.heap[b]? = _ from h] at hgb
    injection hgb with hgb
    injection hgb with _ hT
    exact hne hT
theorem Arr.ne_box {w : World} {b g : Nat} {T t : TypeId} {L : List Value} {v : Value} (h : Arr w b T L) (hv : Boxed w g t v) (hne : T ≠ t) : g ≠ b := fun e => by
  subst e
  have := (show w.heap[g]? = _ from h).symm.trans hv
  injection this with this
  injection this with _ hT
  exact hne hT
/-- Blocks of types other than those that are written stay. -/
def KeepArr (w w' : World) : Prop := ∀ (b : Nat) (T : TypeId) (L : List Value), T ≠ 5 → T ≠ 57 → Arr w b T L → Arr w' b T L
theorem KeepArr.refl (w : World) : KeepArr w w := fun _ _ _ _ _ h => h
theorem KeepArr.trans {a b c : World} (h : KeepArr a b) (k : KeepArr b c) : KeepArr a c := fun x T L h1 h2 hA => k x T L h1 h2 (h x T L h1 h2 hA)
theorem KeepArr.of_below {w w' : World} (h : Below w.heap.size w w') : KeepArr w w' := fun _ _ _ _ _ hA => hA.below h
theorem OutI.put {w w2 : World} {B g : Nat} {o u : List UInt8} {v v' : Value} (hBg : B ≤ g) (hv : Boxed w g 57 v) (hr : w.ownsRow B 5 1 v o.length (Lib.byteCells o)) (hown : w2.ownsRow B 5 1 v' (o.length + (str u).size) (Lib.byteCells o ++ Lib.strCells (str u))) (hg : w.grownBy w2 v.ownBlock) (hBw : B ≤ w.heap.size) :
    OutI (w2.setCell ⟨g, 0, none⟩ v') B g (o ++ u) ∧ Below B w (w2.setCell ⟨g, 0, none⟩ v') ∧ KeepArr w (w2.setCell ⟨g, 0, none⟩ v') := by
  have hv1 := hv.kept hg (hv.not_row (by decide) hr)
  refine ⟨⟨_, hv1.set v', ?_⟩, ?_, fun b T L h1 h2 hA => (hA.grown hr h1 hg).other _ ((hA.grown hr h1 hg).ne_box hv1 h2)⟩
  · have h := hown.kept (grownBy_setCell' w2 g v') (.inr (hv1.not_row (by decide) hown).symm)
    rw [str_size, Lib.strCells_eq] at h
    rw [List.length_append]
    have e : Lib.byteCells (o ++ u) = Lib.byteCells o ++ Lib.byteCells (str u).data.toList := by
      unfold Lib.byteCells
      rw [List.map_append]
      simp [str]
    rw [e]
    exact h
  · refine ((Below.refl B w).grown hg hBw fun j ej => ?_).setCell (p := ⟨g, 0, none⟩) hBg v'
    rcases hr.2 with ⟨rfl, _⟩ | ⟨g', cap, cur, rfl, hb, _, _⟩
    · cases ej
    · have : g' = j := by simpa [Value.ownBlock] using ej
      omega
set_option maxRecDepth 100000 in
set_option maxHeartbeats 4000000 in
theorem put_any (B g b0 : Nat) (out : List UInt8) (ns : List Int) (w : World) (hBg : B ≤ g) (hO : OutI w B g out) (hA : Arr w b0 3 (ns.map (Value.int .i64))) (hn : ∀ n ∈ ns, -(2 ^ 62 - 1) ≤ n ∧ n ≤ 2 ^ 62 - 1) (hl : out.length + 9 * ns.length ≤ 1000000) :
    Calls Tryz.prog 32 #[.slice (some ⟨b0, 0, none⟩) ns.length ns.length, .pointer (some ⟨g, 0, none⟩)] w fun e w' => (∃ r, e = .returned r) ∧ OutI w' B g (out ++ putL ns) ∧ Below B w w' ∧ KeepArr w w' := by
  obtain ⟨i0, hi, hz0, hz1, hz2⟩ := info_parts info_byte4
  have hP := Lib.hid fun n (h : n ∈ ns) W => PutInt_any n W (hn n h).1 (hn n h).2
  have hB0 : Below B w w := Below.refl _ _
  have hw0 : B ≤ w.heap.size := by have := hO.lt; omega
  clear hn
  go_enter Tryz.func32, Tryz.ntmps32
  go_wp2_with fail
  go_loopw [9] (fun i wr => ∃ k : Nat, k ≤ ns.length ∧ i = .int .i64 k ∧ Hid (OutI wr B g (out ++ putL (ns.take k)) ∧ Arr wr b0 3 (ns.map (Value.int .i64)) ∧ Below B w wr ∧ KeepArr w wr)) (fun i _ => ns.length - (intOf i).toNat)
  case atStart => exact ⟨0, Nat.zero_le _, rfl, Lib.hid ⟨by simpa [putL] using hO, hA, hB0, KeepArr.refl _⟩⟩
  case round =>
    obtain ⟨k, hk, rfl, hh⟩ := hrel
    obtain ⟨hO, hA, hB, hKA⟩ := hh.out
    clear hh hB0
    have hBw : B ≤ wr.heap.size := by have := hB.size; omega
    by_cases hlt : k < ns.length
    · have hd : decide ((k : Int) < (ns.length : Int)) = true := by simp; omega
      have hcell := hA.cell (j := k) (v := .int .i64 ns[k]!) (by rw [List.getElem?_map, List.getElem?_eq_getElem hlt, getElem!_pos ns k hlt]; rfl)
      have hmem : ns[k]! ∈ ns := by rw [getElem!_pos ns k hlt]; exact List.getElem_mem _
      have hput := Lib.hid (hP.out _ hmem)
      have htk := putL_take ns hlt
      have hlen1 : (putL (ns.take k)).length ≤ 9 * k := by
        have := putL_len (ns.take k)
        rw [List.length_take] at this
        omega
      have hz9 := putZ_len ns[k]!
      have hzp := putZ_pos ns[k]!
      generalize hx : ns[k]! = x at *
      replace hx := Lib.hid hx
      have hus := str_size (putZ x)
      generalize hu : putZ x = u at *
      generalize ho' : out ++ putL (ns.take k) = o at *
      have hol : o.length ≤ out.length + 9 * k := by rw [← ho', List.length_append]; omega
      have hcat : out ++ putL (ns.take (k + 1)) = o ++ u := by rw [htk, ← List.append_assoc, ho']
      have hsz1 : o.length + (str u).size ≤ maxLen := by unfold maxLen; omega
      have hsz2 : o.length + (str u).size ≤ 140737488355328 := by omega
      obtain ⟨m, hm⟩ : ∃ m, o.length + (str u).size = m + 1 := ⟨o.length + (str u).size - 1, by omega⟩
      replace hcat := Lib.hid hcat
      replace hu := Lib.hid hu
      replace ho' := Lib.hid ho'
      replace hm := Lib.hid hm
      replace hus := Lib.hid hus
      clear htk hlen1
      go_wp2_with (first
        | (go_at_call 33; refine (hput.out _).mono ?_; rintro e w1 ⟨rfl, hb1⟩; obtain ⟨v, hv, hr⟩ := hO.below hb1; have hc := hv.cell; have hA1 := hA.below hb1; have hB1 := hB.trans (hb1.mono hBw); have hBs := Nat.le_trans hBw hb1.size; have hKA1 := hKA.trans (KeepArr.of_below hb1))
        | (at_builtin; go_loud (refine Lib.wpList_append_own_string w1 rfl _ _ 57 9 rfl B 5 i0 Tryz.underlying57 Tryz.underlying9 hi hz0 hz1 hz2 v o.length (Lib.byteCells o) rfl hr (str u) rfl hsz1 hsz2 (by omega) ?_; intro v' w2 hown' hgrow hnil; obtain ⟨g', cap', rfl⟩ := ownsRow_succ (k := m) (by rw [← hm.out]; exact hown'); have hv1 := hv.kept hgrow (hv.not_row (by decide) hr); have hc1 := hv1.cell; have hf1 := hv1.frozen)))
      obtain ⟨q1, q2, q3⟩ := OutI.put hBg hv hr hown' hgrow hBs
      exact ⟨⟨k + 1, by omega, rfl, Lib.hid ⟨by rw [hcat.out]; exact q1, q3 _ _ _ (by decide) (by decide) hA1, hB1.trans q2, hKA1.trans q3⟩⟩, by simp [intOf]; omega⟩
    · obtain rfl : k = ns.length := by omega
      have hd : decide ((ns.length : Int) < (ns.length : Int)) = false := by simp
      rw [List.take_length] at hO
      go_wp2_with fail
      go_end0
      exact ⟨⟨_, rfl⟩, hO, hB, hKA⟩
end Go.Proofs.YtocpnlifmeffkaaGreatDoor
namespace Go.Proofs.YtocpnlifmeffkaaGreatDoor
open Go.RowKit Go.Shelf

attribute [local go_sem] Oper.semAt_some

theorem evOk_range {e : Ev} (h : evOk e) {last : Int} (h0 : 0 ≤ last) (h1 : last ≤ 20000) : ∀ n ∈ [e.t - last, e.k, e.a, e.b], -(2 ^ 62 - 1) ≤ n ∧ n ≤ 2 ^ 62 - 1 := by
  unfold evOk at h
  intro n hn
  simp only [List.mem_cons, List.not_mem_nil, or_false] at hn
  rcases hn with rfl | rfl | rfl | rfl <;> omega
set_option maxRecDepth 100000 in
set_option maxHeartbeats 4000000 in
theorem Encode_any (v : Value) (l : List Ev) (w : World) (hok : EvsOk l) (hv : SliceAt w w.heap.size v l.length (evCells l)) :
    Calls Tryz.prog 11 #[v] w fun e w' => e = .returned (.tuple #[.string (str (encP l)), .int .i64 0]) ∧ Below w.heap.size w w' := by
  have hV := Lib.hid (pvalid_any v l w hok hv)
  have hpl := encP_len hok
  obtain ⟨a, c, rfl, h1, h2, hc⟩ := sliceCells hv
  unfold maxLen at h2
  have hl1 := hok.len
  have hall := Lib.hid hok.all
  replace hc := Lib.hid hc
  have hmf : ∀ (fn : Fn) (first cap : Array Value) (w : World), (Instr.makeFunc fn first cap).run Tryz.prog w = .ok (.func fn first cap) w := fun _ _ _ _ => rfl
  clear hv
  go_enter Tryz.func11, Tryz.ntmps11
  go_wp2_with (go_at_call 31; refine hV.out.mono ?_; rintro e w1 ⟨rfl, hb1⟩)
  have hl1b : ∀ n ∈ [(l.length : Int)], -(2 ^ 62 - 1) ≤ n ∧ n ≤ 2 ^ 62 - 1 := by intro n hn; obtain rfl := List.mem_singleton.1 hn; omega
  have hO0 : OutI ((w1.alloc (.cells #[.slice none 0 0] 57)).alloc (.cells #[.int .i64 (l.length : Int)] 3)) w1.heap.size w1.heap.size [] :=
    ⟨_, (Boxed.new w1 57 (.slice none 0 0)).alloc _, World.ownsRow_nil _ _ _ _⟩
  have hA0 : Arr ((w1.alloc (.cells #[.slice none 0 0] 57)).alloc (.cells #[.int .i64 (l.length : Int)] 3)) (w1.heap.size + 1) 3 ([(l.length : Int)].map (Value.int .i64)) := Arr.new rfl (by simp)
  have hput := Lib.hid (put_any w1.heap.size w1.heap.size (w1.heap.size + 1) [] [(l.length : Int)] _ (Nat.le_refl _) hO0 hA0 hl1b (by simp))
  have hb01 : Below w1.heap.size w1 ((w1.alloc (.cells #[.slice none 0 0] 57)).alloc (.cells #[.int .i64 (l.length : Int)] 3)) := ((Below.refl _ _).alloc (Nat.le_refl _) _).alloc (by simp) _
  replace hb01 := Lib.hid hb01
  clear hO0 hA0 hl1b
  go_wp2_with (go_at_call 32; refine hput.out.mono ?_; rintro e w2 ⟨⟨r, rfl⟩, hO, hb2, _⟩)
  have hB2 : Below w1.heap.size w1 w2 := hb01.out.trans hb2
  have hpre : [] ++ putL [(l.length : Int)] = putZ l.length := by simp [putL]
  rw [hpre] at hO
  clear hb01 hput hb2 hpre
  have hz9 := putZ_len l.length
  go_loopw [6, 20] (fun la i wr => ∃ (k : Nat) (last : Int) (o : List UInt8), k ≤ l.length ∧ i = .int .i64 k ∧ la = .int .i64 last ∧ Hid (0 ≤ last ∧ last ≤ 20000 ∧ o ++ encE last (l.drop k) = encP l ∧ o.length ≤ 9 + 36 * k) ∧ Hid (OutI wr w1.heap.size w1.heap.size o ∧ Below w1.heap.size w1 wr)) (fun _ i _ => l.length - (intOf i).toNat)
  case atStart => exact ⟨0, 0, putZ l.length, Nat.zero_le _, rfl, rfl, Lib.hid ⟨by omega, by omega, rfl, by omega⟩, Lib.hid ⟨hO, hB2⟩⟩
  case round =>
    obtain ⟨k, last, o, hk, rfl, rfl, hh, hh2⟩ := hrel
    obtain ⟨hla0, hla1, heq, hol⟩ := hh.out
    obtain ⟨hO, hB⟩ := hh2.out
    clear hh hh2 hB2
    by_cases hlt : k < l.length
    · have hd : decide ((k : Int) < (l.length : Int)) = true := by simp; omega
      obtain ⟨b, ob, rfl, hbl, hcell⟩ := hc.out k hlt
      obtain ⟨c0, c1, c2, c3⟩ := hcell wr ((hB.block b (by have := hb1.size; omega)).trans (hb1.block b hbl))
      have hmem : l[k]! ∈ l := by rw [getElem!_pos l k hlt]; exact List.getElem_mem _
      have hev := hall.out _ hmem
      have hdrop : l.drop k = l[k]! :: l.drop (k + 1) := by rw [getElem!_pos l k hlt]; exact List.drop_eq_getElem_cons hlt
      rw [hdrop, encE, ← List.append_assoc] at heq
      have hrg := evOk_range hev hla0 hla1
      generalize hx : l[k]! = x at *
      replace hx := Lib.hid hx
      have hev2 := hev
      unfold evOk at hev2
      have hW : ∀ W, W = ((wr.alloc (.cells #[.int .i64 x.t, .int .i64 x.k, .int .i64 x.a, .int .i64 x.b] 60)).alloc (.cells #[.int .i64 (x.t - last), .int .i64 x.k, .int .i64 x.a, .int .i64 x.b] 3)) →
          Calls Tryz.prog 32 #[.slice (some ⟨wr.heap.size + 1, 0, none⟩) 4 4, .pointer (some ⟨w1.heap.size, 0, none⟩)] W fun e w' => (∃ r, e = .returned r) ∧ OutI w' w1.heap.size w1.heap.size (o ++ putL [x.t - last, x.k, x.a, x.b]) ∧ Below w1.heap.size wr w' ∧ Arr w' wr.heap.size 60 [.int .i64 x.t, .int .i64 x.k, .int .i64 x.a, .int .i64 x.b] := fun W hW => by
        subst hW
        have hbb : Below wr.heap.size wr ((wr.alloc (.cells #[.int .i64 x.t, .int .i64 x.k, .int .i64 x.a, .int .i64 x.b] 60)).alloc (.cells #[.int .i64 (x.t - last), .int .i64 x.k, .int .i64 x.a, .int .i64 x.b] 3)) := ((Below.refl _ _).alloc (Nat.le_refl _) _).alloc (by simp) _
        exact (put_any w1.heap.size w1.heap.size (wr.heap.size + 1) o [x.t - last, x.k, x.a, x.b] _ (Nat.le_refl _) (hO.below hbb) (Arr.new rfl (by simp)) hrg (by simp; omega)).mono fun _ _ h => ⟨h.1, h.2.1, (hbb.mono hB.size).trans h.2.2.1, h.2.2.2 _ _ _ (by decide) (by decide) ((Arr.new rfl rfl).alloc _)⟩
      replace hW := Lib.hid hW
      have hpl4 : putL [x.t - last, x.k, x.a, x.b] = putZ (x.t - last) ++ (putZ x.k ++ (putZ x.a ++ putZ x.b)) := by simp [putL]
      rw [← hpl4] at heq
      replace heq := Lib.hid heq
      clear hpl4 hev hO
      go_wp2_with (go_at_call 32; refine (hW.out _ rfl).mono ?_; rintro e w3 ⟨⟨r, rfl⟩, hO3, hb3, hA3⟩; have d0 := hA3.cell (j := 0) rfl)
      exact ⟨⟨k + 1, x.t, o ++ putL [x.t - last, x.k, x.a, x.b], by omega, rfl, rfl, Lib.hid ⟨by omega, by omega, heq.out, by have := putL_len [x.t - last, x.k, x.a, x.b]; rw [List.length_append]; simp at this; omega⟩, Lib.hid ⟨hO3, hB.trans hb3⟩⟩, by simp [intOf]; omega⟩
    · obtain rfl : k = l.length := by omega
      have hd : decide ((l.length : Int) < (l.length : Int)) = false := by simp
      rw [List.drop_length, encE, List.append_nil] at heq
      subst heq
      obtain ⟨v, hv, hr⟩ := hO
      have hc := hv.cell
      have hcv := conv_own hr
      go_wp2_with fail
      go_ret2
      exact ⟨rfl, hb1.trans (hB.mono hb1.size)⟩
end Go.Proofs.YtocpnlifmeffkaaGreatDoor
