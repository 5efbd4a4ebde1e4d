/-
  The contract of computer.areKeys.
-/
import Derived.Test.YtkgbknjpnhoadaaGreatDoorCqB
namespace Go.Proofs.YtkgbknjpnhoadaaGreatDoor
open Go.RowKit Go.Shelf

instance : Inhabited Ev := ⟨⟨0, 0, 0, 0⟩⟩
def encEv (e : Ev) : List Value := [.int .i64 e.t, .int .i64 e.k, .int .i64 e.a, .int .i64 e.b]
theorem evCells_at : ∀ (l : List Ev) (j i : Nat), j < l.length → i < 4 → (evCells l)[j * 4 + i]? = (encEv l[j]!)[i]?
  | [], _, _, h, _ => absurd h (Nat.not_lt_zero _)
  | e :: l, 0, i, _, hi => by
    rw [evCells_cons, Nat.zero_mul, Nat.zero_add, List.getElem?_append_left (by simpa using hi)]
    rfl
  | e :: l, j + 1, i, h, hi => by
    have := evCells_at l j i (by simpa using h) hi
    rw [evCells_cons, List.getElem?_append_right (by simp; omega), show (j + 1) * 4 + i - [Value.int .i64 e.t, Value.int .i64 e.k, Value.int .i64 e.a, Value.int .i64 e.b].length = j * 4 + i from by simp; omega, this]
    simp

theorem pred_keys (w : World) : PredBelow Tryz.prog 59 #[] (fun x => .agg (encEv x).toArray) (fun x => !keyOk x) w := fun W x hb =>
  (areKeys1_any x W).mono fun _ _ h => ⟨h.1, hb.trans (h.2.mono hb.size)⟩

theorem contains_any (b o c : Nat) (l : List Ev) (w : World) (hl : l.length ≤ 100) (hb : b < w.heap.size) (hc : ∀ j u, (evCells l)[j]? = some u → w.cell? ⟨b, o + j, none⟩ = some u) :
    Calls Tryz.prog 61 #[.slice (some ⟨b, o, none⟩) l.length c, .func (.func 59) #[] #[]] w fun e w' => e = .returned (.bool (l.any fun x => !keyOk x)) ∧ Below w.heap.size w w' := by
  have h := AnyQ.slices_ContainsFunc Tryz.laysF8 4 Tryz.isAgg39 Tryz.sizeOf39 encEv (fun _ => rfl) (fun x => !keyOk x) 59 #[] (enters_of Tryz.func59 (by kernel_rfl) rfl) b o l.length c l w (pred_keys w) (Nat.le_refl _) (by omega) hb
    (fun j hj i v hv => by
      have hi : i < 4 := (List.getElem?_eq_some_iff.1 hv).1
      have := hc (j * 4 + i) v ((evCells_at l j i hj hi).trans hv)
      rwa [← Nat.add_assoc] at this)
  rwa [List.take_length] at h

set_option maxHeartbeats 1000000 in
theorem contains_none (a : Option Addr) (c : Nat) (w : World) :
    Calls Tryz.prog 61 #[.slice a 0 c, .func (.func 59) #[] #[]] w fun e w' => e = .returned (.bool false) ∧ Below w.heap.size w w' := by
  go_enter Tryz.func61, Tryz.ntmps61
  go_wp2
  go_loop [8] (fun i => i = .int .i64 0) (fun _ => 0)
  case atStart => rfl
  case round =>
    subst hrel
    go_wp2
    go_ret
    exact ⟨rfl, Below.refl _ w⟩

theorem inOrder_iff : ∀ l : List Ev, inOrder l = true ↔ ∀ j, j + 1 < l.length → l[j]!.t ≤ l[j + 1]!.t
  | [] => by simp [inOrder]
  | [x] => by simp [inOrder]
  | x :: y :: r => by
    rw [inOrder, Bool.and_eq_true, inOrder_iff (y :: r), decide_eq_true_eq]
    constructor
    · rintro ⟨h0, h1⟩ j hj
      cases j with
      | zero => simpa using h0
      | succ j => simpa using h1 j (by simpa using hj)
    · intro h
      exact ⟨by simpa using h 0 (by simp), fun j hj => by simpa using h (j + 1) (by simpa using hj)⟩

set_option maxRecDepth 100000 in
set_option maxHeartbeats 4000000 in
theorem sorted_any (b o c : Nat) (l : List Ev) (w : World) (hl : l.length ≤ 100) (hn : 1 < l.length) (hb : b < w.heap.size) (hk : ∀ e ∈ l, keyOk e = true) (hc : ∀ j u, (evCells l)[j]? = some u → w.cell? ⟨b, o + j, none⟩ = some u) :
    Calls Tryz.prog 62 #[.slice (some ⟨b, o, none⟩) l.length c, .func (.func 60) #[] #[]] w fun e w' => e = .returned (.bool (inOrder l)) ∧ Below w.heap.size w w' := by
  have hE : ∀ j, j < l.length → ∀ W : World, Below w.heap.size w W → W.cell? ⟨b, o + j * 4, none⟩ = some (.int .i64 l[j]!.t) ∧ W.cell? ⟨b, o + j * 4 + 1, none⟩ = some (.int .i64 l[j]!.k) ∧ W.cell? ⟨b, o + j * 4 + 2, none⟩ = some (.int .i64 l[j]!.a) ∧ W.cell? ⟨b, o + j * 4 + 3, none⟩ = some (.int .i64 l[j]!.b) := fun j hj W hW => by
    have hh : ∀ i v, (encEv l[j]!)[i]? = some v → W.cell? ⟨b, o + j * 4 + i, none⟩ = some v := fun i v hi => by
      have hi4 : i < 4 := (List.getElem?_eq_some_iff.1 hi).1
      rw [hW.cell (p := ⟨b, o + j * 4 + i, none⟩) hb, Nat.add_assoc]
      exact hc _ v ((evCells_at l j i hj hi4).trans hi)
    exact ⟨hh 0 _ rfl, hh 1 _ rfl, hh 2 _ rfl, hh 3 _ rfl⟩
  have hT : ∀ j, j < l.length → 0 ≤ l[j]!.t ∧ l[j]!.t ≤ 20000 := fun j hj => by
    have := hk l[j]! (by rw [getElem!_pos l j hj]; exact List.getElem_mem hj)
    simp only [keyOk, Bool.and_eq_true, decide_eq_true_eq] at this
    omega
  clear hc hk
  go_enter Tryz.func62, Tryz.ntmps62
  go_wp2
  go_loopw [5] (fun i wr => ∃ k : Nat, k < l.length ∧ i = .int .i64 k ∧ Aside (Below w.heap.size w wr) ∧ Aside (∀ j, k ≤ j → j + 1 < l.length → l[j]!.t ≤ l[j + 1]!.t)) (fun i _ => (intOf i).toNat)
  case atStart => exact ⟨l.length - 1, by omega, by congr 1; omega, Below.refl _ w, fun j h1 h2 => by omega⟩
  case round =>
    obtain ⟨k, hk, rfl, BW, A⟩ := hrel
    by_cases h0 : 0 < k
    · have hd : decide ((k : Int) > 0) = true := by simpa using h0
      obtain ⟨m, rfl⟩ : ∃ m, k = m + 1 := ⟨k - 1, by omega⟩
      obtain ⟨l10, l11, l12, l13⟩ := hE (m + 1) hk wr BW.out
      obtain ⟨l20, l21, l22, l23⟩ := hE m (by omega) wr BW.out
      have t1 := hT (m + 1) hk
      have t2 := hT m (by omega)
      have hcall := areKeys2_any l[m + 1]! l[m]! wr.drew t1.1 t1.2 t2.1 t2.2
      have hbr := BW.out
      clear hE hT
      unfold evAgg at hcall
      generalize hx : l[m + 1]! = x at *
      generalize hy : l[m]! = y at *
      replace hx := Lib.hid hx
      replace hy := Lib.hid hy
      replace hcall := Lib.hid hcall
      have i1 : (0 : Int) ≤ (m : Int) + 1 := by omega
      have i2 : (m : Int) + 1 < (l.length : Int) := by omega
      have i3 : (m : Int) + 1 - 1 = (m : Int) := by omega
      have i4 : (0 : Int) ≤ (m : Int) := by omega
      have i5 : (m : Int) < (l.length : Int) := by omega
      have i6 : ((m : Int) + 1).toNat = m + 1 := by omega
      have i7 : IntKind.i64.wrap (m : Int) = (m : Int) := IntWalk.i64_in _ (by omega)
      go_wp2
      go_still_tail 10, (by kernel_rfl)
      change wpList _ _ _ _ _ wr.drew
      have hbd : Below w.heap.size w wr.drew := hbr.drew
      generalize wr.drew = wd at *
      go_wp2_with (fail)
      refine hcall.out.mono ?_
      rintro e w' ⟨rfl, hb'⟩
      have hb2 := hbd.trans (hb'.mono hbd.size)
      clear hbd hb' hcall l10 l11 l12 l13 l20 l21 l22 l23 hbr
      by_cases hlt : x.t - y.t < 0
      · have hd : decide (x.t - y.t < 0) = true := by simpa using hlt
        go_wp2_with (fail)
        go_ret
        refine ⟨?_, hb2⟩
        have : inOrder l = false := by
          rw [← Bool.not_eq_true, inOrder_iff]
          intro hall
          have := hall m hk
          rw [hx.out, hy.out] at this
          omega
        rw [this]
        rfl
      · have hd : decide (x.t - y.t < 0) = false := by simpa using hlt
        go_wp2_with (fail)
        go_roundw
        case measure => simp [intOf]
        case rel =>
          refine ⟨m, by omega, by go_num, hb2, (show Aside _ from fun j h1 h2 => ?_)⟩
          by_cases e : j = m
          · subst e
            rw [hx.out, hy.out]
            omega
          · exact A.out j (by omega) h2
    · obtain rfl : k = 0 := by omega
      go_wp2
      go_ret
      refine ⟨?_, BW.out⟩
      rw [(inOrder_iff l).2 (fun j hj => A.out j (Nat.zero_le _) hj)]
      rfl

set_option maxHeartbeats 1000000 in
theorem sorted_none (a : Option Addr) (n c : Nat) (w : World) (hn : n ≤ 1) :
    Calls Tryz.prog 62 #[.slice a n c, .func (.func 60) #[] #[]] w fun e w' => e = .returned (.bool true) ∧ Below w.heap.size w w' := by
  have hd : decide ((n : Int) - 1 > 0) = false := by simp; omega
  have hd' : ¬ (0 < (n : Int) - 1) := by omega
  have hw : IntKind.i64.wrap ((n : Int) - 1) = (n : Int) - 1 := IntWalk.i64_in _ (by omega)
  go_enter Tryz.func62, Tryz.ntmps62
  go_wp2
  go_loop [5] (fun i => i = .int .i64 ((n : Int) - 1)) (fun _ => 0)
  case atStart => rfl
  case round =>
    subst hrel
    go_wp2
    go_ret
    exact ⟨rfl, Below.refl _ w⟩

theorem sorted_all (v : Value) (l : List Ev) (w : World) (hl : l.length ≤ 100) (hk : ∀ e ∈ l, keyOk e = true) (hv : SliceAt w w.heap.size v l.length (evCells l)) :
    Calls Tryz.prog 62 #[v, .func (.func 60) #[] #[]] w fun e w' => e = .returned (.bool (inOrder l)) ∧ Below w.heap.size w w' := by
  obtain ⟨a, c, rfl, _, _, hc⟩ := hv
  by_cases h1 : 1 < l.length
  · obtain ⟨b, o, rfl, hb, hx⟩ := hc (by omega)
    exact sorted_any b o c l w hl h1 hb hk hx
  · have : inOrder l = true := by rw [inOrder_iff]; omega
    rw [this]
    exact sorted_none a _ c w (by omega)
theorem contains_all (v : Value) (l : List Ev) (w : World) (hl : l.length ≤ 100) (hv : SliceAt w w.heap.size v l.length (evCells l)) :
    Calls Tryz.prog 61 #[v, .func (.func 59) #[] #[]] w fun e w' => e = .returned (.bool (l.any fun x => !keyOk x)) ∧ Below w.heap.size w w' := by
  obtain ⟨a, c, rfl, _, _, hc⟩ := hv
  match l with
  | [] => exact contains_none a c w
  | x :: r =>
    obtain ⟨b, o, rfl, hb, hx⟩ := hc (by simp)
    exact contains_any b o c _ w hl hb hx

set_option maxHeartbeats 1000000 in
theorem areKeys_any (v : Value) (l : List Ev) (w : World) (hv : SliceAt w w.heap.size v l.length (evCells l)) :
    Calls Tryz.prog 37 #[v] w fun e w' => e = .returned (.bool (keysOk l)) ∧ Below w.heap.size w w' := by
  have hv0 := hv
  obtain ⟨a, c, rfl, h1, h2, _⟩ := hv0
  have hB : Below w.heap.size w w := Below.refl _ w
  by_cases hl : l.length ≤ 100
  · have hd : decide ((l.length : Int) ≤ 100) = true := by simp; omega
    have hC := contains_all _ l w hl hv
    cases hq : l.any fun x => !keyOk x with
    | true =>
      have hk : keysOk l = false := by
        rw [List.any_eq_true] at hq
        obtain ⟨x, hx, hx2⟩ := hq
        simp only [keysOk]
        have : l.all keyOk = false := by
          rw [List.all_eq_false]
          exact ⟨x, hx, by simpa using hx2⟩
        simp [this]
      rw [hq] at hC
      replace hC := Lib.hid hC
      rw [hk]
      go_enter Tryz.func37, Tryz.ntmps37
      go_wp2_with (go_at_call 61; refine hC.out.mono ?_; rintro e w1 ⟨rfl, hb1⟩)
      go_ret
      exact ⟨rfl, hb1⟩
    | false =>
      have hk : ∀ e ∈ l, keyOk e = true := by
        intro e he
        rw [List.any_eq_false] at hq
        simpa using hq e he
      have hks : keysOk l = inOrder l := by
        have : l.all keyOk = true := List.all_eq_true.2 hk
        simp [keysOk, this, hl]
      rw [hq] at hC
      replace hC := Lib.hid hC
      rw [hks]
      have hS : ∀ w1, Below w.heap.size w w1 → Calls Tryz.prog 62 #[.slice a l.length c, .func (.func 60) #[] #[]] w1 fun e w' => e = .returned (.bool (inOrder l)) ∧ Below w1.heap.size w1 w' := fun w1 hb1 => sorted_all _ l w1 hl hk (by
        obtain ⟨a', c', hv', k1, k2, hc'⟩ := hv.below hb1 (Nat.le_refl _)
        exact ⟨a', c', hv', k1, k2, fun h => by
          obtain ⟨b, o, ha, hb, hx⟩ := hc' h
          exact ⟨b, o, ha, Nat.lt_of_lt_of_le hb hb1.size, hx⟩⟩)
      replace hS := Lib.hid hS
      clear hv
      go_enter Tryz.func37, Tryz.ntmps37
      go_wp2_with (first
        | (go_at_call 61; refine hC.out.mono ?_; rintro e w1 ⟨rfl, hb1⟩)
        | (go_at_call 62; refine (hS.out _ hb1).mono ?_; rintro e w2 ⟨rfl, hb2⟩))
      go_ret
      exact ⟨by simp, hb1.trans (hb2.mono hb1.size)⟩
  · have hd : decide ((l.length : Int) ≤ 100) = false := by simp; omega
    have hk : keysOk l = false := by simp [keysOk, hl]
    rw [hk]
    clear hv
    go_enter Tryz.func37, Tryz.ntmps37
    go_wp2
    go_ret
    exact ⟨rfl, Below.refl _ w⟩
end Go.Proofs.YtkgbknjpnhoadaaGreatDoor
