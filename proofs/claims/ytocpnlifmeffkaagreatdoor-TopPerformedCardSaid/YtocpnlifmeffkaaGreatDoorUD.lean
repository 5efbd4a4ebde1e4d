/-
  The contracts of slices.Collect and slices.Clone over the computer's events.
  The contracts of computer.Valid and of the closures of computer.areKeys.
  The contract of computer.areKeys.
  The contract of computer.Perform.
-/
import Derived.Test.YtocpnlifmeffkaaGreatDoorUC
import Derived.Lib.LazyBuf
import Derived.OwnWalk
import Derived.Test.YtocpnlifmeffkaaGreatDoorShelf
namespace Go.Proofs.YtocpnlifmeffkaaGreatDoor
open Go.RowKit Go.Shelf

set_option maxRecDepth 100000 in
set_option maxHeartbeats 1000000 in
theorem CollectE_any (B b1 b2 most : Nat) (x0 : Cpu) (w : World) (hmost : most ≤ 20000) (ht0 : x0.time = 0) (hC : CpuAt w B x0)
    (hb1 : Arr w b1 63 [.pointer (some ⟨B, 0, none⟩)]) (hb2 : Arr w b2 3 [.int .i64 (most : Int)]) :
    Calls Tryz.prog 23 #[.func (.func 61) #[] #[.pointer (some ⟨b1, 0, none⟩), .pointer (some ⟨b2, 0, none⟩)]] w fun e W' =>
      ∃ v, e = .returned v ∧ W'.ownsRow w.heap.size 60 4 v (runs most x0).length (evCells (runs most x0)) ∧ BelowBut w.heap.size B w W' := by
  go_enter Tryz.func23, Tryz.ntmps23
  go_wp2_with fail
  refine (callsIn_wide.1 (AppendSeqE_in B b1 b2 most x0 _ hmost ht0 hC hb1 hb2)).mono ?_
  rintro e w' ⟨v, rfl, h1, h2⟩
  go_wp2_with fail
  go_ret
  exact ⟨v, rfl, h1, h2⟩

theorem sliceAt_of_own {w : World} {B s n : Nat} {e : TypeId} {v : Value} {xs : List Value} (h : w.ownsRow B e s v n xs) : SliceAt w w.heap.size v n xs := by
  obtain ⟨hl, h⟩ := h
  rcases h with ⟨rfl, rfl⟩ | ⟨g, cap, cur, rfl, hB, hg, h1, h2, h3, h4⟩
  · exact ⟨none, 0, rfl, Nat.le_refl _, by unfold maxLen; omega, fun h => by omega⟩
  · refine ⟨_, cap, rfl, h1, h2, fun _ => ⟨g, 0, rfl, (Array.getElem?_eq_some_iff.1 hg).1, fun j u hu => ?_⟩⟩
    subst h4
    rw [List.getElem?_take] at hu
    split at hu
    · rw [Nat.zero_add]
      simp only [World.cell?, hg]
      simpa using hu
    · cases hu

set_option maxRecDepth 100000 in
set_option maxHeartbeats 1000000 in
theorem CloneE_any (v : Value) (l : List Ev) (w : World) (hn : l.length ≤ 100) (hv : SliceAt w w.heap.size v l.length (evCells l)) :
    Calls Tryz.prog 22 #[v] w fun e w' => ∃ v', e = .returned v' ∧ SliceAt w' w'.heap.size v' l.length (evCells l) ∧ Below w.heap.size w w' := by
  obtain ⟨i0, hi, hz0, hz1, hz2⟩ := info_parts Tryz.info_ev
  obtain ⟨a, cap, rfl, h1, h2, hc⟩ := hv
  have hone : ∀ u ∈ evCells l, u.oneCell' = true := by
    intro u hu
    simp only [evCells, List.mem_flatMap] at hu
    obtain ⟨e, _, hu⟩ := hu
    simp only [List.mem_cons, List.not_mem_nil, or_false] at hu
    rcases hu with rfl | rfl | rfl | rfl <;> rfl
  have hel := evCells_len l
  generalize evCells l = L at *
  generalize l.length = n at *
  have hq : ∀ w : World, (binOp .eql 25 (.slice a n cap) (.slice none 0 0)).run Tryz.prog w = .ok (.bool a.isNone) w := fun w => Go.run_eql_slice_nil w _ _ a _ cap Tryz.underlying25
  cases a with
  | none =>
    obtain rfl : n = 0 := by
      rcases Nat.eq_zero_or_pos n with h | h
      · exact h
      · obtain ⟨b, o, ha, _⟩ := hc h
        cases ha
    clear hc
    go_enter Tryz.func22, Tryz.ntmps22
    go_wp2
    go_ret
    exact ⟨_, rfl, ⟨none, 0, rfl, by omega, by unfold maxLen; omega, by omega⟩, by repeat first | assumption | exact Below.refl _ _ | refine Below.drew ?_ | refine below_drewN ?_ _⟩
  | some ad =>
    have hnews : ∀ o : Obj, ∀ j u, L[j]? = some u → (w.alloc o).cell? (ad.add j) = some u := by
      intro ob j u hu
      have hl : 0 < n := by
        have := (List.getElem?_eq_some_iff.1 hu).1
        omega
      obtain ⟨b, o, ha, hlt, hx⟩ := hc hl
      cases ha
      have := hx j u hu
      simpa [Addr.add_mid] using (World.cell?_of_block (a := ⟨b, o + j, none⟩) (Below.heap_alloc w ob b hlt)).trans this
    have hown : (w.alloc (.cells #[] 60)).ownsRow w.heap.size 60 4 (.slice (some ⟨w.heap.size, 0, none⟩) 0 0) 0 [] :=
      ⟨rfl, .inr ⟨w.heap.size, 0, #[], rfl, Nat.le_refl _, World.alloc_heap_new w _, Nat.le_refl _, by unfold maxLen; omega, rfl, rfl⟩⟩
    replace hc := Lib.hid hc
    go_enter Tryz.func22, Tryz.ntmps22
    go_wp2_with (at_builtin; go_loud (refine wpList_append_own _ rfl _ _ 25 rfl w.heap.size 60 i0 (.agg #[.int .i64 0, .int .i64 0, .int .i64 0, .int .i64 0]) 4 32 Tryz.underlying25 hi hz0 hz1 hz2 rfl (by decide) (.slice (some ⟨w.heap.size, 0, none⟩) 0 0) 0 [] rfl hown ad n cap L rfl (by omega) (hnews _) hone (by unfold maxLen; omega) (by omega) (by simp) ?_; intro v' w1 hown' hgrow hnil))
    go_ret
    simp only [Nat.zero_add, List.nil_append] at hown'
    exact ⟨v', rfl, sliceAt_of_own hown', ((Below.refl _ w).alloc (Nat.le_refl _) _).grown hgrow (by simp) (fun k e => by simp [Value.ownBlock] at e; omega)⟩
end Go.Proofs.YtocpnlifmeffkaaGreatDoor
namespace Go.Proofs.YtocpnlifmeffkaaGreatDoor
open Go.RowKit Go.Shelf

set_option maxRecDepth 100000 in
set_option maxHeartbeats 4000000 in
theorem areKeys1_any (e : Ev) (w : World) :
    Calls Tryz.prog 56 #[evAgg e] w fun r w' => r = .returned (.bool (!keyOk e)) ∧ Below w.heap.size w w' := by
  have hB : Below w.heap.size w (w.alloc (.cells #[.int .i64 e.t, .int .i64 e.k, .int .i64 e.a, .int .i64 e.b] 60)) := (Below.refl _ w).alloc (Nat.le_refl _) _
  have hA : Arr (w.alloc (.cells #[.int .i64 e.t, .int .i64 e.k, .int .i64 e.a, .int .i64 e.b] 60)) w.heap.size 60 [.int .i64 e.t, .int .i64 e.k, .int .i64 e.a, .int .i64 e.b] := Arr.new rfl rfl
  have e0 := hA.cell (j := 0) rfl
  have e1 := hA.cell (j := 1) rfl
  have e2 := hA.cell (j := 2) rfl
  have e3 := hA.cell (j := 3) rfl
  clear hA
  unfold evAgg keyOk
  obtain ⟨t, k, a, b⟩ := e
  dsimp only at *
  go_enter Tryz.func56, Tryz.ntmps56
  go_wp2
  all_goals (go_ret; refine ⟨congrArg (fun z => Ending.returned (.bool z)) ?_, (Below.refl _ w).alloc (Nat.le_refl _) _⟩; rw [Bool.eq_iff_iff]; simp; try omega)

set_option maxHeartbeats 1000000 in
theorem areKeys2_any (x y : Ev) (w : World) (hx : 0 ≤ x.t) (hx2 : x.t ≤ 20000) (hy : 0 ≤ y.t) (hy2 : y.t ≤ 20000) :
    Calls Tryz.prog 57 #[evAgg x, evAgg y] w fun r w' => r = .returned (.int .i64 (x.t - y.t)) ∧ Below w.heap.size w w' := by
  obtain ⟨t, k, a, b⟩ := x
  obtain ⟨t', k', a', b'⟩ := y
  unfold evAgg
  dsimp only at *
  go_enter Tryz.func57, Tryz.ntmps57
  go_wp2
  go_ret
  exact ⟨by go_num, ((Below.refl _ w).alloc (Nat.le_refl _) _).alloc (by simp) _⟩

set_option maxHeartbeats 1000000 in
theorem Valid_any (p d : ByteArray) (w : World) :
    Calls Tryz.prog 20 #[.string p, .string d] w fun r w' => r = .returned (.bool (progOk p.data.toList d.data.toList)) ∧ ∃ q, w' = w.drewN q := by
  go_enter Tryz.func20, Tryz.ntmps20
  go_wp2
  all_goals (go_ret; refine ⟨congrArg (fun z => Ending.returned (.bool z)) ?_, by first | exact ⟨0, rfl⟩ | exact ⟨_, rfl⟩⟩; rw [Bool.eq_iff_iff]; simp [progOk]; try omega)
end Go.Proofs.YtocpnlifmeffkaaGreatDoor
namespace Go.Proofs.YtocpnlifmeffkaaGreatDoor
open Go.RowKit Go.Shelf

instance : Inhabited Ev := ⟨⟨0, 0, 0, 0⟩⟩
def encEv (e : Ev) : List Value := [.int .i64 e.t, .int .i64 e.k, .int .i64 e.a, .int .i64 e.b]
theorem evCells_at : ∀ (l : List Ev) (j i : Nat), j < l.length → i < 4 → (evCells l)[j * 4 + i]? = (encEv l[j]!)[i]?
  | [], _, _, h, _ => absurd h (Nat.not_lt_zero _)
  | e :: l, 0, i, _, hi => by
    rw [evCells_cons, Nat.zero_mul, Nat.zero_add, List.getElem?_append_left (by simpa using hi)]
    rfl
  | e :: l, j + 1, i, h, hi => by
    have := evCells_at l j i (by simpa using h) hi
    rw [evCells_cons, List.getElem?_append_right (by simp; omega), show (j + 1) * 4 + i - [Value.int .i64 e.t, Value.int .i64 e.k, Value.int .i64 e.a, Value.int .i64 e.b].length = j * 4 + i from by simp; omega, this]
    simp

theorem pred_keys (w : World) : PredBelow Tryz.prog 56 #[] (fun x => .agg (encEv x).toArray) (fun x => !keyOk x) w := fun W x hb =>
  (areKeys1_any x W).mono fun _ _ h => ⟨h.1, hb.trans (h.2.mono hb.size)⟩

theorem contains_any (b o c : Nat) (l : List Ev) (w : World) (hl : l.length ≤ 100) (hb : b < w.heap.size) (hc : ∀ j u, (evCells l)[j]? = some u → w.cell? ⟨b, o + j, none⟩ = some u) :
    Calls Tryz.prog 58 #[.slice (some ⟨b, o, none⟩) l.length c, .func (.func 56) #[] #[]] w fun e w' => e = .returned (.bool (l.any fun x => !keyOk x)) ∧ Below w.heap.size w w' := by
  have h := AnyQ.slices_ContainsFunc Tryz.laysF8 4 Tryz.isAgg60 Tryz.sizeOf60 encEv (fun _ => rfl) (fun x => !keyOk x) 56 #[] (enters_of Tryz.func56 (by kernel_rfl) rfl) b o l.length c l w (pred_keys w) (Nat.le_refl _) (by omega) hb
    (fun j hj i v hv => by
      have hi : i < 4 := (List.getElem?_eq_some_iff.1 hv).1
      have := hc (j * 4 + i) v ((evCells_at l j i hj hi).trans hv)
      rwa [← Nat.add_assoc] at this)
  rwa [List.take_length] at h

set_option maxHeartbeats 1000000 in
theorem contains_none (a : Option Addr) (c : Nat) (w : World) :
    Calls Tryz.prog 58 #[.slice a 0 c, .func (.func 56) #[] #[]] w fun e w' => e = .returned (.bool false) ∧ Below w.heap.size w w' := by
  go_enter Tryz.func58, Tryz.ntmps58
  go_wp2
  go_loop [8] (fun i => i = .int .i64 0) (fun _ => 0)
  case atStart => rfl
  case round =>
    subst hrel
    go_wp2
    go_ret
    exact ⟨rfl, Below.refl _ w⟩

theorem inOrder_iff : ∀ l : List Ev, inOrder l = true ↔ ∀ j, j + 1 < l.length → l[j]!.t ≤ l[j + 1]!.t
  | [] => by simp [inOrder]
  | [x] => by simp [inOrder]
  | x :: y :: r => by
    rw [inOrder, Bool.and_eq_true, inOrder_iff (y :: r), decide_eq_true_eq]
    constructor
    · rintro ⟨h0, h1⟩ j hj
      cases j with
      | zero => simpa using h0
      | succ j => simpa using h1 j (by simpa using hj)
    · intro h
      exact ⟨by simpa using h 0 (by simp), fun j hj => by simpa using h (j + 1) (by simpa using hj)⟩

set_option maxRecDepth 100000 in
set_option maxHeartbeats 4000000 in
theorem sorted_any (b o c : Nat) (l : List Ev) (w : World) (hl : l.length ≤ 100) (hn : 1 < l.length) (hb : b < w.heap.size) (hk : ∀ e ∈ l, keyOk e = true) (hc : ∀ j u, (evCells l)[j]? = some u → w.cell? ⟨b, o + j, none⟩ = some u) :
    Calls Tryz.prog 59 #[.slice (some ⟨b, o, none⟩) l.length c, .func (.func 57) #[] #[]] w fun e w' => e = .returned (.bool (inOrder l)) ∧ Below w.heap.size w w' := by
  have hE : ∀ j, j < l.length → ∀ W : World, Below w.heap.size w W → W.cell? ⟨b, o + j * 4, none⟩ = some (.int .i64 l[j]!.t) ∧ W.cell? ⟨b, o + j * 4 + 1, none⟩ = some (.int .i64 l[j]!.k) ∧ W.cell? ⟨b, o + j * 4 + 2, none⟩ = some (.int .i64 l[j]!.a) ∧ W.cell? ⟨b, o + j * 4 + 3, none⟩ = some (.int .i64 l[j]!.b) := fun j hj W hW => by
    have hh : ∀ i v, (encEv l[j]!)[i]? = some v → W.cell? ⟨b, o + j * 4 + i, none⟩ = some v := fun i v hi => by
      have hi4 : i < 4 := (List.getElem?_eq_some_iff.1 hi).1
      rw [hW.cell (p := ⟨b, o + j * 4 + i, none⟩) hb, Nat.add_assoc]
      exact hc _ v ((evCells_at l j i hj hi4).trans hi)
    exact ⟨hh 0 _ rfl, hh 1 _ rfl, hh 2 _ rfl, hh 3 _ rfl⟩
  have hT : ∀ j, j < l.length → 0 ≤ l[j]!.t ∧ l[j]!.t ≤ 20000 := fun j hj => by
    have := hk l[j]! (by rw [getElem!_pos l j hj]; exact List.getElem_mem hj)
    simp only [keyOk, Bool.and_eq_true, decide_eq_true_eq] at this
    omega
  clear hc hk
  go_enter Tryz.func59, Tryz.ntmps59
  go_wp2
  go_loopw [5] (fun i wr => ∃ k : Nat, k < l.length ∧ i = .int .i64 k ∧ Aside (Below w.heap.size w wr) ∧ Aside (∀ j, k ≤ j → j + 1 < l.length → l[j]!.t ≤ l[j + 1]!.t)) (fun i _ => (intOf i).toNat)
  case atStart => exact ⟨l.length - 1, by omega, by congr 1; omega, Below.refl _ w, fun j h1 h2 => by omega⟩
  case round =>
    obtain ⟨k, hk, rfl, BW, A⟩ := hrel
    by_cases h0 : 0 < k
    · have hd : decide ((k : Int) > 0) = true := by simpa using h0
      obtain ⟨m, rfl⟩ : ∃ m, k = m + 1 := ⟨k - 1, by omega⟩
      obtain ⟨l10, l11, l12, l13⟩ := hE (m + 1) hk wr BW.out
      obtain ⟨l20, l21, l22, l23⟩ := hE m (by omega) wr BW.out
      have t1 := hT (m + 1) hk
      have t2 := hT m (by omega)
      have hcall := areKeys2_any l[m + 1]! l[m]! wr.drew t1.1 t1.2 t2.1 t2.2
      have hbr := BW.out
      clear hE hT
      unfold evAgg at hcall
      generalize hx : l[m + 1]! = x at *
      generalize hy : l[m]! = y at *
      replace hx := Lib.hid hx
      replace hy := Lib.hid hy
      replace hcall := Lib.hid hcall
      have i1 : (0 : Int) ≤ (m : Int) + 1 := by omega
      have i2 : (m : Int) + 1 < (l.length : Int) := by omega
      have i3 : (m : Int) + 1 - 1 = (m : Int) := by omega
      have i4 : (0 : Int) ≤ (m : Int) := by omega
      have i5 : (m : Int) < (l.length : Int) := by omega
      have i6 : ((m : Int) + 1).toNat = m + 1 := by omega
      have i7 : IntKind.i64.wrap (m : Int) = (m : Int) := IntWalk.i64_in _ (by omega)
      go_wp2
      go_still_tail 10, (by kernel_rfl)
      change wpList _ _ _ _ _ wr.drew
      have hbd : Below w.heap.size w wr.drew := hbr.drew
      generalize wr.drew = wd at *
      go_wp2_with (fail)
      refine hcall.out.mono ?_
      rintro e w' ⟨rfl, hb'⟩
      have hb2 := hbd.trans (hb'.mono hbd.size)
      clear hbd hb' hcall l10 l11 l12 l13 l20 l21 l22 l23 hbr
      by_cases hlt : x.t - y.t < 0
      · have hd : decide (x.t - y.t < 0) = true := by simpa using hlt
        go_wp2_with (fail)
        go_ret
        refine ⟨?_, hb2⟩
        have : inOrder l = false := by
          rw [← Bool.not_eq_true, inOrder_iff]
          intro hall
          have := hall m hk
          rw [hx.out, hy.out] at this
          omega
        rw [this]
        rfl
      · have hd : decide (x.t - y.t < 0) = false := by simpa using hlt
        go_wp2_with (fail)
        go_roundw
        case measure => simp [intOf]
        case rel =>
          refine ⟨m, by omega, by go_num, hb2, (show Aside _ from fun j h1 h2 => ?_)⟩
          by_cases e : j = m
          · subst e
            rw [hx.out, hy.out]
            omega
          · exact A.out j (by omega) h2
    · obtain rfl : k = 0 := by omega
      go_wp2
      go_ret
      refine ⟨?_, BW.out⟩
      rw [(inOrder_iff l).2 (fun j hj => A.out j (Nat.zero_le _) hj)]
      rfl

set_option maxHeartbeats 1000000 in
theorem sorted_none (a : Option Addr) (n c : Nat) (w : World) (hn : n ≤ 1) :
    Calls Tryz.prog 59 #[.slice a n c, .func (.func 57) #[] #[]] w fun e w' => e = .returned (.bool true) ∧ Below w.heap.size w w' := by
  have hd : decide ((n : Int) - 1 > 0) = false := by simp; omega
  have hd' : ¬ (0 < (n : Int) - 1) := by omega
  have hw : IntKind.i64.wrap ((n : Int) - 1) = (n : Int) - 1 := IntWalk.i64_in _ (by omega)
  go_enter Tryz.func59, Tryz.ntmps59
  go_wp2
  go_loop [5] (fun i => i = .int .i64 ((n : Int) - 1)) (fun _ => 0)
  case atStart => rfl
  case round =>
    subst hrel
    go_wp2
    go_ret
    exact ⟨rfl, Below.refl _ w⟩

theorem sorted_all (v : Value) (l : List Ev) (w : World) (hl : l.length ≤ 100) (hk : ∀ e ∈ l, keyOk e = true) (hv : SliceAt w w.heap.size v l.length (evCells l)) :
    Calls Tryz.prog 59 #[v, .func (.func 57) #[] #[]] w fun e w' => e = .returned (.bool (inOrder l)) ∧ Below w.heap.size w w' := by
  obtain ⟨a, c, rfl, _, _, hc⟩ := hv
  by_cases h1 : 1 < l.length
  · obtain ⟨b, o, rfl, hb, hx⟩ := hc (by omega)
    exact sorted_any b o c l w hl h1 hb hk hx
  · have : inOrder l = true := by rw [inOrder_iff]; omega
    rw [this]
    exact sorted_none a _ c w (by omega)
theorem contains_all (v : Value) (l : List Ev) (w : World) (hl : l.length ≤ 100) (hv : SliceAt w w.heap.size v l.length (evCells l)) :
    Calls Tryz.prog 58 #[v, .func (.func 56) #[] #[]] w fun e w' => e = .returned (.bool (l.any fun x => !keyOk x)) ∧ Below w.heap.size w w' := by
  obtain ⟨a, c, rfl, _, _, hc⟩ := hv
  match l with
  | [] => exact contains_none a c w
  | x :: r =>
    obtain ⟨b, o, rfl, hb, hx⟩ := hc (by simp)
    exact contains_any b o c _ w hl hb hx

set_option maxHeartbeats 1000000 in
theorem areKeys_any (v : Value) (l : List Ev) (w : World) (hv : SliceAt w w.heap.size v l.length (evCells l)) :
    Calls Tryz.prog 21 #[v] w fun e w' => e = .returned (.bool (keysOk l)) ∧ Below w.heap.size w w' := by
  have hv0 := hv
  obtain ⟨a, c, rfl, h1, h2, _⟩ := hv0
  have hB : Below w.heap.size w w := Below.refl _ w
  by_cases hl : l.length ≤ 100
  · have hd : decide ((l.length : Int) ≤ 100) = true := by simp; omega
    have hC := contains_all _ l w hl hv
    cases hq : l.any fun x => !keyOk x with
    | true =>
      have hk : keysOk l = false := by
        rw [List.any_eq_true] at hq
        obtain ⟨x, hx, hx2⟩ := hq
        simp only [keysOk]
        have : l.all keyOk = false := by
          rw [List.all_eq_false]
          exact ⟨x, hx, by simpa using hx2⟩
        simp [this]
      rw [hq] at hC
      replace hC := Lib.hid hC
      rw [hk]
      go_enter Tryz.func21, Tryz.ntmps21
      go_wp2_with (go_at_call 58; refine hC.out.mono ?_; rintro e w1 ⟨rfl, hb1⟩)
      go_ret
      exact ⟨rfl, hb1⟩
    | false =>
      have hk : ∀ e ∈ l, keyOk e = true := by
        intro e he
        rw [List.any_eq_false] at hq
        simpa using hq e he
      have hks : keysOk l = inOrder l := by
        have : l.all keyOk = true := List.all_eq_true.2 hk
        simp [keysOk, this, hl]
      rw [hq] at hC
      replace hC := Lib.hid hC
      rw [hks]
      have hS : ∀ w1, Below w.heap.size w w1 → Calls Tryz.prog 59 #[.slice a l.length c, .func (.func 57) #[] #[]] w1 fun e w' => e = .returned (.bool (inOrder l)) ∧ Below w1.heap.size w1 w' := fun w1 hb1 => sorted_all _ l w1 hl hk (by
        obtain ⟨a', c', hv', k1, k2, hc'⟩ := hv.below hb1 (Nat.le_refl _)
        exact ⟨a', c', hv', k1, k2, fun h => by
          obtain ⟨b, o, ha, hb, hx⟩ := hc' h
          exact ⟨b, o, ha, Nat.lt_of_lt_of_le hb hb1.size, hx⟩⟩)
      replace hS := Lib.hid hS
      clear hv
      go_enter Tryz.func21, Tryz.ntmps21
      go_wp2_with (first
        | (go_at_call 58; refine hC.out.mono ?_; rintro e w1 ⟨rfl, hb1⟩)
        | (go_at_call 59; refine (hS.out _ hb1).mono ?_; rintro e w2 ⟨rfl, hb2⟩))
      go_ret
      exact ⟨by simp, hb1.trans (hb2.mono hb1.size)⟩
  · have hd : decide ((l.length : Int) ≤ 100) = false := by simp; omega
    have hk : keysOk l = false := by simp [keysOk, hl]
    rw [hk]
    clear hv
    go_enter Tryz.func21, Tryz.ntmps21
    go_wp2
    go_ret
    exact ⟨rfl, Below.refl _ w⟩
end Go.Proofs.YtocpnlifmeffkaaGreatDoor
namespace Go.Proofs.YtocpnlifmeffkaaGreatDoor
open Go.RowKit Go.Shelf

theorem below_drewN {B : Nat} {a w : World} (h : Below B a w) (n : Nat) : Below B a (w.drewN n) := ⟨h.os, h.tape, h.output, h.size, h.block⟩
def cpu0 (keys : List Ev) : Cpu := ⟨List.replicate 256 0, List.replicate 256 0, 0, 0, 0, keys⟩
theorem build77 (a : Option Addr) (n c : Nat) (keys : List Ev) (w : World) :
    (Instr.build 68 #[(0, .slice a n c)]).run Tryz.prog w = .ok (.agg (cpuCells (.slice a n c) (cpu0 keys)).toArray) w := by kernel_rfl

theorem nums_app (l r : List Nat) : nums (l ++ r) = nums l ++ nums r := by simp [nums]
theorem nums_bytes (s : List UInt8) : (s.map fun x => Value.int .u8 (x.toNat : Int)) = nums (s.map (·.toNat)) := by rw [nums, List.map_map]; rfl
theorem nums_drop (N k : Nat) : (nums (List.replicate N 0)).drop k = nums (List.replicate (N - k) 0) := by rw [nums, nums, ← List.map_drop, List.drop_replicate]
theorem splice_mem (kv : Value) (s : List UInt8) (d : List Nat) (keys : List Ev) (hs : s.length ≤ 256) :
    (cpuCells kv ⟨List.replicate 256 0, d, 0, 0, 0, keys⟩).take 1 ++ nums (s.map (·.toNat)) ++ (cpuCells kv ⟨List.replicate 256 0, d, 0, 0, 0, keys⟩).drop (1 + (nums (s.map (·.toNat))).length) = cpuCells kv ⟨loaded s, d, 0, 0, 0, keys⟩ := by
  unfold cpuCells loaded
  dsimp only
  rw [nums_app, nums_len, List.length_map, List.take_succ_cons, List.take_zero, Nat.add_comm 1, List.drop_succ_cons, List.drop_append_of_le_length (by rw [nums_len, List.length_replicate]; exact hs)]
  rw [nums_drop]
  simp only [List.append_assoc, List.cons_append, List.nil_append]
theorem splice_disk (kv : Value) (m : List Nat) (s : List UInt8) (keys : List Ev) (hm : m.length = 256) (hs : s.length ≤ 256) :
    (cpuCells kv ⟨m, List.replicate 256 0, 0, 0, 0, keys⟩).take 257 ++ nums (s.map (·.toNat)) ++ (cpuCells kv ⟨m, List.replicate 256 0, 0, 0, 0, keys⟩).drop (257 + (nums (s.map (·.toNat))).length) = cpuCells kv ⟨m, loaded s, 0, 0, 0, keys⟩ := by
  have h1 : (nums m).length = 256 := by rw [nums_len, hm]
  unfold cpuCells loaded
  dsimp only
  rw [nums_app, nums_len, List.length_map, show 257 + s.length = 256 + s.length + 1 from by omega, List.take_succ_cons, List.drop_succ_cons, List.take_append_of_le_length (by omega), List.take_of_length_le (by omega), List.drop_append, List.drop_of_length_le (by omega), h1, show 256 + s.length - 256 = s.length from by omega, List.drop_append_of_le_length (by rw [nums_len, List.length_replicate]; exact hs)]
  rw [nums_drop]
  simp only [List.append_assoc, List.cons_append, List.nil_append]

theorem zero77 (a : Option Addr) (n c : Nat) (keys : List Ev) : Tryz.zeroCells68.setIfInBounds 0 (.slice a n c) = (cpuCells (.slice a n c) (cpu0 keys)).toArray := by kernel_rfl
theorem copy_at (W : World) (B o : Nat) (L L' : List Value) (s : ByteArray) (hA : Arr W B 68 L) (hs : s.size ≤ 256) (ho : o + 256 ≤ L.length)
    (hL : L.take o ++ nums (s.data.toList.map (·.toNat)) ++ L.drop (o + (nums (s.data.toList.map (·.toNat))).length) = L') :
    ∃ W', (Builtin.copy_ #[57, 9] 3 #[.slice (some ⟨B, o, none⟩) 256 256, .string s]).run Tryz.prog W = .ok (goInt s.size) W' ∧ Arr W' B 68 L' ∧ ∀ (n : Nat) (a : World), Below n a W → n ≤ B → Below n a W' := by
  have hl : s.data.toList.length = s.size := by simp
  refine ⟨_, run_copy_string (P := Tryz.prog) W _ _ _ _ B o 256 256 s Tryz.underlying57 Tryz.sizeOf5 hs (fun j hj => ?_) (fun j _ => hA.free _), ?_, fun n a h hn => below_setCells hn _ _ _ h⟩
  · obtain ⟨v, hv⟩ : ∃ v, L[o + j]? = some v := ⟨_, List.getElem?_eq_getElem (by omega)⟩
    rw [hA.cell hv]
    rfl
  · rw [nums_bytes, ← hL]
    exact Arr.splice _ _ _ _ hA (by rw [nums_len, List.length_map, hl]; omega)
theorem cpuCells_len (kv : Value) (x : Cpu) : (cpuCells kv x).length = x.mem.length + x.disk.length + 4 := by
  simp [cpuCells, nums_len]; omega

theorem own_mono {w : World} {B C n s : Nat} {e : TypeId} {v : Value} {xs : List Value} (h : w.ownsRow C e s v n xs) (hle : B ≤ C) : w.ownsRow B e s v n xs :=
  ⟨h.1, h.2.imp id fun ⟨g, cap, cur, hv, hB, r⟩ => ⟨g, cap, cur, hv, Nat.le_trans hle hB, r⟩⟩
def perfL (p d : ByteArray) (keys : List Ev) (most : Int) : List Ev := if perfOk p.data.toList d.data.toList keys most then perf p.data.toList d.data.toList keys most.toNat else []
def perfE (p d : ByteArray) (keys : List Ev) (most : Int) : Int := if perfOk p.data.toList d.data.toList keys most then 0 else 120

set_option maxRecDepth 100000 in
set_option maxHeartbeats 4000000 in
theorem Perform_any (p d : ByteArray) (kv : Value) (keys : List Ev) (most : Int) (w : World) (hk : SliceAt w w.heap.size kv keys.length (evCells keys)) :
    Calls Tryz.prog 8 #[.string p, .string d, kv, .int .i64 most] w fun e w' => ∃ v, e = .returned (.tuple #[v, .int .i64 (perfE p d keys most)]) ∧
      w'.ownsRow w.heap.size 60 4 v (perfL p d keys most).length (evCells (perfL p d keys most)) ∧ Below w.heap.size w w' := by
  have hV := Valid_any p d
  have hkw : ∀ w1, Below w.heap.size w w1 → SliceAt w1 w1.heap.size kv keys.length (evCells keys) := fun w1 hb1 => by
    obtain ⟨a', c', hv', k1, k2, hc'⟩ := hk.below hb1 (Nat.le_refl _)
    exact ⟨a', c', hv', k1, k2, fun h => by
      obtain ⟨b, o, ha, hb, hx⟩ := hc' h
      exact ⟨b, o, ha, Nat.lt_of_lt_of_le hb hb1.size, hx⟩⟩
  have hK : ∀ w1, Below w.heap.size w w1 → _ := fun w1 hb1 => areKeys_any kv keys w1 (hkw w1 hb1)
  cases hq1 : progOk p.data.toList d.data.toList with
  | false =>
    have h0 : perfOk p.data.toList d.data.toList keys most = false := by simp [perfOk, hq1]
    rw [perfE, perfL, h0]
    rw [hq1] at hV
    replace hV := Lib.hid hV
    clear hK hk hkw
    go_enter Tryz.func8, Tryz.ntmps8
    go_wp2_with (go_at_call 20; refine (hV.out _).mono ?_; rintro e w1 ⟨rfl, q1, rfl⟩)
    go_ret2
    exact ⟨_, rfl, World.ownsRow_nil _ _ _ _, by repeat first | exact Below.refl _ _ | refine below_drewN ?_ _ | refine Below.drew ?_⟩
  | true =>
    rw [hq1] at hV
    replace hV := Lib.hid hV
    cases hq2 : keysOk keys with
    | false =>
      have h0 : perfOk p.data.toList d.data.toList keys most = false := by simp [perfOk, hq2]
      rw [perfE, perfL, h0]
      simp only [hq2] at hK
      replace hK := Lib.hid hK
      clear hk hkw
      go_enter Tryz.func8, Tryz.ntmps8
      go_wp2_with (first
        | (go_at_call 20; refine (hV.out _).mono ?_; rintro e w1 ⟨rfl, q1, rfl⟩; have hb1 := below_drewN (Below.refl w.heap.size w) q1)
        | (go_at_call 21; refine (hK.out _ hb1).mono ?_; rintro e w2 ⟨rfl, hb2⟩))
      go_ret2
      exact ⟨_, rfl, World.ownsRow_nil _ _ _ _, hb1.trans (hb2.mono hb1.size)⟩
    | true =>
      simp only [hq2] at hK
      replace hK := Lib.hid hK
      by_cases hm : 0 ≤ most ∧ most ≤ 20000
      · obtain ⟨hm0, hm1⟩ := hm
        obtain ⟨most, rfl⟩ : ∃ n : Nat, most = (n : Int) := ⟨most.toNat, by omega⟩
        have h0 : perfOk p.data.toList d.data.toList keys most = true := by
          simp only [perfOk, hq1, hq2, Bool.true_and, Bool.and_eq_true, decide_eq_true_eq]
          omega
        rw [perfE, perfL, h0]
        have hpd : p.size ≤ 256 ∧ d.size ≤ 256 := by
          simp only [progOk, Bool.and_eq_true, decide_eq_true_eq, Array.length_toList] at hq1
          exact ⟨hq1.1.1, hq1.2⟩
        obtain ⟨hps, hds⟩ := hpd
        have hpl : p.data.toList.length ≤ 256 := by simpa using hps
        have hdl : d.data.toList.length ≤ 256 := by simpa using hds
        have hd : decide ((most : Int) < 0) = false := by simp
        have hd2 : decide (20000 < (most : Int)) = false := by simp; omega
        have hC : ∀ w1, Below w.heap.size w w1 → _ := fun w1 hb1 => CloneE_any kv keys w1 (by simp only [keysOk, Bool.and_eq_true, decide_eq_true_eq] at hq2; omega) (hkw w1 hb1)
        replace hC := Lib.hid hC
        clear hk hkw
        go_enter Tryz.func8, Tryz.ntmps8
        go_wp2_with (first
          | (go_at_call 20; refine (hV.out _).mono ?_; rintro e w1 ⟨rfl, q1, rfl⟩; have hb1 := below_drewN (Below.refl w.heap.size w) q1)
          | (go_at_call 21; refine (hK.out _ hb1).mono ?_; rintro e w2 ⟨rfl, hb2⟩; have hb3 := hb1.trans (hb2.mono hb1.size)))
        refine (hC.out _ hb3).mono ?_
        rintro e w3 ⟨v', rfl, hs3, hb4⟩
        obtain ⟨a3, c3, rfl, hs4⟩ := hs3
        obtain ⟨W1, hW1⟩ : ∃ W1, W1 = w3.alloc (.cells (Tryz.zeroCells68.setIfInBounds 0 (.slice a3 keys.length c3)) 68) := ⟨_, rfl⟩
        have hA1 : Arr W1 w3.heap.size 68 (cpuCells (.slice a3 keys.length c3) (cpu0 keys)) := by (rw [hW1]; exact Arr.new (zero77 a3 keys.length c3 keys) rfl)
        have hB1 : Below w3.heap.size w3 W1 := by (rw [hW1]; exact (Below.refl _ _).alloc (Nat.le_refl _) _)
        obtain ⟨W2, hcp1, hA2, hB2⟩ := copy_at W1 w3.heap.size 1 _ _ p hA1 hps (by rw [cpuCells_len]; simp only [cpu0, List.length_replicate]; omega) (splice_mem _ p.data.toList _ keys hpl)
        obtain ⟨W3, hcp2, hA3, hB3⟩ := copy_at W2 w3.heap.size 257 _ _ d hA2 hds (by rw [cpuCells_len]; simp only [List.length_replicate, loaded_len hpl]; omega) (splice_disk _ _ d.data.toList keys (loaded_len hpl) hdl)
        rw [hW1] at hcp1
        have hb5 := hb3.trans (hb4.mono hb3.size)
        have hb6 := hB3 _ _ (hB2 _ _ hB1 (Nat.le_refl _)) (Nat.le_refl _)
        clear hb1 hb2 hb3 hb4 hA1 hA2 hB1 hB2 hB3 hW1
        go_wp2_with (fail)
        have hwf : (⟨loaded p.data.toList, loaded d.data.toList, 0, 0, 0, keys⟩ : Cpu).WF := ⟨loaded_len hpl, loaded_len hdl, loaded_lt _, loaded_lt _, Nat.zero_lt_succ _, Nat.zero_lt_succ _, fun k hk => by
          simp only [keysOk, Bool.and_eq_true, List.all_eq_true] at hq2
          exact hq2.1.2 k hk⟩
        have hCpu : CpuAt W3 w3.heap.size ⟨loaded p.data.toList, loaded d.data.toList, 0, 0, 0, keys⟩ := ⟨hwf, _, hA3, SliceAt.below (C := w3.heap.size) ⟨a3, c3, rfl, hs4⟩ hb6 (Nat.le_refl _)⟩
        have hb7 := hb5.trans (hb6.mono hb5.size)
        have hsz := hb5.size
        replace hsz := Lib.hid hsz
        clear hcp1 hcp2 hA3 hs4 hwf hb5 hb6
        refine (run_any w3.heap.size (most : Int) W3).mono ?_
        rintro e w5 ⟨rfl, r1, r2, hb8⟩
        go_wp2_with (fail)
        refine (CollectE_any w3.heap.size W3.heap.size (W3.heap.size + 1) most _ w5 (by omega) rfl (hCpu.below hb8) r1 r2).mono ?_
        rintro e w6 ⟨v6, rfl, ho, hbb⟩
        have hb9 := hb7.trans (hb8.mono hb7.size)
        go_wp2_with (fail)
        go_ret2
        refine ⟨v6, rfl, own_mono ho hb9.size, hb9.trans (BelowBut.below hbb hsz.out hb9.size)⟩
      · have h0 : perfOk p.data.toList d.data.toList keys most = false := by
          simp only [perfOk, hq1, hq2, Bool.true_and, Bool.and_eq_false_iff, decide_eq_false_iff_not]
          omega
        rw [perfE, perfL, h0]
        clear hk hkw
        by_cases hm0 : most < 0
        · have hd : decide (most < 0) = true := by simpa using hm0
          go_enter Tryz.func8, Tryz.ntmps8
          go_wp2_with (first
            | (go_at_call 20; refine (hV.out _).mono ?_; rintro e w1 ⟨rfl, q1, rfl⟩; have hb1 := below_drewN (Below.refl w.heap.size w) q1)
            | (go_at_call 21; refine (hK.out _ hb1).mono ?_; rintro e w2 ⟨rfl, hb2⟩))
          go_ret2
          exact ⟨_, rfl, World.ownsRow_nil _ _ _ _, hb1.trans (hb2.mono hb1.size)⟩
        · have hd : decide (most < 0) = false := by simpa using hm0
          have hd2 : decide (20000 < most) = true := by simp; omega
          go_enter Tryz.func8, Tryz.ntmps8
          go_wp2_with (first
            | (go_at_call 20; refine (hV.out _).mono ?_; rintro e w1 ⟨rfl, q1, rfl⟩; have hb1 := below_drewN (Below.refl w.heap.size w) q1)
            | (go_at_call 21; refine (hK.out _ hb1).mono ?_; rintro e w2 ⟨rfl, hb2⟩))
          go_ret2
          exact ⟨_, rfl, World.ownsRow_nil _ _ _ _, hb1.trans (hb2.mono hb1.size)⟩
end Go.Proofs.YtocpnlifmeffkaaGreatDoor
