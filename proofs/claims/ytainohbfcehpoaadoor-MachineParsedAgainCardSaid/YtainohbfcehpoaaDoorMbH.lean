/-
  The contracts of machine.read and of what it calls.
-/
import Derived.Test.YtainohbfcehpoaaDoorMbG
namespace Go.Proofs.YtainohbfcehpoaaDoor
open Go.RowKit Go.Shelf

theorem str_beq (a b : List UInt8) : ((str a).toList == (str b).toList) = (a == b) := by rw [ByteArray.toList_eq, ByteArray.toList_eq, str_list, str_list]
theorem str_beq2 (a b : List UInt8) : (str a).toList = (str b).toList ↔ a = b := by rw [ByteArray.toList_eq, ByteArray.toList_eq, str_list, str_list]
set_option maxHeartbeats 1000000 in
theorem match_any (o : Nat) (nm : List UInt8) (lg : Bool) (b4 b6 : Nat) (w : World) (h4 : Boxed w b4 9 (.string (str nm))) (h6 : Boxed w b6 4 (.bool lg)) :
    Calls Tryd.prog 53 #[.agg (opVals o).toArray, .pointer (some ⟨b4, 0, none⟩), .pointer (some ⟨b6, 0, none⟩)] w fun e w' => e = .returned (.bool (opName o == nm && longOp o == lg)) ∧ Below w.heap.size w w' := by
  have hb : Below w.heap.size w (w.alloc (.cells (opVals o).toArray 75)) := (Below.refl _ _).alloc (Nat.le_refl _) _
  have c4 := (boxed_below h4 hb).cell
  have c6 := (boxed_below h6 hb).cell
  unfold opVals at *
  generalize opName o = on at *
  generalize longOp o = lo at *
  have hbq := str_beq on nm
  have hb2 := str_beq2 on nm
  cases he : (on == nm) with
  | true =>
    rw [he] at hbq
    have h2 := hb2.2 (by simpa using he)
    replace he := Lib.hid he
    clear hb2
    go_enter Tryd.func53, Tryd.ntmps53
    go_wp2_with fail
    go_ret
    exact ⟨by rw [Bool.true_and]; rfl, hb⟩
  | false =>
    rw [he] at hbq
    have h2 : ¬ (str on).toList = (str nm).toList := fun h => by
      have := hb2.1 h
      subst this
      simp at he
    replace he := Lib.hid he
    clear hb2
    go_enter Tryd.func53, Tryd.ntmps53
    go_wp2_with fail
    go_ret
    exact ⟨by rw [Bool.false_and]; rfl, hb⟩
theorem opOf_first {nm : List UInt8} {lg : Bool} {o : Nat} (ho : o < 12) (h : (opName o == nm && longOp o == lg) = true) (hn : ∀ k, k < o → (opName k == nm && longOp k == lg) = false) : opOf nm lg = some o := by
  unfold opOf
  rw [List.find?_eq_some_iff_append]
  refine ⟨h, List.range o, (List.range (12 - o - 1)).map (fun k => o + 1 + k), ?_, fun k hk => ?_⟩
  · have e : 12 = o + (1 + (12 - o - 1)) := by omega
    conv => lhs; rw [e]
    rw [List.range_add, List.range_add]
    simp [Nat.add_assoc]
  · have := hn k (by simpa using hk)
    rw [this]
    rfl
theorem opOf_none {nm : List UInt8} {lg : Bool} (hn : ∀ k, k < 12 → (opName k == nm && longOp k == lg) = false) : opOf nm lg = none := by
  unfold opOf
  rw [List.find?_eq_none]
  intro k hk
  have := hn k (by simpa using hk)
  rw [this]
  decide
def opZ (nm : List UInt8) (lg : Bool) : Int := match opOf nm lg with | some o => (o : Int) | none => -1
set_option maxRecDepth 100000 in
set_option maxHeartbeats 2000000 in
theorem index_any (nm : List UInt8) (lg : Bool) (b4 b6 : Nat) (w : World) (hO : OpsIs w) (h4 : Boxed w b4 9 (.string (str nm))) (h6 : Boxed w b6 4 (.bool lg)) :
    Calls Tryd.prog 52 #[.slice (some ⟨3, 0, none⟩) 12 12, .func (.func 53) #[] #[.pointer (some ⟨b4, 0, none⟩), .pointer (some ⟨b6, 0, none⟩)]] w fun e w' => e = .returned (.int .i64 (opZ nm lg)) ∧ Below w.heap.size w w' := by
  have hB : Below w.heap.size w w := Below.refl _ _
  go_enter Tryd.func52, Tryd.ntmps52
  go_wp2_with fail
  go_loopw [8] (fun i wr => ∃ x : Nat, x ≤ 12 ∧ i = .int .i64 (x : Int) ∧ Hid ((∀ k, k < x → (opName k == nm && longOp k == lg) = false) ∧ Below w.heap.size w wr)) (fun i _ => 12 - (intOf i).toNat)
  case atStart => exact ⟨0, Nat.zero_le _, rfl, (show Hid _ from ⟨fun k hk => absurd hk (Nat.not_lt_zero _), hB⟩)⟩
  case round =>
    obtain ⟨x, hx, rfl, hall⟩ := hrel
    obtain ⟨hno, hBr⟩ := hall.out
    replace hno := Lib.hid hno
    clear hall
    by_cases hlt : x < 12
    · have hd : decide ((x : Int) < 12) = true := by simp; omega
      have hOr := hO.below hBr hO.lt
      have c0 := hOr x hlt 0 (by omega)
      have c1 := hOr x hlt 1 (by omega)
      have c2 := hOr x hlt 2 (by omega)
      have c3 := hOr x hlt 3 (by omega)
      have c4 := hOr x hlt 4 (by omega)
      simp only [opVals, List.getElem?_cons_zero, List.getElem?_cons_succ, Nat.add_zero] at c0 c1 c2 c3 c4
      have hm := match_any x nm lg b4 b6 wr ((hBr.block b4 h4.lt).trans h4) ((hBr.block b6 h6.lt).trans h6)
      unfold opVals at hm
      have i1 : (x : Int) < 12 := by omega
      have hf := fun h => opOf_first (nm := nm) (lg := lg) hlt h hno.out
      cases hq : (opName x == nm && longOp x == lg) with
      | true =>
        rw [hq] at hm
        have hz : Hid (opZ nm lg = (x : Int)) := by show _ = _; unfold opZ; rw [hf hq]
        replace hm := Lib.hid hm
        replace hq := Lib.hid hq
        clear hf hOr
        go_wp2_with fail
        refine hm.out.mono ?_
        rintro e w2 ⟨rfl, hb2⟩
        have hB2 := hBr.trans (hb2.mono hBr.size)
        go_wp2_with fail
        go_ret
        exact ⟨by rw [hz.out]; rfl, hB2⟩
      | false =>
        rw [hq] at hm
        replace hm := Lib.hid hm
        have hno2 : Hid (∀ k, k < x + 1 → (opName k == nm && longOp k == lg) = false) := fun k hk => by
          by_cases e : k = x
          · subst e; exact hq
          · exact hno.out k (by omega)
        replace hq := Lib.hid hq
        clear hf hOr
        go_wp2_with fail
        refine hm.out.mono ?_
        rintro e w2 ⟨rfl, hb2⟩
        have hB2 := hBr.trans (hb2.mono hBr.size)
        go_wp2_with fail
        exact ⟨⟨x + 1, by omega, by go_num, (show Hid _ from ⟨hno2.out, hB2⟩)⟩, by simp [intOf]; omega⟩
    · have hd : decide ((x : Int) < 12) = false := by simp; omega
      obtain rfl : x = 12 := by omega
      have hz : Hid (opZ nm lg = -1) := by show _ = _; unfold opZ; rw [opOf_none hno.out]
      go_wp2_with fail
      go_ret
      exact ⟨by rw [hz.out]; rfl, hBr⟩
def readV : Option (Nat × Nat) → Value
  | some (o, n) => .tuple #[insAgg 0 o n 0, .bool true]
  | none => .tuple #[insAgg 0 0 0 0, .bool false]
theorem cut_false {s : List UInt8} {k : UInt8} (h : (Lib.cut s [k]).2.2 = false) : (Lib.cut s [k]).2.1 = [] := by
  rcases cut_one k s with ⟨p, _, hc⟩ | ⟨p, r, _, hc, _⟩
  · rw [hc]
  · rw [hc] at h; cases h
theorem cut_len (s : List UInt8) (k : UInt8) : (Lib.cut s [k]).1.length ≤ s.length ∧ (Lib.cut s [k]).2.1.length ≤ s.length := by
  rcases cut_one k s with ⟨p, hp, hc⟩ | ⟨p, r, _, hc, hs⟩
  · rw [hc]
    have := cutAll_le k s p (by rw [hp]; simp)
    exact ⟨this, Nat.zero_le _⟩
  · rw [hc, hs]
    simp
    omega
set_option maxRecDepth 100000 in
set_option maxHeartbeats 4000000 in
theorem read_any (s : List UInt8) (w : World) (hs : s.length ≤ 1000000) (hE : Env w) :
    Calls Tryd.prog 43 #[.string (str s)] w fun e w' => e = .returned (readV (readT s)) ∧ Below w.heap.size w w' := by
  have hcut := fun w hE => cut_any 32 s w (by omega) hE
  rw [show str [32] = ⟨#[32]⟩ from rfl] at hcut
  have hcf := cut_false (s := s) (k := 32)
  have hcl := (cut_len s 32).2
  have hread : readT s = match opOf (Lib.cut s [32]).1 (Lib.cut s [32]).2.2 with
    | none => none
    | some o => if longOp o then (numC (Lib.cut s [32]).2.1).map fun n => (o, n) else some (o, 0) := rfl
  generalize (Lib.cut s [32]).1 = nm at *
  generalize (Lib.cut s [32]).2.1 = num at *
  generalize (Lib.cut s [32]).2.2 = lg at *
  obtain ⟨W0, hW0⟩ : ∃ W0, W0 = w.alloc (.cells #[.int .i64 0, .int .i64 0, .int .i64 0, .int .i64 0] 66) := ⟨_, rfl⟩
  have hb0 : Below w.heap.size w W0 := by rw [hW0]; exact (Below.refl _ _).alloc (Nat.le_refl _) _
  have hA0 : Arr W0 w.heap.size 66 [.int .i64 0, .int .i64 0, .int .i64 0, .int .i64 0] := by rw [hW0]; exact Arr.new rfl rfl
  have hE0 := hE.below hb0
  replace hcut := Lib.hid (hcut W0 hE0)
  replace hread := Lib.hid hread
  go_enter Tryd.func43, Tryd.ntmps43
  go_wp2_with fail
  rw [← hW0]
  clear hW0
  refine hcut.out.mono ?_
  rintro e w1 ⟨rfl, q, rfl⟩
  have hb1 : Below W0.heap.size W0 (W0.drewN q) := below_drewQ (Below.refl _ _) q
  have hA1 := hA0.below hb1
  have hE1 := hE0.below hb1
  have hB1 := hb0.trans (hb1.mono hb0.size)
  have hlt1 := hA1.lt
  generalize W0.drewN q = W1 at *
  obtain ⟨W2, hW2⟩ : ∃ W2, W2 = (W1.alloc (.cells #[.string (str nm)] 9)).alloc (.cells #[.bool lg] 4) := ⟨_, rfl⟩
  have hb2 : Below W1.heap.size W1 W2 := by rw [hW2]; exact ((Below.refl _ _).alloc (Nat.le_refl _) _).alloc (by simp) _
  have h4 : Boxed W2 W1.heap.size 9 (.string (str nm)) := by rw [hW2]; exact (Boxed.new W1 _ _).alloc _
  have h6 : Boxed W2 (W1.heap.size + 1) 4 (.bool lg) := by
    rw [hW2]
    have := Boxed.new (W1.alloc (.cells #[.string (str nm)] 9)) 4 (.bool lg)
    simpa using this
  have hE2 := hE1.below hb2
  have hA2 := hA1.below hb2
  have hB2 := hB1.trans (hb2.mono hB1.size)
  have hix := Lib.hid (index_any nm lg W1.heap.size (W1.heap.size + 1) W2 hE2.ops h4 h6)
  have hmf : ∀ (fn : Fn) (first cap : Array Value) (w : World), (Instr.makeFunc fn first cap).run Tryd.prog w = .ok (.func fn first cap) w := fun _ _ _ _ => rfl
  clear hcut hA0 hA1
  go_wp2_with fail
  rw [← hW2]
  clear hW2
  refine hix.out.mono ?_
  rintro e W3 ⟨rfl, hb3⟩
  have hA3 := hA2.below hb3
  have hE3 := hE2.below hb3
  have hB3 := hB2.trans (hb3.mono hB2.size)
  have c6 := (boxed_below h6 hb3).cell
  clear hix hA2 h4
  cases ho : opOf nm lg with
  | none =>
    have hrd : Hid (readT s = none) := by show _ = _; rw [hread.out, ho]
    have hz : opZ nm lg = -1 := by unfold opZ; rw [ho]
    rw [hz]
    replace ho := Lib.hid ho
    clear hz
    have hA5 := (((hA3.set 0 (.int .i64 0)).set 1 (.int .i64 0)).set 2 (.int .i64 0)).set 3 (.int .i64 0)
    have r0 := hA5.cell (j := 0) rfl
    have r1 := hA5.cell (j := 1) rfl
    have r2 := hA5.cell (j := 2) rfl
    have r3 := hA5.cell (j := 3) rfl
    have s0 := hA3.cell (j := 0) rfl
    have s1 := (hA3.set 0 (.int .i64 0)).cell (j := 1) rfl
    have s2 := ((hA3.set 0 (.int .i64 0)).set 1 (.int .i64 0)).cell (j := 2) rfl
    have s3 := (((hA3.set 0 (.int .i64 0)).set 1 (.int .i64 0)).set 2 (.int .i64 0)).cell (j := 3) rfl
    have t0 := hA3.free 0
    have t1 := hA3.free 1
    have t2 := hA3.free 2
    have t3 := hA3.free 3
    have hfin : Hid (∀ W, W = (((W3.setCell ⟨w.heap.size, 0, none⟩ (.int .i64 0)).setCell ⟨w.heap.size, 1, none⟩ (.int .i64 0)).setCell ⟨w.heap.size, 2, none⟩ (.int .i64 0)).setCell ⟨w.heap.size, 3, none⟩ (.int .i64 0) → Below w.heap.size w W) := fun W e => by
      subst e
      exact (((hB3.setCell (p := ⟨w.heap.size, 0, none⟩) (Nat.le_refl _) _).setCell (p := ⟨w.heap.size, 1, none⟩) (Nat.le_refl _) _).setCell (p := ⟨w.heap.size, 2, none⟩) (Nat.le_refl _) _).setCell (p := ⟨w.heap.size, 3, none⟩) (Nat.le_refl _) _
    clear hA5 hA3 hread
    go_wp2_with fail
    exact bodyPost_ret (v := .tuple #[.agg #[.int .i64 0, .int .i64 0, .int .i64 0, .int .i64 0], .bool false]) (by simp [results, Tryd.f43, go_sem, r0, r1, r2, r3]) rfl ⟨by rw [hrd.out]; rfl, hfin.out _ rfl⟩
  | some o =>
    have hz : opZ nm lg = (o : Int) := by unfold opZ; rw [ho]
    obtain ⟨ho12, hon, hol⟩ := opOf_some ho
    rw [hz]
    clear hz
    have hd0 : decide ((o : Int) < 0) = false := by simp
    have hn0 : ¬ (o : Int) < 0 := by omega
    have hat := Lib.hid (atoi_any num W3 (by omega) hE3)
    go_wp2_with fail
    refine hat.out.mono ?_
    rintro e W4 ⟨hpost, hb4⟩
    have hA4 := hA3.below hb4
    have hE4 := hE3.below hb4
    have hB4 := hB3.trans (hb4.mono hB3.size)
    have c6' := (boxed_below (boxed_below h6 hb3) hb4).cell
    clear hat c6 hA3
    cases hlg : lg with
    | false =>
      subst hlg
      have hnum := hcf rfl
      subst hnum
      have hv0 : ∃ x, e = .returned (.tuple #[.int .i64 0, x]) := by
        rcases hpost with ⟨v, h1, _⟩ | ⟨_, v, a, _, h2, h3⟩
        · cases h1
        · rw [h2 rfl] at h3
          exact ⟨_, h3⟩
      obtain ⟨x, rfl⟩ := hv0
      have hrd : Hid (readT s = some (o, 0)) := by
        show _ = _
        rw [hread.out, ho]
        dsimp only
        rw [hol, if_neg (by decide)]
      replace ho := Lib.hid ho
      clear hpost
      have hA5 := (((hA4.set 0 (.int .i64 0)).set 1 (.int .i64 (o : Int))).set 2 (.int .i64 0)).set 3 (.int .i64 0)
      have r0 := hA5.cell (j := 0) rfl
      have r1 := hA5.cell (j := 1) rfl
      have r2 := hA5.cell (j := 2) rfl
      have r3 := hA5.cell (j := 3) rfl
      have s0 := hA4.cell (j := 0) rfl
      have s1 := (hA4.set 0 (.int .i64 0)).cell (j := 1) rfl
      have s2 := ((hA4.set 0 (.int .i64 0)).set 1 (.int .i64 (o : Int))).cell (j := 2) rfl
      have s3 := (((hA4.set 0 (.int .i64 0)).set 1 (.int .i64 (o : Int))).set 2 (.int .i64 0)).cell (j := 3) rfl
      have t0 := hA4.free 0
      have t1 := hA4.free 1
      have t2 := hA4.free 2
      have t3 := hA4.free 3
      have hfin : Hid (∀ W, W = (((W4.setCell ⟨w.heap.size, 0, none⟩ (.int .i64 0)).setCell ⟨w.heap.size, 1, none⟩ (.int .i64 (o : Int))).setCell ⟨w.heap.size, 2, none⟩ (.int .i64 0)).setCell ⟨w.heap.size, 3, none⟩ (.int .i64 0) → Below w.heap.size w W) := fun W e => by
        subst e
        exact (((hB4.setCell (p := ⟨w.heap.size, 0, none⟩) (Nat.le_refl _) _).setCell (p := ⟨w.heap.size, 1, none⟩) (Nat.le_refl _) _).setCell (p := ⟨w.heap.size, 2, none⟩) (Nat.le_refl _) _).setCell (p := ⟨w.heap.size, 3, none⟩) (Nat.le_refl _) _
      clear hA5 hA4 hread
      go_wp2_with fail
      exact bodyPost_ret (v := .tuple #[.agg #[.int .i64 0, .int .i64 (o : Int), .int .i64 0, .int .i64 0], .bool true]) (by simp [results, Tryd.f43, go_sem, r0, r1, r2, r3]) rfl ⟨by rw [hrd.out]; rfl, hfin.out _ rfl⟩
    | true =>
      subst hlg
      have hrd0 : readT s = (numC num).map fun n => (o, n) := by
        rw [hread.out, ho]
        dsimp only
        rw [hol, if_pos rfl]
      replace ho := Lib.hid ho
      rcases hpost with ⟨v, h1, hI, rfl⟩ | ⟨h1, v, a, hI, _, rfl⟩
      · by_cases hneg : v < 0
        · have hdn : decide (v < 0) = true := by simpa using hneg
          have hrd : Hid (readT s = none) := by
            show _ = _
            rw [hrd0]
            unfold numC
            rw [h1]
            dsimp only
            rw [if_neg (by omega)]
            rfl
          clear hrd0 h1
          have hA5 := (((hA4.set 0 (.int .i64 0)).set 1 (.int .i64 0)).set 2 (.int .i64 0)).set 3 (.int .i64 0)
          have r0 := hA5.cell (j := 0) rfl
          have r1 := hA5.cell (j := 1) rfl
          have r2 := hA5.cell (j := 2) rfl
          have r3 := hA5.cell (j := 3) rfl
          have s0 := hA4.cell (j := 0) rfl
          have s1 := (hA4.set 0 (.int .i64 0)).cell (j := 1) rfl
          have s2 := ((hA4.set 0 (.int .i64 0)).set 1 (.int .i64 0)).cell (j := 2) rfl
          have s3 := (((hA4.set 0 (.int .i64 0)).set 1 (.int .i64 0)).set 2 (.int .i64 0)).cell (j := 3) rfl
          have t0 := hA4.free 0
          have t1 := hA4.free 1
          have t2 := hA4.free 2
          have t3 := hA4.free 3
          have hfin : Hid (∀ W, W = (((W4.setCell ⟨w.heap.size, 0, none⟩ (.int .i64 0)).setCell ⟨w.heap.size, 1, none⟩ (.int .i64 0)).setCell ⟨w.heap.size, 2, none⟩ (.int .i64 0)).setCell ⟨w.heap.size, 3, none⟩ (.int .i64 0) → Below w.heap.size w W) := fun W e => by
            subst e
            exact (((hB4.setCell (p := ⟨w.heap.size, 0, none⟩) (Nat.le_refl _) _).setCell (p := ⟨w.heap.size, 1, none⟩) (Nat.le_refl _) _).setCell (p := ⟨w.heap.size, 2, none⟩) (Nat.le_refl _) _).setCell (p := ⟨w.heap.size, 3, none⟩) (Nat.le_refl _) _
          clear hA5 hA4 hread
          go_wp2_with fail
          exact bodyPost_ret (v := .tuple #[.agg #[.int .i64 0, .int .i64 0, .int .i64 0, .int .i64 0], .bool false]) (by simp [results, Tryd.f43, go_sem, r0, r1, r2, r3]) rfl ⟨by rw [hrd.out]; rfl, hfin.out _ rfl⟩
        · have hdn : decide (v < 0) = false := by simpa using hneg
          by_cases hbig : 65535 < v
          · have hdb : decide (v > 65535) = true := by simpa using hbig
            have hrd : Hid (readT s = none) := by
              show _ = _
              rw [hrd0]
              unfold numC
              rw [h1]
              dsimp only
              rw [if_neg (by omega)]
              rfl
            clear hrd0 h1
            have hA5 := (((hA4.set 0 (.int .i64 0)).set 1 (.int .i64 0)).set 2 (.int .i64 0)).set 3 (.int .i64 0)
            have r0 := hA5.cell (j := 0) rfl
            have r1 := hA5.cell (j := 1) rfl
            have r2 := hA5.cell (j := 2) rfl
            have r3 := hA5.cell (j := 3) rfl
            have s0 := hA4.cell (j := 0) rfl
            have s1 := (hA4.set 0 (.int .i64 0)).cell (j := 1) rfl
            have s2 := ((hA4.set 0 (.int .i64 0)).set 1 (.int .i64 0)).cell (j := 2) rfl
            have s3 := (((hA4.set 0 (.int .i64 0)).set 1 (.int .i64 0)).set 2 (.int .i64 0)).cell (j := 3) rfl
            have t0 := hA4.free 0
            have t1 := hA4.free 1
            have t2 := hA4.free 2
            have t3 := hA4.free 3
            have hfin : Hid (∀ W, W = (((W4.setCell ⟨w.heap.size, 0, none⟩ (.int .i64 0)).setCell ⟨w.heap.size, 1, none⟩ (.int .i64 0)).setCell ⟨w.heap.size, 2, none⟩ (.int .i64 0)).setCell ⟨w.heap.size, 3, none⟩ (.int .i64 0) → Below w.heap.size w W) := fun W e => by
              subst e
              exact (((hB4.setCell (p := ⟨w.heap.size, 0, none⟩) (Nat.le_refl _) _).setCell (p := ⟨w.heap.size, 1, none⟩) (Nat.le_refl _) _).setCell (p := ⟨w.heap.size, 2, none⟩) (Nat.le_refl _) _).setCell (p := ⟨w.heap.size, 3, none⟩) (Nat.le_refl _) _
            clear hA5 hA4 hread
            go_wp2_with fail
            exact bodyPost_ret (v := .tuple #[.agg #[.int .i64 0, .int .i64 0, .int .i64 0, .int .i64 0], .bool false]) (by simp [results, Tryd.f43, go_sem, r0, r1, r2, r3]) rfl ⟨by rw [hrd.out]; rfl, hfin.out _ rfl⟩
          · have hdb : decide (v > 65535) = false := by simpa using hbig
            have hit := Lib.hid (itoa_any v W4 hI hE4)
            by_cases heq : Lib.itoa v = num
            · have hrd : Hid (readT s = some (o, v.toNat)) := by
                show _ = _
                rw [hrd0]
                unfold numC
                rw [h1]
                dsimp only
                rw [if_pos ⟨by omega, by omega, heq⟩]
                rfl
              have hvn : v = ((v.toNat : Nat) : Int) := by omega
              obtain ⟨vn, hvn2⟩ : ∃ vn, vn = v.toNat := ⟨_, rfl⟩
              rw [← hvn2] at hvn hrd
              clear hvn2
              subst hvn
              have hqs : ((str (Lib.itoa (vn : Int))).toList == (str num).toList) = true := by rw [heq]; exact beq_self_eq_true _
              have hqs2 : (str (Lib.itoa (vn : Int))).toList = (str num).toList := by rw [heq]
              replace heq := Lib.hid heq
              clear hrd0 h1
              go_wp2_with fail
              refine hit.out.mono ?_
              rintro e W5 ⟨rfl, hb5⟩
              have hA5 := hA4.below hb5
              have hB5 := hB4.trans (hb5.mono hB4.size)
              clear hit hA4
              have hA6 := (((hA5.set 0 (.int .i64 0)).set 1 (.int .i64 (o : Int))).set 2 (.int .i64 (vn : Int))).set 3 (.int .i64 0)
              have r0 := hA6.cell (j := 0) rfl
              have r1 := hA6.cell (j := 1) rfl
              have r2 := hA6.cell (j := 2) rfl
              have r3 := hA6.cell (j := 3) rfl
              have s0 := hA5.cell (j := 0) rfl
              have s1 := (hA5.set 0 (.int .i64 0)).cell (j := 1) rfl
              have s2 := ((hA5.set 0 (.int .i64 0)).set 1 (.int .i64 (o : Int))).cell (j := 2) rfl
              have s3 := (((hA5.set 0 (.int .i64 0)).set 1 (.int .i64 (o : Int))).set 2 (.int .i64 (vn : Int))).cell (j := 3) rfl
              have t0 := hA5.free 0
              have t1 := hA5.free 1
              have t2 := hA5.free 2
              have t3 := hA5.free 3
              have hfin : Hid (∀ W, W = (((W5.setCell ⟨w.heap.size, 0, none⟩ (.int .i64 0)).setCell ⟨w.heap.size, 1, none⟩ (.int .i64 (o : Int))).setCell ⟨w.heap.size, 2, none⟩ (.int .i64 (vn : Int))).setCell ⟨w.heap.size, 3, none⟩ (.int .i64 0) → Below w.heap.size w W) := fun W e => by
                subst e
                exact (((hB5.setCell (p := ⟨w.heap.size, 0, none⟩) (Nat.le_refl _) _).setCell (p := ⟨w.heap.size, 1, none⟩) (Nat.le_refl _) _).setCell (p := ⟨w.heap.size, 2, none⟩) (Nat.le_refl _) _).setCell (p := ⟨w.heap.size, 3, none⟩) (Nat.le_refl _) _
              clear hA6 hA5 hread
              go_wp2_with fail
              exact bodyPost_ret (v := .tuple #[.agg #[.int .i64 0, .int .i64 (o : Int), .int .i64 (vn : Int), .int .i64 0], .bool true]) (by simp [results, Tryd.f43, go_sem, r0, r1, r2, r3]) rfl ⟨by rw [hrd.out]; rfl, hfin.out _ rfl⟩
            · have hrd : Hid (readT s = none) := by
                show _ = _
                rw [hrd0]
                unfold numC
                rw [h1]
                dsimp only
                rw [if_neg (fun h => heq h.2.2)]
                rfl
              have hqs : ((str (Lib.itoa v)).toList == (str num).toList) = false := by rw [str_beq]; simpa using heq
              have hqs2 : ¬ (str (Lib.itoa v)).toList = (str num).toList := fun h => heq ((str_beq2 _ _).1 h)
              replace heq := Lib.hid heq
              clear hrd0 h1
              go_wp2_with fail
              refine hit.out.mono ?_
              rintro e W5 ⟨rfl, hb5⟩
              have hA5 := hA4.below hb5
              have hB5 := hB4.trans (hb5.mono hB4.size)
              clear hit hA4
              have hA6 := (((hA5.set 0 (.int .i64 0)).set 1 (.int .i64 0)).set 2 (.int .i64 0)).set 3 (.int .i64 0)
              have r0 := hA6.cell (j := 0) rfl
              have r1 := hA6.cell (j := 1) rfl
              have r2 := hA6.cell (j := 2) rfl
              have r3 := hA6.cell (j := 3) rfl
              have s0 := hA5.cell (j := 0) rfl
              have s1 := (hA5.set 0 (.int .i64 0)).cell (j := 1) rfl
              have s2 := ((hA5.set 0 (.int .i64 0)).set 1 (.int .i64 0)).cell (j := 2) rfl
              have s3 := (((hA5.set 0 (.int .i64 0)).set 1 (.int .i64 0)).set 2 (.int .i64 0)).cell (j := 3) rfl
              have t0 := hA5.free 0
              have t1 := hA5.free 1
              have t2 := hA5.free 2
              have t3 := hA5.free 3
              have hfin : Hid (∀ W, W = (((W5.setCell ⟨w.heap.size, 0, none⟩ (.int .i64 0)).setCell ⟨w.heap.size, 1, none⟩ (.int .i64 0)).setCell ⟨w.heap.size, 2, none⟩ (.int .i64 0)).setCell ⟨w.heap.size, 3, none⟩ (.int .i64 0) → Below w.heap.size w W) := fun W e => by
                subst e
                exact (((hB5.setCell (p := ⟨w.heap.size, 0, none⟩) (Nat.le_refl _) _).setCell (p := ⟨w.heap.size, 1, none⟩) (Nat.le_refl _) _).setCell (p := ⟨w.heap.size, 2, none⟩) (Nat.le_refl _) _).setCell (p := ⟨w.heap.size, 3, none⟩) (Nat.le_refl _) _
              clear hA6 hA5 hread
              go_wp2_with fail
              exact bodyPost_ret (v := .tuple #[.agg #[.int .i64 0, .int .i64 0, .int .i64 0, .int .i64 0], .bool false]) (by simp [results, Tryd.f43, go_sem, r0, r1, r2, r3]) rfl ⟨by rw [hrd.out]; rfl, hfin.out _ rfl⟩
      · have hrd : Hid (readT s = none) := by
          show _ = _
          rw [hrd0]
          unfold numC
          rw [h1]
          rfl
        clear hrd0 h1
        have hA5 := (((hA4.set 0 (.int .i64 0)).set 1 (.int .i64 0)).set 2 (.int .i64 0)).set 3 (.int .i64 0)
        have r0 := hA5.cell (j := 0) rfl
        have r1 := hA5.cell (j := 1) rfl
        have r2 := hA5.cell (j := 2) rfl
        have r3 := hA5.cell (j := 3) rfl
        have s0 := hA4.cell (j := 0) rfl
        have s1 := (hA4.set 0 (.int .i64 0)).cell (j := 1) rfl
        have s2 := ((hA4.set 0 (.int .i64 0)).set 1 (.int .i64 0)).cell (j := 2) rfl
        have s3 := (((hA4.set 0 (.int .i64 0)).set 1 (.int .i64 0)).set 2 (.int .i64 0)).cell (j := 3) rfl
        have t0 := hA4.free 0
        have t1 := hA4.free 1
        have t2 := hA4.free 2
        have t3 := hA4.free 3
        have hfin : Hid (∀ W, W = (((W4.setCell ⟨w.heap.size, 0, none⟩ (.int .i64 0)).setCell ⟨w.heap.size, 1, none⟩ (.int .i64 0)).setCell ⟨w.heap.size, 2, none⟩ (.int .i64 0)).setCell ⟨w.heap.size, 3, none⟩ (.int .i64 0) → Below w.heap.size w W) := fun W e => by
          subst e
          exact (((hB4.setCell (p := ⟨w.heap.size, 0, none⟩) (Nat.le_refl _) _).setCell (p := ⟨w.heap.size, 1, none⟩) (Nat.le_refl _) _).setCell (p := ⟨w.heap.size, 2, none⟩) (Nat.le_refl _) _).setCell (p := ⟨w.heap.size, 3, none⟩) (Nat.le_refl _) _
        clear hA5 hA4 hread
        go_wp2_with fail
        exact bodyPost_ret (v := .tuple #[.agg #[.int .i64 0, .int .i64 0, .int .i64 0, .int .i64 0], .bool false]) (by simp [results, Tryd.f43, go_sem, r0, r1, r2, r3]) rfl ⟨by rw [hrd.out]; rfl, hfin.out _ rfl⟩
end Go.Proofs.YtainohbfcehpoaaDoor
