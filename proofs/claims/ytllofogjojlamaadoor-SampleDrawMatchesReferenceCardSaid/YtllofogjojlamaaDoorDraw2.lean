/-
  The contract of sample.Draw.
-/
import Derived.Test.YtllofogjojlamaaDoorDraw1
import Derived.Test.YtllofogjojlamaaDoorSha7
import Derived.Test.YtllofogjojlamaaDoorSortL
import Derived.Test.YtllofogjojlamaaDoorNeeded2
import Derived.Laws.BytesArg
import Derived.BigRegion
namespace Go.Proofs.YtllofogjojlamaaDoor
open Go.RowKit Go.Shelf

theorem Buf.set {w : World} {g : Nat} {e : TypeId} {v : Value} {xs : List Value} (h : Buf w g e v xs) {j : Nat} (u : Value) : Buf (w.setCell ⟨g, j, none⟩ u) g e v (xs.set j u) := by
  obtain ⟨cap, cur, fr, hv, hg, hfr, hle, hcm, hcs, ht⟩ := h
  refine ⟨cap, cur.setIfInBounds j u, fr, by simpa using hv, cell_setRow_ok hg u, by simpa using hfr, by simpa using hle, hcm, by simpa using hcs, ?_⟩
  rw [Array.toList_setIfInBounds, List.length_set, List.take_set]
  rw [ht]
theorem Buf.free {w : World} {g : Nat} {e : TypeId} {v : Value} {xs : List Value} (h : Buf w g e v xs) {j : Nat} (hj : j < xs.length) : w.frozen? ⟨g, j, none⟩ = false := by
  obtain ⟨cap, cur, fr, hv, hg, hfr, hle, hcm, hcs, ht⟩ := h
  simp only [World.frozen?, hg]
  rcases hfr with rfl | hfr
  · simp
  · have : ¬ fr.1 ≤ j := by omega
    simp [this]
theorem buf_of_own {w : World} {B : Nat} {e : TypeId} {v : Value} {n : Nat} {xs : List Value} (h : w.ownsRow B e 1 v (n + 1) xs) : ∃ g, B ≤ g ∧ Buf w g e v xs := by
  obtain ⟨hl, h⟩ := h
  rcases h with ⟨_, h⟩ | ⟨g, cap, cur, rfl, hb, hg, h1, h2, h3, h4⟩
  · omega
  · exact ⟨g, hb, cap, cur, (0, 0), by simp at hl; rw [hl], hg, .inl rfl, by omega, h2, by omega, by rw [hl]; exact h4⟩

theorem shaSum_size (s : ByteArray) : (shaSum s).size = 32 := by
  show (List.toArray _).size = 32
  rw [List.size_toArray, List.length_map, List.length_map, List.length_range]
/-- A number of some bytes. -/
def numOf (l : List UInt8) : Nat := l.foldl (fun x b => 256 * x + b.toNat) 0
theorem numOf_snoc (l : List UInt8) (b : UInt8) : numOf (l ++ [b]) = 256 * numOf l + b.toNat := by simp [numOf]
theorem numOf_lt (l : List UInt8) : numOf l < 256 ^ l.length := by
  have h : ∀ (l : List UInt8) (x : Nat), l.foldl (fun x b => 256 * x + b.toNat) x + 1 ≤ (x + 1) * 256 ^ l.length := by
    intro l
    induction l with
    | nil => intro x; simp
    | cons b r ih =>
      intro x
      have h1 := ih (256 * x + b.toNat)
      have h2 := b.toNat_lt
      have h3 : (256 * x + b.toNat + 1) * 256 ^ r.length ≤ (x + 1) * 256 * 256 ^ r.length := Nat.mul_le_mul_right _ (by omega)
      have h4 : (x + 1) * 256 ^ (b :: r).length = (x + 1) * 256 * 256 ^ r.length := by
        rw [List.length_cons, Nat.pow_succ, Nat.mul_comm (256 ^ r.length) 256, Nat.mul_assoc]
      rw [h4]
      exact Nat.le_trans h1 h3
  have := h l 0
  unfold numOf
  omega
theorem or_byte (N c : Nat) (hN : N < 1099511627776) (hc : c < 256) : bits .or .u64 (IntKind.u64.wrap ((N : Int) * 256)) (IntKind.u64.wrap (c : Int)) = ((256 * N + c : Nat) : Int) := by
  have e1 : IntKind.u64.wrap ((N : Int) * 256) = ((N * 256 : Nat) : Int) := by simp [IntKind.wrap, IntKind.bits, IntKind.signed]; omega
  have e2 : IntKind.u64.wrap (c : Int) = (c : Int) := by simp [IntKind.wrap, IntKind.bits, IntKind.signed]; omega
  have e3 : N <<< 8 + c = N <<< 8 ||| c := Nat.shiftLeft_add_eq_or_of_lt (by simpa using hc) N
  have e4 : N * 256 = N <<< 8 := by rw [Nat.shiftLeft_eq]
  have e5 : (bits .or .u64 ((N * 256 : Nat) : Int) (c : Int)) = IntKind.u64.wrap ((N * 256 % 2 ^ 64 ||| c % 2 ^ 64 : Nat) : Int) := by
    unfold bits
    show IntKind.u64.wrap ((BitVec.ofInt 64 ((N * 256 : Nat) : Int) ||| BitVec.ofInt 64 (c : Int)).toNat : Int) = _
    rw [BitVec.ofInt_natCast, BitVec.ofInt_natCast, BitVec.toNat_or, BitVec.toNat_ofNat, BitVec.toNat_ofNat]
  rw [e1, e2, e5, Nat.mod_eq_of_lt (by omega), Nat.mod_eq_of_lt (by omega), e4, ← e3, ← e4]
  simp [IntKind.wrap, IntKind.bits, IntKind.signed]; omega
/-- P16.1: the seed with the number of the draw. -/
def seedAt (s : ByteArray) (i : Nat) : ByteArray := s ++ strOfNums [(i : Int)]
/-- The first bytes of the digest as a number. -/
def xOf (s : ByteArray) (i : Nat) : Nat := numOf ((shaSum (seedAt s i)).data.toList.take 6)
def jAt (s : ByteArray) (n i : Nat) : Nat := i + xOf s i % (n - i)
def swapAt (l : List Int) (i j : Nat) : List Int := (l.set i (l.getD j 0)).set j (l.getD i 0)
/-- The list behind the first k exchanges. -/
def drawTo (s : ByteArray) (n : Nat) : Nat → List Int
  | 0 => (List.range n).map fun i : Nat => (i : Int)
  | k + 1 => swapAt (drawTo s n k) k (jAt s n k)
theorem drawTo_len (s : ByteArray) (n k : Nat) : (drawTo s n k).length = n := by
  induction k with
  | zero => simp [drawTo]
  | succ k ih => simp [drawTo, swapAt, ih]
/-- P16.1: what is drawn. -/
def drawn (s : ByteArray) (n k : Nat) : List Int := sortI ((drawTo s n k).take k)
theorem drawn_len (s : ByteArray) (n k : Nat) (h : k ≤ n) : (drawn s n k).length = k := by
  rw [drawn, sortI_len, List.length_take, drawTo_len]; omega

theorem ints_at {l : List Int} {j : Nat} (h : j < l.length) : (ints l)[j]? = some (.int .i64 (l.getD j 0)) := by
  simp [ints, List.getD_eq_getElem?_getD, h]
theorem ints_swap (l : List Int) (a j : Nat) : ints (swapAt l a j) = ((ints l).set a (.int .i64 (l.getD j 0))).set j (.int .i64 (l.getD a 0)) := by
  simp [ints, swapAt, List.map_set]
set_option maxRecDepth 100000 in
set_option maxHeartbeats 2000000 in
theorem Draw_yes (s : ByteArray) (n k : Nat) (w : World) (hs : s.size ≤ 1000) (h1 : 1 ≤ n) (hn : n ≤ 24) (hk : k ≤ n) (hG : w.rangeAt 0 0 (u32s KS)) :
    Calls Tryd.prog 6 #[.string s, .int .i64 n, .int .i64 k] w fun e w' => ∃ g cap, e = .returned (.tuple #[.slice (some ⟨g, 0, none⟩) k cap, .int .i64 0]) ∧ w.heap.size ≤ g ∧ g < w'.heap.size ∧
      (∀ j, j < k → w'.cell? ⟨g, j, none⟩ = some (.int .i64 ((drawn s n k).getD j 0))) ∧ Below w.heap.size w w' := by
  have hB : Below w.heap.size w w := Below.refl _ _
  have h0w : 0 < w.heap.size := World.block_lt_of_cell? w _ (hG 0 _ rfl)
  have hmf : ∀ (fn : Fn) (first cap : Array Value) (w : World), (Instr.makeFunc fn first cap).run Tryd.prog w = .ok (.func fn first cap) w := fun _ _ _ _ => rfl
  have hp : pop n [(k : Int)] = true := by
    simp [pop, outB]; omega
  have hd1 : decide ((1000 : Int) < (s.size : Int)) = false := by simp; omega
  have hd2 : decide (1000 < s.size) = false := by simp; omega
  go_enter Tryd.func6, Tryd.ntmps6
  go_wp2_with fail
  refine name_calls ?_
  intro w1 hww1
  replace m5 : Mine w1 w.heap.size 0 (.int .i64 k) := by rw [hww1]; (repeat first | with_reducible assumption | with_reducible refine Mine.drew ?_ | with_reducible refine Mine.drewN ?_ _ | ((with_reducible refine Mine.new ?_); rfl) | ((with_reducible refine Mine.newAt ?_ ?_) <;> first | rfl | (simp; done) | (simp only [World.size_alloc]; rfl)) | ((with_reducible refine Mine.set ?_ _); repeat first | exact Mine.slot (by with_reducible assumption) | with_reducible refine MineS.drew ?_ | with_reducible refine MineS.drewN ?_ _ | ((with_reducible refine MineS.new ?_); decide) | ((with_reducible refine MineS.newAt ?_ ?_) <;> first | decide | (simp; done)) | with_reducible refine MineS.set ?_ _ _ _ | with_reducible refine MineS.alloc ?_ _) | with_reducible refine Mine.other ?_ _ (by first | (left; omega) | (right; omega) | (simp; done) | (simp; omega)) | with_reducible refine Mine.alloc ?_ _)
  have hBzw1 := hB.size
  replace hB : Below w.heap.size w w1 := by rw [hww1]; exact (by repeat first | with_reducible exact Below.refl _ _ | with_reducible assumption | with_reducible refine below_drewN ?_ _ | with_reducible refine Below.drew ?_ | with_reducible refine Below.setCell ?_ (by first | exact Nat.le_refl _ | (simp; done) | (simp; omega) | omega) _ | with_reducible refine Below.alloc ?_ (by first | exact Nat.le_refl _ | (simp; done) | (simp; omega) | omega) _ | exact Below.refl _ _ | assumption)
  clear hww1 hBzw1
  refine (population_any _ [(k : Int)] _ 0 _ _ (by simp) (one_cell m5)).mono ?_
  rintro e wc1 ⟨rfl, hb1⟩
  replace m5 := m5.below hb1
  replace hB := hB.trans (hb1.mono hB.size)
  have hb_wc1 := hb1
  clear hb1
  go_wp2_with fail
  rw [show (n : Int) - 1 = ((n - 1 : Nat) : Int) from by omega]
  refine (upTo_any _ _).mono ?_
  rintro e w4 ⟨rfl, m7, hb1⟩
  replace hB := hB.trans (hb1.mono hB.size)
  have hb_w4 := hb1
  clear hb1
  go_wp2_with fail
  refine (callsIn_wide.1 (AppendSeq_in _ (n - 1) _ (by omega) m7)).mono ?_
  rintro e w5 ⟨v, rfl, hrow, hb5⟩
  have hB5 := hB.trans (hb5.mono hB.size)
  obtain ⟨g, hg, hbuf⟩ := buf_of_own hrow
  have e0 : (List.range (n - 1 + 1)).map (fun i : Nat => (i : Int)) = drawTo s n 0 := by rw [show n - 1 + 1 = n from by omega]; rfl
  rw [e0] at hbuf
  have hgw : w.heap.size ≤ g := Nat.le_trans hB.size hg
  obtain ⟨cap, hv, hc1, hc2⟩ := hbuf.val
  have hil : ∀ i, (ints (drawTo s n i)).length = n := fun i => by rw [ints, List.length_map, drawTo_len]
  rw [hil] at hv hc1
  subst hv
  clear hrow hB m7 hb5 hb_w4 hb_wc1 hg e0 hp hmf
  replace hil := Lib.hid hil
  go_wp2_with fail
  go_loopw [30] (fun i wr => ∃ a : Nat, a ≤ k ∧ i = .int .i64 a ∧ Below w.heap.size w wr ∧ Buf wr g 3 (.slice (some ⟨g, 0, none⟩) n cap) (ints (drawTo s n a))) (fun i _ => k - (intOf i).toNat)
  case atStart => exact ⟨0, by omega, rfl, hB5, hbuf⟩
  case round =>
    obtain ⟨a, ha, rfl, hBr, hb⟩ := hrel
    clear hB5 hbuf
    by_cases hlt : a < k
    · have hda : decide ((a : Int) < (k : Int)) = true := by simp; omega
      have hcv := run_convert_bytes_arg (P := Tryd.prog) (wr.alloc (.cells #[.int .u8 a] 5)) 45 5 Tryd.underlying45 Tryd.underlying5 wr.heap.size 0 1 1 [(a : Int)] rfl (fun j hj => by
        obtain rfl : j = 0 := by omega
        exact (Mine.new rfl).cell) 9 Tryd.underlying9
      have hle : s.size + (strOfNums [(a : Int)]).size ≤ 9223372036854775807 := by rw [strOfNums_size]; simp; omega
      have hsd : Hid (s ++ strOfNums [(a : Int)] = seedAt s a) := by show _ = _; rfl
      have hsz : (seedAt s a).size ≤ 2000 := by
        rw [← hsd.out, ByteArray.size_append, strOfNums_size]; simp; omega
      have hnext : Hid (drawTo s n (a + 1) = swapAt (drawTo s n a) a (a + xOf s a % (n - a))) := by show _ = _; rfl
      have hx : Hid (xOf s a = numOf ((shaSum (seedAt s a)).data.toList.take 6)) := by show _ = _; rfl
      have hSs := shaSum_size (seedAt s a)
      have hGW : ∀ W, Below w.heap.size w W → W.rangeAt 0 0 (u32s KS) := fun W hb j v hv => (hb.cell (p := ⟨0, 0 + j, none⟩) h0w).trans (hG j v hv)
      replace hGW := Lib.hid hGW
      go_wp2_with fail
      rw [hsd.out]
      refine (Sum_any (seedAt s a) _ hsz (hGW.out _ (hBr.alloc hBr.size _))).mono ?_
      rintro e w6 ⟨rfl, hb6⟩
      have hB6 := (hBr.alloc hBr.size (.cells #[.int .u8 a] 5)).trans (hb6.mono (by simp; have := hBr.size; omega))
      have hb6' := (hb.alloc (.cells #[.int .u8 a] 5)).below hb6
      clear hBr hb hb6 hcv hle hsz hsd hGW
      generalize shaSum (seedAt s a) = S at *
      have hcv := Lib.run_convert_string_bytes (P := Tryd.prog) w6 9 45 5 (S.extract 0 6) Tryd.underlying9 Tryd.underlying45 Tryd.underlying5
      have h32 : 6 ≤ S.size := by omega
      have hz6 : (S.extract 0 6).size = 6 := by simp [ByteArray.size_extract]; omega
      rw [hz6] at hcv
      have hX : Hid ((S.extract 0 6).data.toList = S.data.toList.take 6) := by show _ = _; rw [Lib.extract_data]; simp
      have hXl : (S.data.toList.take 6).length = 6 := by simp; omega
      have hcx : ∀ j, j < 6 → (Lib.bytesWorld w6 5 (S.extract 0 6)).cell? ⟨w6.heap.size, j, none⟩ = some (.int .u8 ((S.data.toList.take 6).getD j 0).toNat) := fun j hj => by
        rw [Lib.bytesWorld_cell _ _ _ _ (by omega), hX.out]
      replace hSs := Lib.hid hSs
      have hb7 : Buf (Lib.bytesWorld w6 5 (S.extract 0 6)) g 3 (.slice (some ⟨g, 0, none⟩) n cap) (ints (drawTo s n a)) := hb6'.of_block (Lib.bytesWorld_at_old _ _ _ _ hb6'.lt)
      have hB7 : Below w.heap.size w (Lib.bytesWorld w6 5 (S.extract 0 6)) := below_bytesWorld hB6 hB6.size _ _
      clear hX
      generalize hx6 : S.data.toList.take 6 = X at *
      replace hx6 := Lib.hid hx6
      replace hXl := Lib.hid hXl
      replace hcx := Lib.hid hcx
      clear hb6' hB6
      go_wp2_with fail
      clear hcv
      generalize Lib.bytesWorld w6 5 (S.extract 0 6) = w7 at *
      clear hz6 h32
      go_loop [10, 43] (fun x i => ∃ j : Nat, j ≤ 6 ∧ i = .int .i64 j ∧ x = .int .u64 (numOf (X.take j) : Nat)) (fun _ i => 6 - (intOf i).toNat)
      case atStart => exact ⟨0, by omega, rfl, rfl⟩
      case round =>
        obtain ⟨j, hj, rfl, rfl⟩ := hrel
        by_cases hlt6 : j < 6
        · have hdj : decide ((j : Int) < 6) = true := by simp; omega
          have hcj := hcx.out j hlt6
          have hN := numOf_lt (X.take j)
          have hN2 : 256 ^ (X.take j).length ≤ 256 ^ 5 := Nat.pow_le_pow_right (by omega) (by rw [List.length_take, hXl.out]; omega)
          have hXj : j < X.length := by rw [hXl.out]; exact hlt6
          have hstep : Hid (bits .or .u64 (IntKind.u64.wrap (((numOf (X.take j) : Nat) : Int) * 256)) (IntKind.u64.wrap ((X[j]?.getD 0).toNat : Int)) = (numOf (X.take (j + 1)) : Nat)) := by
            show _ = _
            rw [or_byte _ _ (by omega) (X[j]?.getD 0).toNat_lt, List.take_succ_eq_append_getElem hXj, numOf_snoc]
            simp [hXj]
          clear hN hN2 hXj
          go_wp2_with fail
          refine ⟨⟨j + 1, by omega, by go_num, by rw [hstep.out]⟩, by simp [intOf]; omega⟩
        · have hdj : decide ((j : Int) < 6) = false := by simp; omega
          obtain rfl : j = 6 := by omega
          have hXX : X.take 6 = X := List.take_of_length_le (by rw [hXl.out]; omega)
          rw [hXX, ← hx.out]
          clear hXX
          generalize xOf s a = x at *
          clear hx hx6 hXl hcx hdj hlt6 hj hSs
          have hq : (x : Int) % ((n : Int) - (a : Int)) = ((x % (n - a) : Nat) : Int) := by
            rw [show (n : Int) - (a : Int) = ((n - a : Nat) : Int) from by omega]; rfl
          have hqn : x % (n - a) < n - a := Nat.mod_lt _ (by omega)
          have hq0 : (0 : Int) ≤ (x : Int) % ((n : Int) - (a : Int)) := by omega
          have hq1 : (x : Int) % ((n : Int) - (a : Int)) < (n : Int) - (a : Int) := by omega
          replace hq := Lib.hid hq
          go_wp2_with fail
          rw [hq.out]
          clear hq hq0 hq1
          generalize x % (n - a) = q at *
          rw [show (a : Int) + (q : Int) = ((a + q : Nat) : Int) from by omega]
          obtain ⟨j, hj⟩ : ∃ j, j = a + q := ⟨_, rfl⟩
          rw [← hj] at hnext ⊢
          have hja : a ≤ j := by omega
          have hjn : j < n := by omega
          have han : a < n := by omega
          clear hj hqn
          have hl := drawTo_len s n a
          have ca := hb7.cell (ints_at (by rw [hl]; exact han) : (ints (drawTo s n a))[a]? = _)
          have cj := hb7.cell (ints_at (by rw [hl]; exact hjn) : (ints (drawTo s n a))[j]? = _)
          have fa := hb7.free (j := a) (by rw [hil.out]; exact han)
          have fj := hb7.free (j := j) (by rw [hil.out]; exact hjn)
          have hbs := (hb7.set (j := a) (.int .i64 ((drawTo s n a).getD j 0))).set (j := j) (.int .i64 ((drawTo s n a).getD a 0))
          have hBs : Below w.heap.size w ((w7.setCell ⟨g, a, none⟩ (.int .i64 ((drawTo s n a).getD j 0))).setCell ⟨g, j, none⟩ (.int .i64 ((drawTo s n a).getD a 0))) := (hB7.setCell (p := ⟨g, a, none⟩) hgw _).setCell (p := ⟨g, j, none⟩) hgw _
          rw [← ints_swap, ← hnext.out] at hbs
          replace hl := Lib.hid hl
          replace hbs := Lib.hid hbs
          replace hBs := Lib.hid hBs
          clear hnext hb7 hB7
          generalize (drawTo s n a).getD a 0 = va at *
          generalize (drawTo s n a).getD j 0 = vj at *
          by_cases haj : j = a
          · subst haj
            obtain rfl : va = vj := by
              have e := ca.symm.trans cj
              injection e with e; injection e
            go_region
            go_wp2
            go_roundw
            case rel => exact ⟨j + 1, by omega, by go_num, hBs.out.drew, hbs.out.drew⟩
            case measure => simp [intOf]; omega
          · have haj' : ¬ a = j := fun e => haj e.symm
            go_region
            go_wp2
            go_roundw
            case rel => exact ⟨a + 1, by omega, by go_num, hBs.out.drew, hbs.out.drew⟩
            case measure => simp [intOf]; omega
    · have hda : decide ((a : Int) < (k : Int)) = false := by simp; omega
      obtain rfl : a = k := by omega
      have hg2 := hb.lt
      have hdl := drawTo_len s n a
      have hcl : ∀ j, j < ((drawTo s n a).take a).length → wr.cell? ⟨g, j, none⟩ = some (.int .i64 (((drawTo s n a).take a).getD j 0)) ∧ wr.frozen? ⟨g, j, none⟩ = false := fun j hj => by
        rw [List.length_take, hdl] at hj
        refine ⟨?_, hb.free (by rw [hil.out]; omega)⟩
        rw [hb.cell (ints_at (by rw [hdl]; omega))]
        have : j < a := by omega
        simp [List.getD_eq_getElem?_getD, this]
      have hS := sort_any g cap ((drawTo s n a).take a) wr (by rw [List.length_take, hdl]; omega) hg2 hcl
      have hlt2 : ((drawTo s n a).take a).length = a := by rw [List.length_take, hdl]; omega
      rw [hlt2] at hS
      have hdr : Hid (drawn s n a = sortI ((drawTo s n a).take a)) := by show _ = _; rfl
      rw [← hdr.out] at hS
      replace hS := Lib.hid hS
      clear hcl hlt2 hdl hlt
      go_wp2_with fail
      refine hS.out.mono ?_
      rintro e w9 ⟨rfl, hc9, hbb⟩
      replace hc9 := Lib.hid hc9
      go_wp2
      go_ret2
      exact ⟨g, cap, rfl, hgw, Nat.lt_of_lt_of_le hg2 hbb.size, hc9.out, hBr.trans (hbb.below hgw hBr.size)⟩

/-- P16.1: whether a sample can be drawn. -/
theorem Draw_long (s : ByteArray) (n k : Int) (w : World) (hs : 1000 < s.size) (hs2 : s.size ≤ 9223372036854775807) :
    Calls Tryd.prog 6 #[.string s, .int .i64 n, .int .i64 k] w fun e w' => e = .returned (.tuple #[.slice none 0 0, .int .i64 160]) ∧ Below w.heap.size w w' := by
  have hB : Below w.heap.size w w := Below.refl _ _
  have hd1 : decide ((1000 : Int) < (s.size : Int)) = true := by simp; omega
  have hd2 : decide (1000 < s.size) = true := by simp; omega
  go_enter Tryd.func6, Tryd.ntmps6
  go_wp2_with fail
  go_ret2
  exact ⟨rfl, hB⟩
theorem Draw_no (s : ByteArray) (n k : Int) (w : World) (hs : s.size ≤ 1000) (hp : pop n [k] = false) :
    Calls Tryd.prog 6 #[.string s, .int .i64 n, .int .i64 k] w fun e w' => e = .returned (.tuple #[.slice none 0 0, .int .i64 160]) ∧ Below w.heap.size w w' := by
  have hB : Below w.heap.size w w := Below.refl _ _
  have hd1 : decide ((1000 : Int) < (s.size : Int)) = false := by simp; omega
  have hd2 : decide (1000 < s.size) = false := by simp; omega
  go_enter Tryd.func6, Tryd.ntmps6
  go_wp2_with fail
  refine name_calls ?_
  intro w1 hww1
  replace m5 : Mine w1 w.heap.size 0 (.int .i64 k) := by rw [hww1]; (repeat first | with_reducible assumption | with_reducible refine Mine.drew ?_ | with_reducible refine Mine.drewN ?_ _ | ((with_reducible refine Mine.new ?_); rfl) | ((with_reducible refine Mine.newAt ?_ ?_) <;> first | rfl | (simp; done) | (simp only [World.size_alloc]; rfl)) | ((with_reducible refine Mine.set ?_ _); repeat first | exact Mine.slot (by with_reducible assumption) | with_reducible refine MineS.drew ?_ | with_reducible refine MineS.drewN ?_ _ | ((with_reducible refine MineS.new ?_); decide) | ((with_reducible refine MineS.newAt ?_ ?_) <;> first | decide | (simp; done)) | with_reducible refine MineS.set ?_ _ _ _ | with_reducible refine MineS.alloc ?_ _) | with_reducible refine Mine.other ?_ _ (by first | (left; omega) | (right; omega) | (simp; done) | (simp; omega)) | with_reducible refine Mine.alloc ?_ _)
  have hBzw1 := hB.size
  replace hB : Below w.heap.size w w1 := by rw [hww1]; exact (by repeat first | with_reducible exact Below.refl _ _ | with_reducible assumption | with_reducible refine below_drewN ?_ _ | with_reducible refine Below.drew ?_ | with_reducible refine Below.setCell ?_ (by first | exact Nat.le_refl _ | (simp; done) | (simp; omega) | omega) _ | with_reducible refine Below.alloc ?_ (by first | exact Nat.le_refl _ | (simp; done) | (simp; omega) | omega) _ | exact Below.refl _ _ | assumption)
  clear hww1 hBzw1
  refine (population_any _ [k] _ 0 _ _ (by simp) (one_cell m5)).mono ?_
  rintro e wc2 ⟨rfl, hb1⟩
  replace m5 := m5.below hb1
  replace hB := hB.trans (hb1.mono hB.size)
  have hb_wc2 := hb1
  clear hb1
  go_wp2_with fail
  go_ret2
  exact ⟨rfl, hB⟩
end Go.Proofs.YtllofogjojlamaaDoor
