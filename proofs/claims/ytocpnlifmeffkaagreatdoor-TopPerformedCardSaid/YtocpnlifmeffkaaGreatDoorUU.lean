/-
  The contracts of evergreenref12.Typed and Code: keys that are in order, a program of pairs of bytes.
  The contract of evergreenref12.Code: a program of at most 60 pairs of bytes.
-/
import Derived.Test.YtocpnlifmeffkaaGreatDoorUI
import Derived.Test.YtocpnlifmeffkaaGreatDoorUB
namespace Go.Proofs.YtocpnlifmeffkaaGreatDoor
open Go.RowKit Go.Shelf

theorem rowCells {w : World} {B m n : Nat} {v : Value} {zs : List Int} (h : SliceAt w B v n (zs.map (Value.int .i64))) (hl : zs.length = n * m) (hz : ∀ z ∈ zs, I64 z) :
    ∃ a c, v = .slice a n c ∧ n ≤ c ∧ c ≤ maxLen ∧ ∀ k, k < n → ∃ b o, a = some ⟨b, o, none⟩ ∧ b < B ∧ (∀ j, j < m → I64 (zs.getD (k * m + j) 0)) ∧ ∀ (wr : World), wr.heap[b]? = w.heap[b]? → ∀ j, j < m → wr.cell? ⟨b, o + k * m + j, none⟩ = some (.int .i64 (zs.getD (k * m + j) 0)) := by
  obtain ⟨a, c, rfl, h1, h2, hc⟩ := h
  refine ⟨a, c, rfl, h1, h2, fun k hk => ?_⟩
  obtain ⟨b, o, ha, hb, hx⟩ := hc (by omega)
  have hin : ∀ j, j < m → k * m + j < zs.length := fun j hj => by
    rw [hl]
    have : k * m + m ≤ n * m := by rw [← Nat.succ_mul]; exact Nat.mul_le_mul_right m hk
    omega
  refine ⟨b, o, ha, hb, fun j hj => ?_, fun wr hw j hj => ?_⟩
  · rw [List.getD_eq_getElem?_getD, List.getElem?_eq_getElem (hin j hj)]
    exact hz _ (List.getElem_mem _)
  · rw [World.cell?_of_block (w' := wr) (w := w) (a := ⟨b, o + k * m + j, none⟩) hw, Nat.add_assoc]
    refine hx _ _ ?_
    rw [List.getElem?_map, List.getD_eq_getElem?_getD, List.getElem?_eq_getElem (hin j hj)]
    rfl
theorem inOrder_snoc (l : List Ev) (e : Ev) (h : inOrder l = true) (he : ∀ k ∈ l, k.t ≤ e.t) : inOrder (l ++ [e]) = true := by
  rw [inOrder_iff] at h ⊢
  intro j hj
  simp only [List.length_append, List.length_singleton] at hj
  by_cases hlt : j + 1 < l.length
  · have := h j hlt
    rw [getElem!_pos _ _ (by omega), getElem!_pos _ _ (by omega)] at this
    rw [getElem!_pos _ _ (by simp; omega), getElem!_pos _ _ (by simp; omega), List.getElem_append_left (by omega), List.getElem_append_left (by omega)]
    exact this
  · rw [getElem!_pos _ _ (by simp; omega), getElem!_pos _ _ (by simp; omega), List.getElem_append_left (by omega), List.getElem_append_right (by omega)]
    have hx : l[j] ∈ l := List.getElem_mem _
    simpa using he _ hx
/-- Keys as Typed makes them. -/
structure TypedOk (ks : List Ev) (tt : Nat) : Prop where
  len : ks.length ≤ 20
  all : ∀ k ∈ ks, keyOk k = true ∧ k.t ≤ (tt : Int)
  ord : inOrder ks = true
theorem TypedOk.snoc {ks : List Ev} {tt : Nat} (h : TypedOk ks tt) (hl : ks.length < 20) (d : Nat) (p : Nat) (hd : tt + d ≤ 1180) (hp : p < 255) : TypedOk (ks ++ [⟨((tt + d : Nat) : Int), 5, ((1 + p : Nat) : Int), 0⟩]) (tt + d) := by
  refine ⟨by simp; omega, fun k hk => ?_, inOrder_snoc _ _ h.ord (fun k hk => by have := (h.all k hk).2; show k.t ≤ ((tt + d : Nat) : Int); omega)⟩
  rcases List.mem_append.1 hk with hk | hk
  · have := h.all k hk
    exact ⟨this.1, by omega⟩
  · obtain rfl := List.mem_singleton.1 hk
    refine ⟨?_, Int.le_refl _⟩
    simp [keyOk]
    omega
theorem TypedOk.keys {ks : List Ev} {tt : Nat} (h : TypedOk ks tt) : keysOk ks = true := by
  simp only [keysOk, Bool.and_eq_true, decide_eq_true_eq, List.all_eq_true]
  exact ⟨⟨by have := h.len; omega, fun k hk => (h.all k hk).1⟩, h.ord⟩
def TypI (w wr : World) (ks : List Ev) (v : Value) (tt : Nat) : Prop := Below w.heap.size w wr ∧ wr.ownsRow w.heap.size 60 4 v ks.length (evCells ks) ∧ TypedOk ks tt

set_option maxRecDepth 100000 in
set_option maxHeartbeats 4000000 in
theorem Typed_any (xv : Value) (n : Nat) (zs : List Int) (w : World) (hx : SliceAt w w.heap.size xv n (zs.map (Value.int .i64))) (hxl : zs.length = n * 2) (hz : ∀ z ∈ zs, I64 z) :
    Calls Tryz.prog 6 #[xv] w fun e w' => ∃ v ks, e = .returned v ∧ w'.ownsRow w.heap.size 60 4 v ks.length (evCells ks) ∧ TypedOk ks 1180 ∧ Below w.heap.size w w' := by
  obtain ⟨i0, hi, hz0, hz1, hz2⟩ := info_parts Tryz.info_ev
  obtain ⟨a, c, rfl, h1, h2, hc⟩ := rowCells hx hxl hz
  unfold maxLen at h2
  have hB : Below w.heap.size w w := Below.refl _ _
  replace hc := Lib.hid hc
  clear hx hxl hz
  go_enter Tryz.func6, Tryz.ntmps6
  go_wp2_with fail
  go_loopw [5, 4, 3] (fun i t v wr => ∃ (k tt : Nat) (ks : List Ev), k ≤ n ∧ k ≤ 20 ∧ i = .int .i64 k ∧ t = .int .i64 tt ∧ tt ≤ 59 * k ∧ ks.length = k ∧ Hid (TypI w wr ks v tt)) (fun i _ _ _ => n - (intOf i).toNat)
  case atStart => exact ⟨0, 0, [], Nat.zero_le _, Nat.zero_le _, rfl, rfl, Nat.zero_le _, rfl, (show TypI _ _ _ _ _ from ⟨hB, World.ownsRow_nil _ _ _ _, ⟨by simp, by simp, rfl⟩⟩)⟩
  case round =>
    obtain ⟨k, tt, ks, hk, hk20, rfl, rfl, htt, hks, hI⟩ := hrel
    clear hB
    obtain ⟨ao, vc, rfl⟩ := own_val hI.out.2.1
    by_cases hlt : k < n ∧ k < 20
    · obtain ⟨hlt, hlt2⟩ := hlt
      have hd : decide ((k : Int) < (n : Int)) = true := by simpa using hlt
      have hd2 : decide ((k : Int) < 20) = true := by simp; omega
      obtain ⟨b, o, rfl, hb, hI64, hcell⟩ := hc.out k hlt
      have hbw := hI.out.1.block b hb
      have l0 : wr.cell? ⟨b, o + k * 2, none⟩ = some (.int .i64 (zs.getD (k * 2) 0)) := hcell wr hbw 0 (by omega)
      have l1 : wr.cell? ⟨b, o + k * 2 + 1, none⟩ = some (.int .i64 (zs.getD (k * 2 + 1) 0)) := hcell wr hbw 1 (by omega)
      have g0 : I64 (zs.getD (k * 2) 0) := hI64 0 (by omega)
      have g1 : I64 (zs.getD (k * 2 + 1) 0) := hI64 1 (by omega)
      generalize zs.getD (k * 2) 0 = x0 at *
      generalize zs.getD (k * 2 + 1) 0 = x1 at *
      have hP0 := pickR_any x0 60 wr g0 (by omega) (by omega)
      have hP1 := pickR_any x1 255 wr g1 (by omega) (by omega)
      have hd0 := pickv_lt x0 60 (by omega)
      have hd1 := pickv_lt x1 255 (by omega)
      generalize pickv x0 60 = d at *
      generalize pickv x1 255 = p at *
      have hor := hI.out.2.1
      have hBw := hI.out.1
      have hT := hI.out.2.2.snoc (by omega) d p (by omega) hd1
      have hadd : IntKind.i64.wrap ((tt : Int) + (d : Int)) = (tt : Int) + (d : Int) := IntWalk.i64_in _ (by omega)
      have hadd1 : IntKind.i64.wrap (1 + (p : Int)) = 1 + (p : Int) := IntWalk.i64_in _ (by omega)
      obtain ⟨ev, hev⟩ : ∃ ev : Ev, ev = ⟨((tt + d : Nat) : Int), 5, ((1 + p : Nat) : Int), 0⟩ := ⟨_, rfl⟩
      have hevc : evCells [ev] = [.int .i64 ((tt : Int) + (d : Int)), .int .i64 5, .int .i64 (1 + (p : Int)), .int .i64 0] := by rw [hev]; rfl
      rw [← hev] at hT
      have hor3 := own_below hor ((Below.refl wr.heap.size wr).alloc (Nat.le_refl _) (.cells #[.int .i64 ((tt : Int) + (d : Int)), .int .i64 5, .int .i64 (1 + (p : Int)), .int .i64 0] 60))
      have hnew : Arr (wr.alloc (.cells #[.int .i64 ((tt : Int) + (d : Int)), .int .i64 5, .int .i64 (1 + (p : Int)), .int .i64 0] 60)) wr.heap.size 60 [.int .i64 ((tt : Int) + (d : Int)), .int .i64 5, .int .i64 (1 + (p : Int)), .int .i64 0] := Arr.new rfl rfl
      have hnc : ∀ j u, [Value.int .i64 ((tt : Int) + (d : Int)), .int .i64 5, .int .i64 (1 + (p : Int)), .int .i64 0][j]? = some u → (wr.alloc (.cells #[.int .i64 ((tt : Int) + (d : Int)), .int .i64 5, .int .i64 (1 + (p : Int)), .int .i64 0] 60)).cell? ((⟨wr.heap.size, 0, none⟩ : Addr).add j) = some u := fun j u hu => by rw [Addr.add_mid, Nat.zero_add]; exact hnew.cell hu
      replace hor3 := Lib.hid hor3
      replace hnc := Lib.hid hnc
      replace hP0 := Lib.hid hP0
      replace hP1 := Lib.hid hP1
      replace hevc := Lib.hid hevc
      replace hks := Lib.hid hks
      have hksl : ks.length ≤ 20 := hI.out.2.2.len
      clear hnew hor hcell hI64 hc hev hI g0 g1 hbw
      go_wp2_with fail
      refine hP0.out.mono ?_
      rintro e w2 ⟨rfl, hw2⟩
      rw [hw2]
      clear hw2 w2
      go_wp2_with fail
      refine hP1.out.mono ?_
      rintro e w2 ⟨rfl, hw2⟩
      rw [hw2]
      clear hw2 w2
      go_wp2_with (at_builtin; go_loud (refine wpList_append_own _ rfl _ _ 25 rfl w.heap.size 60 i0 (.agg #[.int .i64 0, .int .i64 0, .int .i64 0, .int .i64 0]) 4 32 Tryz.underlying25 hi hz0 hz1 hz2 rfl (by decide) (.slice ao ks.length vc) ks.length (evCells ks) rfl hor3.out _ 1 1 [.int .i64 ((tt : Int) + (d : Int)), .int .i64 5, .int .i64 (1 + (p : Int)), .int .i64 0] rfl rfl hnc.out (by simp [Value.oneCell']) (by unfold maxLen; omega) (by omega) (by have := hBw.size; simp; omega) ?_; intro v' w4 hown' hgrow hnil))
      have hB4 : Below w.heap.size w w4 := (hBw.alloc hBw.size _).grown hgrow (by have := hBw.size; simp; omega) (fun j e => (hor3.out.lt j e).1)
      rw [← hevc.out, ← evCells_app] at hown'
      have hI4 : TypI w w4 (ks ++ [ev]) v' (tt + d) := ⟨hB4, by rw [List.length_append]; exact hown', hT⟩
      exact ⟨⟨k + 1, tt + d, ks ++ [ev], by omega, by omega, by go_num, by go_num, by omega, by rw [List.length_append, hks.out]; rfl, hI4⟩, by simp [intOf]; omega⟩
    · have hT : TypedOk ks 1180 := ⟨hI.out.2.2.len, fun q hq => ⟨(hI.out.2.2.all q hq).1, by have := (hI.out.2.2.all q hq).2; omega⟩, hI.out.2.2.ord⟩
      clear hc
      by_cases hlt1 : k < n
      · have hd : decide ((k : Int) < (n : Int)) = true := by simpa using hlt1
        have hd2 : decide ((k : Int) < 20) = false := by simp; omega
        replace hks := Lib.hid hks
        go_wp2_with fail
        go_ret
        exact ⟨_, ks, rfl, hI.out.2.1, hT, hI.out.1⟩
      · have hd : decide ((k : Int) < (n : Int)) = false := by simpa using hlt1
        replace hks := Lib.hid hks
        go_wp2_with fail
        go_ret
        exact ⟨_, ks, rfl, hI.out.2.1, hT, hI.out.1⟩
end Go.Proofs.YtocpnlifmeffkaaGreatDoor
namespace Go.Proofs.YtocpnlifmeffkaaGreatDoor
open Go.RowKit Go.Shelf

def CodI (w wr : World) (out : List UInt8) (v : Value) : Prop := Below w.heap.size w wr ∧ wr.ownsRow w.heap.size 5 1 v out.length (Lib.byteCells out)
theorem tdiv64 {z : Int} {n : Nat} (h : I64 z) (_ : 1 ≤ n) : I64 (z.tdiv n) := by
  obtain ⟨h1, h2⟩ := h
  rcases Int.le_total 0 z with hz | hz
  · have a := Int.tdiv_nonneg hz (Int.natCast_nonneg n)
    have b : z.tdiv n ≤ z := by
      rw [Int.tdiv_eq_ediv_of_nonneg hz]
      exact Int.ediv_le_self _ hz
    exact ⟨by omega, by omega⟩
  · have e : z.tdiv n = -((-z).tdiv n) := by rw [Int.neg_tdiv]; omega
    have hz' : 0 ≤ -z := by omega
    have a := Int.tdiv_nonneg hz' (Int.natCast_nonneg n)
    have b : (-z).tdiv n ≤ -z := by
      rw [Int.tdiv_eq_ediv_of_nonneg hz']
      exact Int.ediv_le_self _ hz'
    exact ⟨by omega, by omega⟩
theorem cod_step {w w4 : World} {out : List UInt8} {v' : Value} {A B : Int} (hA : 0 ≤ A ∧ A < 256) (hB : 0 ≤ B ∧ B < 256)
    (hown : w4.ownsRow w.heap.size 5 1 v' (out.length + 2) (Lib.byteCells out ++ [.int .u8 A, .int .u8 B])) (hb : Below w.heap.size w w4) : ∃ out' : List UInt8, out'.length = out.length + 2 ∧ Hid (CodI w w4 out' v') := by
  obtain ⟨a, rfl⟩ : ∃ a : Nat, A = a := ⟨A.toNat, by omega⟩
  obtain ⟨b, rfl⟩ : ∃ b : Nat, B = b := ⟨B.toNat, by omega⟩
  refine ⟨out ++ [UInt8.ofNat a, UInt8.ofNat b], by simp, (show CodI _ _ _ _ from ⟨hb, ?_⟩)⟩
  have e : Lib.byteCells out ++ [Value.int .u8 (a : Int), .int .u8 (b : Int)] = Lib.byteCells (out ++ [UInt8.ofNat a, UInt8.ofNat b]) := by
    simp [Lib.byteCells, Nat.mod_eq_of_lt (show a < 256 by omega), Nat.mod_eq_of_lt (show b < 256 by omega)]
  rw [← e, List.length_append]
  exact hown

theorem wpList_append_two {ops : Array Oper} {rest : List Oper} {o : Oper} {a : Act} {Q : Exit → Act → World → Prop} (hgd : o.guard = none) (s x : Operand) (ho : o.op = .call { callee := .builtin .append, args := #[s, x], argTypes := #[57, 57] })
    (ws : World) (A B : Int) (base : Nat) (ao : Option Addr) (n vc : Nat) (hs : a.eval s = .slice ao n vc) (hx : a.eval x = .slice (some ⟨ws.heap.size, 0, none⟩) 2 2) (xs : List Value) (hown : ws.ownsRow base 5 1 (.slice ao n vc) n xs) (hn : n ≤ 1000000) (hb : base ≤ ws.heap.size)
    (h : ∀ v' w', w'.ownsRow base 5 1 v' (n + 2) (xs ++ [.int .u8 A, .int .u8 B]) → (∀ v, Below base v ws → Below base v w') → wpList Tryz.prog ops Q rest (a.put o.dst v') w') :
    wpList Tryz.prog ops Q (o :: rest) a (ws.alloc (.cells #[.int .u8 A, .int .u8 B] 5)) := by
  obtain ⟨i0, hi, hz0, hz1, hz2⟩ := info_parts info_byte4
  have hown2 := own_below hown ((Below.refl ws.heap.size ws).alloc (Nat.le_refl _) (.cells #[.int .u8 A, .int .u8 B] 5))
  refine wpList_append_own _ hgd s x 57 ho base 5 i0 (.int .u8 0) 1 1 Tryz.underlying57 hi hz0 hz1 hz2 rfl (by decide) (.slice ao n vc) n xs hs hown2 ⟨ws.heap.size, 0, none⟩ 2 2 [.int .u8 A, .int .u8 B] hx rfl (fun j u hu => by rw [Addr.add_mid, Nat.zero_add]; exact (Arr.new (B := ws.heap.size) rfl rfl : Arr (ws.alloc (.cells #[.int .u8 A, .int .u8 B] 5)) ws.heap.size 5 [.int .u8 A, .int .u8 B]).cell hu) (by simp [Value.oneCell']) (by unfold maxLen; omega) (by omega) (by simp; omega) ?_
  intro v' w' h1 h2 _
  exact h v' w' h1 (fun v hv => (hv.alloc hb _).grown h2 (by simp; omega) (fun j e => (hown2.lt j e).1))

set_option maxRecDepth 100000 in
set_option maxHeartbeats 4000000 in
theorem Code_any (xv : Value) (n : Nat) (zs : List Int) (w : World) (hx : SliceAt w w.heap.size xv n (zs.map (Value.int .i64))) (hxl : zs.length = n * 2) (hz : ∀ z ∈ zs, I64 z) :
    Calls Tryz.prog 5 #[xv] w fun e w' => ∃ s : List UInt8, e = .returned (.string (str s)) ∧ s.length % 2 = 0 ∧ s.length ≤ 120 ∧ Below w.heap.size w w' := by
  obtain ⟨i0, hi, hz0, hz1, hz2⟩ := info_parts info_byte4
  obtain ⟨a, c, rfl, h1, h2, hc⟩ := rowCells hx hxl hz
  unfold maxLen at h2
  have hB : Below w.heap.size w w := Below.refl _ _
  have hmin : min (n : Int) 60 = ((min n 60 : Nat) : Int) := by omega
  obtain ⟨p, hp⟩ : ∃ p, p = min n 60 := ⟨_, rfl⟩
  rw [← hp] at hmin
  have hpn : p ≤ n := by omega
  have hp60 : p ≤ 60 := by omega
  have i1 : (0 : Int) ≤ (p : Int) := by omega
  have i2 : (p : Int) ≤ (c : Int) := by omega
  replace hc := Lib.hid hc
  replace hp := Lib.hid hp
  clear hx hxl hz
  go_enter Tryz.func5, Tryz.ntmps5
  go_wp2_with fail
  go_loopw [5, 3] (fun i v wr => ∃ (k : Nat) (out : List UInt8), k ≤ p ∧ i = .int .i64 k ∧ out.length = 2 * k ∧ Hid (CodI w wr out v)) (fun i _ _ => p - (intOf i).toNat)
  case atStart => exact ⟨0, [], Nat.zero_le _, rfl, rfl, (show CodI _ _ _ _ from ⟨hB, World.ownsRow_nil _ _ _ _⟩)⟩
  case round =>
    obtain ⟨k, out, hk, rfl, hol, hI⟩ := hrel
    clear hB
    obtain ⟨ao, vc, rfl⟩ := own_val hI.out.2
    have holb : out.length ≤ 120 := by omega
    replace hol := Lib.hid hol
    by_cases hlt : k < p
    · have hd : decide ((k : Int) < (p : Int)) = true := by simpa using hlt
      obtain ⟨b, o, rfl, hb, hI64, hcell⟩ := hc.out k (by omega)
      have hbw := hI.out.1.block b hb
      have l0 : wr.cell? ⟨b, o + k * 2, none⟩ = some (.int .i64 (zs.getD (k * 2) 0)) := hcell wr hbw 0 (by omega)
      have l1 : wr.cell? ⟨b, o + k * 2 + 1, none⟩ = some (.int .i64 (zs.getD (k * 2 + 1) 0)) := hcell wr hbw 1 (by omega)
      have g0 : I64 (zs.getD (k * 2) 0) := hI64 0 (by omega)
      have g1 : I64 (zs.getD (k * 2 + 1) 0) := hI64 1 (by omega)
      generalize zs.getD (k * 2) 0 = x0 at *
      generalize zs.getD (k * 2 + 1) 0 = x1 at *
      have hA : ∀ W : World, Calls Tryz.prog 19 #[.int .i64 x0, .int .i64 16] W fun e w' => e = .returned (.int .i64 (pickv x0 16 : Nat)) ∧ w' = W := fun W => pickR_any x0 16 W g0 (by omega) (by omega)
      have hBb : ∀ W : World, Calls Tryz.prog 19 #[.int .i64 x1, .int .i64 256] W fun e w' => e = .returned (.int .i64 (pickv x1 256 : Nat)) ∧ w' = W := fun W => pickR_any x1 256 W g1 (by omega) (by omega)
      have hC : ∀ W : World, Calls Tryz.prog 19 #[.int .i64 x1, .int .i64 p] W fun e w' => e = .returned (.int .i64 (pickv x1 p : Nat)) ∧ w' = W := fun W => pickR_any x1 p W g1 (by omega) (by omega)
      have hD : ∀ W : World, Calls Tryz.prog 19 #[.int .i64 x1, .int .i64 20] W fun e w' => e = .returned (.int .i64 (pickv x1 20 : Nat)) ∧ w' = W := fun W => pickR_any x1 20 W g1 (by omega) (by omega)
      have hF : ∀ W : World, Calls Tryz.prog 19 #[.int .i64 (x0.tdiv 16), .int .i64 20] W fun e w' => e = .returned (.int .i64 (pickv (x0.tdiv 16) 20 : Nat)) ∧ w' = W := fun W => pickR_any (x0.tdiv 16) 20 W (tdiv64 (n := 16) g0 (by omega)) (by omega) (by omega)
      have hG : ∀ W : World, Calls Tryz.prog 19 #[.int .i64 (x0.tdiv 320), .int .i64 2] W fun e w' => e = .returned (.int .i64 (pickv (x0.tdiv 320) 2 : Nat)) ∧ w' = W := fun W => pickR_any (x0.tdiv 320) 2 W (tdiv64 (n := 320) g0 (by omega)) (by omega) (by omega)
      have b0 := pickv_lt x0 16 (by omega)
      have b1 := pickv_lt x1 256 (by omega)
      have b2 := pickv_lt x1 p (by omega)
      have b3 := pickv_lt x1 20 (by omega)
      have b4 := pickv_lt (x0.tdiv 320) 2 (by omega)
      have d16 := tdiv64 (n := 16) g0 (by omega)
      have d320 := tdiv64 (n := 320) g0 (by omega)
      obtain ⟨lo0, hi0⟩ := g0
      obtain ⟨lo1, hi1⟩ := d16
      obtain ⟨lo2, hi2⟩ := d320
      have w0 : IntKind.u8.wrap (1 + (pickv x0 16 : Nat) : Int) = 1 + (pickv x0 16 : Nat) := by simp [IntKind.wrap, IntKind.bits, IntKind.signed]; omega
      have w1 : IntKind.u8.wrap (pickv x1 256 : Nat) = (pickv x1 256 : Nat) := by simp [IntKind.wrap, IntKind.bits, IntKind.signed]; omega
      have w2 : IntKind.u8.wrap (2 * (pickv x1 p : Nat) : Int) = 2 * (pickv x1 p : Nat) := by simp [IntKind.wrap, IntKind.bits, IntKind.signed]; omega
      have w3 : IntKind.u8.wrap (120 + (pickv x1 20 : Nat) : Int) = 120 + (pickv x1 20 : Nat) := by simp [IntKind.wrap, IntKind.bits, IntKind.signed]; omega
      have w4 : IntKind.u8.wrap (17 * (pickv (x0.tdiv 320) 2 : Nat) : Int) = 17 * (pickv (x0.tdiv 320) 2 : Nat) := by simp [IntKind.wrap, IntKind.bits, IntKind.signed]; omega
      replace hA := Lib.hid hA
      replace hBb := Lib.hid hBb
      replace hC := Lib.hid hC
      replace hD := Lib.hid hD
      replace hF := Lib.hid hF
      replace hG := Lib.hid hG
      generalize pickv x0 16 = q0 at *
      generalize pickv x1 256 = q1 at *
      generalize pickv x1 p = q2 at *
      generalize pickv x1 20 = q3 at *
      generalize pickv (x0.tdiv 16) 20 = q4 at *
      generalize pickv (x0.tdiv 320) 2 = q5 at *
      have hBw := hI.out.1
      have hor := Lib.hid hI.out.2
      clear hc hcell hI64 hI hbw g1
      go_wp2_with fail
      refine (hA.out _).mono ?_
      rintro e w2 ⟨rfl, hw2⟩
      rw [hw2]
      clear hw2 w2
      go_wp2_with fail
      refine (hBb.out _).mono ?_
      rintro e w2 ⟨rfl, hw2⟩
      rw [hw2]
      clear hw2 w2
      go_wp2_with fail
      all_goals first
        | ((with_reducible refine (hC.out _).mono ?_); rintro e w2 ⟨rfl, hw2⟩; rw [hw2]; clear hw2 w2; go_wp2_with fail)
        | ((with_reducible refine (hD.out _).mono ?_); rintro e w2 ⟨rfl, hw2⟩; rw [hw2]; clear hw2 w2; go_wp2_with fail)
        | skip
      all_goals ((with_reducible refine (hF.out _).mono ?_); rintro e w2 ⟨rfl, hw2⟩; rw [hw2]; clear hw2 w2)
      all_goals (go_wp2_with (first
        | (go_at_call 19; (with_reducible refine (hG.out _).mono ?_); rintro e w2 ⟨rfl, hw2⟩; rw [hw2]; clear hw2 w2)
        | (at_builtin; go_loud (refine wpList_append_two rfl _ _ rfl wr _ _ w.heap.size ao out.length vc rfl rfl _ hor.out (by omega) hBw.size ?_); intro v' w4 hown' hgrow)))
      all_goals
        obtain ⟨out', e1, e2⟩ := cod_step (by omega) (by omega) hown' (hgrow _ hBw)
        have hol' := hol.out
        exact ⟨⟨k + 1, out', by omega, by go_num, by omega, e2⟩, by simp [intOf]; omega⟩
    · have hke : k = p := by omega
      subst hke
      have hd : decide ((k : Int) < (k : Int)) = false := by simp
      have hconv := conv_own hI.out.2
      clear hc
      go_wp2_with fail
      go_ret
      have hol' := hol.out
      exact ⟨out, rfl, by omega, by omega, hI.out.1⟩
end Go.Proofs.YtocpnlifmeffkaaGreatDoor
