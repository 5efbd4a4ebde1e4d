/-
  The contract of evergreenref12.Code: a program of at most 60 pairs of bytes.
-/
import Derived.Test.YtkgbknjpnhoadaaGreatDoorCqX
namespace Go.Proofs.YtkgbknjpnhoadaaGreatDoor
open Go.RowKit Go.Shelf

def CodI (w wr : World) (out : List UInt8) (v : Value) : Prop := Below w.heap.size w wr ∧ wr.ownsRow w.heap.size 5 1 v out.length (Lib.byteCells out)
theorem tdiv64 {z : Int} {n : Nat} (h : I64 z) (_ : 1 ≤ n) : I64 (z.tdiv n) := by
  obtain ⟨h1, h2⟩ := h
  rcases Int.le_total 0 z with hz | hz
  · have a := Int.tdiv_nonneg hz (Int.natCast_nonneg n)
    have b : z.tdiv n ≤ z := by
      rw [Int.tdiv_eq_ediv_of_nonneg hz]
      exact Int.ediv_le_self _ hz
    exact ⟨by omega, by omega⟩
  · have e : z.tdiv n = -((-z).tdiv n) := by rw [Int.neg_tdiv]; omega
    have hz' : 0 ≤ -z := by omega
    have a := Int.tdiv_nonneg hz' (Int.natCast_nonneg n)
    have b : (-z).tdiv n ≤ -z := by
      rw [Int.tdiv_eq_ediv_of_nonneg hz']
      exact Int.ediv_le_self _ hz'
    exact ⟨by omega, by omega⟩
theorem cod_step {w w4 : World} {out : List UInt8} {v' : Value} {A B : Int} (hA : 0 ≤ A ∧ A < 256) (hB : 0 ≤ B ∧ B < 256)
    (hown : w4.ownsRow w.heap.size 5 1 v' (out.length + 2) (Lib.byteCells out ++ [.int .u8 A, .int .u8 B])) (hb : Below w.heap.size w w4) : ∃ out' : List UInt8, out'.length = out.length + 2 ∧ Hid (CodI w w4 out' v') := by
  obtain ⟨a, rfl⟩ : ∃ a : Nat, A = a := ⟨A.toNat, by omega⟩
  obtain ⟨b, rfl⟩ : ∃ b : Nat, B = b := ⟨B.toNat, by omega⟩
  refine ⟨out ++ [UInt8.ofNat a, UInt8.ofNat b], by simp, (show CodI _ _ _ _ from ⟨hb, ?_⟩)⟩
  have e : Lib.byteCells out ++ [Value.int .u8 (a : Int), .int .u8 (b : Int)] = Lib.byteCells (out ++ [UInt8.ofNat a, UInt8.ofNat b]) := by
    simp [Lib.byteCells, Nat.mod_eq_of_lt (show a < 256 by omega), Nat.mod_eq_of_lt (show b < 256 by omega)]
  rw [← e, List.length_append]
  exact hown

theorem wpList_append_two {ops : Array Oper} {rest : List Oper} {o : Oper} {a : Act} {Q : Exit → Act → World → Prop} (hgd : o.guard = none) (s x : Operand) (ho : o.op = .call { callee := .builtin .append, args := #[s, x], argTypes := #[41, 41] })
    (ws : World) (A B : Int) (base : Nat) (ao : Option Addr) (n vc : Nat) (hs : a.eval s = .slice ao n vc) (hx : a.eval x = .slice (some ⟨ws.heap.size, 0, none⟩) 2 2) (xs : List Value) (hown : ws.ownsRow base 5 1 (.slice ao n vc) n xs) (hn : n ≤ 1000000) (hb : base ≤ ws.heap.size)
    (h : ∀ v' w', w'.ownsRow base 5 1 v' (n + 2) (xs ++ [.int .u8 A, .int .u8 B]) → (∀ v, Below base v ws → Below base v w') → wpList Tryz.prog ops Q rest (a.put o.dst v') w') :
    wpList Tryz.prog ops Q (o :: rest) a (ws.alloc (.cells #[.int .u8 A, .int .u8 B] 5)) := by
  obtain ⟨i0, hi, hz0, hz1, hz2⟩ := info_parts info_byte4
  have hown2 := own_below hown ((Below.refl ws.heap.size ws).alloc (Nat.le_refl _) (.cells #[.int .u8 A, .int .u8 B] 5))
  refine wpList_append_own _ hgd s x 41 ho base 5 i0 (.int .u8 0) 1 1 Tryz.underlying41 hi hz0 hz1 hz2 rfl (by decide) (.slice ao n vc) n xs hs hown2 ⟨ws.heap.size, 0, none⟩ 2 2 [.int .u8 A, .int .u8 B] hx rfl (fun j u hu => by rw [Addr.add_mid, Nat.zero_add]; exact (Arr.new (B := ws.heap.size) rfl rfl : Arr (ws.alloc (.cells #[.int .u8 A, .int .u8 B] 5)) ws.heap.size 5 [.int .u8 A, .int .u8 B]).cell hu) (by simp [Value.oneCell']) (by unfold maxLen; omega) (by omega) (by simp; omega) ?_
  intro v' w' h1 h2 _
  exact h v' w' h1 (fun v hv => (hv.alloc hb _).grown h2 (by simp; omega) (fun j e => (hown2.lt j e).1))

set_option maxRecDepth 100000 in
set_option maxHeartbeats 4000000 in
theorem Code_any (xv : Value) (n : Nat) (zs : List Int) (w : World) (hx : SliceAt w w.heap.size xv n (zs.map (Value.int .i64))) (hxl : zs.length = n * 2) (hz : ∀ z ∈ zs, I64 z) :
    Calls Tryz.prog 17 #[xv] w fun e w' => ∃ s : List UInt8, e = .returned (.string (str s)) ∧ s.length % 2 = 0 ∧ s.length ≤ 120 ∧ Below w.heap.size w w' := by
  obtain ⟨i0, hi, hz0, hz1, hz2⟩ := info_parts info_byte4
  obtain ⟨a, c, rfl, h1, h2, hc⟩ := rowCells hx hxl hz
  unfold maxLen at h2
  have hB : Below w.heap.size w w := Below.refl _ _
  have hmin : min (n : Int) 60 = ((min n 60 : Nat) : Int) := by omega
  obtain ⟨p, hp⟩ : ∃ p, p = min n 60 := ⟨_, rfl⟩
  rw [← hp] at hmin
  have hpn : p ≤ n := by omega
  have hp60 : p ≤ 60 := by omega
  have i1 : (0 : Int) ≤ (p : Int) := by omega
  have i2 : (p : Int) ≤ (c : Int) := by omega
  replace hc := Lib.hid hc
  replace hp := Lib.hid hp
  clear hx hxl hz
  go_enter Tryz.func17, Tryz.ntmps17
  go_wp2_with fail
  go_loopw [5, 3] (fun i v wr => ∃ (k : Nat) (out : List UInt8), k ≤ p ∧ i = .int .i64 k ∧ out.length = 2 * k ∧ Hid (CodI w wr out v)) (fun i _ _ => p - (intOf i).toNat)
  case atStart => exact ⟨0, [], Nat.zero_le _, rfl, rfl, (show CodI _ _ _ _ from ⟨hB, World.ownsRow_nil _ _ _ _⟩)⟩
  case round =>
    obtain ⟨k, out, hk, rfl, hol, hI⟩ := hrel
    clear hB
    obtain ⟨ao, vc, rfl⟩ := own_val hI.out.2
    have holb : out.length ≤ 120 := by omega
    replace hol := Lib.hid hol
    by_cases hlt : k < p
    · have hd : decide ((k : Int) < (p : Int)) = true := by simpa using hlt
      obtain ⟨b, o, rfl, hb, hI64, hcell⟩ := hc.out k (by omega)
      have hbw := hI.out.1.block b hb
      have l0 : wr.cell? ⟨b, o + k * 2, none⟩ = some (.int .i64 (zs.getD (k * 2) 0)) := hcell wr hbw 0 (by omega)
      have l1 : wr.cell? ⟨b, o + k * 2 + 1, none⟩ = some (.int .i64 (zs.getD (k * 2 + 1) 0)) := hcell wr hbw 1 (by omega)
      have g0 : I64 (zs.getD (k * 2) 0) := hI64 0 (by omega)
      have g1 : I64 (zs.getD (k * 2 + 1) 0) := hI64 1 (by omega)
      generalize zs.getD (k * 2) 0 = x0 at *
      generalize zs.getD (k * 2 + 1) 0 = x1 at *
      have hA : ∀ W : World, Calls Tryz.prog 36 #[.int .i64 x0, .int .i64 16] W fun e w' => e = .returned (.int .i64 (pickv x0 16 : Nat)) ∧ w' = W := fun W => pickR_any x0 16 W g0 (by omega) (by omega)
      have hBb : ∀ W : World, Calls Tryz.prog 36 #[.int .i64 x1, .int .i64 256] W fun e w' => e = .returned (.int .i64 (pickv x1 256 : Nat)) ∧ w' = W := fun W => pickR_any x1 256 W g1 (by omega) (by omega)
      have hC : ∀ W : World, Calls Tryz.prog 36 #[.int .i64 x1, .int .i64 p] W fun e w' => e = .returned (.int .i64 (pickv x1 p : Nat)) ∧ w' = W := fun W => pickR_any x1 p W g1 (by omega) (by omega)
      have hD : ∀ W : World, Calls Tryz.prog 36 #[.int .i64 x1, .int .i64 20] W fun e w' => e = .returned (.int .i64 (pickv x1 20 : Nat)) ∧ w' = W := fun W => pickR_any x1 20 W g1 (by omega) (by omega)
      have hF : ∀ W : World, Calls Tryz.prog 36 #[.int .i64 (x0.tdiv 16), .int .i64 20] W fun e w' => e = .returned (.int .i64 (pickv (x0.tdiv 16) 20 : Nat)) ∧ w' = W := fun W => pickR_any (x0.tdiv 16) 20 W (tdiv64 (n := 16) g0 (by omega)) (by omega) (by omega)
      have hG : ∀ W : World, Calls Tryz.prog 36 #[.int .i64 (x0.tdiv 320), .int .i64 2] W fun e w' => e = .returned (.int .i64 (pickv (x0.tdiv 320) 2 : Nat)) ∧ w' = W := fun W => pickR_any (x0.tdiv 320) 2 W (tdiv64 (n := 320) g0 (by omega)) (by omega) (by omega)
      have b0 := pickv_lt x0 16 (by omega)
      have b1 := pickv_lt x1 256 (by omega)
      have b2 := pickv_lt x1 p (by omega)
      have b3 := pickv_lt x1 20 (by omega)
      have b4 := pickv_lt (x0.tdiv 320) 2 (by omega)
      have d16 := tdiv64 (n := 16) g0 (by omega)
      have d320 := tdiv64 (n := 320) g0 (by omega)
      obtain ⟨lo0, hi0⟩ := g0
      obtain ⟨lo1, hi1⟩ := d16
      obtain ⟨lo2, hi2⟩ := d320
      have w0 : IntKind.u8.wrap (1 + (pickv x0 16 : Nat) : Int) = 1 + (pickv x0 16 : Nat) := by simp [IntKind.wrap, IntKind.bits, IntKind.signed]; omega
      have w1 : IntKind.u8.wrap (pickv x1 256 : Nat) = (pickv x1 256 : Nat) := by simp [IntKind.wrap, IntKind.bits, IntKind.signed]; omega
      have w2 : IntKind.u8.wrap (2 * (pickv x1 p : Nat) : Int) = 2 * (pickv x1 p : Nat) := by simp [IntKind.wrap, IntKind.bits, IntKind.signed]; omega
      have w3 : IntKind.u8.wrap (120 + (pickv x1 20 : Nat) : Int) = 120 + (pickv x1 20 : Nat) := by simp [IntKind.wrap, IntKind.bits, IntKind.signed]; omega
      have w4 : IntKind.u8.wrap (17 * (pickv (x0.tdiv 320) 2 : Nat) : Int) = 17 * (pickv (x0.tdiv 320) 2 : Nat) := by simp [IntKind.wrap, IntKind.bits, IntKind.signed]; omega
      replace hA := Lib.hid hA
      replace hBb := Lib.hid hBb
      replace hC := Lib.hid hC
      replace hD := Lib.hid hD
      replace hF := Lib.hid hF
      replace hG := Lib.hid hG
      generalize pickv x0 16 = q0 at *
      generalize pickv x1 256 = q1 at *
      generalize pickv x1 p = q2 at *
      generalize pickv x1 20 = q3 at *
      generalize pickv (x0.tdiv 16) 20 = q4 at *
      generalize pickv (x0.tdiv 320) 2 = q5 at *
      have hBw := hI.out.1
      have hor := Lib.hid hI.out.2
      clear hc hcell hI64 hI hbw g1
      go_wp2_with fail
      refine (hA.out _).mono ?_
      rintro e w2 ⟨rfl, hw2⟩
      rw [hw2]
      clear hw2 w2
      go_wp2_with fail
      refine (hBb.out _).mono ?_
      rintro e w2 ⟨rfl, hw2⟩
      rw [hw2]
      clear hw2 w2
      go_wp2_with fail
      all_goals first
        | ((with_reducible refine (hC.out _).mono ?_); rintro e w2 ⟨rfl, hw2⟩; rw [hw2]; clear hw2 w2; go_wp2_with fail)
        | ((with_reducible refine (hD.out _).mono ?_); rintro e w2 ⟨rfl, hw2⟩; rw [hw2]; clear hw2 w2; go_wp2_with fail)
        | skip
      all_goals ((with_reducible refine (hF.out _).mono ?_); rintro e w2 ⟨rfl, hw2⟩; rw [hw2]; clear hw2 w2)
      all_goals (go_wp2_with (first
        | (go_at_call 36; (with_reducible refine (hG.out _).mono ?_); rintro e w2 ⟨rfl, hw2⟩; rw [hw2]; clear hw2 w2)
        | (at_builtin; go_loud (refine wpList_append_two rfl _ _ rfl wr _ _ w.heap.size ao out.length vc rfl rfl _ hor.out (by omega) hBw.size ?_); intro v' w4 hown' hgrow)))
      all_goals
        obtain ⟨out', e1, e2⟩ := cod_step (by omega) (by omega) hown' (hgrow _ hBw)
        have hol' := hol.out
        exact ⟨⟨k + 1, out', by omega, by go_num, by omega, e2⟩, by simp [intOf]; omega⟩
    · have hke : k = p := by omega
      subst hke
      have hd : decide ((k : Int) < (k : Int)) = false := by simp
      have hconv := conv_own hI.out.2
      clear hc
      go_wp2_with fail
      go_ret
      have hol' := hol.out
      exact ⟨out, rfl, by omega, by omega, hI.out.1⟩
end Go.Proofs.YtkgbknjpnhoadaaGreatDoor
