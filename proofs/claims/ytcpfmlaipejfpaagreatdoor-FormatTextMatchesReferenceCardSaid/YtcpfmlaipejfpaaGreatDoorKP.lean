/-
  Formats of chapter 4: the reference's Number, digit, Unhex.
  Formats of chapter 4: the reference's field.
  Formats of chapter 4: the reference's right.
-/
import Derived.Test.YtcpfmlaipejfpaaGreatDoorKI
import Derived.Test.YtcpfmlaipejfpaaGreatDoorKO
import Derived.Test.YtcpfmlaipejfpaaGreatDoorKA
namespace Go.Proofs.YtcpfmlaipejfpaaGreatDoor
open Go.RowKit Go.Shelf

attribute [local go_sem] Oper.semAt_some

def numTake (s : List UInt8) (k : Nat) : Nat := (s.take k).foldl decStep 0
theorem numTake_snoc (s : List UInt8) (k : Nat) (h : k < s.length) : numTake s (k + 1) = decStep (numTake s k) s[k]! := by
  unfold numTake
  rw [take_snoc8 s k h, List.foldl_append]
  rfl
theorem numTake_lt (s : List UInt8) : ∀ k, k ≤ s.length → (s.take k).all isDig = true → numTake s k < 10 ^ k
  | 0, _, _ => by simp [numTake]
  | k + 1, h, ha => by
    rw [take_snoc8 s k (by omega), List.all_append, Bool.and_eq_true] at ha
    have ih := numTake_lt s k (by omega) ha.1
    have hd := dig_range (c := s[k]!) (by simpa using ha.2)
    rw [numTake_snoc s k (by omega), decStep, Nat.pow_succ]
    omega
set_option maxRecDepth 100000 in
set_option maxHeartbeats 1000000 in
theorem numberT_any (s : List UInt8) (w : World) (hs : s.length ≤ 1000000) :
    Calls Tryz.prog 48 #[.string (str s)] w fun e w' => e = .returned (.int .i64 (numR s : Nat)) ∧ w' = w := by
  have hps : (str s).size = s.length := str_size s
  have hPG : ∀ j (h : j < (str s).size), (((str s)[j].toNat : Nat) : Int) = (s[j]!.toNat : Nat) := fun j h => by
    rw [str_at, getElem!_pos s j (by rw [str_size] at h; exact h)]
  generalize str s = P at *
  by_cases h8 : 8 < s.length
  · have hd8 : decide ((P.size : Int) > 8) = true := decide_eq_true (by omega)
    have hr : numR s = 0 := by unfold numR; rw [if_pos h8]
    rw [hr]
    replace hPG := Lib.hid hPG
    replace hps := Lib.hid hps
    go_enter Tryz.func48, Tryz.ntmps48
    go_wp2_with fail
    go_ret
    exact ⟨rfl, rfl⟩
  · have hd8 : decide ((P.size : Int) > 8) = false := decide_eq_false (by omega)
    have hr : numR s = if s.all isDig = true then numTake s s.length else 0 := by unfold numR numTake; rw [if_neg h8, List.take_length]
    replace hPG := Lib.hid hPG
    replace hps := Lib.hid hps
    replace hr := Lib.hid hr
    go_enter Tryz.func48, Tryz.ntmps48
    go_wp2_with fail
    go_loopw [4, 3] (fun i n wr => ∃ k : Nat, k ≤ s.length ∧ i = .int .i64 k ∧ n = .int .i64 (numTake s k : Nat) ∧ Hid ((s.take k).all isDig = true) ∧ wr = w) (fun i _ _ => s.length - (intOf i).toNat)
    case atStart => exact ⟨0, Nat.zero_le _, rfl, rfl, (show Hid _ from rfl), rfl⟩
    case round =>
      obtain ⟨k, hk, rfl, rfl, hA, rfl⟩ := hrel
      have hps' := hps.out
      by_cases hlt : k < s.length
      · have hj0 : k < P.size := by omega
        have hd : decide ((k : Int) < (P.size : Int)) = true := decide_eq_true (by omega)
        have hg := hPG.out k hj0
        have hsn := numTake_snoc s k hlt
        have hlt7 := numTake_lt s k hk hA.out
        have hp : 10 ^ k ≤ 10 ^ 7 := Nat.pow_le_pow_right (by omega) (by omega)
        have hn7 : numTake s k < 10000000 := by omega
        have hb := s[k]!.toNat_lt
        have hwk : IntKind.i64.wrap ((k : Int) + 1) = ((k + 1 : Nat) : Int) := by rw [Int.natCast_succ]; exact IntWalk.i64_in _ (by omega)
        have i0 : (0 : Int) ≤ (k : Int) := by omega
        have i1 : (k : Int) < (P.size : Int) := by omega
        by_cases hdg : isDig s[k]! = true
        · have hA2 : Hid ((s.take (k + 1)).all isDig = true) := by
            show _ = _
            rw [take_snoc8 s k hlt, List.all_append, hA.out]
            simpa using hdg
          have hr2 := dig_range hdg
          rw [decStep] at hsn
          generalize s[k]! = c at *
          generalize hb2 : c.toNat = b at *
          generalize numTake s k = n at *
          clear hp hlt7 hdg
          replace hb2 := Lib.hid hb2
          replace hps' := Lib.hid hps'
          have d1 : decide ((((P[k]'hj0).toNat : Nat) : Int) < 48) = false := decide_eq_false (by omega)
          have d2 : decide ((((P[k]'hj0).toNat : Nat) : Int) > 57) = false := decide_eq_false (by omega)
          have d1' : decide ((b : Int) < 48) = false := decide_eq_false (by omega)
          have d2' : decide ((b : Int) > 57) = false := decide_eq_false (by omega)
          replace hsn := Lib.hid hsn
          have hw1 : IntKind.i64.wrap (10 * (n : Int)) = 10 * (n : Int) := IntWalk.i64_in _ (by omega)
          have hw2 : IntKind.i64.wrap (10 * (n : Int) + ((b : Int) - 48)) = 10 * (n : Int) + ((b : Int) - 48) := IntWalk.i64_in _ (by omega)
          have hw3 : IntKind.u8.wrap ((b : Int) - 48) = (b : Int) - 48 := IntWalk.u8_in _ (by omega)
          have hw4 : IntKind.i64.wrap ((b : Int) - 48) = (b : Int) - 48 := IntWalk.i64_in _ (by omega)
          go_wp2_with fail
          exact ⟨⟨k + 1, by omega, by first | rfl | go_num, by rw [hsn.out]; congr 1; omega, hA2, trivial⟩, by simp [intOf]; omega⟩
        · have hall : s.all isDig = false := by
            rw [← Bool.not_eq_true, List.all_eq_true]
            intro h
            exact hdg (h _ (by rw [getElem!_pos s k hlt]; exact List.getElem_mem hlt))
          have hrz : Hid (numR s = 0) := by show _ = _; rw [hr.out, hall]; rfl
          have hnd : ¬ (48 ≤ s[k]!.toNat ∧ s[k]!.toNat ≤ 57) := fun h => hdg (dig_mk h)
          generalize s[k]! = c at *
          generalize hb2 : c.toNat = b at *
          clear hp hlt7 hdg hsn hall
          replace hb2 := Lib.hid hb2
          replace hps' := Lib.hid hps'
          by_cases h1 : 48 ≤ b
          · have h2 : ¬ b ≤ 57 := fun h => hnd ⟨h1, h⟩
            have d1 : decide ((((P[k]'hj0).toNat : Nat) : Int) < 48) = false := decide_eq_false (by omega)
            have d2 : decide ((((P[k]'hj0).toNat : Nat) : Int) > 57) = true := decide_eq_true (by omega)
            have d1' : decide ((b : Int) < 48) = false := decide_eq_false (by omega)
            have d2' : decide ((b : Int) > 57) = true := decide_eq_true (by omega)
            clear hnd
            go_wp2_with fail
            go_ret
            exact ⟨by rw [hrz.out]; rfl, rfl⟩
          · have d1 : decide ((((P[k]'hj0).toNat : Nat) : Int) < 48) = true := decide_eq_true (by omega)
            have d1' : decide ((b : Int) < 48) = true := decide_eq_true (by omega)
            clear hnd
            go_wp2_with fail
            go_ret
            exact ⟨by rw [hrz.out]; rfl, rfl⟩
      · obtain rfl : k = s.length := by omega
        have hd : decide ((s.length : Int) < (P.size : Int)) = false := decide_eq_false (by omega)
        have hj0 : ¬ s.length < P.size := by omega
        have hfin : Hid (numR s = numTake s s.length) := by
          show _ = _
          have := hA.out
          rw [List.take_length] at this
          rw [hr.out, if_pos this]
        replace hps' := Lib.hid hps'
        go_wp2_with fail
        go_ret
        exact ⟨by rw [hfin.out]; rfl, rfl⟩
set_option maxHeartbeats 1000000 in
theorem digitT_any (c : UInt8) (w : World) : Calls Tryz.prog 98 #[.int .u8 (c.toNat : Int)] w fun e w' => e = .returned (.int .u8 ((digR c : Nat) : Int)) ∧ w' = w := by
  have hb := c.toNat_lt
  have hv : digR c = if 97 ≤ c.toNat ∧ c.toNat ≤ 102 then c.toNat - 87 else if 48 ≤ c.toNat ∧ c.toNat ≤ 57 then c.toNat - 48 else 0 := rfl
  rw [hv]
  clear hv
  generalize c.toNat = b at *
  by_cases h1 : 97 ≤ b
  · have d1 : decide ((b : Int) ≥ 97) = true := decide_eq_true (by omega)
    by_cases h2 : b ≤ 102
    · have d2 : decide ((b : Int) ≤ 102) = true := decide_eq_true (by omega)
      rw [if_pos ⟨h1, h2⟩]
      have hw1 : IntKind.u8.wrap ((b : Int) - 97) = (b : Int) - 97 := IntWalk.u8_in _ (by omega)
      have hw2 : IntKind.u8.wrap ((b : Int) - 97 + 10) = ((b - 87 : Nat) : Int) := by rw [IntWalk.u8_in _ (by omega)]; omega
      go_enter Tryz.func98, Tryz.ntmps98
      go_wp2_with fail
      go_ret
      exact ⟨rfl, rfl⟩
    · have d2 : decide ((b : Int) ≤ 102) = false := decide_eq_false (by omega)
      have d3 : decide ((b : Int) ≥ 48) = true := decide_eq_true (by omega)
      have d4 : decide ((b : Int) ≤ 57) = false := decide_eq_false (by omega)
      rw [if_neg (by omega), if_neg (by omega)]
      go_enter Tryz.func98, Tryz.ntmps98
      go_wp2_with fail
      go_ret
      exact ⟨rfl, rfl⟩
  · have d1 : decide ((b : Int) ≥ 97) = false := decide_eq_false (by omega)
    rw [if_neg (by omega)]
    by_cases h3 : 48 ≤ b
    · have d3 : decide ((b : Int) ≥ 48) = true := decide_eq_true (by omega)
      by_cases h4 : b ≤ 57
      · have d4 : decide ((b : Int) ≤ 57) = true := decide_eq_true (by omega)
        rw [if_pos ⟨h3, h4⟩]
        have hw1 : IntKind.u8.wrap ((b : Int) - 48) = ((b - 48 : Nat) : Int) := by rw [IntWalk.u8_in _ (by omega)]; omega
        go_enter Tryz.func98, Tryz.ntmps98
        go_wp2_with fail
        go_ret
        exact ⟨rfl, rfl⟩
      · have d4 : decide ((b : Int) ≤ 57) = false := decide_eq_false (by omega)
        rw [if_neg (by omega)]
        go_enter Tryz.func98, Tryz.ntmps98
        go_wp2_with fail
        go_ret
        exact ⟨rfl, rfl⟩
    · have d3 : decide ((b : Int) ≥ 48) = false := decide_eq_false (by omega)
      rw [if_neg (by omega)]
      go_enter Tryz.func98, Tryz.ntmps98
      go_wp2_with fail
      go_ret
      exact ⟨rfl, rfl⟩
theorem digR_lt (c : UInt8) : digR c < 16 := by unfold digR; split <;> (try split) <;> omega
theorem append_byte4 (ws : World) (base : Nat) (v : Value) (out : List UInt8) (a : UInt8) (hown : ws.ownsRow base 5 1 v out.length (Lib.byteCells out)) (hl : out.length ≤ 1000000) (hb : base ≤ ws.heap.size) :
    ∃ v' w', (Builtin.append_ #[44, 44] 44 #[v, .slice (some ⟨ws.heap.size, 0, none⟩) 1 1]).run Tryz.prog (ws.alloc (.cells #[.int .u8 (a.toNat : Int)] 5)) = .ok v' w' ∧
      w'.ownsRow base 5 1 v' (out ++ [a]).length (Lib.byteCells (out ++ [a])) ∧ (∀ B u, B ≤ base → Below B u ws → Below B u w') := by
  obtain ⟨i0, hi, hz0, hz1, hz2⟩ := info_parts info_byte4
  have hown2 := own_below hown ((Below.refl ws.heap.size ws).alloc (Nat.le_refl _) (.cells #[.int .u8 (a.toNat : Int)] 5))
  have hnew : Arr (ws.alloc (.cells #[.int .u8 (a.toNat : Int)] 5)) ws.heap.size 5 (Lib.byteCells [a]) := Arr.new rfl rfl
  obtain ⟨v', w', hrun, r1, r2, r3, r4⟩ := run_append_own_at (P := Tryz.prog) (ws.alloc (.cells #[.int .u8 (a.toNat : Int)] 5)) base 44 44 5 i0 (.int .u8 0) 1 1 Tryz.underlying44 hi hz0 hz1 hz2 rfl (by decide) v out.length (Lib.byteCells out) hown2 ⟨ws.heap.size, 0, none⟩ 1 1 (Lib.byteCells [a]) rfl (fun j u hu => by rw [Addr.add_mid, Nat.zero_add]; exact hnew.cell hu)
    (by intro u hu; simp [Lib.byteCells] at hu; rcases hu with rfl; rfl) (by unfold maxLen; omega) (by omega) (by simp; omega)
  refine ⟨v', w', hrun, ?_, fun B u hB hu => ?_⟩
  · rw [List.length_append, show Lib.byteCells (out ++ [a]) = Lib.byteCells out ++ Lib.byteCells [a] from by simp [Lib.byteCells]]; exact r1
  · exact (hu.alloc (by omega) _).grown r2 (by simp; omega) (fun j ej => Nat.le_trans hB (hown2.lt j ej).1)
theorem unhex_two : ∀ (s : List UInt8) (k : Nat), 2 * k + 1 < s.length → unhexR (s.take (2 * (k + 1))) = unhexR (s.take (2 * k)) ++ [UInt8.ofNat (16 * digR s[2 * k]! + digR s[2 * k + 1]!)]
  | a :: b :: r, 0, _ => rfl
  | a :: b :: r, k + 1, h => by
    have ih := unhex_two r k (by simp at h; omega)
    rw [show 2 * (k + 1 + 1) = (2 * (k + 1)) + 1 + 1 from by omega, show 2 * (k + 1) = 2 * k + 1 + 1 from by omega, List.take_succ_cons, List.take_succ_cons, List.take_succ_cons, List.take_succ_cons, unhexR, unhexR, ← show 2 * (k + 1) = 2 * k + 1 + 1 from by omega, ih]
    rfl
  | [_], k, h => by simp at h
  | [], k, h => by simp at h
theorem unhexR_len : ∀ s : List UInt8, 2 * (unhexR s).length ≤ s.length
  | [] => by simp [unhexR]
  | [_] => by simp [unhexR]
  | _ :: _ :: r => by
    have := unhexR_len r
    simp only [unhexR, List.length_cons]
    omega
theorem unhex_tail : ∀ (s : List UInt8) (k : Nat), ¬ 2 * k + 1 < s.length → unhexR (s.take (2 * k)) = unhexR s
  | [], _, _ => by rw [List.take_nil]
  | [a], 0, _ => rfl
  | [a], k + 1, _ => by rw [List.take_of_length_le (by simp; omega)]
  | a :: b :: r, 0, h => by simp at h
  | a :: b :: r, k + 1, h => by
    have ih := unhex_tail r k (by simp at h; omega)
    rw [show 2 * (k + 1) = 2 * k + 1 + 1 from by omega, List.take_succ_cons, List.take_succ_cons, unhexR, unhexR, ih]
structure UnhI (w wr : World) (s : List UInt8) (k : Nat) (v : Value) : Prop where
  below : Below w.heap.size w wr
  own : wr.ownsRow w.heap.size 5 1 v (unhexR (s.take (2 * k))).length (Lib.byteCells (unhexR (s.take (2 * k))))
set_option maxRecDepth 100000 in
set_option maxHeartbeats 4000000 in
theorem unhexT_any (s : List UInt8) (w : World) (hs : s.length ≤ 100000) :
    Calls Tryz.prog 83 #[.string (str s)] w fun e w' => e = .returned (.string (str (unhexR s))) ∧ Below w.heap.size w w' := by
  have hps : (str s).size = s.length := str_size s
  have hPG : ∀ j (h : j < (str s).size), (((str s)[j].toNat : Nat) : Int) = (s[j]!.toNat : Nat) := fun j h => by
    rw [str_at, getElem!_pos s j (by rw [str_size] at h; exact h)]
  generalize str s = P at *
  replace hPG := Lib.hid hPG
  replace hps := Lib.hid hps
  go_enter Tryz.func83, Tryz.ntmps83
  go_wp2_with fail
  go_loopw [4, 3] (fun iv v wr => ∃ k : Nat, 2 * k ≤ s.length + 1 ∧ iv = .int .i64 ((2 * k : Nat) : Int) ∧ Hid (UnhI w wr s k v)) (fun iv _ _ => s.length + 2 - (intOf iv).toNat)
  case atStart => exact ⟨0, by omega, rfl, (show Hid _ from ⟨Below.refl _ _, World.ownsRow_nil _ _ _ _⟩)⟩
  case round =>
    obtain ⟨k, hk, rfl, hI⟩ := hrel
    have hps' := hps.out
    obtain ⟨k2, hk2⟩ : ∃ k2, k2 = 2 * k := ⟨_, rfl⟩
    rw [← hk2]
    have hw1 : IntKind.i64.wrap ((k2 : Int) + 1) = (k2 : Int) + 1 := IntWalk.i64_in _ (by omega)
    have hw2 : IntKind.i64.wrap ((k2 : Int) + 2) = ((2 * (k + 1) : Nat) : Int) := by rw [IntWalk.i64_in _ (by omega)]; omega
    by_cases hlt : 2 * k + 1 < s.length
    · obtain ⟨ao, vc, rfl⟩ := own_val hI.out.own
      have hj0 : k2 < P.size := by omega
      have hj1 : k2 + 1 < P.size := by omega
      have hd : decide ((k2 : Int) + 1 < (P.size : Int)) = true := decide_eq_true (by omega)
      have i0 : (0 : Int) ≤ (k2 : Int) := by omega
      have i1 : (k2 : Int) < (P.size : Int) := by omega
      have i2 : (0 : Int) ≤ (k2 : Int) + 1 := by omega
      have i3 : (k2 : Int) + 1 < (P.size : Int) := by omega
      have hg0 := hPG.out k2 hj0
      have hg1 := hPG.out (k2 + 1) hj1
      have hsn := Lib.hid (unhex_two s k hlt)
      have hl0 := unhexR_len (s.take (2 * k))
      rw [List.length_take] at hl0
      have hown := hI.out.own
      have hbel := hI.out.below
      obtain ⟨out, hout⟩ : ∃ out, out = unhexR (s.take (2 * k)) := ⟨_, rfl⟩
      rw [← hout] at hown hsn hl0 ⊢
      rw [← hk2] at hsn hl0
      generalize s[k2]! = a at *
      generalize s[k2 + 1]! = b at *
      have da := digR_lt a
      have db := digR_lt b
      have hca := fun W => digitT_any a W
      have hcb := fun W => digitT_any b W
      have hm1 : IntKind.u8.wrap (16 * (digR a : Int)) = 16 * (digR a : Int) := IntWalk.u8_in _ (by omega)
      have hm2 : IntKind.u8.wrap (16 * (digR a : Int) + (digR b : Int)) = 16 * (digR a : Int) + (digR b : Int) := IntWalk.u8_in _ (by omega)
      obtain ⟨x, hx⟩ : ∃ x, x = UInt8.ofNat (16 * digR a + digR b) := ⟨_, rfl⟩
      have hxv : 16 * (digR a : Int) + (digR b : Int) = (x.toNat : Int) := by
        rw [hx, UInt8.toNat_ofNat', Nat.mod_eq_of_lt (by omega)]
        omega
      rw [← hx] at hsn
      have hd1 : Below wr.heap.size wr wr.drew := (Below.refl _ _).drew
      obtain ⟨v', w', hrun, r1, r3⟩ := append_byte4 wr.drew w.heap.size _ out x (own_below hown hd1) (by omega) hbel.size
      rw [← hsn.out] at r1
      have hIn : Hid (UnhI w w' s (k + 1) v') := (show UnhI _ _ _ _ _ from ⟨r3 _ _ (Nat.le_refl _) hbel.drew, r1⟩)
      rw [← hxv] at hrun
      replace hrun := Lib.hid hrun
      replace hxv := Lib.hid hxv
      replace hx := Lib.hid hx
      replace hout := Lib.hid hout
      replace hps' := Lib.hid hps'
      generalize hda : (digR a : Int) = da' at *
      generalize hdb : (digR b : Int) = db' at *
      replace hda := Lib.hid hda
      replace hdb := Lib.hid hdb
      clear r1 r3 hd1 hown hbel hI
      replace hk2 := Lib.hid hk2
      go_wp2_with fail
      refine wp_region_held_drew (S := fun w' => True) (by kernel_rfl) (by trivial) (fun hHeld => ?_)
      refine take_l (i := 0) (v := ?_) rfl (by kernel_rfl) (by kernel_rfl) (by kernel_rfl) (fun _ _ _ h => h) (Or.inl ⟨by kernel_rfl, ?_⟩) (by assumption) ?_
      rotate_left
      · intro w hSw; (try dsimp only at hSw); go_simp; (try with_reducible rfl)
      (try simp only [Act.put, List.setIfInBounds_toArray, List.set_cons_zero, List.set_cons_succ])
      refine take_l (i := 1) (v := ?_) rfl (by kernel_rfl) (by kernel_rfl) (by kernel_rfl) (fun _ _ _ h => h) (Or.inl ⟨by kernel_rfl, ?_⟩) (by assumption) ?_
      rotate_left
      · intro w hSw; (try dsimp only at hSw); go_simp; (try with_reducible rfl)
      (try simp only [Act.put, List.setIfInBounds_toArray, List.set_cons_zero, List.set_cons_succ])
      refine take_l (i := 2) (v := ?_) rfl (by kernel_rfl) (by kernel_rfl) (by kernel_rfl) (fun _ _ _ h => h) (Or.inl ⟨by kernel_rfl, ?_⟩) (by assumption) ?_
      rotate_left
      · intro w hSw; (try dsimp only at hSw); go_simp; (try with_reducible rfl)
      (try simp only [Act.put, List.setIfInBounds_toArray, List.set_cons_zero, List.set_cons_succ])
      refine take_l (i := 3) (v := ?_) rfl (by kernel_rfl) (by kernel_rfl) (by kernel_rfl) (fun _ _ _ h => h) (Or.inl ⟨by kernel_rfl, ?_⟩) (by assumption) ?_
      rotate_left
      · intro w hSw; (try dsimp only at hSw); go_simp; (try with_reducible rfl)
      (try simp only [Act.put, List.setIfInBounds_toArray, List.set_cons_zero, List.set_cons_succ])
      refine take_l (i := 6) (v := ?_) rfl (by kernel_rfl) (by kernel_rfl) (by kernel_rfl) (fun _ _ _ h => h) (Or.inl ⟨by kernel_rfl, ?_⟩) (by assumption) ?_
      rotate_left
      · intro w hSw; (try dsimp only at hSw); go_simp; (try with_reducible rfl)
      (try simp only [Act.put, List.setIfInBounds_toArray, List.set_cons_zero, List.set_cons_succ])
      refine take_l (i := 7) (v := ?_) rfl (by kernel_rfl) (by kernel_rfl) (by kernel_rfl) (fun _ _ _ h => h) (Or.inl ⟨by kernel_rfl, ?_⟩) (by assumption) ?_
      rotate_left
      · intro w hSw; (try dsimp only at hSw); go_simp; (try with_reducible rfl)
      (try simp only [Act.put, List.setIfInBounds_toArray, List.set_cons_zero, List.set_cons_succ])
      refine take_l (i := 8) (v := ?_) rfl (by kernel_rfl) (by kernel_rfl) (by kernel_rfl) (fun _ _ _ h => h) (Or.inl ⟨by kernel_rfl, ?_⟩) (by assumption) ?_
      rotate_left
      · intro w hSw; (try dsimp only at hSw); go_simp; (try with_reducible rfl)
      (try simp only [Act.put, List.setIfInBounds_toArray, List.set_cons_zero, List.set_cons_succ])
      refine take_l (i := 9) (v := ?_) rfl (by kernel_rfl) (by kernel_rfl) (by kernel_rfl) (fun _ _ _ h => h) (Or.inl ⟨by kernel_rfl, ?_⟩) (by assumption) ?_
      rotate_left
      · intro w hSw; (try dsimp only at hSw); go_simp; (try with_reducible rfl)
      (try simp only [Act.put, List.setIfInBounds_toArray, List.set_cons_zero, List.set_cons_succ])
      refine wpAnyH_ready (rs := [4]) (by kernel_rfl) (by simp) ?_
      refine ready_l rfl (fun K hK => ?_) AllReadyH.nil
      go_simp
      refine (hca _).mono ?_
      rintro e w1 ⟨rfl, hw⟩
      subst w1
      refine hK.out _ _ (by trivial) (fun hHeld => ?_)
      clear hK K
      (try simp only [Act.put, List.setIfInBounds_toArray, List.set_cons_zero, List.set_cons_succ])
      refine take_l (i := 5) (v := ?_) rfl (by kernel_rfl) (by kernel_rfl) (by kernel_rfl) (fun _ _ _ h => h) (Or.inl ⟨by kernel_rfl, ?_⟩) (by assumption) ?_
      rotate_left
      · intro w hSw; (try dsimp only at hSw); go_simp; (try with_reducible rfl)
      (try simp only [Act.put, List.setIfInBounds_toArray, List.set_cons_zero, List.set_cons_succ])
      refine wpAnyH_ready (rs := [10]) (by kernel_rfl) (by simp) ?_
      refine ready_l rfl (fun K hK => ?_) AllReadyH.nil
      go_simp
      refine (hcb _).mono ?_
      rintro e w1 ⟨rfl, hw⟩
      subst w1
      refine hK.out _ _ (by trivial) (fun hHeld => ?_)
      clear hK K
      (try simp only [Act.put, List.setIfInBounds_toArray, List.set_cons_zero, List.set_cons_succ])
      refine take_l (i := 11) (v := ?_) rfl (by kernel_rfl) (by kernel_rfl) (by kernel_rfl) (fun _ _ _ h => h) (Or.inl ⟨by kernel_rfl, ?_⟩) (by assumption) ?_
      rotate_left
      · intro w hSw; (try dsimp only at hSw); go_simp; (try with_reducible rfl)
      (try simp only [Act.put, List.setIfInBounds_toArray, List.set_cons_zero, List.set_cons_succ])
      refine wpAnyH_ready (rs := [12]) (by kernel_rfl) (by simp) ?_
      refine ready_l rfl (fun K hK => ?_) AllReadyH.nil
      go_simp
      refine hK.out _ _ (by trivial) (fun hHeld => ?_)
      clear hK K
      (try simp only [Act.put, List.setIfInBounds_toArray, List.set_cons_zero, List.set_cons_succ])
      refine wpAnyH_ready (rs := [13]) (by kernel_rfl) (by simp) ?_
      refine ready_l rfl (fun K hK => ?_) AllReadyH.nil
      refine step_append_known rfl _ _ _ _ rfl _ _ rfl rfl hrun.out ?_
      (try simp only [Act.put, List.setIfInBounds_toArray, List.set_cons_zero, List.set_cons_succ])
      refine hK.out _ _ (by trivial) (fun hHeld => ?_)
      clear hK K
      (try simp only [Act.put, List.setIfInBounds_toArray, List.set_cons_zero, List.set_cons_succ])
      refine take_l (i := 14) (v := ?_) rfl (by kernel_rfl) (by kernel_rfl) (by kernel_rfl) (fun _ _ _ h => h) (Or.inl ⟨by kernel_rfl, ?_⟩) (by assumption) ?_
      rotate_left
      · intro w hSw; (try dsimp only at hSw); go_simp; (try with_reducible rfl)
      (try simp only [Act.put, List.setIfInBounds_toArray, List.set_cons_zero, List.set_cons_succ])
      refine wpAnyH_done (by kernel_rfl) ?_ _
      go_wp2_with fail
      exact ⟨⟨k + 1, by omega, by first | rfl | go_num, hIn⟩, by have := hk2.out; simp [intOf]; omega⟩
    · have hd : decide ((k2 : Int) + 1 < (P.size : Int)) = false := decide_eq_false (by omega)
      have hj1 : ¬ k2 + 1 < P.size := by omega
      have hown := hI.out.own
      rw [unhex_tail s k hlt] at hown
      have hcv := conv_own hown
      have hB := hI.out.below
      obtain ⟨ao, vc, rfl⟩ := own_val hown
      replace hps' := Lib.hid hps'
      replace hk2 := Lib.hid hk2
      go_wp2_with fail
      go_ret
      exact ⟨rfl, hB⟩
end Go.Proofs.YtcpfmlaipejfpaaGreatDoor
namespace Go.Proofs.YtcpfmlaipejfpaaGreatDoor
open Go.RowKit Go.Shelf

attribute [local go_sem] Oper.semAt_some

theorem arr_apart {w w' : World} {B n s b : Nat} {e T : TypeId} {v : Value} {xs L : List Value} (hA : Arr w b T L) (h : w.ownsRow B e s v n xs) (he : e ≠ T) (hg : w.grownBy w' v.ownBlock) : Arr w' b T L :=
  (hg.block b hA.lt fun e' => by
    obtain ⟨_, _, cur, hc⟩ := own_block h e'.symm
    have hx : w.heap[b]? = some (.cells L.toArray T (0, 0)) := hA
    rw [hx] at hc
    injection hc with hc
    injection hc with _ h2
    exact he h2.symm).trans hA
/-- One word more: what else stays. -/
theorem append_word2 (ws : World) (base : Nat) (v : Value) (l : List (List UInt8)) (p : List UInt8) (hown : ws.ownsRow base 9 1 v l.length (wordCells l)) (hl : l.length ≤ 10000000) (hb : base ≤ ws.heap.size) :
    ∃ v' w', (Builtin.append_ #[45, 45] 45 #[v, .slice (some ⟨ws.heap.size, 0, none⟩) 1 1]).run Tryz.prog (ws.alloc (.cells #[.string (str p)] 9)) = .ok v' w' ∧
      w'.ownsRow base 9 1 v' (l ++ [p]).length (wordCells (l ++ [p])) ∧ (∀ B u, B ≤ base → Below B u ws → Below B u w') ∧ ∀ b T L, 9 ≠ T → Arr ws b T L → Arr w' b T L := by
  obtain ⟨i0, hi, hz0, hz1, hz2⟩ := info_parts info_str4
  have hown2 := own_below hown ((Below.refl ws.heap.size ws).alloc (Nat.le_refl _) (.cells #[.string (str p)] 9))
  have hnew : Arr (ws.alloc (.cells #[.string (str p)] 9)) ws.heap.size 9 (wordCells [p]) := Arr.new rfl rfl
  obtain ⟨v', w', hrun, r1, r2, r3, r4⟩ := run_append_own_at (P := Tryz.prog) (ws.alloc (.cells #[.string (str p)] 9)) base 45 45 9 i0 (.string ⟨#[]⟩) 1 16 Tryz.underlying45 hi hz0 hz1 hz2 rfl (by decide) v l.length (wordCells l) hown2 ⟨ws.heap.size, 0, none⟩ 1 1 (wordCells [p]) rfl (fun j u hu => by rw [Addr.add_mid, Nat.zero_add]; exact hnew.cell hu)
    (by intro u hu; simp [wordCells] at hu; rcases hu with rfl; rfl) (by unfold maxLen; omega) (by omega) (by simp; omega)
  refine ⟨v', w', hrun, by rw [List.length_append, wordCells_app]; exact r1, fun B u hB hu => ?_, fun b T L hT hA => ?_⟩
  · exact (hu.alloc (by omega) _).grown r2 (by simp; omega) (fun j ej => Nat.le_trans hB (hown2.lt j ej).1)
  · exact arr_apart (hA.alloc _) hown2 hT r2
def lenOf : Value → Nat | .slice _ n _ => n | _ => 0
def padW (ws : List (List UInt8)) (j : Nat) : List (List UInt8) := ws ++ List.replicate j []
theorem padW_get (ws : List (List UInt8)) (j i : Nat) : (padW ws j)[i]! = ws[i]! := by
  unfold padW
  by_cases h : i < ws.length
  · rw [getElem!_pos _ i (by rw [List.length_append]; omega), getElem!_pos ws i h, List.getElem_append_left h]
  · rw [getElem!_neg ws i h]
    by_cases h2 : i < (ws ++ List.replicate j ([] : List UInt8)).length
    · rw [getElem!_pos _ i h2, List.getElem_append_right (by omega), List.getElem_replicate]
      rfl
    · rw [getElem!_neg _ i h2]
theorem padW_succ (ws : List (List UInt8)) (j : Nat) : padW ws (j + 1) = padW ws j ++ [[]] := by
  unfold padW
  rw [List.replicate_succ', List.append_assoc]
theorem padW_len (ws : List (List UInt8)) (j : Nat) : (padW ws j).length = ws.length + j := by
  unfold padW
  rw [List.length_append, List.length_replicate]
/-- The field that is being made, in its box; the words. -/
structure FAt (B : Nat) (w0 : World) (g bF bR : Nat) (p : Nat → List UInt8) (f : Fld) (W : World) : Prop where
  below : Below B w0 W
  words : ∀ i, i < 4 → W.cell? ⟨g, i, none⟩ = some (.string (str (p i)))
  box : Arr W bF 55 (fldC f)
  res : Arr W bR 55 [.int .i64 0, .int .i64 0, .int .i64 0, .string ⟨#[]⟩]
  ne : g ≠ bF ∧ bF ≠ bR
  gl : g < W.heap.size
  bl : B ≤ bF ∧ B ≤ bR ∧ B ≤ W.heap.size
theorem FAt.later {B : Nat} {w0 W W' : World} {g bF bR : Nat} {p : Nat → List UInt8} {f : Fld} (h : FAt B w0 g bF bR p f W) (hb : Below W.heap.size W W') : FAt B w0 g bF bR p f W' :=
  ⟨h.below.trans (hb.mono h.bl.2.2), fun i hi => (hb.cell (p := ⟨g, i, none⟩) h.gl).trans (h.words i hi), h.box.below hb, h.res.below hb, h.ne, Nat.lt_of_lt_of_le h.gl hb.size, h.bl.1, h.bl.2.1, Nat.le_trans h.bl.2.2 hb.size⟩
theorem FAt.set {B : Nat} {w0 W : World} {g bF bR : Nat} {p : Nat → List UInt8} {f f' : Fld} (h : FAt B w0 g bF bR p f W) (j : Nat) (u : Value) (hf : (fldC f).set j u = fldC f') : FAt B w0 g bF bR p f' (W.setCell ⟨bF, j, none⟩ u) :=
  ⟨h.below.setCell (p := ⟨bF, j, none⟩) h.bl.1 u, fun i hi => (World.cell?_setCell_other _ _ _ _ (by intro e; injection e with e1 _; exact h.ne.1 e1.symm)).trans (h.words i hi), by rw [← hf]; exact h.box.set j u, h.res.other u h.ne.2, h.ne, by simpa [World.setCell] using h.gl, h.bl.1, h.bl.2.1, by simpa [World.setCell] using h.bl.2.2⟩
theorem own_words {w : World} {B : Nat} {v : Value} {l : List (List UInt8)} (h : w.ownsRow B 9 1 v l.length (wordCells l)) (hl : 0 < l.length) : ∃ g c, v = .slice (some ⟨g, 0, none⟩) l.length c ∧ B ≤ g ∧ g < w.heap.size ∧ ∀ i, i < l.length → w.cell? ⟨g, i, none⟩ = some (.string (str l[i]!)) := by
  obtain ⟨g, c, hv, hB, _, _, hlt, hc, _⟩ := own_cells3 h hl
  refine ⟨g, c, hv, hB, hlt, fun i hi => hc i _ ?_⟩
  unfold wordCells
  rw [List.getElem?_map, List.getElem?_eq_getElem hi, getElem!_pos l i hi]
  rfl
theorem cell_type {w : World} {g i : Nat} {s : ByteArray} {b : Nat} {T : TypeId} {f : Fld} (hc : w.cell? ⟨g, i, none⟩ = some (.string s)) (hA : Arr w b T (fldC f)) (hi : i < 3) : g ≠ b := by
  rintro rfl
  rw [hA.cell? i] at hc
  obtain rfl | rfl | rfl : i = 0 ∨ i = 1 ∨ i = 2 := by omega
  all_goals (simp [fldC] at hc)
set_option maxRecDepth 100000 in
set_option maxHeartbeats 16000000 in
theorem fieldT_any (B : Nat) (v : Value) (ws : List (List UInt8)) (w : World) (h : w.ownsRow B 9 1 v ws.length (wordCells ws)) (h0 : 0 < ws.length) (hl : ws.length ≤ 1000000) (hs : ∀ i : Nat, (ws[i]!).length ≤ 100000) (hB : B ≤ w.heap.size) :
    Calls Tryz.prog 49 #[v] w fun e w' => e = .returned (fldV (fieldR ws)) ∧ Below B w w' := by
  obtain ⟨W0, hW0⟩ : ∃ W0, W0 = (w.alloc (.cells #[.int .i64 0, .int .i64 0, .int .i64 0, .string ⟨#[]⟩] 55)).alloc (.cells #[.int .i64 0, .int .i64 0, .int .i64 (-1), .string ⟨#[]⟩] 55) := ⟨_, rfl⟩
  have hR1 : Arr (w.alloc (.cells #[.int .i64 0, .int .i64 0, .int .i64 0, .string ⟨#[]⟩] 55)) w.heap.size 55 [.int .i64 0, .int .i64 0, .int .i64 0, .string ⟨#[]⟩] := Arr.new rfl rfl
  have hR : Arr W0 w.heap.size 55 [.int .i64 0, .int .i64 0, .int .i64 0, .string ⟨#[]⟩] := by rw [hW0]; exact hR1.alloc _
  have hF : Arr W0 (w.heap.size + 1) 55 (fldC ⟨0, 0, -1, []⟩) := by rw [hW0]; exact Arr.new rfl (by simp)
  have hb0 : Below w.heap.size w W0 := by rw [hW0]; exact ((Below.refl _ _).alloc (Nat.le_refl _) _).alloc (by simp) _
  have hown0 : Hid (W0.ownsRow B 9 1 v (padW ws 0).length (wordCells (padW ws 0)) ∧ Below B w W0 ∧ Arr W0 w.heap.size 55 [.int .i64 0, .int .i64 0, .int .i64 0, .string ⟨#[]⟩] ∧ Arr W0 (w.heap.size + 1) 55 (fldC ⟨0, 0, -1, []⟩)) := ⟨by unfold padW; rw [List.replicate_zero, List.append_nil]; exact own_below h hb0, hb0.mono hB, hR, hF⟩
  obtain ⟨av, cv, rfl⟩ := own_val h
  clear h hR1 hR hF hb0
  go_enter Tryz.func49, Tryz.ntmps49
  go_wp2_with fail
  rw [← hW0]
  clear hW0
  go_loopw [0] (fun z wr => ∃ (j : Nat) (v : Value), z = v ∧ (j = 0 ∨ ws.length + j ≤ 4) ∧ Hid (wr.ownsRow B 9 1 v (padW ws j).length (wordCells (padW ws j)) ∧ Below B w wr ∧ Arr wr w.heap.size 55 [.int .i64 0, .int .i64 0, .int .i64 0, .string ⟨#[]⟩] ∧ Arr wr (w.heap.size + 1) 55 (fldC ⟨0, 0, -1, []⟩))) (fun z _ => 4 - lenOf z)
  case atStart => exact ⟨0, _, rfl, .inl rfl, by have := padW_len ws 0; rw [Nat.add_zero] at this; exact hown0⟩
  case round =>
    obtain ⟨j, v, hz, hj, hI⟩ := hrel
    obtain ⟨hown, hBw, hRr, hFr⟩ := hI.out
    have hpl := padW_len ws j
    obtain ⟨av2, cv2, rfl⟩ := own_val hown
    subst hz
    by_cases hlt : ws.length + j < 4
    · have hd : decide (((padW ws j).length : Int) < 4) = true := decide_eq_true (by omega)
      obtain ⟨v', w', hrun, r1, r5, r6⟩ := append_word2 wr B _ (padW ws j) [] hown (by omega) (Nat.le_trans hB hBw.size)
      rw [← padW_succ] at r1
      have hnew : Hid (w'.ownsRow B 9 1 v' (padW ws (j + 1)).length (wordCells (padW ws (j + 1))) ∧ Below B w w' ∧ Arr w' w.heap.size 55 [.int .i64 0, .int .i64 0, .int .i64 0, .string ⟨#[]⟩] ∧ Arr w' (w.heap.size + 1) 55 (fldC ⟨0, 0, -1, []⟩)) := ⟨r1, r5 _ _ (Nat.le_refl _) hBw, r6 _ _ _ (by decide) hRr, r6 _ _ _ (by decide) hFr⟩
      obtain ⟨av3, cv3, rfl⟩ := own_val r1
      rw [show str [] = (⟨#[]⟩ : ByteArray) from rfl] at hrun
      have hp2 := Lib.hid (padW_len ws (j + 1))
      obtain ⟨n3, hn3⟩ : ∃ n3, n3 = (padW ws (j + 1)).length := ⟨_, rfl⟩
      rw [← hn3] at hrun
      obtain ⟨n2, hn2⟩ : ∃ n2, n2 = (padW ws j).length := ⟨_, rfl⟩
      rw [← hn2] at hrun hd hpl ⊢
      replace hrun := Lib.hid hrun
      replace hn3 := Lib.hid hn3
      replace hn2 := Lib.hid hn2
      replace hpl := Lib.hid hpl
      clear r1 r5 r6 hown hBw hRr hFr hI
      go_wp2_with (at_builtin; go_loud (refine wpList_append_known rfl _ _ _ _ rfl _ _ rfl rfl hrun.out ?_))
      exact ⟨⟨j + 1, _, rfl, .inr (by omega), by rw [hn3.out]; exact hnew⟩, by have := hpl.out; have := hp2.out; have := hn3.out; simp [lenOf]; omega⟩
    · have hd : decide (((padW ws j).length : Int) < 4) = false := decide_eq_false (by omega)
      obtain ⟨g, c, hv, hgB, hgl, hcs⟩ := own_words hown (by omega)
      injection hv with hv1 _ hv3
      subst hv1 hv3
      have hX : FAt B w g (w.heap.size + 1) w.heap.size (fun i => ws[i]!) ⟨0, 0, -1, []⟩ wr := ⟨hBw, fun i hi => by
        have := hcs i (by omega)
        rwa [padW_get] at this, hFr, hRr, ⟨cell_type (hcs 0 (by omega)) hFr (by omega), by omega⟩, hgl, by omega, hB, Nat.le_trans hB hBw.size⟩
      have hs0 := hs 0
      have hs1 := hs 1
      have hs2 := hs 2
      have hs3 := hs 3
      have hN1 := Lib.hid fun V => numberT_any ws[1]! V (by omega)
      have hN2 := Lib.hid fun V => numberT_any ws[2]! V (by omega)
      have hN3 := Lib.hid fun V => numberT_any ws[3]! V (by omega)
      have hU := Lib.hid fun V => unhexT_any (ws[1]!.take 34) V (by rw [List.length_take]; omega)
      obtain ⟨p0, hp0⟩ : ∃ p0, p0 = ws[0]! := ⟨_, rfl⟩
      obtain ⟨p1, hp1⟩ : ∃ p1, p1 = ws[1]! := ⟨_, rfl⟩
      obtain ⟨p2, hp2⟩ : ∃ p2, p2 = ws[2]! := ⟨_, rfl⟩
      obtain ⟨p3, hp3⟩ : ∃ p3, p3 = ws[3]! := ⟨_, rfl⟩
      obtain ⟨pw, hpw⟩ : ∃ pw : Nat → List UInt8, pw = fun i => ws[i]! := ⟨_, rfl⟩
      rw [← hpw] at hX
      have hX0 : FAt B w g (w.heap.size + 1) w.heap.size pw ⟨0, 0, -1, []⟩ wr := hX
      have k0 : pw 0 = p0 := by rw [hpw, hp0]
      have k1 : pw 1 = p1 := by rw [hpw, hp1]
      have k2 : pw 2 = p2 := by rw [hpw, hp2]
      have k3 : pw 3 = p3 := by rw [hpw, hp3]
      have hfr : Hid (fieldR ws = if p0 = literalT then ⟨1, 0, -1, unhexR (p1.take 34)⟩ else if p0 = numberT then ⟨2, (numR p1 : Nat), -1, []⟩ else if p0 = bytesT then (if p1 = fromW then ⟨3, 0, (numR p2 : Nat), []⟩ else ⟨3, (numR p1 : Nat), -1, []⟩) else if p0 = listT then ⟨4, (numR p1 : Nat), (numR p3 : Nat), []⟩ else if p0 = insideT then ⟨5, (numR p1 : Nat), (numR p3 : Nat), []⟩ else ⟨6, (numR p1 : Nat), -1, []⟩) := by show _ = _; rw [hp0, hp1, hp2, hp3]; rfl
      rw [← hp1] at hN1 hU hs1
      rw [← hp2] at hN2
      rw [← hp3] at hN3
      replace hp0 := Lib.hid hp0
      replace hp1 := Lib.hid hp1
      replace hp2 := Lib.hid hp2
      replace hp3 := Lib.hid hp3
      replace hpw := Lib.hid hpw
      replace k0 := Lib.hid k0
      replace k1 := Lib.hid k1
      replace k2 := Lib.hid k2
      replace k3 := Lib.hid k3
      have l0 : (str p0).toList = p0 := by rw [ByteArray.toList_eq, str_list]
      have l1 : (str p1).toList = p1 := by rw [ByteArray.toList_eq, str_list]
      have z1 : (str p1).size = p1.length := str_size p1
      obtain ⟨n, hn⟩ : ∃ n, n = (padW ws j).length := ⟨_, rfl⟩
      have hn4 : 4 ≤ n := by omega
      rw [← hn] at hd ⊢
      replace hn := Lib.hid hn
      have b0 : (0 : Int) < (n : Int) := by omega
      have b1 : (1 : Int) < (n : Int) := by omega
      have b2 : (2 : Int) < (n : Int) := by omega
      have b3 : (3 : Int) < (n : Int) := by omega
      replace hn4 := Lib.hid hn4
      clear hown hBw hRr hFr hI hcs hX hs0 hs2 hs3 hown0 hpl hj hlt
      have hg0 := hX0.ne.1
      obtain ⟨m, hm⟩ : ∃ m, m = min p1.length 34 := ⟨_, rfl⟩
      have hmin : min (p1.length : Int) 34 = (m : Int) := by omega
      have m0 : (0 : Int) ≤ (m : Int) := by omega
      have m1 : (m : Int) ≤ (p1.length : Int) := by omega
      have hex : (str p1).extract 0 m = str (p1.take 34) := by
        rw [extract_part, List.drop_zero, Nat.sub_zero, hm]
        congr 1
        rw [List.take_eq_take_iff]
        omega
      replace hm := Lib.hid hm
      by_cases hn0 : p0 = literalT
      · have q0 : (p0 == [108, 105, 116, 101, 114, 97, 108]) = true := by rw [beq_iff_eq]; exact hn0
        have hfx : Hid (fieldR ws = ⟨1, 0, -1, unhexR (p1.take 34)⟩) := by show _ = _; rw [hfr.out]; rw [if_pos hn0]
        clear hfr hn0
        have d0 := hX0.words 0 (by omega)
        rw [k0.out] at d0
        have c0 := hX0.box.cell (j := 0) rfl
        have e0 := hX0.box.free 0
        obtain ⟨W1, hW1⟩ : ∃ W1, W1 = wr.setCell ⟨w.heap.size + 1, 0, none⟩ (.int .i64 1) := ⟨_, rfl⟩
        have hX1 : FAt B w g (w.heap.size + 1) w.heap.size pw ⟨1, 0, -1, []⟩ W1 := by rw [hW1]; exact hX0.set 0 _ rfl
        go_upto_region 9 with fail
        rw [← hW1]
        clear hW1
        clear d0 c0 e0
        have d1 := hX1.words 1 (by omega)
        rw [k1.out] at d1
        go_wp2_with fail
        refine wp_region_held_drew (S := fun w' => w'.cell? ⟨g, 1, none⟩ = some (.string (str p1))) (by kernel_rfl) (by exact d1) (fun hHeld => ?_)
        refine take_l (i := 0) (v := ?_) rfl (by kernel_rfl) (by kernel_rfl) (by kernel_rfl) (fun _ _ _ h => h) (Or.inl ⟨by kernel_rfl, ?_⟩) (by assumption) ?_
        rotate_left
        · intro w hSw; (try dsimp only at hSw); go_simp; (try with_reducible rfl)
        (try simp only [Act.put, List.setIfInBounds_toArray, List.set_cons_zero, List.set_cons_succ])
        refine take_l (i := 1) (v := ?_) rfl (by kernel_rfl) (by kernel_rfl) (by kernel_rfl) (fun _ _ _ h => h) (Or.inl ⟨by kernel_rfl, ?_⟩) (by assumption) ?_
        rotate_left
        · intro w hSw; (try dsimp only at hSw); go_simp; (try with_reducible rfl)
        (try simp only [Act.put, List.setIfInBounds_toArray, List.set_cons_zero, List.set_cons_succ])
        refine take_l (i := 2) (v := ?_) rfl (by kernel_rfl) (by kernel_rfl) (by kernel_rfl) (fun _ _ _ h => h) (Or.inl ⟨by kernel_rfl, ?_⟩) (by assumption) ?_
        rotate_left
        · intro w hSw; (try dsimp only at hSw); go_simp; (try with_reducible rfl)
        (try simp only [Act.put, List.setIfInBounds_toArray, List.set_cons_zero, List.set_cons_succ])
        refine take_l (i := 3) (v := ?_) rfl (by kernel_rfl) (by kernel_rfl) (by kernel_rfl) (fun _ _ _ h => h) (Or.inl ⟨by kernel_rfl, ?_⟩) (by assumption) ?_
        rotate_left
        · intro w hSw; (try dsimp only at hSw); go_simp; (try with_reducible rfl)
        (try simp only [Act.put, List.setIfInBounds_toArray, List.set_cons_zero, List.set_cons_succ])
        refine take_l (i := 4) (v := ?_) rfl (by kernel_rfl) (by kernel_rfl) (by kernel_rfl) (fun _ _ _ h => h) (Or.inl ⟨by kernel_rfl, ?_⟩) (by assumption) ?_
        rotate_left
        · intro w hSw; (try dsimp only at hSw); go_simp; (try with_reducible rfl)
        (try simp only [Act.put, List.setIfInBounds_toArray, List.set_cons_zero, List.set_cons_succ])
        refine take_l (i := 5) (v := ?_) rfl (by kernel_rfl) (by kernel_rfl) (by kernel_rfl) (fun _ _ _ h => h) (Or.inl ⟨by kernel_rfl, ?_⟩) (by assumption) ?_
        rotate_left
        · intro w hSw; (try dsimp only at hSw); go_simp; (try with_reducible rfl)
        (try simp only [Act.put, List.setIfInBounds_toArray, List.set_cons_zero, List.set_cons_succ])
        refine take_l (i := 6) (v := ?_) rfl (by kernel_rfl) (by kernel_rfl) (by kernel_rfl) (fun _ _ _ h => h) (Or.inl ⟨by kernel_rfl, ?_⟩) (by assumption) ?_
        rotate_left
        · intro w hSw; (try dsimp only at hSw); go_simp; (try with_reducible rfl)
        (try simp only [Act.put, List.setIfInBounds_toArray, List.set_cons_zero, List.set_cons_succ])
        refine take_l (i := 7) (v := ?_) rfl (by kernel_rfl) (by kernel_rfl) (by kernel_rfl) (fun _ _ _ h => h) (Or.inl ⟨by kernel_rfl, ?_⟩) (by assumption) ?_
        rotate_left
        · intro w hSw; (try dsimp only at hSw); go_simp; (try with_reducible rfl)
        (try simp only [Act.put, List.setIfInBounds_toArray, List.set_cons_zero, List.set_cons_succ])
        refine take_l (i := 8) (v := ?_) rfl (by kernel_rfl) (by kernel_rfl) (by kernel_rfl) (fun _ _ _ h => h) (Or.inl ⟨by kernel_rfl, ?_⟩) (by assumption) ?_
        rotate_left
        · intro w hSw; (try dsimp only at hSw); go_simp; (try with_reducible rfl)
        (try simp only [Act.put, List.setIfInBounds_toArray, List.set_cons_zero, List.set_cons_succ])
        refine wpAnyH_ready (rs := [9]) (by kernel_rfl) (by simp) ?_
        refine ready_l rfl (fun K hK => ?_) AllReadyH.nil
        go_simp
        ((with_reducible refine ((hU.out W1.drew)).mono ?_); rintro e vA ⟨rfl, hbvA⟩; have hBvA : Below W1.heap.size W1 vA := Below.trans (by repeat first | with_reducible exact Below.refl _ _ | with_reducible assumption | with_reducible refine below_drewN ?_ _ | with_reducible refine Below.drew ?_ | with_reducible refine Below.setCell ?_ (by first | exact Nat.le_refl _ | (simp; done) | (simp; omega) | omega) _ | with_reducible refine Below.alloc ?_ (by first | exact Nat.le_refl _ | (simp; done) | (simp; omega) | omega) _ | exact Below.refl _ _ | assumption) (hbvA.mono (by first | exact Nat.le_refl _ | assumption | (simp; done) | (simp; omega) | omega)); have hzvA := hbvA.size; have hXA := (hX1.later (Below.refl _ _).drew).later hbvA; have d1A := hXA.words 1 (by omega); rw [k1.out] at d1A; have c3A := hXA.box.cell (j := 3) rfl; have e3A := hXA.box.free 3)
        refine hK.out _ _ (by exact d1A) (fun hHeld => ?_)
        clear hK K
        (try simp only [Act.put, List.setIfInBounds_toArray, List.set_cons_zero, List.set_cons_succ])
        refine take_l (i := 10) (v := ?_) rfl (by kernel_rfl) (by kernel_rfl) (by kernel_rfl) (fun _ _ _ h => h) (Or.inl ⟨by kernel_rfl, ?_⟩) (by assumption) ?_
        rotate_left
        · intro w hSw; (try dsimp only at hSw); go_simp; (try with_reducible rfl)
        (try simp only [Act.put, List.setIfInBounds_toArray, List.set_cons_zero, List.set_cons_succ])
        refine wpAnyH_ready (rs := [11]) (by kernel_rfl) (by simp) ?_
        refine ready_l rfl (fun K hK => ?_) AllReadyH.nil
        go_simp
        refine hK.out _ _ (by (have hz := (hXA.set 3 (.string (str (unhexR (p1.take 34)))) (f' := ⟨1, 0, -1, unhexR (p1.take 34)⟩) rfl).words 1 (by omega); rw [k1.out] at hz; exact hz)) (fun hHeld => ?_)
        clear hK K
        (try simp only [Act.put, List.setIfInBounds_toArray, List.set_cons_zero, List.set_cons_succ])
        refine wpAnyH_done (by kernel_rfl) ?_ _
        obtain ⟨W2, hW2⟩ : ∃ W2, W2 = vA.setCell ⟨w.heap.size + 1, 3, none⟩ (.string (str (unhexR (p1.take 34)))) := ⟨_, rfl⟩
        have hX2 : FAt B w g (w.heap.size + 1) w.heap.size pw ⟨1, 0, -1, unhexR (p1.take 34)⟩ W2 := by rw [hW2]; exact hXA.set 3 _ rfl
        rw [← hW2]
        clear hW2
        have c0 := hX2.box.cell (j := 0) rfl
        have c1 := hX2.box.cell (j := 1) rfl
        have c2 := hX2.box.cell (j := 2) rfl
        have c3 := hX2.box.cell (j := 3) rfl
        have r0 := hX2.res.cell (j := 0) rfl
        have t0 := hX2.res.free 0
        have r1 := hX2.res.cell (j := 1) rfl
        have t1 := hX2.res.free 1
        have r2 := hX2.res.cell (j := 2) rfl
        have t2 := hX2.res.free 2
        have r3 := hX2.res.cell (j := 3) rfl
        have t3 := hX2.res.free 3
        have hfinal : Arr ((((W2.setCell ⟨w.heap.size, 0, none⟩ (.int .i64 (1))).setCell ⟨w.heap.size, 1, none⟩ (.int .i64 (0))).setCell ⟨w.heap.size, 2, none⟩ (.int .i64 (-1))).setCell ⟨w.heap.size, 3, none⟩ (.string (str (unhexR (p1.take 34))))) w.heap.size 55 (fldC ⟨1, 0, -1, unhexR (p1.take 34)⟩) := (((hX2.res.set 0 _).set 1 _).set 2 _).set 3 _
        have hbelow : Below B w ((((W2.setCell ⟨w.heap.size, 0, none⟩ (.int .i64 (1))).setCell ⟨w.heap.size, 1, none⟩ (.int .i64 (0))).setCell ⟨w.heap.size, 2, none⟩ (.int .i64 (-1))).setCell ⟨w.heap.size, 3, none⟩ (.string (str (unhexR (p1.take 34))))) := (((hX2.below.setCell (p := ⟨w.heap.size, 0, none⟩) hB _).setCell (p := ⟨w.heap.size, 1, none⟩) hB _).setCell (p := ⟨w.heap.size, 2, none⟩) hB _).setCell (p := ⟨w.heap.size, 3, none⟩) hB _
        replace hfinal := Lib.hid hfinal
        replace hbelow := Lib.hid hbelow
        go_wp2_with fail
        exact bodyPost_ret (arr_result (p := 2) (ty := 55) (n := 4) (by kernel_rfl) _ hfinal.out rfl Tryz.underlying55 rfl (by kernel_rfl) rfl) rfl ⟨by rw [hfx.out]; rfl, hbelow.out⟩
      · by_cases hn1 : p0 = numberT
        · have q0 : (p0 == [108, 105, 116, 101, 114, 97, 108]) = false := by rw [beq_eq_false_iff_ne]; exact hn0
          have q1 : (p0 == [110, 117, 109, 98, 101, 114]) = true := by rw [beq_iff_eq]; exact hn1
          have hfx : Hid (fieldR ws = ⟨2, (numR p1 : Nat), -1, []⟩) := by show _ = _; rw [hfr.out]; rw [if_neg hn0, if_pos hn1]
          clear hfr hn0 hn1
          have d0 := hX0.words 0 (by omega)
          rw [k0.out] at d0
          have c0 := hX0.box.cell (j := 0) rfl
          have e0 := hX0.box.free 0
          obtain ⟨W1, hW1⟩ : ∃ W1, W1 = wr.setCell ⟨w.heap.size + 1, 0, none⟩ (.int .i64 2) := ⟨_, rfl⟩
          have hX1 : FAt B w g (w.heap.size + 1) w.heap.size pw ⟨2, 0, -1, []⟩ W1 := by rw [hW1]; exact hX0.set 0 _ rfl
          go_upto_region 12 with fail
          rw [← hW1]
          clear hW1
          clear d0 c0 e0
          have d1 := hX1.words 1 (by omega)
          rw [k1.out] at d1
          have c1 := hX1.box.cell (j := 1) rfl
          have e1 := hX1.box.free 1
          obtain ⟨W2, hW2⟩ : ∃ W2, W2 = W1.setCell ⟨w.heap.size + 1, 1, none⟩ (.int .i64 ((numR p1 : Nat) : Int)) := ⟨_, rfl⟩
          have hX2 : FAt B w g (w.heap.size + 1) w.heap.size pw ⟨2, (numR p1 : Nat), -1, []⟩ W2 := by rw [hW2]; exact hX1.set 1 _ rfl
          go_wp2_with fail
          refine (hN1.out _).mono ?_
          rintro e w1 ⟨rfl, hwx⟩
          subst w1
          go_upto_region 26 with fail
          rw [← hW2]
          clear hW2
          clear d1 c1 e1
          have c0 := hX2.box.cell (j := 0) rfl
          have c1 := hX2.box.cell (j := 1) rfl
          have c2 := hX2.box.cell (j := 2) rfl
          have c3 := hX2.box.cell (j := 3) rfl
          have r0 := hX2.res.cell (j := 0) rfl
          have t0 := hX2.res.free 0
          have r1 := hX2.res.cell (j := 1) rfl
          have t1 := hX2.res.free 1
          have r2 := hX2.res.cell (j := 2) rfl
          have t2 := hX2.res.free 2
          have r3 := hX2.res.cell (j := 3) rfl
          have t3 := hX2.res.free 3
          have hfinal : Arr ((((W2.setCell ⟨w.heap.size, 0, none⟩ (.int .i64 (2))).setCell ⟨w.heap.size, 1, none⟩ (.int .i64 ((numR p1 : Nat)))).setCell ⟨w.heap.size, 2, none⟩ (.int .i64 (-1))).setCell ⟨w.heap.size, 3, none⟩ (.string (str ([])))) w.heap.size 55 (fldC ⟨2, (numR p1 : Nat), -1, []⟩) := (((hX2.res.set 0 _).set 1 _).set 2 _).set 3 _
          have hbelow : Below B w ((((W2.setCell ⟨w.heap.size, 0, none⟩ (.int .i64 (2))).setCell ⟨w.heap.size, 1, none⟩ (.int .i64 ((numR p1 : Nat)))).setCell ⟨w.heap.size, 2, none⟩ (.int .i64 (-1))).setCell ⟨w.heap.size, 3, none⟩ (.string (str ([])))) := (((hX2.below.setCell (p := ⟨w.heap.size, 0, none⟩) hB _).setCell (p := ⟨w.heap.size, 1, none⟩) hB _).setCell (p := ⟨w.heap.size, 2, none⟩) hB _).setCell (p := ⟨w.heap.size, 3, none⟩) hB _
          replace hfinal := Lib.hid hfinal
          replace hbelow := Lib.hid hbelow
          go_wp2_with fail
          exact bodyPost_ret (arr_result (p := 2) (ty := 55) (n := 4) (by kernel_rfl) _ hfinal.out rfl Tryz.underlying55 rfl (by kernel_rfl) rfl) rfl ⟨by rw [hfx.out]; rfl, hbelow.out⟩
        · by_cases hn2 : p0 = bytesT
          · by_cases hf : p1 = fromW
            · have q0 : (p0 == [108, 105, 116, 101, 114, 97, 108]) = false := by rw [beq_eq_false_iff_ne]; exact hn0
              have q1 : (p0 == [110, 117, 109, 98, 101, 114]) = false := by rw [beq_eq_false_iff_ne]; exact hn1
              have q2 : (p0 == [98, 121, 116, 101, 115]) = true := by rw [beq_iff_eq]; exact hn2
              have qf : (p1 == [102, 114, 111, 109]) = true := by rw [beq_iff_eq]; exact hf
              have hfx : Hid (fieldR ws = ⟨3, 0, (numR p2 : Nat), []⟩) := by show _ = _; rw [hfr.out]; rw [if_neg hn0, if_neg hn1, if_pos hn2]; rw [if_pos hf]
              clear hfr hn0 hn1 hn2
              clear hf
              have d0 := hX0.words 0 (by omega)
              rw [k0.out] at d0
              have c0 := hX0.box.cell (j := 0) rfl
              have e0 := hX0.box.free 0
              obtain ⟨W1, hW1⟩ : ∃ W1, W1 = wr.setCell ⟨w.heap.size + 1, 0, none⟩ (.int .i64 3) := ⟨_, rfl⟩
              have hX1 : FAt B w g (w.heap.size + 1) w.heap.size pw ⟨3, 0, -1, []⟩ W1 := by rw [hW1]; exact hX0.set 0 _ rfl
              go_upto_region 15 with fail
              rw [← hW1]
              clear hW1
              clear d0 c0 e0
              have d1 := hX1.words 1 (by omega)
              rw [k1.out] at d1
              have c1 := hX1.box.cell (j := 1) rfl
              have e1 := hX1.box.free 1
              obtain ⟨W2, hW2⟩ : ∃ W2, W2 = W1.setCell ⟨w.heap.size + 1, 1, none⟩ (.int .i64 ((numR p1 : Nat) : Int)) := ⟨_, rfl⟩
              have hX2 : FAt B w g (w.heap.size + 1) w.heap.size pw ⟨3, (numR p1 : Nat), -1, []⟩ W2 := by rw [hW2]; exact hX1.set 1 _ rfl
              go_wp2_with fail
              refine (hN1.out _).mono ?_
              rintro e w1 ⟨rfl, hwx⟩
              subst w1
              go_upto_region 16 with fail
              rw [← hW2]
              clear hW2
              clear d1 c1 e1
              have d1 := hX2.words 1 (by omega)
              rw [k1.out] at d1
              have c1 := hX2.box.cell (j := 1) rfl
              have e1 := hX2.box.free 1
              obtain ⟨W3, hW3⟩ : ∃ W3, W3 = W2.setCell ⟨w.heap.size + 1, 1, none⟩ (.int .i64 0) := ⟨_, rfl⟩
              have hX3 : FAt B w g (w.heap.size + 1) w.heap.size pw ⟨3, 0, -1, []⟩ W3 := by rw [hW3]; exact hX2.set 1 _ rfl
              go_upto_region 18 with fail
              rw [← hW3]
              clear hW3
              clear d1 c1 e1
              have d2 := hX3.words 2 (by omega)
              rw [k2.out] at d2
              have c2 := hX3.box.cell (j := 2) rfl
              have e2 := hX3.box.free 2
              obtain ⟨W4, hW4⟩ : ∃ W4, W4 = W3.setCell ⟨w.heap.size + 1, 2, none⟩ (.int .i64 ((numR p2 : Nat) : Int)) := ⟨_, rfl⟩
              have hX4 : FAt B w g (w.heap.size + 1) w.heap.size pw ⟨3, 0, (numR p2 : Nat), []⟩ W4 := by rw [hW4]; exact hX3.set 2 _ rfl
              go_wp2_with fail
              refine (hN2.out _).mono ?_
              rintro e w1 ⟨rfl, hwx⟩
              subst w1
              go_upto_region 26 with fail
              rw [← hW4]
              clear hW4
              clear d2 c2 e2
              have c0 := hX4.box.cell (j := 0) rfl
              have c1 := hX4.box.cell (j := 1) rfl
              have c2 := hX4.box.cell (j := 2) rfl
              have c3 := hX4.box.cell (j := 3) rfl
              have r0 := hX4.res.cell (j := 0) rfl
              have t0 := hX4.res.free 0
              have r1 := hX4.res.cell (j := 1) rfl
              have t1 := hX4.res.free 1
              have r2 := hX4.res.cell (j := 2) rfl
              have t2 := hX4.res.free 2
              have r3 := hX4.res.cell (j := 3) rfl
              have t3 := hX4.res.free 3
              have hfinal : Arr ((((W4.setCell ⟨w.heap.size, 0, none⟩ (.int .i64 (3))).setCell ⟨w.heap.size, 1, none⟩ (.int .i64 (0))).setCell ⟨w.heap.size, 2, none⟩ (.int .i64 ((numR p2 : Nat)))).setCell ⟨w.heap.size, 3, none⟩ (.string (str ([])))) w.heap.size 55 (fldC ⟨3, 0, (numR p2 : Nat), []⟩) := (((hX4.res.set 0 _).set 1 _).set 2 _).set 3 _
              have hbelow : Below B w ((((W4.setCell ⟨w.heap.size, 0, none⟩ (.int .i64 (3))).setCell ⟨w.heap.size, 1, none⟩ (.int .i64 (0))).setCell ⟨w.heap.size, 2, none⟩ (.int .i64 ((numR p2 : Nat)))).setCell ⟨w.heap.size, 3, none⟩ (.string (str ([])))) := (((hX4.below.setCell (p := ⟨w.heap.size, 0, none⟩) hB _).setCell (p := ⟨w.heap.size, 1, none⟩) hB _).setCell (p := ⟨w.heap.size, 2, none⟩) hB _).setCell (p := ⟨w.heap.size, 3, none⟩) hB _
              replace hfinal := Lib.hid hfinal
              replace hbelow := Lib.hid hbelow
              go_wp2_with fail
              exact bodyPost_ret (arr_result (p := 2) (ty := 55) (n := 4) (by kernel_rfl) _ hfinal.out rfl Tryz.underlying55 rfl (by kernel_rfl) rfl) rfl ⟨by rw [hfx.out]; rfl, hbelow.out⟩
            · have q0 : (p0 == [108, 105, 116, 101, 114, 97, 108]) = false := by rw [beq_eq_false_iff_ne]; exact hn0
              have q1 : (p0 == [110, 117, 109, 98, 101, 114]) = false := by rw [beq_eq_false_iff_ne]; exact hn1
              have q2 : (p0 == [98, 121, 116, 101, 115]) = true := by rw [beq_iff_eq]; exact hn2
              have qf : (p1 == [102, 114, 111, 109]) = false := by rw [beq_eq_false_iff_ne]; exact hf
              have hfx : Hid (fieldR ws = ⟨3, (numR p1 : Nat), -1, []⟩) := by show _ = _; rw [hfr.out]; rw [if_neg hn0, if_neg hn1, if_pos hn2]; rw [if_neg hf]
              clear hfr hn0 hn1 hn2
              clear hf
              have d0 := hX0.words 0 (by omega)
              rw [k0.out] at d0
              have c0 := hX0.box.cell (j := 0) rfl
              have e0 := hX0.box.free 0
              obtain ⟨W1, hW1⟩ : ∃ W1, W1 = wr.setCell ⟨w.heap.size + 1, 0, none⟩ (.int .i64 3) := ⟨_, rfl⟩
              have hX1 : FAt B w g (w.heap.size + 1) w.heap.size pw ⟨3, 0, -1, []⟩ W1 := by rw [hW1]; exact hX0.set 0 _ rfl
              go_upto_region 15 with fail
              rw [← hW1]
              clear hW1
              clear d0 c0 e0
              have d1 := hX1.words 1 (by omega)
              rw [k1.out] at d1
              have c1 := hX1.box.cell (j := 1) rfl
              have e1 := hX1.box.free 1
              obtain ⟨W2, hW2⟩ : ∃ W2, W2 = W1.setCell ⟨w.heap.size + 1, 1, none⟩ (.int .i64 ((numR p1 : Nat) : Int)) := ⟨_, rfl⟩
              have hX2 : FAt B w g (w.heap.size + 1) w.heap.size pw ⟨3, (numR p1 : Nat), -1, []⟩ W2 := by rw [hW2]; exact hX1.set 1 _ rfl
              go_wp2_with fail
              refine (hN1.out _).mono ?_
              rintro e w1 ⟨rfl, hwx⟩
              subst w1
              go_upto_region 16 with fail
              rw [← hW2]
              clear hW2
              clear d1 c1 e1
              have d1 := hX2.words 1 (by omega)
              rw [k1.out] at d1
              have c0 := hX2.box.cell (j := 0) rfl
              have c1 := hX2.box.cell (j := 1) rfl
              have c2 := hX2.box.cell (j := 2) rfl
              have c3 := hX2.box.cell (j := 3) rfl
              have r0 := hX2.res.cell (j := 0) rfl
              have t0 := hX2.res.free 0
              have r1 := hX2.res.cell (j := 1) rfl
              have t1 := hX2.res.free 1
              have r2 := hX2.res.cell (j := 2) rfl
              have t2 := hX2.res.free 2
              have r3 := hX2.res.cell (j := 3) rfl
              have t3 := hX2.res.free 3
              have hfinal : Arr ((((W2.setCell ⟨w.heap.size, 0, none⟩ (.int .i64 (3))).setCell ⟨w.heap.size, 1, none⟩ (.int .i64 ((numR p1 : Nat)))).setCell ⟨w.heap.size, 2, none⟩ (.int .i64 (-1))).setCell ⟨w.heap.size, 3, none⟩ (.string (str ([])))) w.heap.size 55 (fldC ⟨3, (numR p1 : Nat), -1, []⟩) := (((hX2.res.set 0 _).set 1 _).set 2 _).set 3 _
              have hbelow : Below B w ((((W2.setCell ⟨w.heap.size, 0, none⟩ (.int .i64 (3))).setCell ⟨w.heap.size, 1, none⟩ (.int .i64 ((numR p1 : Nat)))).setCell ⟨w.heap.size, 2, none⟩ (.int .i64 (-1))).setCell ⟨w.heap.size, 3, none⟩ (.string (str ([])))) := (((hX2.below.setCell (p := ⟨w.heap.size, 0, none⟩) hB _).setCell (p := ⟨w.heap.size, 1, none⟩) hB _).setCell (p := ⟨w.heap.size, 2, none⟩) hB _).setCell (p := ⟨w.heap.size, 3, none⟩) hB _
              replace hfinal := Lib.hid hfinal
              replace hbelow := Lib.hid hbelow
              go_wp2_with fail
              exact bodyPost_ret (arr_result (p := 2) (ty := 55) (n := 4) (by kernel_rfl) _ hfinal.out rfl Tryz.underlying55 rfl (by kernel_rfl) rfl) rfl ⟨by rw [hfx.out]; rfl, hbelow.out⟩
          · by_cases hn3 : p0 = listT
            · have q0 : (p0 == [108, 105, 116, 101, 114, 97, 108]) = false := by rw [beq_eq_false_iff_ne]; exact hn0
              have q1 : (p0 == [110, 117, 109, 98, 101, 114]) = false := by rw [beq_eq_false_iff_ne]; exact hn1
              have q2 : (p0 == [98, 121, 116, 101, 115]) = false := by rw [beq_eq_false_iff_ne]; exact hn2
              have q3 : (p0 == [108, 105, 115, 116]) = true := by rw [beq_iff_eq]; exact hn3
              have q4 : (p0 == [105, 110, 115, 105, 100, 101]) = false := by rw [hn3]; rfl
              have hfx : Hid (fieldR ws = ⟨4, (numR p1 : Nat), (numR p3 : Nat), []⟩) := by show _ = _; rw [hfr.out]; rw [if_neg hn0, if_neg hn1, if_neg hn2, if_pos hn3]
              clear hfr hn0 hn1 hn2 hn3
              have d0 := hX0.words 0 (by omega)
              rw [k0.out] at d0
              have c0 := hX0.box.cell (j := 0) rfl
              have e0 := hX0.box.free 0
              obtain ⟨W1, hW1⟩ : ∃ W1, W1 = wr.setCell ⟨w.heap.size + 1, 0, none⟩ (.int .i64 4) := ⟨_, rfl⟩
              have hX1 : FAt B w g (w.heap.size + 1) w.heap.size pw ⟨4, 0, -1, []⟩ W1 := by rw [hW1]; exact hX0.set 0 _ rfl
              go_upto_region 22 with fail
              rw [← hW1]
              clear hW1
              clear d0 c0 e0
              have d1 := hX1.words 1 (by omega)
              rw [k1.out] at d1
              have d0 := hX1.words 0 (by omega)
              rw [k0.out] at d0
              have c1 := hX1.box.cell (j := 1) rfl
              have e1 := hX1.box.free 1
              obtain ⟨W2, hW2⟩ : ∃ W2, W2 = W1.setCell ⟨w.heap.size + 1, 1, none⟩ (.int .i64 ((numR p1 : Nat) : Int)) := ⟨_, rfl⟩
              have hX2 : FAt B w g (w.heap.size + 1) w.heap.size pw ⟨4, (numR p1 : Nat), -1, []⟩ W2 := by rw [hW2]; exact hX1.set 1 _ rfl
              go_wp2_with fail
              refine (hN1.out _).mono ?_
              rintro e w1 ⟨rfl, hwx⟩
              subst w1
              go_upto_region 25 with fail
              rw [← hW2]
              clear hW2
              clear d1 d0 c1 e1
              have d3 := hX2.words 3 (by omega)
              rw [k3.out] at d3
              have c2 := hX2.box.cell (j := 2) rfl
              have e2 := hX2.box.free 2
              obtain ⟨W3, hW3⟩ : ∃ W3, W3 = W2.setCell ⟨w.heap.size + 1, 2, none⟩ (.int .i64 ((numR p3 : Nat) : Int)) := ⟨_, rfl⟩
              have hX3 : FAt B w g (w.heap.size + 1) w.heap.size pw ⟨4, (numR p1 : Nat), (numR p3 : Nat), []⟩ W3 := by rw [hW3]; exact hX2.set 2 _ rfl
              go_wp2_with fail
              refine (hN3.out _).mono ?_
              rintro e w1 ⟨rfl, hwx⟩
              subst w1
              go_upto_region 26 with fail
              rw [← hW3]
              clear hW3
              clear d3 c2 e2
              have c0 := hX3.box.cell (j := 0) rfl
              have c1 := hX3.box.cell (j := 1) rfl
              have c2 := hX3.box.cell (j := 2) rfl
              have c3 := hX3.box.cell (j := 3) rfl
              have r0 := hX3.res.cell (j := 0) rfl
              have t0 := hX3.res.free 0
              have r1 := hX3.res.cell (j := 1) rfl
              have t1 := hX3.res.free 1
              have r2 := hX3.res.cell (j := 2) rfl
              have t2 := hX3.res.free 2
              have r3 := hX3.res.cell (j := 3) rfl
              have t3 := hX3.res.free 3
              have hfinal : Arr ((((W3.setCell ⟨w.heap.size, 0, none⟩ (.int .i64 (4))).setCell ⟨w.heap.size, 1, none⟩ (.int .i64 ((numR p1 : Nat)))).setCell ⟨w.heap.size, 2, none⟩ (.int .i64 ((numR p3 : Nat)))).setCell ⟨w.heap.size, 3, none⟩ (.string (str ([])))) w.heap.size 55 (fldC ⟨4, (numR p1 : Nat), (numR p3 : Nat), []⟩) := (((hX3.res.set 0 _).set 1 _).set 2 _).set 3 _
              have hbelow : Below B w ((((W3.setCell ⟨w.heap.size, 0, none⟩ (.int .i64 (4))).setCell ⟨w.heap.size, 1, none⟩ (.int .i64 ((numR p1 : Nat)))).setCell ⟨w.heap.size, 2, none⟩ (.int .i64 ((numR p3 : Nat)))).setCell ⟨w.heap.size, 3, none⟩ (.string (str ([])))) := (((hX3.below.setCell (p := ⟨w.heap.size, 0, none⟩) hB _).setCell (p := ⟨w.heap.size, 1, none⟩) hB _).setCell (p := ⟨w.heap.size, 2, none⟩) hB _).setCell (p := ⟨w.heap.size, 3, none⟩) hB _
              replace hfinal := Lib.hid hfinal
              replace hbelow := Lib.hid hbelow
              go_wp2_with fail
              exact bodyPost_ret (arr_result (p := 2) (ty := 55) (n := 4) (by kernel_rfl) _ hfinal.out rfl Tryz.underlying55 rfl (by kernel_rfl) rfl) rfl ⟨by rw [hfx.out]; rfl, hbelow.out⟩
            · by_cases hn4 : p0 = insideT
              · have q0 : (p0 == [108, 105, 116, 101, 114, 97, 108]) = false := by rw [beq_eq_false_iff_ne]; exact hn0
                have q1 : (p0 == [110, 117, 109, 98, 101, 114]) = false := by rw [beq_eq_false_iff_ne]; exact hn1
                have q2 : (p0 == [98, 121, 116, 101, 115]) = false := by rw [beq_eq_false_iff_ne]; exact hn2
                have q3 : (p0 == [108, 105, 115, 116]) = false := by rw [beq_eq_false_iff_ne]; exact hn3
                have q4 : (p0 == [105, 110, 115, 105, 100, 101]) = true := by rw [beq_iff_eq]; exact hn4
                have hfx : Hid (fieldR ws = ⟨5, (numR p1 : Nat), (numR p3 : Nat), []⟩) := by show _ = _; rw [hfr.out]; rw [if_neg hn0, if_neg hn1, if_neg hn2, if_neg hn3, if_pos hn4]
                clear hfr hn0 hn1 hn2 hn3 hn4
                have d0 := hX0.words 0 (by omega)
                rw [k0.out] at d0
                have c0 := hX0.box.cell (j := 0) rfl
                have e0 := hX0.box.free 0
                obtain ⟨W1, hW1⟩ : ∃ W1, W1 = wr.setCell ⟨w.heap.size + 1, 0, none⟩ (.int .i64 4) := ⟨_, rfl⟩
                have hX1 : FAt B w g (w.heap.size + 1) w.heap.size pw ⟨4, 0, -1, []⟩ W1 := by rw [hW1]; exact hX0.set 0 _ rfl
                go_upto_region 22 with fail
                rw [← hW1]
                clear hW1
                clear d0 c0 e0
                have d0 := hX1.words 0 (by omega)
                rw [k0.out] at d0
                have c0 := hX1.box.cell (j := 0) rfl
                have e0 := hX1.box.free 0
                obtain ⟨W2, hW2⟩ : ∃ W2, W2 = W1.setCell ⟨w.heap.size + 1, 0, none⟩ (.int .i64 5) := ⟨_, rfl⟩
                have hX2 : FAt B w g (w.heap.size + 1) w.heap.size pw ⟨5, 0, -1, []⟩ W2 := by rw [hW2]; exact hX1.set 0 _ rfl
                go_upto_region 24 with fail
                rw [← hW2]
                clear hW2
                clear d0 c0 e0
                have d1 := hX2.words 1 (by omega)
                rw [k1.out] at d1
                have c1 := hX2.box.cell (j := 1) rfl
                have e1 := hX2.box.free 1
                obtain ⟨W3, hW3⟩ : ∃ W3, W3 = W2.setCell ⟨w.heap.size + 1, 1, none⟩ (.int .i64 ((numR p1 : Nat) : Int)) := ⟨_, rfl⟩
                have hX3 : FAt B w g (w.heap.size + 1) w.heap.size pw ⟨5, (numR p1 : Nat), -1, []⟩ W3 := by rw [hW3]; exact hX2.set 1 _ rfl
                go_wp2_with fail
                refine (hN1.out _).mono ?_
                rintro e w1 ⟨rfl, hwx⟩
                subst w1
                go_upto_region 25 with fail
                rw [← hW3]
                clear hW3
                clear d1 c1 e1
                have d3 := hX3.words 3 (by omega)
                rw [k3.out] at d3
                have c2 := hX3.box.cell (j := 2) rfl
                have e2 := hX3.box.free 2
                obtain ⟨W4, hW4⟩ : ∃ W4, W4 = W3.setCell ⟨w.heap.size + 1, 2, none⟩ (.int .i64 ((numR p3 : Nat) : Int)) := ⟨_, rfl⟩
                have hX4 : FAt B w g (w.heap.size + 1) w.heap.size pw ⟨5, (numR p1 : Nat), (numR p3 : Nat), []⟩ W4 := by rw [hW4]; exact hX3.set 2 _ rfl
                go_wp2_with fail
                refine (hN3.out _).mono ?_
                rintro e w1 ⟨rfl, hwx⟩
                subst w1
                go_upto_region 26 with fail
                rw [← hW4]
                clear hW4
                clear d3 c2 e2
                have c0 := hX4.box.cell (j := 0) rfl
                have c1 := hX4.box.cell (j := 1) rfl
                have c2 := hX4.box.cell (j := 2) rfl
                have c3 := hX4.box.cell (j := 3) rfl
                have r0 := hX4.res.cell (j := 0) rfl
                have t0 := hX4.res.free 0
                have r1 := hX4.res.cell (j := 1) rfl
                have t1 := hX4.res.free 1
                have r2 := hX4.res.cell (j := 2) rfl
                have t2 := hX4.res.free 2
                have r3 := hX4.res.cell (j := 3) rfl
                have t3 := hX4.res.free 3
                have hfinal : Arr ((((W4.setCell ⟨w.heap.size, 0, none⟩ (.int .i64 (5))).setCell ⟨w.heap.size, 1, none⟩ (.int .i64 ((numR p1 : Nat)))).setCell ⟨w.heap.size, 2, none⟩ (.int .i64 ((numR p3 : Nat)))).setCell ⟨w.heap.size, 3, none⟩ (.string (str ([])))) w.heap.size 55 (fldC ⟨5, (numR p1 : Nat), (numR p3 : Nat), []⟩) := (((hX4.res.set 0 _).set 1 _).set 2 _).set 3 _
                have hbelow : Below B w ((((W4.setCell ⟨w.heap.size, 0, none⟩ (.int .i64 (5))).setCell ⟨w.heap.size, 1, none⟩ (.int .i64 ((numR p1 : Nat)))).setCell ⟨w.heap.size, 2, none⟩ (.int .i64 ((numR p3 : Nat)))).setCell ⟨w.heap.size, 3, none⟩ (.string (str ([])))) := (((hX4.below.setCell (p := ⟨w.heap.size, 0, none⟩) hB _).setCell (p := ⟨w.heap.size, 1, none⟩) hB _).setCell (p := ⟨w.heap.size, 2, none⟩) hB _).setCell (p := ⟨w.heap.size, 3, none⟩) hB _
                replace hfinal := Lib.hid hfinal
                replace hbelow := Lib.hid hbelow
                go_wp2_with fail
                exact bodyPost_ret (arr_result (p := 2) (ty := 55) (n := 4) (by kernel_rfl) _ hfinal.out rfl Tryz.underlying55 rfl (by kernel_rfl) rfl) rfl ⟨by rw [hfx.out]; rfl, hbelow.out⟩
              · have q0 : (p0 == [108, 105, 116, 101, 114, 97, 108]) = false := by rw [beq_eq_false_iff_ne]; exact hn0
                have q1 : (p0 == [110, 117, 109, 98, 101, 114]) = false := by rw [beq_eq_false_iff_ne]; exact hn1
                have q2 : (p0 == [98, 121, 116, 101, 115]) = false := by rw [beq_eq_false_iff_ne]; exact hn2
                have q3 : (p0 == [108, 105, 115, 116]) = false := by rw [beq_eq_false_iff_ne]; exact hn3
                have q4 : (p0 == [105, 110, 115, 105, 100, 101]) = false := by rw [beq_eq_false_iff_ne]; exact hn4
                have hfx : Hid (fieldR ws = ⟨6, (numR p1 : Nat), -1, []⟩) := by show _ = _; rw [hfr.out]; rw [if_neg hn0, if_neg hn1, if_neg hn2, if_neg hn3, if_neg hn4]
                clear hfr hn0 hn1 hn2 hn3 hn4
                have d0 := hX0.words 0 (by omega)
                rw [k0.out] at d0
                have c0 := hX0.box.cell (j := 0) rfl
                have e0 := hX0.box.free 0
                obtain ⟨W1, hW1⟩ : ∃ W1, W1 = wr.setCell ⟨w.heap.size + 1, 0, none⟩ (.int .i64 6) := ⟨_, rfl⟩
                have hX1 : FAt B w g (w.heap.size + 1) w.heap.size pw ⟨6, 0, -1, []⟩ W1 := by rw [hW1]; exact hX0.set 0 _ rfl
                go_upto_region 6 with fail
                rw [← hW1]
                clear hW1
                clear d0 c0 e0
                have d1 := hX1.words 1 (by omega)
                rw [k1.out] at d1
                have c1 := hX1.box.cell (j := 1) rfl
                have e1 := hX1.box.free 1
                obtain ⟨W2, hW2⟩ : ∃ W2, W2 = W1.setCell ⟨w.heap.size + 1, 1, none⟩ (.int .i64 ((numR p1 : Nat) : Int)) := ⟨_, rfl⟩
                have hX2 : FAt B w g (w.heap.size + 1) w.heap.size pw ⟨6, (numR p1 : Nat), -1, []⟩ W2 := by rw [hW2]; exact hX1.set 1 _ rfl
                go_wp2_with fail
                refine (hN1.out _).mono ?_
                rintro e w1 ⟨rfl, hwx⟩
                subst w1
                go_upto_region 26 with fail
                rw [← hW2]
                clear hW2
                clear d1 c1 e1
                have c0 := hX2.box.cell (j := 0) rfl
                have c1 := hX2.box.cell (j := 1) rfl
                have c2 := hX2.box.cell (j := 2) rfl
                have c3 := hX2.box.cell (j := 3) rfl
                have r0 := hX2.res.cell (j := 0) rfl
                have t0 := hX2.res.free 0
                have r1 := hX2.res.cell (j := 1) rfl
                have t1 := hX2.res.free 1
                have r2 := hX2.res.cell (j := 2) rfl
                have t2 := hX2.res.free 2
                have r3 := hX2.res.cell (j := 3) rfl
                have t3 := hX2.res.free 3
                have hfinal : Arr ((((W2.setCell ⟨w.heap.size, 0, none⟩ (.int .i64 (6))).setCell ⟨w.heap.size, 1, none⟩ (.int .i64 ((numR p1 : Nat)))).setCell ⟨w.heap.size, 2, none⟩ (.int .i64 (-1))).setCell ⟨w.heap.size, 3, none⟩ (.string (str ([])))) w.heap.size 55 (fldC ⟨6, (numR p1 : Nat), -1, []⟩) := (((hX2.res.set 0 _).set 1 _).set 2 _).set 3 _
                have hbelow : Below B w ((((W2.setCell ⟨w.heap.size, 0, none⟩ (.int .i64 (6))).setCell ⟨w.heap.size, 1, none⟩ (.int .i64 ((numR p1 : Nat)))).setCell ⟨w.heap.size, 2, none⟩ (.int .i64 (-1))).setCell ⟨w.heap.size, 3, none⟩ (.string (str ([])))) := (((hX2.below.setCell (p := ⟨w.heap.size, 0, none⟩) hB _).setCell (p := ⟨w.heap.size, 1, none⟩) hB _).setCell (p := ⟨w.heap.size, 2, none⟩) hB _).setCell (p := ⟨w.heap.size, 3, none⟩) hB _
                replace hfinal := Lib.hid hfinal
                replace hbelow := Lib.hid hbelow
                go_wp2_with fail
                exact bodyPost_ret (arr_result (p := 2) (ty := 55) (n := 4) (by kernel_rfl) _ hfinal.out rfl Tryz.underlying55 rfl (by kernel_rfl) rfl) rfl ⟨by rw [hfx.out]; rfl, hbelow.out⟩
end Go.Proofs.YtcpfmlaipejfpaaGreatDoor
namespace Go.Proofs.YtcpfmlaipejfpaaGreatDoor
open Go.RowKit Go.Shelf

attribute [local go_sem] Oper.semAt_some

theorem own_int {w : World} {B n : Nat} {v : Value} {xs : List Int} (h : w.ownsRow B 3 1 v n (intC xs)) {j : Nat} (hj : j < xs.length) (hn : 0 < n) : ∃ g c, v = .slice (some ⟨g, 0, none⟩) n c ∧ w.cell? ⟨g, j, none⟩ = some (.int .i64 xs[j]!) :=
  own_at1 h (by unfold intC; rw [List.getElem?_map, List.getElem?_eq_getElem hj, getElem!_pos xs j hj]; rfl) hn
set_option maxRecDepth 100000 in
set_option maxHeartbeats 8000000 in
theorem rightT_any (v : Value) (l : List Fmt) (p : Nat) (w : World) (h : Fmts w v l) (hp : l.length = p + 1) (hpo : PrevOk l[p]!.flds.dropLast) :
    Calls Tryz.prog 50 #[v] w fun e w' => e = .returned (.bool (rightR l)) ∧ Below w.heap.size w w' := by
  have hlen := h.in_.len
  obtain ⟨fb, fo, cap, fa, fcap, rfl, x0, x1, hid, hfl, _⟩ := h.at (show p < l.length by omega)
  have hw1 : IntKind.i64.wrap ((l.length : Int) - 1) = (p : Int) := by rw [IntWalk.i64_in _ (by omega)]; omega
  have i0 : (0 : Int) ≤ (p : Int) := by omega
  have i1 : (p : Int) < (l.length : Int) := by omega
  have hr : rightR l = if l[p]!.flds.length = 0 then decide (l.length ≤ 60) && withinZ l[p]!.id 1 1000000 && (decide (p = 0) || (decide (l[p - 1]!.id < l[p]!.id) && decide (0 < l[p - 1]!.flds.length))) else fitsR (l.take p) l[p]!.flds (l[p]!.flds.length - 1) && decide (l[p]!.flds.length ≤ 16) && decide ((leastsR l)[p]! ≤ 65536) := by
    unfold rightR
    rw [show l.length - 1 = p by omega, show l.length - 2 = p - 1 by omega, List.dropLast_eq_take, show l.length - 1 = p by omega, show decide (l.length = 1) = decide (p = 0) from by rw [Bool.eq_iff_iff, decide_eq_true_eq, decide_eq_true_eq]; omega]
  by_cases h0 : l[p]!.flds.length = 0
  · rw [if_pos h0] at hr
    rw [h0] at x1
    have hprev : Hid (0 < p → ∃ fa' fcap', w.cell? ⟨fb, fo + (p - 1) * 2, none⟩ = some (.int .i64 l[p - 1]!.id) ∧ w.cell? ⟨fb, fo + (p - 1) * 2 + 1, none⟩ = some (.slice fa' l[p - 1]!.flds.length fcap') ∧ l[p - 1]!.flds.length ≤ 1000000) := fun hpp => by
      obtain ⟨fb2, fo2, cap2, fa2, fcap2, e, y0, y1, _, yl, _⟩ := h.at (show p - 1 < l.length by omega)
      injection e with e1 _ _
      injection e1 with e1
      injection e1 with e2 e3
      subst e2 e3
      exact ⟨_, _, y0, y1, yl⟩
    clear h
    have hk : IntKind.i64.wrap ((0 : Int) - 1) = -1 := by decide
    have hwr : ∀ W, Calls Tryz.prog 56 #[.int .i64 l[p]!.id, .int .i64 1, .int .i64 1000000] W fun e w' => e = .returned (.bool (withinZ l[p]!.id 1 1000000)) ∧ w' = W := fun W => withinR_any _ _ _ W
    generalize l[p]!.id = id at *
    obtain ⟨R, hR⟩ : ∃ R, R = rightR l := ⟨_, rfl⟩
    rw [← hR] at hr ⊢
    replace hR := Lib.hid hR
    replace h0 := Lib.hid h0
    replace hp := Lib.hid hp
    by_cases hA : l.length ≤ 60
    · have dA : decide ((l.length : Int) ≤ 60) = true := decide_eq_true (by omega)
      rw [decide_eq_true hA] at hr
      cases hW : withinZ id 1 1000000 with
      | false =>
        rw [hW] at hwr hr
        have hres : Hid (R = false) := hr
        clear hr
        replace hwr := Lib.hid hwr
        go_enter Tryz.func50, Tryz.ntmps50
        go_wp2_with fail
        go_quiet ((with_reducible refine Calls.quiet_of_same (hwr.out _)))
        go_wp2_with fail
        go_ret
        exact ⟨by rw [hres.out]; rfl, below_drewN (Below.refl _ _) _⟩
      | true =>
        rw [hW] at hwr hr
        by_cases hp0 : p = 0
        · have d0 : ((p : Int) == 0) = true := by rw [beq_iff_eq]; omega
          have hres : Hid (R = true) := by show _ = _; rw [hr, decide_eq_true hp0]; rfl
          clear hr
          replace hp0 := Lib.hid hp0
          replace hwr := Lib.hid hwr
          go_enter Tryz.func50, Tryz.ntmps50
          go_wp2_with fail
          go_quiet ((with_reducible refine Calls.quiet_of_same (hwr.out _)))
          go_wp2_with fail
          go_ret
          exact ⟨by rw [hres.out]; rfl, below_drewN (Below.refl _ _) _⟩
        · have d0 : ((p : Int) == 0) = false := by rw [beq_eq_false_iff_ne]; omega
          obtain ⟨fa', fcap', y0, y1, yl⟩ := hprev.out (by omega)
          rw [decide_eq_false hp0, Bool.false_or] at hr
          obtain ⟨p1, hp1⟩ : ∃ p1, p1 = p - 1 := ⟨_, rfl⟩
          rw [← hp1] at y0 y1 yl hr
          have hw2 : IntKind.i64.wrap ((p : Int) - 1) = (p1 : Int) := by rw [IntWalk.i64_in _ (by omega)]; omega
          have j0 : (0 : Int) ≤ (p1 : Int) := by omega
          have j1 : (p1 : Int) < (l.length : Int) := by omega
          generalize l[p1]!.id = id1 at *
          generalize l[p1]!.flds.length = n1 at *
          replace hp0 := Lib.hid hp0
          replace hp1 := Lib.hid hp1
          replace hwr := Lib.hid hwr
          by_cases hC : id1 < id
          · have dC : decide (id1 < id) = true := decide_eq_true hC
            by_cases hE : 0 < n1
            · have dE : decide ((n1 : Int) > 0) = true := decide_eq_true (by omega)
              have dE2 : decide (0 < n1) = true := decide_eq_true hE
              have hres : Hid (R = true) := by show _ = _; rw [hr, dC, dE2]; rfl
              clear hr
              replace hE := Lib.hid hE
              replace hC := Lib.hid hC
              go_enter Tryz.func50, Tryz.ntmps50
              go_wp2_with fail
              go_quiet ((with_reducible refine Calls.quiet_of_same (hwr.out _)))
              go_wp2_with fail
              go_ret
              exact ⟨by rw [hres.out]; rfl, below_drewN (Below.refl _ _) _⟩
            · have dE : decide ((n1 : Int) > 0) = false := decide_eq_false (by omega)
              have dE2 : decide (0 < n1) = false := decide_eq_false hE
              have hres : Hid (R = false) := by show _ = _; rw [hr, dC, dE2]; rfl
              clear hr
              replace hE := Lib.hid hE
              replace hC := Lib.hid hC
              go_enter Tryz.func50, Tryz.ntmps50
              go_wp2_with fail
              go_quiet ((with_reducible refine Calls.quiet_of_same (hwr.out _)))
              go_wp2_with fail
              go_ret
              exact ⟨by rw [hres.out]; rfl, below_drewN (Below.refl _ _) _⟩
          · have dC : decide (id1 < id) = false := decide_eq_false hC
            have hres : Hid (R = false) := by show _ = _; rw [hr, dC]; rfl
            clear hr
            replace hC := Lib.hid hC
            go_enter Tryz.func50, Tryz.ntmps50
            go_wp2_with fail
            go_quiet ((with_reducible refine Calls.quiet_of_same (hwr.out _)))
            go_wp2_with fail
            go_ret
            exact ⟨by rw [hres.out]; rfl, below_drewN (Below.refl _ _) _⟩
    · have dA : decide ((l.length : Int) ≤ 60) = false := decide_eq_false (by omega)
      have hres : Hid (R = false) := by show _ = _; rw [hr, decide_eq_false hA]; rfl
      clear hr
      replace hA := Lib.hid hA
      go_enter Tryz.func50, Tryz.ntmps50
      go_wp2_with fail
      go_quiet (fail)
      go_wp2_with fail
      go_ret
      exact ⟨by rw [hres.out]; rfl, below_drewN (Below.refl _ _) _⟩
  · rw [if_neg h0] at hr
    obtain ⟨k, hk⟩ : ∃ k, l[p]!.flds.length = k + 1 := ⟨l[p]!.flds.length - 1, by omega⟩
    have hpo' : PrevOk (l[p]!.flds.take k) := by rw [List.dropLast_eq_take, hk] at hpo; exact hpo
    have hfit := Lib.hid (fits_any _ l p k w h hp (by omega) hpo')
    have hlst := Lib.hid fun (W : World) (hb : Below w.heap.size w W) => leasts_any _ l W (h.later hb)
    have hll := leastsR_len l
    rw [hk, Nat.add_sub_cancel] at hr
    rw [hk] at x1 hfl
    have hwk : IntKind.i64.wrap (((k + 1 : Nat) : Int) - 1) = (k : Int) := by rw [IntWalk.i64_in _ (by omega)]; omega
    have dk : decide ((k : Int) < 0) = false := decide_eq_false (by omega)
    clear h hpo hpo'
    obtain ⟨R, hR⟩ : ∃ R, R = rightR l := ⟨_, rfl⟩
    rw [← hR] at hr ⊢
    generalize fitsR (l.take p) l[p]!.flds k = F at *
    replace hR := Lib.hid hR
    replace h0 := Lib.hid h0
    replace hk := Lib.hid hk
    have hpl : p < (leastsR l).length := by omega
    replace hp := Lib.hid hp
    replace hll := Lib.hid hll
    obtain ⟨n, hn⟩ : ∃ n, n = k + 1 := ⟨_, rfl⟩
    rw [← hn] at x1 hwk hr hfl
    cases F with
    | false =>
      have hres : Hid (R = false) := by show _ = _; rw [hr]; rfl
      clear hr
      replace hn := Lib.hid hn
      go_enter Tryz.func50, Tryz.ntmps50
      go_wp2_with fail
      refine hfit.out.mono ?_
      rintro e w1 ⟨rfl, hb1⟩
      go_wp2_with fail
      go_ret
      exact ⟨by rw [hres.out]; rfl, hb1⟩
    | true =>
      by_cases h16 : n ≤ 16
      · have d16 : decide ((k : Int) < 16) = true := decide_eq_true (by omega)
        rw [decide_eq_true h16] at hr
        replace hn := Lib.hid hn
        go_enter Tryz.func50, Tryz.ntmps50
        go_wp2_with fail
        refine hfit.out.mono ?_
        rintro e w1 ⟨rfl, hb1⟩
        go_wp2_with fail
        refine (hlst.out w1 hb1).mono ?_
        rintro e w2 ⟨v2, rfl, ho2, hb2⟩
        obtain ⟨g, c, rfl, y0⟩ := own_int ho2 (j := p) hpl (by omega)
        have hB := hb1.trans (hb2.mono hb1.size)
        generalize (leastsR l)[p]! = z at *
        clear ho2
        by_cases hz : z ≤ 65536
        · have dz : decide (z ≤ 65536) = true := decide_eq_true hz
          have hres : Hid (R = true) := by show _ = _; rw [hr, dz]; rfl
          clear hr
          replace hz := Lib.hid hz
          go_wp2_with fail
          go_ret
          exact ⟨by rw [hres.out]; rfl, hB⟩
        · have dz : decide (z ≤ 65536) = false := decide_eq_false hz
          have hres : Hid (R = false) := by show _ = _; rw [hr, dz]; rfl
          clear hr
          replace hz := Lib.hid hz
          go_wp2_with fail
          go_ret
          exact ⟨by rw [hres.out]; rfl, hB⟩
      · have d16 : decide ((k : Int) < 16) = false := decide_eq_false (by omega)
        have hres : Hid (R = false) := by show _ = _; rw [hr, decide_eq_false h16]; rfl
        clear hr
        replace hn := Lib.hid hn
        replace h16 := Lib.hid h16
        go_enter Tryz.func50, Tryz.ntmps50
        go_wp2_with fail
        refine hfit.out.mono ?_
        rintro e w1 ⟨rfl, hb1⟩
        go_wp2_with fail
        go_ret
        exact ⟨by rw [hres.out]; rfl, hb1⟩
end Go.Proofs.YtcpfmlaipejfpaaGreatDoor
