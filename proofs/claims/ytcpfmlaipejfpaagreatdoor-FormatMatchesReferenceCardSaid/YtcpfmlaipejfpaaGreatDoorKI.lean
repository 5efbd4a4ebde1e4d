/-
  Formats of chapter 4: the reference's Digits, Hex, Line.
  Formats of chapter 4: the reference's Split.
-/
import Derived.Test.YtcpfmlaipejfpaaGreatDoorK6
import Derived.Laws.BytesArg
import Derived.Test.YtcpfmlaipejfpaaGreatDoorK9
namespace Go.Proofs.YtcpfmlaipejfpaaGreatDoor
open Go.RowKit Go.Shelf

attribute [local go_sem] Oper.semAt_some

theorem str_at (l : List UInt8) (j : Nat) (h : j < (str l).size) : (str l)[j] = l[j]'(by rw [str_size] at h; exact h) := by
  show (str l).data[j]'_ = _
  simp [str]
/-- How far the digits are written. -/
def DigI (u k : Nat) (l : List UInt8) : Prop := (l = [] ∧ k = u) ∨ (l ≠ [] ∧ ((0 < k ∧ Lib.decDigits u = Lib.decDigits k ++ l) ∨ (k = 0 ∧ Lib.decDigits u = l)))
theorem DigI.step {u k : Nat} {l : List UInt8} (h : DigI u k l) (hc : l = [] ∨ 0 < k) : DigI u (k / 10) (UInt8.ofNat (48 + k % 10) :: l) := by
  refine .inr ⟨by simp, ?_⟩
  have key : ∀ l : List UInt8, Lib.decDigits k ++ l = if k / 10 = 0 then UInt8.ofNat (48 + k % 10) :: l else Lib.decDigits (k / 10) ++ UInt8.ofNat (48 + k % 10) :: l := fun l => by
    by_cases h10 : k < 10
    · rw [if_pos (by omega), Lib.decDigits, dif_pos h10, Nat.mod_eq_of_lt h10]; rfl
    · rw [if_neg (by omega), Lib.decDigits, dif_neg h10]; simp
  have hd : Lib.decDigits u = Lib.decDigits k ++ l := by
    rcases h with ⟨rfl, rfl⟩ | ⟨hl, ⟨_, h⟩ | ⟨h0, _⟩⟩
    · simp
    · exact h
    · rcases hc with hc | hc
      · exact absurd hc hl
      · omega
  rw [key] at hd
  by_cases h0 : k / 10 = 0
  · rw [if_pos h0] at hd; exact .inr ⟨h0, hd⟩
  · rw [if_neg h0] at hd; exact .inl ⟨by omega, hd⟩
theorem DigI.done {u k : Nat} {l : List UInt8} (h : DigI u k l) (hl : l ≠ []) (hk : ¬ 0 < k) : l = Lib.decDigits u := by
  rcases h with ⟨h, _⟩ | ⟨_, ⟨h, _⟩ | ⟨_, h⟩⟩
  · exact absurd h hl
  · exact absurd h hk
  · exact h.symm
theorem DigI.len {u k : Nat} {l : List UInt8} (h : DigI u k l) (hu : u < 1000000000) : l.length ≤ 20 := by
  have h1 := decDigits_le (u := u) (by omega)
  rcases h with ⟨rfl, _⟩ | ⟨_, ⟨_, h⟩ | ⟨_, h⟩⟩
  · simp
  · rw [h] at h1; simp at h1; omega
  · rw [h] at h1; omega
theorem strOfNums_dig (d : Nat) : strOfNums [((48 + d : Nat) : Int)] = str [UInt8.ofNat (48 + d)] := rfl
def strLen0 : Value → Nat | .string s => if s.size = 0 then 1 else 0 | _ => 0

set_option maxRecDepth 100000 in
set_option maxHeartbeats 1000000 in
theorem digitsR_any (u : Nat) (w : World) (hu : u < 1000000000) :
    Calls Tryz.prog 44 #[.int .i64 u] w fun e w' => e = .returned (.string (str (Lib.decDigits u))) ∧ Below w.heap.size w w' := by
  have hB : Below w.heap.size w w := Below.refl _ _
  go_enter Tryz.func44, Tryz.ntmps44
  go_wp2
  go_loopw [0, 3] (fun n o wr => ∃ (k : Nat) (l : List UInt8), n = .int .i64 k ∧ o = .string (str l) ∧ k < 1000000000 ∧ l.length ≤ 20 ∧ Hid (DigI u k l) ∧ Below w.heap.size w wr) (fun n o _ => 2 * (intOf n).toNat + strLen0 o)
  case atStart => exact ⟨u, [], rfl, rfl, hu, by simp, (show DigI u u [] from .inl ⟨rfl, rfl⟩), hB⟩
  case round =>
    clear hB
    obtain ⟨k, l, rfl, rfl, hk, hll, hI, hB⟩ := hrel
    have hBz := hB.size
    have hcv := run_convert_bytes_arg (P := Tryz.prog) (wr.alloc (.cells #[.int .u8 (48 + (k : Int) % 10)] 5)) 44 5 Tryz.underlying44 Tryz.underlying5 wr.heap.size 0 1 1 [48 + (k : Int) % 10] rfl (fun j hj => by
      obtain rfl : j = 0 := by omega
      exact (Mine.new rfl).cell) 9 Tryz.underlying9
    obtain ⟨ch, hch⟩ : ∃ ch, ch = UInt8.ofNat (48 + k % 10) := ⟨_, rfl⟩
    have hs1 : strOfNums [48 + (k : Int) % 10] = str [ch] := by
      rw [hch, show 48 + (k : Int) % 10 = ((48 + k % 10 : Nat) : Int) from by omega]; exact strOfNums_dig _
    rw [hs1] at hcv
    clear hs1
    have hadd := add_str [ch] l (by simp; omega)
    rw [show [ch] ++ l = ch :: l from rfl] at hadd
    by_cases hc : l = [] ∨ 0 < k
    · have hI2 := hI.out.step hc
      rw [← hch] at hI2
      replace hI2 := Lib.hid hI2
      clear hch
      have hsm : 2 * (k / 10) + strLen0 (.string (str (ch :: l))) < 2 * k + strLen0 (.string (str l)) := by
        have e : strLen0 (.string (str (ch :: l))) = 0 := by simp [strLen0, str_size]
        rw [e]
        rcases hc with rfl | hc
        · have : strLen0 (.string (str [])) = 1 := by simp [strLen0, str_size]
          omega
        · omega
      have hl2 : (ch :: l).length ≤ 20 := by
        rw [List.length_cons]
        have hlen := DigI.len hI2.out hu
        simpa using hlen
      replace hsm := Lib.hid hsm
      replace hl2 := Lib.hid hl2
      by_cases hl0 : l = []
      · have e1 : (str l).toList.isEmpty = true := by rw [ByteArray.toList_eq, str_list, hl0]; rfl
        clear hc hl0 hI hll
        go_wp2
        go_roundw
        case rel => exact ⟨k / 10, _, by go_num, rfl, by omega, hl2.out, hI2, (by repeat first | with_reducible exact Below.refl _ _ | with_reducible assumption | with_reducible refine below_drewN ?_ _ | with_reducible refine Below.drew ?_ | with_reducible refine Below.setCell ?_ (by first | exact Nat.le_refl _ | (simp; done) | (simp; omega) | omega) _ | with_reducible refine Below.alloc ?_ (by first | exact Nat.le_refl _ | (simp; done) | (simp; omega) | omega) _ | exact Below.refl _ _ | assumption)⟩
        case measure => have := hsm.out; simp only [intOf]; omega
      · have e1 : (str l).toList.isEmpty = false := by rw [ByteArray.toList_eq, str_list]; simpa using hl0
        have hk0 : 0 < k := by
          rcases hc with hc | hc
          · exact absurd hc hl0
          · exact hc
        have e2 : decide (0 < k) = true := by simpa using hk0
        clear hc hl0 hI hll hk0
        go_wp2
        go_roundw
        case rel => exact ⟨k / 10, _, by go_num, rfl, by omega, hl2.out, hI2, (by repeat first | with_reducible exact Below.refl _ _ | with_reducible assumption | with_reducible refine below_drewN ?_ _ | with_reducible refine Below.drew ?_ | with_reducible refine Below.setCell ?_ (by first | exact Nat.le_refl _ | (simp; done) | (simp; omega) | omega) _ | with_reducible refine Below.alloc ?_ (by first | exact Nat.le_refl _ | (simp; done) | (simp; omega) | omega) _ | exact Below.refl _ _ | assumption)⟩
        case measure => have := hsm.out; simp only [intOf]; omega
    · have hl0 : l ≠ [] := fun h => hc (.inl h)
      have hk0 : ¬ 0 < k := fun h => hc (.inr h)
      have hI2 := Lib.hid (hI.out.done hl0 hk0)
      have e1 : (str l).toList.isEmpty = false := by rw [ByteArray.toList_eq, str_list]; simpa using hl0
      have e2 : decide (0 < k) = false := by simpa using hk0
      clear hc hl0 hk0 hI hcv hadd hch
      go_wp2
      go_ret
      exact ⟨by rw [hI2.out]; rfl, hB⟩

theorem quo16 (c : UInt8) : (c.toNat : Int) / 16 = ((c.toNat / 16 : Nat) : Int) := by omega
structure HexR (w wr : World) (s : List UInt8) (i : Nat) (v : Value) : Prop where
  below : Below w.heap.size w wr
  own : wr.ownsRow w.heap.size 5 1 v (hexL (s.take i)).length (Lib.byteCells (hexL (s.take i)))
set_option maxRecDepth 100000 in
set_option maxHeartbeats 4000000 in
theorem hexR_any (s : List UInt8) (w : World) (hs : s.length ≤ 100000) :
    Calls Tryz.prog 79 #[.string (str s)] w fun e w' => e = .returned (.string (str (hexL s))) ∧ Below w.heap.size w w' := by
  have hps : (str s).size = s.length := str_size s
  have hPG : ∀ j (h : j < (str s).size), (((str s)[j].toNat : Nat) : Int) = (s[j]!.toNat : Nat) := fun j h => by
    rw [str_at, getElem!_pos s j (by rw [str_size] at h; exact h)]
  generalize str s = P at *
  replace hPG := Lib.hid hPG
  replace hps := Lib.hid hps
  go_enter Tryz.func79, Tryz.ntmps79
  go_wp2_with fail
  go_loopw [5, 4] (fun iv v wr => ∃ i : Nat, i ≤ s.length ∧ iv = .int .i64 (i : Int) ∧ Hid (HexR w wr s i v)) (fun iv _ _ => s.length - (intOf iv).toNat)
  case atStart => exact ⟨0, Nat.zero_le _, rfl, (show Hid _ from ⟨Below.refl _ _, World.ownsRow_nil _ _ _ _⟩)⟩
  case round =>
    obtain ⟨i, hi, rfl, hI⟩ := hrel
    have hps' := hps.out
    by_cases hlt : i < s.length
    · obtain ⟨ao, vc, rfl⟩ := own_val hI.out.own
      have hj0 : i < P.size := by omega
      have hd : decide ((i : Int) < (P.size : Int)) = true := decide_eq_true (by omega)
      have i0 : (0 : Int) ≤ (i : Int) := by omega
      have i1 : (i : Int) < (P.size : Int) := by omega
      have hg := hPG.out i hj0
      have hcl := s[i]!.toNat_lt
      have hsn := Lib.hid (hexL_snoc s i hlt)
      have hwi : IntKind.i64.wrap ((i : Int) + 1) = ((i + 1 : Nat) : Int) := by rw [Int.natCast_succ]; exact IntWalk.i64_in _ (by omega)
      generalize s[i]! = c at *
      have hix1 := fun W => idx_hex (c.toNat / 16) (by omega) W
      have hix2 := fun W => idx_hex (c.toNat % 16) (by omega) W
      rw [show ((c.toNat / 16 : Nat) : Int) = (c.toNat : Int) / 16 by omega] at hix1
      rw [show ((c.toNat % 16 : Nat) : Int) = (c.toNat : Int) % 16 by omega] at hix2
      have hq1 : IntKind.u8.wrap ((c.toNat : Int) / 16) = (c.toNat : Int) / 16 := IntWalk.u8_in _ (by omega)
      have hq2 : ((c.toNat : Int)).tmod 16 = (c.toNat : Int) % 16 := Int.tmod_eq_emod_of_nonneg (by omega)
      have hlen := hexL_len (s.take i)
      rw [List.length_take] at hlen
      have hd1 : Below wr.heap.size wr wr.drew := (Below.refl _ _).drew
      obtain ⟨v', w', hrun, r1, r2, r3⟩ := append_hex wr.drew w.heap.size _ (hexL (s.take i)) (hexC (c.toNat / 16)) (hexC (c.toNat % 16)) (own_below hI.out.own hd1) (by omega) hI.out.below.size
      rw [← hsn.out] at r1
      have hIn : Hid (HexR w w' s (i + 1) v') := (show HexR _ _ _ _ _ from ⟨r3 _ _ (Nat.le_refl _) hI.out.below.drew, r1⟩)
      replace hrun := Lib.hid hrun
      replace hlen := Lib.hid hlen
      replace hps' := Lib.hid hps'
      clear r1 r2 r3 hd1
      go_wp2_with fail
      refine wp_region_held_drew (S := fun w' => True) (by kernel_rfl) (by trivial) (fun hHeld => ?_)
      refine take_l (i := 0) (v := ?_) rfl (by kernel_rfl) (by kernel_rfl) (by kernel_rfl) (fun _ _ _ h => h) (Or.inl ⟨by kernel_rfl, ?_⟩) (by assumption) ?_
      rotate_left
      · intro w hSw; (try dsimp only at hSw); go_simp; (try with_reducible rfl)
      (try simp only [Act.put, List.setIfInBounds_toArray, List.set_cons_zero, List.set_cons_succ])
      refine take_l (i := 1) (v := ?_) rfl (by kernel_rfl) (by kernel_rfl) (by kernel_rfl) (fun _ _ _ h => h) (Or.inl ⟨by kernel_rfl, ?_⟩) (by assumption) ?_
      rotate_left
      · intro w hSw; (try dsimp only at hSw); go_simp; (try with_reducible rfl)
      (try simp only [Act.put, List.setIfInBounds_toArray, List.set_cons_zero, List.set_cons_succ])
      refine take_l (i := 2) (v := ?_) rfl (by kernel_rfl) (by kernel_rfl) (by kernel_rfl) (fun _ _ _ h => h) (Or.inl ⟨by kernel_rfl, ?_⟩) (by assumption) ?_
      rotate_left
      · intro w hSw; (try dsimp only at hSw); go_simp; (try with_reducible rfl)
      (try simp only [Act.put, List.setIfInBounds_toArray, List.set_cons_zero, List.set_cons_succ])
      refine take_l (i := 3) (v := ?_) rfl (by kernel_rfl) (by kernel_rfl) (by kernel_rfl) (fun _ _ _ h => h) (Or.inl ⟨by kernel_rfl, ?_⟩) (by assumption) ?_
      rotate_left
      · intro w hSw; (try dsimp only at hSw); go_simp; (try with_reducible rfl)
      (try simp only [Act.put, List.setIfInBounds_toArray, List.set_cons_zero, List.set_cons_succ])
      refine take_l (i := 4) (v := ?_) rfl (by kernel_rfl) (by kernel_rfl) (by kernel_rfl) (fun _ _ _ h => h) (Or.inl ⟨by kernel_rfl, ?_⟩) (by assumption) ?_
      rotate_left
      · intro w hSw; (try dsimp only at hSw); go_simp; (try with_reducible rfl)
      (try simp only [Act.put, List.setIfInBounds_toArray, List.set_cons_zero, List.set_cons_succ])
      refine take_l (i := 5) (v := ?_) rfl (by kernel_rfl) (by kernel_rfl) (by kernel_rfl) (fun _ _ _ h => h) (Or.inl ⟨by kernel_rfl, ?_⟩) (by assumption) ?_
      rotate_left
      · intro w hSw; (try dsimp only at hSw); go_simp; (try with_reducible rfl)
      (try simp only [Act.put, List.setIfInBounds_toArray, List.set_cons_zero, List.set_cons_succ])
      refine take_l (i := 6) (v := ?_) rfl (by kernel_rfl) (by kernel_rfl) (by kernel_rfl) (fun _ _ _ h => h) (Or.inl ⟨by kernel_rfl, ?_⟩) (by assumption) ?_
      rotate_left
      · intro w hSw; (try dsimp only at hSw); go_simp; (try with_reducible rfl)
      (try simp only [Act.put, List.setIfInBounds_toArray, List.set_cons_zero, List.set_cons_succ])
      refine take_l (i := 7) (v := ?_) rfl (by kernel_rfl) (by kernel_rfl) (by kernel_rfl) (fun _ _ _ h => h) (Or.inl ⟨by kernel_rfl, ?_⟩) (by assumption) ?_
      rotate_left
      · intro w hSw; (try dsimp only at hSw); go_simp; (try with_reducible rfl)
      (try simp only [Act.put, List.setIfInBounds_toArray, List.set_cons_zero, List.set_cons_succ])
      refine take_l (i := 8) (v := ?_) rfl (by kernel_rfl) (by kernel_rfl) (by kernel_rfl) (fun _ _ _ h => h) (Or.inl ⟨by kernel_rfl, ?_⟩) (by assumption) ?_
      rotate_left
      · intro w hSw; (try dsimp only at hSw); go_simp; (try with_reducible rfl)
      (try simp only [Act.put, List.setIfInBounds_toArray, List.set_cons_zero, List.set_cons_succ])
      refine take_l (i := 9) (v := ?_) rfl (by kernel_rfl) (by kernel_rfl) (by kernel_rfl) (fun _ _ _ h => h) (Or.inl ⟨by kernel_rfl, ?_⟩) (by assumption) ?_
      rotate_left
      · intro w hSw; (try dsimp only at hSw); go_simp; (try with_reducible rfl)
      (try simp only [Act.put, List.setIfInBounds_toArray, List.set_cons_zero, List.set_cons_succ])
      refine take_l (i := 10) (v := ?_) rfl (by kernel_rfl) (by kernel_rfl) (by kernel_rfl) (fun _ _ _ h => h) (Or.inl ⟨by kernel_rfl, ?_⟩) (by assumption) ?_
      rotate_left
      · intro w hSw; (try dsimp only at hSw); go_simp; (try with_reducible rfl)
      (try simp only [Act.put, List.setIfInBounds_toArray, List.set_cons_zero, List.set_cons_succ])
      refine take_l (i := 11) (v := ?_) rfl (by kernel_rfl) (by kernel_rfl) (by kernel_rfl) (fun _ _ _ h => h) (Or.inl ⟨by kernel_rfl, ?_⟩) (by assumption) ?_
      rotate_left
      · intro w hSw; (try dsimp only at hSw); go_simp; (try with_reducible rfl)
      (try simp only [Act.put, List.setIfInBounds_toArray, List.set_cons_zero, List.set_cons_succ])
      refine take_l (i := 12) (v := ?_) rfl (by kernel_rfl) (by kernel_rfl) (by kernel_rfl) (fun _ _ _ h => h) (Or.inl ⟨by kernel_rfl, ?_⟩) (by assumption) ?_
      rotate_left
      · intro w hSw; (try dsimp only at hSw); go_simp; (try with_reducible rfl)
      (try simp only [Act.put, List.setIfInBounds_toArray, List.set_cons_zero, List.set_cons_succ])
      refine wpAnyH_ready (rs := [13]) (by kernel_rfl) (by simp) ?_
      refine ready_l rfl (fun K hK => ?_) AllReadyH.nil
      go_simp
      refine hK.out _ _ (by trivial) (fun hHeld => ?_)
      clear hK K
      (try simp only [Act.put, List.setIfInBounds_toArray, List.set_cons_zero, List.set_cons_succ])
      refine wpAnyH_ready (rs := [14]) (by kernel_rfl) (by simp) ?_
      refine ready_l rfl (fun K hK => ?_) AllReadyH.nil
      refine step_append_known rfl _ _ _ _ rfl _ _ rfl rfl hrun.out ?_
      (try simp only [Act.put, List.setIfInBounds_toArray, List.set_cons_zero, List.set_cons_succ])
      refine hK.out _ _ (by trivial) (fun hHeld => ?_)
      clear hK K
      (try simp only [Act.put, List.setIfInBounds_toArray, List.set_cons_zero, List.set_cons_succ])
      refine take_l (i := 15) (v := ?_) rfl (by kernel_rfl) (by kernel_rfl) (by kernel_rfl) (fun _ _ _ h => h) (Or.inl ⟨by kernel_rfl, ?_⟩) (by assumption) ?_
      rotate_left
      · intro w hSw; (try dsimp only at hSw); go_simp; (try with_reducible rfl)
      (try simp only [Act.put, List.setIfInBounds_toArray, List.set_cons_zero, List.set_cons_succ])
      refine wpAnyH_done (by kernel_rfl) ?_ _
      go_wp2_with fail
      exact ⟨⟨i + 1, by omega, by first | rfl | go_num, hIn⟩, by simp [intOf]; omega⟩
    · have hd : decide ((i : Int) < (P.size : Int)) = false := decide_eq_false (by omega)
      have hj0 : ¬ i < P.size := by omega
      have hown := hI.out.own
      rw [List.take_of_length_le (by omega)] at hown
      have hcv := conv_own hown
      have hB := hI.out.below
      obtain ⟨ao, vc, rfl⟩ := own_val hown
      replace hps' := Lib.hid hps'
      go_wp2_with fail
      go_ret
      exact ⟨rfl, hB⟩
theorem digitsI_any (n : Int) (w : World) (h0 : 0 ≤ n) (h : n < 1000000000) :
    Calls Tryz.prog 44 #[.int .i64 n] w fun e w' => e = .returned (.string (str (Lib.itoa n))) ∧ Below w.heap.size w w' := by
  obtain ⟨k, rfl⟩ := Int.eq_ofNat_of_zero_le h0
  rw [itoa_nat]
  exact digitsR_any k w (by omega)
end Go.Proofs.YtcpfmlaipejfpaaGreatDoor
namespace Go.Proofs.YtcpfmlaipejfpaaGreatDoor
open Go.RowKit Go.Shelf

attribute [local go_sem] Oper.semAt_some

theorem info_str4 : (Tryz.prog.info? 9).map (fun i => (i.zero, i.size, i.bytes)) = some (some (.string ⟨#[]⟩), 1, 16) := by kernel_rfl
theorem wordCells_app (a b : List (List UInt8)) : wordCells (a ++ b) = wordCells a ++ wordCells b := List.map_append
theorem wordCells_len (a : List (List UInt8)) : (wordCells a).length = a.length := List.length_map _
/-- One word is appended to a row of the call's own: the run, ahead of the walk. -/
theorem append_word (ws : World) (base : Nat) (v : Value) (l : List (List UInt8)) (p : List UInt8) (hown : ws.ownsRow base 9 1 v l.length (wordCells l)) (hl : l.length ≤ 10000000) (hb : base ≤ ws.heap.size) :
    ∃ v' w', (Builtin.append_ #[45, 45] 45 #[v, .slice (some ⟨ws.heap.size, 0, none⟩) 1 1]).run Tryz.prog (ws.alloc (.cells #[.string (str p)] 9)) = .ok v' w' ∧
      w'.ownsRow base 9 1 v' (l ++ [p]).length (wordCells (l ++ [p])) ∧ (∀ B u, B ≤ base → Below B u ws → Below B u w') := by
  obtain ⟨i0, hi, hz0, hz1, hz2⟩ := info_parts info_str4
  have hown2 := own_below hown ((Below.refl ws.heap.size ws).alloc (Nat.le_refl _) (.cells #[.string (str p)] 9))
  have hnew : Arr (ws.alloc (.cells #[.string (str p)] 9)) ws.heap.size 9 (wordCells [p]) := Arr.new rfl rfl
  obtain ⟨v', w', hrun, r1, r2, r3, r4⟩ := run_append_own_at (P := Tryz.prog) (ws.alloc (.cells #[.string (str p)] 9)) base 45 45 9 i0 (.string ⟨#[]⟩) 1 16 Tryz.underlying45 hi hz0 hz1 hz2 rfl (by decide) v l.length (wordCells l) hown2 ⟨ws.heap.size, 0, none⟩ 1 1 (wordCells [p]) rfl (fun j u hu => by rw [Addr.add_mid, Nat.zero_add]; exact hnew.cell hu)
    (by intro u hu; simp [wordCells] at hu; rcases hu with rfl; rfl) (by unfold maxLen; omega) (by omega) (by simp; omega)
  refine ⟨v', w', hrun, by rw [List.length_append, wordCells_app]; exact r1, fun B u hB hu => ?_⟩
  exact (hu.alloc (by omega) _).grown r2 (by simp; omega) (fun j ej => Nat.le_trans hB (hown2.lt j ej).1)
theorem take_snoc8 (s : List UInt8) (k : Nat) (h : k < s.length) : s.take (k + 1) = s.take k ++ [s[k]!] := by
  rw [List.take_succ_eq_append_getElem h, getElem!_pos s k h]
structure SplI (c : UInt8) (w wr : World) (s : List UInt8) (out : List (List UInt8)) (f k : Nat) (v : Value) : Prop where
  below : Below w.heap.size w wr
  own : wr.ownsRow w.heap.size 9 1 v out.length (wordCells out)
  cut : cutAll c s = out ++ cutAll c (s.drop f)
  no : ∀ x ∈ (s.drop f).take (k - f), x ≠ c
  le : f ≤ k
  len : out.length ≤ k
theorem drop_parts (s : List UInt8) (f k : Nat) (hf : f ≤ k) (hk : k < s.length) : s.drop f = (s.drop f).take (k - f) ++ s[k]! :: s.drop (k + 1) := by
  have h : s.drop f = (s.drop f).take (k - f) ++ (s.drop f).drop (k - f) := (List.take_append_drop _ _).symm
  rw [List.drop_drop, show f + (k - f) = k from by omega, List.drop_eq_getElem_cons hk, ← getElem!_pos s k hk] at h
  exact h
theorem take_drop_snoc (s : List UInt8) (f k : Nat) (hf : f ≤ k) (hk : k < s.length) : (s.drop f).take (k + 1 - f) = (s.drop f).take (k - f) ++ [s[k]!] := by
  rw [show k + 1 - f = (k - f) + 1 from by omega, take_snoc8 (s.drop f) (k - f) (by simp; omega)]
  congr 2
  rw [getElem!_pos _ _ (by simp; omega), getElem!_pos s k hk, List.getElem_drop]
  congr 1
  omega
theorem SplI.hit {c : UInt8} {w wr w' : World} {s : List UInt8} {out : List (List UInt8)} {f k : Nat} {v v' : Value} (h : SplI c w wr s out f k v) (hk : k < s.length) (hc : s[k]! = c) (hb : Below w.heap.size w w')
    (ho : w'.ownsRow w.heap.size 9 1 v' (out ++ [(s.drop f).take (k - f)]).length (wordCells (out ++ [(s.drop f).take (k - f)]))) : SplI c w w' s (out ++ [(s.drop f).take (k - f)]) (k + 1) (k + 1) v' := by
  refine ⟨hb, ho, ?_, by simp, Nat.le_refl _, by have := h.len; simp; omega⟩
  rw [h.cut, List.append_assoc]
  congr 1
  conv => lhs; rw [drop_parts s f k h.le hk, hc]
  rw [cutAll_hit _ _ _ h.no]
  rfl
theorem SplI.miss {c : UInt8} {w wr : World} {s : List UInt8} {out : List (List UInt8)} {f k : Nat} {v : Value} (h : SplI c w wr s out f k v) (hk : k < s.length) (hc : s[k]! ≠ c) : SplI c w wr s out f (k + 1) v := by
  refine ⟨h.below, h.own, h.cut, fun x hx => ?_, by have := h.le; omega, by have := h.len; omega⟩
  rw [take_drop_snoc s f k h.le hk] at hx
  rcases List.mem_append.1 hx with hx | hx
  · exact h.no x hx
  · obtain rfl := List.mem_singleton.1 hx
    exact hc
theorem SplI.done {c : UInt8} {w wr : World} {s : List UInt8} {out : List (List UInt8)} {f : Nat} {v : Value} (h : SplI c w wr s out f s.length v) : cutAll c s = out ++ [s.drop f] := by
  rw [h.cut, cutAll_miss]
  intro x hx
  refine h.no x ?_
  rw [List.take_of_length_le (by simp)]
  exact hx
theorem extract_part (s : List UInt8) (f k : Nat) : (str s).extract f k = str ((s.drop f).take (k - f)) := by
  apply ByteArray.ext
  apply Array.toList_inj.1
  rw [Lib.extract_data, str_list, str_list]
def SplR (c : UInt8) (w wr : World) (s : List UInt8) (f k : Nat) (v : Value) (n : Nat) : Prop :=
  (k ≤ s.length ∧ ∃ out, n = out.length ∧ SplI c w wr s out f k v) ∨ (k = s.length + 1 ∧ n = (cutAll c s).length ∧ wr.ownsRow w.heap.size 9 1 v (cutAll c s).length (wordCells (cutAll c s)) ∧ Below w.heap.size w wr)

set_option maxRecDepth 100000 in
set_option maxHeartbeats 2000000 in
theorem splitR_any (s : List UInt8) (c : UInt8) (w : World) (hs : s.length ≤ 1000000) :
    Calls Tryz.prog 27 #[.string (str s), .int .u8 (c.toNat : Int)] w fun e w' => ∃ v, e = .returned v ∧ w'.ownsRow w.heap.size 9 1 v (cutAll c s).length (wordCells (cutAll c s)) ∧ Below w.heap.size w w' := by
  have hps : (str s).size = s.length := str_size s
  have hPG : ∀ j (h : j < (str s).size), (((str s)[j].toNat : Nat) : Int) = (s[j]!.toNat : Nat) := fun j h => by
    rw [str_at, getElem!_pos s j (by rw [str_size] at h; exact h)]
  have hex := extract_part s
  generalize str s = P at *
  replace hPG := Lib.hid hPG
  replace hps := Lib.hid hps
  replace hex := Lib.hid hex
  go_enter Tryz.func27, Tryz.ntmps27
  go_wp2_with fail
  go_loopw [7, 6, 5] (fun i g z wr => ∃ (k f n : Nat) (v : Value), k ≤ s.length + 1 ∧ i = .int .i64 k ∧ g = .int .i64 f ∧ z = v ∧ Hid (SplR c w wr s f k v n)) (fun i _ _ _ => s.length + 1 - (intOf i).toNat)
  case atStart => exact ⟨0, 0, 0, _, Nat.zero_le _, rfl, rfl, rfl, (show SplR _ _ _ _ _ _ _ _ from .inl ⟨Nat.zero_le _, [], rfl, ⟨Below.refl _ _, World.ownsRow_nil _ _ _ _, rfl, by simp, Nat.le_refl _, Nat.zero_le _⟩⟩)⟩
  case round =>
    obtain ⟨k, f, n, v, hk, rfl, rfl, hz, hI⟩ := hrel
    have hps' := hps.out
    by_cases hle : k ≤ s.length
    · obtain ⟨out, rfl, hI2⟩ : ∃ out, n = out.length ∧ SplI c w wr s out f k v := by
        rcases hI.out with ⟨_, h⟩ | ⟨h, _⟩
        · exact h
        · omega
      clear hI
      obtain ⟨ao, vc, rfl⟩ := own_val hI2.own
      subst hz
      have hfk := hI2.le
      have hol := hI2.len
      have hwk : IntKind.i64.wrap ((k : Int) + 1) = ((k + 1 : Nat) : Int) := by rw [Int.natCast_succ]; exact IntWalk.i64_in _ (by omega)
      have hdl : decide ((k : Int) ≤ (P.size : Int)) = true := decide_eq_true (by omega)
      have i0 : (0 : Int) ≤ (k : Int) := by omega
      have i1 : (0 : Int) ≤ (f : Int) := by omega
      have i2 : (f : Int) ≤ (k : Int) := by omega
      have i3 : (k : Int) ≤ (P.size : Int) := by omega
      by_cases hlt : k < s.length
      · have hj0 : k < P.size := by omega
        have hq0 : ((k : Int) == (P.size : Int)) = false := by rw [beq_eq_false_iff_ne]; omega
        have hjk : (k : Int) < (P.size : Int) := by omega
        have hg := hPG.out k hj0
        by_cases hc : s[k]! = c
        · have hex' := hex.out f k
          obtain ⟨v', w', hrun, r1, r5⟩ := append_word wr w.heap.size _ out ((s.drop f).take (k - f)) hI2.own (by omega) hI2.below.size
          have hIn : Hid (SplR c w w' s (k + 1) (k + 1) v' (out ++ [(s.drop f).take (k - f)]).length) := .inl ⟨by omega, _, rfl, hI2.hit hlt hc (r5 _ _ (Nat.le_refl _) hI2.below) r1⟩
          rw [hc] at hg
          have hq : ((((P[k]'hj0).toNat : Nat) : Int) == (c.toNat : Int)) = true := by rw [hg]; simp
          have hq2 : ((c.toNat : Int) == (c.toNat : Int)) = true := by simp
          generalize (out ++ [(s.drop f).take (k - f)]).length = n' at *
          generalize (s.drop f).take (k - f) = pc at *
          replace hrun := Lib.hid hrun
          clear hc r1 r5 hI2
          replace hps' := Lib.hid hps'
          go_wp2_with (at_builtin; go_loud (refine wpList_append_known rfl _ _ _ _ rfl _ _ rfl rfl hrun.out ?_))
          exact ⟨⟨k + 1, k + 1, _, _, by omega, by first | rfl | go_num, by first | rfl | go_num, rfl, hIn⟩, by simp [intOf]; omega⟩
        · have hIn : Hid (SplR c w wr s f (k + 1) (.slice ao out.length vc) out.length) := .inl ⟨by omega, _, rfl, hI2.miss hlt hc⟩
          have hc2 : s[k]!.toNat ≠ c.toNat := fun h => hc (UInt8.toNat_inj.1 h)
          clear hc
          generalize s[k]! = x at *
          have hq : ((((P[k]'hj0).toNat : Nat) : Int) == (c.toNat : Int)) = false := by rw [hg, beq_eq_false_iff_ne]; omega
          have hq2 : (((x.toNat : Nat) : Int) == (c.toNat : Int)) = false := by rw [beq_eq_false_iff_ne]; omega
          clear hI2
          replace hps' := Lib.hid hps'
          go_wp2_with fail
          exact ⟨⟨k + 1, f, _, _, by omega, by first | rfl | go_num, by first | rfl | go_num, rfl, hIn⟩, by simp [intOf]; omega⟩
      · obtain rfl : k = s.length := by omega
        have hq0 : ((s.length : Int) == (P.size : Int)) = true := by rw [hps']; simp
        have hex' := hex.out f s.length
        have hdone := hI2.done
        rw [List.take_of_length_le (by simp)] at hex'
        obtain ⟨v', w', hrun, r1, r5⟩ := append_word wr w.heap.size _ out (s.drop f) hI2.own (by omega) hI2.below.size
        rw [← hdone] at r1
        have hIn : Hid (SplR c w w' s (s.length + 1) (s.length + 1) v' (cutAll c s).length) := .inr ⟨rfl, rfl, r1, r5 _ _ (Nat.le_refl _) hI2.below⟩
        replace hdone := Lib.hid hdone
        generalize s.drop f = pc at *
        replace hrun := Lib.hid hrun
        clear r1 r5 hI2
        replace hps' := Lib.hid hps'
        go_wp2_with (at_builtin; go_loud (refine wpList_append_known rfl _ _ _ _ rfl _ _ rfl rfl hrun.out ?_))
        exact ⟨⟨s.length + 1, s.length + 1, _, _, by omega, by first | rfl | go_num, by first | rfl | go_num, rfl, hIn⟩, by simp [intOf]⟩
    · obtain rfl : k = s.length + 1 := by omega
      obtain ⟨rfl, ho, hb⟩ : n = (cutAll c s).length ∧ wr.ownsRow w.heap.size 9 1 v (cutAll c s).length (wordCells (cutAll c s)) ∧ Below w.heap.size w wr := by
        rcases hI.out with ⟨h, _⟩ | ⟨_, h⟩
        · omega
        · exact h
      have hdl : decide (((s.length + 1 : Nat) : Int) ≤ (P.size : Int)) = false := decide_eq_false (by omega)
      have hdl2 : decide ((s.length : Int) + 1 ≤ (P.size : Int)) = false := decide_eq_false (by omega)
      have hj0 : ¬ s.length + 1 ≤ P.size := by omega
      have hj1 : ¬ s.length < P.size := by omega
      obtain ⟨ao, vc, rfl⟩ := own_val ho
      subst hz
      replace hps' := Lib.hid hps'
      go_wp2_with fail
      go_ret
      exact ⟨_, rfl, ho, hb⟩
end Go.Proofs.YtcpfmlaipejfpaaGreatDoor
