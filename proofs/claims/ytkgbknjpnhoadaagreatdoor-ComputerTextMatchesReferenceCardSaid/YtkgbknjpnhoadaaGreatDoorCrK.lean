/-
  The reference's Parse.
-/
import Derived.Test.YtkgbknjpnhoadaaGreatDoorCrJ
namespace Go.Proofs.YtkgbknjpnhoadaaGreatDoor
open Go.RowKit Go.Shelf

structure RefI (w wr : World) (s : List UInt8) (k f ln : Nat) (out : List UInt8) (v : Value) : Prop where
  below : Below w.heap.size w wr
  own : wr.ownsRow w.heap.size 5 1 v out.length (Lib.byteCells out)
  eq : parseB s = parseL (cutAll 10 (s.drop f)) ln out
  no : ∀ x ∈ (s.drop f).take (k - f), x ≠ 10
  le : f ≤ k
  len : ln ≤ k
  cap : out.length ≤ 258
theorem RefI.miss {w wr : World} {s : List UInt8} {k f ln : Nat} {out : List UInt8} {v : Value} (h : RefI w wr s k f ln out v) (hk : k < s.length) (hc : s[k]! ≠ 10) : RefI w wr s (k + 1) f ln out v := by
  refine ⟨h.below, h.own, h.eq, fun x hx => ?_, by have := h.le; omega, by have := h.len; omega, h.cap⟩
  rw [take_drop_snoc s f k h.le hk] at hx
  rcases List.mem_append.1 hx with hx | hx
  · exact h.no x hx
  · obtain rfl := List.mem_singleton.1 hx
    exact hc
theorem RefI.hit {w wr : World} {s : List UInt8} {k f ln : Nat} {out : List UInt8} {v : Value} (h : RefI w wr s k f ln out v) (hk : k < s.length) (hc : s[k]! = 10) :
    parseB s = stepP (findB ((s.drop f).take (k - f))) ln out fun out' => parseL (cutAll 10 (s.drop (k + 1))) (ln + 1) out' := by
  rw [h.eq]
  conv => lhs; rw [drop_parts s f k h.le hk, hc]
  rw [cutAll_hit _ _ _ h.no]
  cases hq : cutAll 10 (s.drop (k + 1)) with
  | nil => exact absurd hq (cutAll_ne _ _)
  | cons q r => rw [parseL]
theorem RefI.done {w wr : World} {s : List UInt8} {f ln : Nat} {out : List UInt8} {v : Value} (h : RefI w wr s s.length f ln out v) : parseB s = if f < s.length then ([], ln + 1, 120) else (out, 0, 0) := by
  rw [h.eq, cutAll_miss, parseL]
  · by_cases hf : f < s.length
    · rw [if_pos hf, if_neg (by
        intro h0
        have := congrArg List.length h0
        simp at this
        omega)]
    · rw [if_neg hf, if_pos (List.drop_eq_nil_of_le (by omega))]
  · intro x hx
    refine h.no x ?_
    rw [List.take_of_length_le (by simp)]
    exact hx
/-- Two bytes are appended to a row of the call's own: the run, ahead of the walk. -/
theorem append_two (ws : World) (base : Nat) (v : Value) (out : List UInt8) (o n : Nat) (ho : o < 256) (hn : n < 256) (hown : ws.ownsRow base 5 1 v out.length (Lib.byteCells out)) (hl : out.length ≤ 1000000) (hb : base ≤ ws.heap.size) :
    ∃ v' w', (Builtin.append_ #[41, 41] 41 #[v, .slice (some ⟨ws.heap.size, 0, none⟩) 2 2]).run Tryz.prog (ws.alloc (.cells #[.int .u8 (o : Int), .int .u8 (n : Int)] 5)) = .ok v' w' ∧
      w'.ownsRow base 5 1 v' (out ++ [UInt8.ofNat o, UInt8.ofNat n]).length (Lib.byteCells (out ++ [UInt8.ofNat o, UInt8.ofNat n])) ∧ (∀ B u, B ≤ base → Below B u ws → Below B u w') := by
  obtain ⟨i0, hi, hz0, hz1, hz2⟩ := info_parts info_byte4
  have hown2 := own_below hown ((Below.refl ws.heap.size ws).alloc (Nat.le_refl _) (.cells #[.int .u8 (o : Int), .int .u8 (n : Int)] 5))
  have hnew : Arr (ws.alloc (.cells #[.int .u8 (o : Int), .int .u8 (n : Int)] 5)) ws.heap.size 5 [.int .u8 (o : Int), .int .u8 (n : Int)] := Arr.new rfl rfl
  obtain ⟨v', w', hrun, r1, r2, r3, r4⟩ := run_append_own_at (P := Tryz.prog) (ws.alloc (.cells #[.int .u8 (o : Int), .int .u8 (n : Int)] 5)) base 41 41 5 i0 (.int .u8 0) 1 1 Tryz.underlying41 hi hz0 hz1 hz2 rfl (by decide) v out.length (Lib.byteCells out) hown2 ⟨ws.heap.size, 0, none⟩ 2 2 [.int .u8 (o : Int), .int .u8 (n : Int)] rfl (fun j u hu => by rw [Addr.add_mid, Nat.zero_add]; exact hnew.cell hu)
    (by intro u hu; simp at hu; rcases hu with rfl | rfl <;> rfl) (by unfold maxLen; omega) (by omega) (by simp; omega)
  have e : Lib.byteCells out ++ [Value.int .u8 (o : Int), .int .u8 (n : Int)] = Lib.byteCells (out ++ [UInt8.ofNat o, UInt8.ofNat n]) := by
    simp [Lib.byteCells, Nat.mod_eq_of_lt ho, Nat.mod_eq_of_lt hn]
  refine ⟨v', w', hrun, by rw [← e, List.length_append]; exact r1, fun B u hB hu => ?_⟩
  exact (hu.alloc (by omega) _).grown r2 (by simp; omega) (fun j ej => Nat.le_trans hB (hown2.lt j ej).1)

set_option maxRecDepth 100000 in
set_option maxHeartbeats 4000000 in
theorem refParse_any (s : List UInt8) (w : World) (hs : s.length ≤ 5000) :
    Calls Tryz.prog 15 #[.string (str s)] w fun e w' => e = .returned (.tuple #[.string (str (parseB s).1), .int .i64 ((parseB s).2.1 : Nat), .int .i64 (parseB s).2.2]) ∧ Below w.heap.size w w' := by
  have hps : (str s).size = s.length := str_size s
  have hPG : ∀ j (h : j < (str s).size), (((str s)[j].toNat : Nat) : Int) = (s[j]!.toNat : Nat) := fun j h => by
    rw [str_at, getElem!_pos s j (by rw [str_size] at h; exact h)]
  have hex := extract_mid s
  generalize str s = P at *
  replace hPG := Lib.hid hPG
  replace hps := Lib.hid hps
  replace hex := Lib.hid hex
  go_enter Tryz.func15, Tryz.ntmps15
  go_wp2_with fail
  go_loopw [8, 7, 6, 5] (fun i g l v wr => ∃ (k f ln : Nat) (out : List UInt8), k ≤ s.length ∧ i = .int .i64 k ∧ g = .int .i64 f ∧ l = .int .i64 ((ln : Int) + 1) ∧ Hid (RefI w wr s k f ln out v)) (fun i _ _ _ _ => s.length - (intOf i).toNat)
  case atStart => exact ⟨0, 0, 0, [], Nat.zero_le _, rfl, rfl, rfl, (show RefI _ _ _ _ _ _ _ _ from ⟨Below.refl _ _, World.ownsRow_nil _ _ _ _, rfl, by simp, Nat.le_refl _, Nat.zero_le _, by simp⟩)⟩
  case round =>
    obtain ⟨k, f, ln, out, hk, rfl, rfl, rfl, hI⟩ := hrel
    obtain ⟨ao, vc, rfl⟩ := own_val hI.out.own
    have hps' := hps.out
    have hfk := hI.out.le
    have hol := hI.out.len
    have hcap := hI.out.cap
    by_cases hlt : k < s.length
    · have hj0 : k < P.size := by omega
      have hd : decide ((k : Int) < (P.size : Int)) = true := by simp; omega
      have hg := hPG.out k hj0
      by_cases hc : s[k]! = 10
      · have hex' := hex.out f k
        have hstep := hI.out.hit hlt hc
        rw [hc] at hg
        have hq : ((((P[k]'hj0).toNat : Nat) : Int) != 10) = false := by rw [hg]; rfl
        have i1 : (0 : Int) ≤ (f : Int) := by omega
        have i2 : (f : Int) ≤ (k : Int) := by omega
        have i3 : (k : Int) ≤ (P.size : Int) := by omega
        have hFi := fun W => find_any ((s.drop f).take (k - f)) W (by rw [List.length_take]; omega)
        generalize (s.drop f).take (k - f) = pc at *
        clear hc
        replace hstep := Lib.hid hstep
        replace hFi := Lib.hid hFi
        replace hps' := Lib.hid hps'
        go_wp2_with fail
        refine (hFi.out _).mono ?_
        rintro e w2 ⟨o, n, ok, rfl, hy, hn, hb2⟩
        have hB2 := hI.out.below.trans (hb2.mono hI.out.below.size)
        have ho2 := own_below hI.out.own hb2
        cases ok with
        | false =>
          have hres : Hid (parseB s = ([], ln + 1, 120)) := by
            show _ = _
            rw [hstep.out, hn rfl]; rfl
          clear hy hn
          go_wp2_with fail
          rw [hres.out]
          exact bodyPost_ret (v := .tuple #[.string ⟨#[]⟩, .int .i64 ((ln : Int) + 1), .int .i64 120]) (by simp [results, Tryz.f15, go_sem]) rfl ⟨rfl, hB2⟩
        | true =>
          have hf := hy rfl
          obtain ⟨ho256, hn256, _⟩ := findB_some.1 hf
          clear hy hn
          by_cases hfull : 256 ≤ out.length
          · have hd2 : decide ((out.length : Int) ≥ 256) = true := by simp; omega
            have hres : Hid (parseB s = ([], ln + 1, 120)) := by
              show _ = _
              rw [hstep.out, hf, stepP, if_pos hfull]
            replace hf := Lib.hid hf
            go_wp2_with fail
            rw [hres.out]
            exact bodyPost_ret (v := .tuple #[.string ⟨#[]⟩, .int .i64 ((ln : Int) + 1), .int .i64 120]) (by simp [results, Tryz.f15, go_sem]) rfl ⟨rfl, hB2⟩
          · have hd2 : decide ((out.length : Int) ≥ 256) = false := by simp; omega
            obtain ⟨v', w', hrun, r1, r5⟩ := append_two w2 w.heap.size _ out o n ho256 hn256 ho2 (by omega) hB2.size
            have hIn : RefI w w' s (k + 1) (k + 1) (ln + 1) (out ++ [UInt8.ofNat o, UInt8.ofNat n]) v' := ⟨r5 _ _ (Nat.le_refl _) hB2, r1, by rw [hstep.out, hf, stepP, if_neg hfull], by simp, Nat.le_refl _, by omega, by simp; omega⟩
            have hw1 : IntKind.u8.wrap (o : Int) = (o : Int) := IntWalk.u8_in _ (by omega)
            have hw2 : IntKind.u8.wrap (n : Int) = (n : Int) := IntWalk.u8_in _ (by omega)
            have hw3 : IntKind.i64.wrap ((ln : Int) + 1 + 1) = (ln : Int) + 1 + 1 := IntWalk.i64_in _ (by omega)
            replace hIn := Lib.hid hIn
            replace hrun := Lib.hid hrun
            replace hf := Lib.hid hf
            clear r1 r5 ho2 hI
            go_wp2_with (at_builtin; go_loud (refine wpList_append_known rfl _ _ _ _ rfl _ _ rfl rfl hrun.out ?_))
            exact ⟨⟨k + 1, k + 1, ln + 1, _, by omega, by go_num, by go_num, by go_num, hIn⟩, by simp [intOf]; omega⟩
      · have hIn := Lib.hid (hI.out.miss hlt hc)
        have hc2 : s[k]!.toNat ≠ 10 := fun h => hc (UInt8.toNat_inj.1 h)
        clear hc
        generalize s[k]! = x at *
        have hq : ((((P[k]'hj0).toNat : Nat) : Int) != 10) = true := by rw [hg, bne_iff_ne]; omega
        have hq2 : (((x.toNat : Nat) : Int) != 10) = true := by rw [bne_iff_ne]; omega
        clear hI
        replace hps' := Lib.hid hps'
        go_wp2_with fail
        exact ⟨⟨k + 1, f, ln, _, by omega, by go_num, by go_num, rfl, hIn⟩, by simp [intOf]; omega⟩
    · obtain rfl : k = s.length := by omega
      have hd : decide ((s.length : Int) < (P.size : Int)) = false := by rw [hps']; simp
      have hj0 : ¬ s.length < P.size := by omega
      have hdone := hI.out.done
      have hBz := hI.out.below
      by_cases hf : f < s.length
      · have hd2 : decide ((f : Int) < (P.size : Int)) = true := by simp; omega
        have hf2 : f < P.size := by omega
        rw [if_pos hf] at hdone
        replace hdone := Lib.hid hdone
        replace hps' := Lib.hid hps'
        go_wp2_with fail
        rw [hdone.out]
        exact bodyPost_ret (v := .tuple #[.string ⟨#[]⟩, .int .i64 ((ln : Int) + 1), .int .i64 120]) (by simp [results, Tryz.f15, go_sem]) rfl ⟨rfl, hBz⟩
      · have hd2 : decide ((f : Int) < (P.size : Int)) = false := by simp; omega
        have hf2 : ¬ f < P.size := by omega
        rw [if_neg hf] at hdone
        have hconv := conv_own hI.out.own
        replace hdone := Lib.hid hdone
        replace hps' := Lib.hid hps'
        go_wp2_with fail
        rw [hdone.out]
        exact bodyPost_ret (v := .tuple #[.string (str out), .int .i64 0, .int .i64 0]) (by simp [results, Tryz.f15, go_sem]) rfl ⟨rfl, hBz⟩
end Go.Proofs.YtkgbknjpnhoadaaGreatDoor
