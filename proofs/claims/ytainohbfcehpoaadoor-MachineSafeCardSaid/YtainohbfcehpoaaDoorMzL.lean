/-
  The reference's digits and Print.
  The reference's Print.
  The reference's read: a line.
-/
import Derived.Test.YtainohbfcehpoaaDoorMzJ
import Derived.Test.YtainohbfcehpoaaDoorMzK
import Derived.Test.YtainohbfcehpoaaDoorMzD
namespace Go.Proofs.YtainohbfcehpoaaDoor
open Go.RowKit Go.Shelf

/-- How far the digits are written. -/
def DigI (u k : Nat) (l : List UInt8) : Prop := (l = [] ∧ k = u) ∨ (l ≠ [] ∧ ((0 < k ∧ Lib.decDigits u = Lib.decDigits k ++ l) ∨ (k = 0 ∧ Lib.decDigits u = l)))
theorem DigI.step {u k : Nat} {l : List UInt8} (h : DigI u k l) (hc : l = [] ∨ 0 < k) : DigI u (k / 10) (UInt8.ofNat (48 + k % 10) :: l) := by
  refine .inr ⟨by simp, ?_⟩
  have key : ∀ l : List UInt8, Lib.decDigits k ++ l = if k / 10 = 0 then UInt8.ofNat (48 + k % 10) :: l else Lib.decDigits (k / 10) ++ UInt8.ofNat (48 + k % 10) :: l := fun l => by
    by_cases h10 : k < 10
    · rw [if_pos (by omega), Lib.decDigits, dif_pos h10, Nat.mod_eq_of_lt h10]; rfl
    · rw [if_neg (by omega), Lib.decDigits, dif_neg h10]; simp
  have hd : Lib.decDigits u = Lib.decDigits k ++ l := by
    rcases h with ⟨rfl, rfl⟩ | ⟨hl, ⟨_, h⟩ | ⟨h0, _⟩⟩
    · simp
    · exact h
    · rcases hc with hc | hc
      · exact absurd hc hl
      · omega
  rw [key] at hd
  by_cases h0 : k / 10 = 0
  · rw [if_pos h0] at hd; exact .inr ⟨h0, hd⟩
  · rw [if_neg h0] at hd; exact .inl ⟨by omega, hd⟩
theorem DigI.done {u k : Nat} {l : List UInt8} (h : DigI u k l) (hl : l ≠ []) (hk : ¬ 0 < k) : l = Lib.decDigits u := by
  rcases h with ⟨h, _⟩ | ⟨_, ⟨h, _⟩ | ⟨_, h⟩⟩
  · exact absurd h hl
  · exact absurd h hk
  · exact h.symm
theorem DigI.len {u k : Nat} {l : List UInt8} (h : DigI u k l) (hu : u < 100000) : l.length ≤ 20 := by
  have h1 := decDigits_le (u := u) (by omega)
  rcases h with ⟨rfl, _⟩ | ⟨_, ⟨_, h⟩ | ⟨_, h⟩⟩
  · simp
  · rw [h] at h1; simp at h1; omega
  · rw [h] at h1; omega
theorem strOfNums_dig (d : Nat) : strOfNums [((48 + d : Nat) : Int)] = str [UInt8.ofNat (48 + d)] := rfl
def strLen0 : Value → Nat | .string s => if s.size = 0 then 1 else 0 | _ => 0

set_option maxRecDepth 100000 in
set_option maxHeartbeats 1000000 in
theorem digits8_any (u : Nat) (w : World) (hu : u < 100000) :
    Calls Tryd.prog 40 #[.int .i64 u] w fun e w' => e = .returned (.string (str (Lib.decDigits u))) ∧ Below w.heap.size w w' := by
  have hB : Below w.heap.size w w := Below.refl _ _
  go_enter Tryd.func40, Tryd.ntmps40
  go_wp2
  go_loopw [0, 3] (fun n o wr => ∃ (k : Nat) (l : List UInt8), n = .int .i64 k ∧ o = .string (str l) ∧ k < 100000 ∧ l.length ≤ 20 ∧ Hid (DigI u k l) ∧ Below w.heap.size w wr) (fun n o _ => 2 * (intOf n).toNat + strLen0 o)
  case atStart => exact ⟨u, [], rfl, rfl, hu, by simp, (show DigI u u [] from .inl ⟨rfl, rfl⟩), hB⟩
  case round =>
    clear hB
    obtain ⟨k, l, rfl, rfl, hk, hll, hI, hB⟩ := hrel
    have hBz := hB.size
    have hcv := run_convert_bytes_arg (P := Tryd.prog) (wr.alloc (.cells #[.int .u8 (48 + (k : Int) % 10)] 5)) 46 5 Tryd.underlying46 Tryd.underlying5 wr.heap.size 0 1 1 [48 + (k : Int) % 10] rfl (fun j hj => by
      obtain rfl : j = 0 := by omega
      exact (Mine.new rfl).cell) 9 Tryd.underlying9
    obtain ⟨ch, hch⟩ : ∃ ch, ch = UInt8.ofNat (48 + k % 10) := ⟨_, rfl⟩
    have hs1 : strOfNums [48 + (k : Int) % 10] = str [ch] := by
      rw [hch, show 48 + (k : Int) % 10 = ((48 + k % 10 : Nat) : Int) from by omega]; exact strOfNums_dig _
    rw [hs1] at hcv
    clear hs1
    have hadd := add_str [ch] l (by simp; omega)
    rw [show [ch] ++ l = ch :: l from rfl] at hadd
    by_cases hc : l = [] ∨ 0 < k
    · have hI2 := hI.out.step hc
      rw [← hch] at hI2
      replace hI2 := Lib.hid hI2
      clear hch
      have hsm : 2 * (k / 10) + strLen0 (.string (str (ch :: l))) < 2 * k + strLen0 (.string (str l)) := by
        have e : strLen0 (.string (str (ch :: l))) = 0 := by simp [strLen0, str_size]
        rw [e]
        rcases hc with rfl | hc
        · have : strLen0 (.string (str [])) = 1 := by simp [strLen0, str_size]
          omega
        · omega
      have hl2 : (ch :: l).length ≤ 20 := by
        rw [List.length_cons]
        have hlen := DigI.len hI2.out hu
        simpa using hlen
      replace hsm := Lib.hid hsm
      replace hl2 := Lib.hid hl2
      by_cases hl0 : l = []
      · have e1 : (str l).toList.isEmpty = true := by rw [ByteArray.toList_eq, str_list, hl0]; rfl
        clear hc hl0 hI hll
        go_wp2
        go_roundw
        case rel => exact ⟨k / 10, _, by go_num, rfl, by omega, hl2.out, hI2, (by repeat first | with_reducible exact Below.refl _ _ | with_reducible assumption | with_reducible refine below_drewN ?_ _ | with_reducible refine Below.drew ?_ | with_reducible refine Below.setCell ?_ (by first | exact Nat.le_refl _ | (simp; done) | (simp; omega) | omega) _ | with_reducible refine Below.alloc ?_ (by first | exact Nat.le_refl _ | (simp; done) | (simp; omega) | omega) _ | exact Below.refl _ _ | assumption)⟩
        case measure => have := hsm.out; simp only [intOf]; omega
      · have e1 : (str l).toList.isEmpty = false := by rw [ByteArray.toList_eq, str_list]; simpa using hl0
        have hk0 : 0 < k := by
          rcases hc with hc | hc
          · exact absurd hc hl0
          · exact hc
        have e2 : decide (0 < k) = true := by simpa using hk0
        clear hc hl0 hI hll hk0
        go_wp2
        go_roundw
        case rel => exact ⟨k / 10, _, by go_num, rfl, by omega, hl2.out, hI2, (by repeat first | with_reducible exact Below.refl _ _ | with_reducible assumption | with_reducible refine below_drewN ?_ _ | with_reducible refine Below.drew ?_ | with_reducible refine Below.setCell ?_ (by first | exact Nat.le_refl _ | (simp; done) | (simp; omega) | omega) _ | with_reducible refine Below.alloc ?_ (by first | exact Nat.le_refl _ | (simp; done) | (simp; omega) | omega) _ | exact Below.refl _ _ | assumption)⟩
        case measure => have := hsm.out; simp only [intOf]; omega
    · have hl0 : l ≠ [] := fun h => hc (.inl h)
      have hk0 : ¬ 0 < k := fun h => hc (.inr h)
      have hI2 := Lib.hid (hI.out.done hl0 hk0)
      have e1 : (str l).toList.isEmpty = false := by rw [ByteArray.toList_eq, str_list]; simpa using hl0
      have e2 : decide (0 < k) = false := by simpa using hk0
      clear hc hl0 hk0 hI hcv hadd hch
      go_wp2
      go_ret
      exact ⟨by rw [hI2.out]; rfl, hB⟩

end Go.Proofs.YtainohbfcehpoaaDoor
namespace Go.Proofs.YtainohbfcehpoaaDoor
open Go.RowKit Go.Shelf

/-- The table of the names, too. -/
structure EnvN (w : World) : Prop where
  envr : EnvR w
  names : ∀ o, o < 12 → w.cell? ⟨2, o, none⟩ = some (.string (str (opName o)))
theorem EnvN.below {w w' : World} (h : EnvN w) (hb : Below w.heap.size w w') : EnvN w' := ⟨h.envr.below hb, fun o ho => cell_below (h.names o ho) hb⟩
set_option maxRecDepth 100000 in
set_option maxHeartbeats 8000000 in
theorem printR_any (code : List UInt8) (w : World) (hc : code.length ≤ 1000000) (hE : EnvN w) :
    Calls Tryd.prog 20 #[.string (str code)] w fun e w' => e = .returned (.tuple #[.string (str (print8 code).1), .int .i64 (print8 code).2]) ∧ Below w.heap.size w w' := by
  have hP := Lib.hid (insR_any code w hc)
  go_enter Tryd.func20, Tryd.ntmps20
  go_wp2_with fail
  refine hP.out.mono ?_
  rintro e w1 ⟨hyes, hno, hb1⟩
  cases hf : formed code with
  | none =>
    obtain rfl := hno hf
    have hpr : Hid (print8 code = ([], 80)) := by show _ = _; unfold print8; rw [hf]
    clear hyes hno hf hP
    go_wp2_with fail
    go_ret2
    exact ⟨by rw [hpr.out]; rfl, hb1⟩
  | some L =>
    obtain ⟨g, cap, rfl, hg0, hg1, hLc, hcm, hRR⟩ := hyes L hf
    obtain ⟨hne, hlen, hdec, hLaid, hForm⟩ := formed_parts hf
    have hNeat := (formed_neat hf).1
    have hL1 : L.length ≤ 1024 := by
      have h1 := (evSeq_dec _ code (Nat.le_refl _) 0).1 L hdec
      have h2 := evSeq_len _ code (Nat.le_refl _) 0
      rw [h1, List.length_map] at h2
      omega
    have hpr : Hid (print8 code = (prefT L L.length, 0)) := by show _ = _; unfold print8; rw [hf, prefT_all]
    have hOps : ∀ i, i < L.length → L[i]!.op < 12 := hForm.ops
    clear hyes hno hf hP
    go_wp2_with fail
    go_loopw [6, 7] (fun s i wr => ∃ k : Nat, k ≤ L.length ∧ s = .string (str (prefT L k)) ∧ i = .int .i64 (k : Int) ∧ Hid (Below w1.heap.size w1 wr)) (fun _ i _ => L.length - (intOf i).toNat)
    case atStart => exact ⟨0, Nat.zero_le _, rfl, rfl, (show Hid _ from Below.refl _ _)⟩
    case round =>
      obtain ⟨k, hk, rfl, rfl, hall⟩ := hrel
      have hBk := hall.out
      clear hall
      have hBT := hb1.trans (hBk.mono hb1.size)
      by_cases hkl : k < L.length
      · have hdk : decide ((k : Int) < (L.length : Int)) = true := by simpa using hkl
        have hRk := hRR.keep (hBk.block g hg1)
        obtain ⟨_, m1, m2⟩ := hRk k hkl
        simp only [Nat.zero_add] at m1 m2
        have j0 : (0 : Int) ≤ (k : Int) := by omega
        have hw1k : IntKind.i64.wrap ((k : Int) + 1) = ((k + 1 : Nat) : Int) := by rw [Int.natCast_succ]; exact IntWalk.i64_in _ (by omega)
        have hlt := hOps k hkl
        have hnm := (hE.below hBT).names L[k]!.op hlt
        have hLd := Lib.hid (leads_any L[k]!.op wr hlt)
        have hpl := prefT_len hForm hNeat hL1 k hk
        have hsuc := prefT_succ hkl
        have hopd : L[k]!.opd < 65536 := by have := (dec_bnd hdec hkl).2; exact this
        have hto : leadOp L[k]!.op = true → idxOf L L[k]!.opd = some (toOf L L[k]!) ∧ toOf L L[k]! < L.length := fun h => ⟨hForm.to hkl h, (toOf_lt hForm hkl h).1⟩
        have hF := fun W' (hR' : RefRow W' g 0 L) => Lib.hid (find8_any g 0 cap L L[k]!.opd W' (by omega) hR')
        have hnl := opName_len hlt
        have hlo : leadOp L[k]!.op = true → longOp L[k]!.op = true := fun h => by
          unfold leadOp at h
          unfold longOp
          simp only [Bool.or_eq_true, beq_iff_eq] at h ⊢
          omega
        unfold lineT outN at hsuc
        obtain ⟨t, ht⟩ : ∃ t, t = toOf L L[k]! := ⟨_, rfl⟩
        rw [← ht] at hto hsuc
        replace ht := Lib.hid ht
        generalize prefT L k = c0 at *
        generalize hc9 : prefT L (k + 1) = c9 at *
        replace hc9 := Lib.hid hc9
        generalize L[k]! = z at *
        obtain ⟨zo, zop, zd⟩ := z
        dsimp only at *
        have i5 : (0 : Int) ≤ (zop : Int) := by omega
        have i6 : (zop : Int) < 12 := by omega
        generalize opName zop = nm at *
        obtain ⟨c1, h1⟩ : ∃ c, c = c0 ++ nm := ⟨_, rfl⟩
        have q1 := add_str c0 nm (by omega)
        rw [← h1] at q1
        have l1 : c1.length ≤ 30000 := by rw [h1, List.length_append]; omega
        replace h1 := Lib.hid h1
        replace hsuc := Lib.hid hsuc
        replace hto := Lib.hid hto
        replace hlo := Lib.hid hlo
        go_wp2_with fail
        refine hLd.out.mono ?_
        rintro e w2 ⟨rfl, q, rfl⟩
        have hR2 : RefRow (wr.drewN q) g 0 L := hRk
        have hB2 := below_drewN hBk q
        have m1' : (wr.drewN q).cell? ⟨g, k * 3 + 1, none⟩ = some (.int .i64 (zop : Int)) := m1
        have m2' : (wr.drewN q).cell? ⟨g, k * 3 + 2, none⟩ = some (.int .i64 (zd : Int)) := m2
        generalize wr.drewN q = w2 at *
        cases hl : leadOp zop with
        | true =>
          have hlong := hlo.out hl
          obtain ⟨ti, tl⟩ := hto.out hl
          replace hsuc := hsuc.out
          have hfz : findZ L zd = (t : Int) := by rw [findZ, ti]
          rw [hl, hlong, if_pos rfl, if_pos rfl] at hsuc
          have hdl := decDigits_le (u := t) (by omega)
          have hdg := fun W' => Lib.hid (digits8_any t W' (by omega))
          generalize Lib.decDigits t = dg at *
          obtain ⟨c2, h2⟩ : ∃ c, c = c1 ++ [32] := ⟨_, rfl⟩
          have q2 := add_str c1 [32] (by simp; omega)
          rw [← h2, show str [32] = (⟨#[32]⟩ : ByteArray) from rfl] at q2
          have l2 : c2.length ≤ 30001 := by rw [h2, List.length_append]; simp; omega
          obtain ⟨c3, h3⟩ : ∃ c, c = c2 ++ dg := ⟨_, rfl⟩
          have q3 := add_str c2 dg (by omega)
          rw [← h3] at q3
          have l3 : c3.length ≤ 30011 := by rw [h3, List.length_append]; omega
          have q4 := add_str c3 [10] (by simp; omega)
          have hc94 : c3 ++ [10] = c9 := by rw [hsuc, h3, h2, h1.out]; simp
          rw [hc94, show str [10] = (⟨#[10]⟩ : ByteArray) from rfl] at q4
          replace hc94 := Lib.hid hc94
          replace hsuc := Lib.hid hsuc
          replace h2 := Lib.hid h2
          replace h3 := Lib.hid h3
          replace ti := Lib.hid ti
          go_wp2_with fail
          refine (hF _ hR2).out.mono ?_
          rintro e w2 ⟨rfl, rfl⟩
          rw [hfz]
          go_wp2_with fail
          refine (hdg _).out.mono ?_
          rintro e w3 ⟨rfl, hb3⟩
          have hB3 := hB2.trans (hb3.mono hB2.size)
          clear hB2 hb3
          go_wp2_with fail
          exact ⟨⟨k + 1, by omega, by rw [hc9.out], by first | rfl | go_num, hB3⟩, by simp [intOf]; omega⟩
        | false =>
          have hH := Lib.hid (hasOperand_any zop w2 hlt)
          cases hlong : longOp zop with
          | false =>
            rw [hlong] at hH
            have hs2 := hsuc.out
            rw [hlong, if_neg (by decide)] at hs2
            have q4 := add_str c1 [10] (by simp; omega)
            have hc94 : c1 ++ [10] = c9 := by rw [hs2, h1.out]; simp
            rw [hc94, show str [10] = (⟨#[10]⟩ : ByteArray) from rfl] at q4
            replace hc94 := Lib.hid hc94
            replace hs2 := Lib.hid hs2
            go_wp2_with fail
            refine hH.out.mono ?_
            rintro e w3 ⟨rfl, q, rfl⟩
            have hB3 := below_drewN hB2 q
            go_wp2_with fail
            exact ⟨⟨k + 1, by omega, by rw [hc9.out], by first | rfl | go_num, hB3⟩, by simp [intOf]; omega⟩
          | true =>
            rw [hlong] at hH
            have hs2 := hsuc.out
            rw [hlong, if_pos rfl, hl, if_neg (by decide)] at hs2
            have hdl := decDigits_le (u := zd) (by omega)
            have hdg := fun W' => Lib.hid (digits8_any zd W' (by omega))
            generalize Lib.decDigits zd = dg at *
            obtain ⟨c2, h2⟩ : ∃ c, c = c1 ++ [32] := ⟨_, rfl⟩
            have q2 := add_str c1 [32] (by simp; omega)
            rw [← h2, show str [32] = (⟨#[32]⟩ : ByteArray) from rfl] at q2
            have l2 : c2.length ≤ 30001 := by rw [h2, List.length_append]; simp; omega
            obtain ⟨c3, h3⟩ : ∃ c, c = c2 ++ dg := ⟨_, rfl⟩
            have q3 := add_str c2 dg (by omega)
            rw [← h3] at q3
            have l3 : c3.length ≤ 30011 := by rw [h3, List.length_append]; omega
            have q4 := add_str c3 [10] (by simp; omega)
            have hc94 : c3 ++ [10] = c9 := by rw [hs2, h3, h2, h1.out]; simp
            rw [hc94, show str [10] = (⟨#[10]⟩ : ByteArray) from rfl] at q4
            replace hc94 := Lib.hid hc94
            replace hs2 := Lib.hid hs2
            replace h2 := Lib.hid h2
            replace h3 := Lib.hid h3
            go_wp2_with fail
            refine hH.out.mono ?_
            rintro e w3 ⟨rfl, q, rfl⟩
            have hB3 := below_drewN hB2 q
            have m2'' : (w2.drewN q).cell? ⟨g, k * 3 + 2, none⟩ = some (.int .i64 (zd : Int)) := m2'
            generalize w2.drewN q = w3 at *
            go_wp2_with fail
            refine (hdg _).out.mono ?_
            rintro e w4 ⟨rfl, hb4⟩
            have hB4 := hB3.trans (hb4.mono hB3.size)
            clear hB3 hb4
            go_wp2_with fail
            exact ⟨⟨k + 1, by omega, by rw [hc9.out], by first | rfl | go_num, hB4⟩, by simp [intOf]; omega⟩
      · have hdk : decide ((k : Int) < (L.length : Int)) = false := by simpa using hkl
        obtain rfl : k = L.length := by omega
        go_wp2_with fail
        go_ret2
        exact ⟨by rw [hpr.out]; rfl, hBT⟩
end Go.Proofs.YtainohbfcehpoaaDoor
namespace Go.Proofs.YtainohbfcehpoaaDoor
open Go.RowKit Go.Shelf

/-- An instruction is laid over another one, cell by cell. -/
theorem set3_all {W : World} {b : Nat} {T : TypeId} {x0 x1 x2 : Value} (hA : Arr W b T [x0, x1, x2]) (v0 v1 v2 : Value) :
    W.cell? ⟨b, 0, none⟩ = some x0 ∧ (W.setCell ⟨b, 0, none⟩ v0).cell? ⟨b, 1, none⟩ = some x1 ∧ ((W.setCell ⟨b, 0, none⟩ v0).setCell ⟨b, 1, none⟩ v1).cell? ⟨b, 2, none⟩ = some x2 ∧
    W.frozen? ⟨b, 0, none⟩ = false ∧ W.frozen? ⟨b, 1, none⟩ = false ∧ W.frozen? ⟨b, 2, none⟩ = false ∧
    (((W.setCell ⟨b, 0, none⟩ v0).setCell ⟨b, 1, none⟩ v1).setCell ⟨b, 2, none⟩ v2).cell? ⟨b, 0, none⟩ = some v0 ∧ (((W.setCell ⟨b, 0, none⟩ v0).setCell ⟨b, 1, none⟩ v1).setCell ⟨b, 2, none⟩ v2).cell? ⟨b, 1, none⟩ = some v1 ∧ (((W.setCell ⟨b, 0, none⟩ v0).setCell ⟨b, 1, none⟩ v1).setCell ⟨b, 2, none⟩ v2).cell? ⟨b, 2, none⟩ = some v2 := by
  have h1 := hA.set 0 v0
  have h2 := h1.set 1 v1
  have h3 := h2.set 2 v2
  exact ⟨hA.cell (j := 0) rfl, h1.cell (j := 1) rfl, h2.cell (j := 2) rfl, hA.free 0, hA.free 1, hA.free 2, h3.cell (j := 0) rfl, h3.cell (j := 1) rfl, h3.cell (j := 2) rfl⟩
theorem set3_below {B : Nat} {w W : World} (h : Below B w W) {b : Nat} (hb : B ≤ b) (v0 v1 v2 : Value) : Below B w (((W.setCell ⟨b, 0, none⟩ v0).setCell ⟨b, 1, none⟩ v1).setCell ⟨b, 2, none⟩ v2) :=
  ((h.setCell (p := ⟨b, 0, none⟩) hb _).setCell (p := ⟨b, 1, none⟩) hb _).setCell (p := ⟨b, 2, none⟩) hb _
def rdV (o n : Nat) (ok : Bool) : Value := .tuple #[.agg #[.int .i64 0, .int .i64 (o : Int), .int .i64 (n : Int)], .bool ok]
/-- What the reference's read returns. -/
def ReadRPost (s : List UInt8) (w : World) (e : Ending) (w' : World) : Prop :=
  ∃ (o n : Nat) (ok : Bool), e = .returned (rdV o n ok) ∧ o < 12 ∧ n < 100000 ∧ (ok = true → readT s = some (o, n)) ∧ (ok = false → readT s = none) ∧ Below w.heap.size w w'
theorem str_neq2 {a b : List UInt8} (h : a ≠ b) : ((str a).toList != (str b).toList) = true := by rw [bne, str_neq h]; rfl
theorem str_eqq2 (a : List UInt8) : ((str a).toList != (str a).toList) = false := by rw [bne, str_eqq a]; rfl
theorem extract_drop (s : List UInt8) (k : Nat) : (str s).extract k s.length = str (s.drop k) := by
  rw [extract_mid, List.take_of_length_le (by rw [List.length_drop]; omega)]
set_option maxRecDepth 100000 in
set_option maxHeartbeats 4000000 in
theorem readR_any (s : List UInt8) (w : World) (hs : s.length ≤ 1000000) (hE : EnvN w) :
    Calls Tryd.prog 44 #[.string (str s)] w fun e w' => ReadRPost s w e w' := by
  have hps := str_size s
  have hPG : ∀ j (h : j < (str s).size), (((str s)[j].toNat : Nat) : Int) = (s[j]!.toNat : Nat) := fun j h => by
    rw [getElem!_pos s j (by rw [str_size] at h; exact h)]
    show (((str s).data[j]'_ : UInt8).toNat : Int) = _
    simp [str]
  have hex := extract_take s
  have hex2 := extract_drop s
  have hEq := fun (t : List UInt8) (h : s = t) => (show ((str s).toList == (str t).toList) = true by rw [h]; exact str_eqq t)
  have hNe := fun (t : List UInt8) (h : s ≠ t) => str_neq h
  obtain ⟨W0, hW0⟩ : ∃ W0, W0 = w.alloc (.cells #[.int .i64 0, .int .i64 0, .int .i64 0] 43) := ⟨_, rfl⟩
  have hb0 : Below w.heap.size w W0 := by rw [hW0]; exact (Below.refl _ _).alloc (Nat.le_refl _) _
  have hA0 : Arr W0 w.heap.size 43 [.int .i64 0, .int .i64 0, .int .i64 0] := by rw [hW0]; exact Arr.new rfl rfl
  have hrt0 : ∀ W, Below w.heap.size w W → readT s = none → ReadRPost s w (.returned (rdV 0 0 false)) W := fun W hb h => ⟨0, 0, false, rfl, by omega, by omega, fun e => (by cases e), fun _ => h, hb⟩
  generalize hP : str s = P at *
  replace hP := Lib.hid hP
  replace hPG := Lib.hid hPG
  replace hex := Lib.hid hex
  replace hex2 := Lib.hid hex2
  replace hEq := Lib.hid hEq
  replace hNe := Lib.hid hNe
  go_enter Tryd.func44, Tryd.ntmps44
  go_wp2_with fail
  rw [← hW0]
  clear hW0
  go_loopw [4] (fun i wr => ∃ o : Nat, o ≤ 12 ∧ i = .int .i64 (o : Int) ∧ Hid ((∀ p, p < o → ∀ n, ¬ LineOf s p n) ∧ Below w.heap.size w wr ∧ Arr wr w.heap.size 43 [.int .i64 0, .int .i64 0, .int .i64 0])) (fun i _ => 12 - (intOf i).toNat)
  case atStart => exact ⟨0, Nat.zero_le _, rfl, (show Hid _ from ⟨fun p h => by omega, hb0, hA0⟩)⟩
  case round =>
    obtain ⟨o, ho, rfl, hall⟩ := hrel
    obtain ⟨hno, hB, hA⟩ := hall.out
    clear hall hb0 hA0
    have hwo : IntKind.i64.wrap ((o : Int) + 1) = ((o + 1 : Nat) : Int) := by rw [Int.natCast_succ]; exact IntWalk.i64_in _ (by omega)
    by_cases hlt : o < 12
    · have hd : decide ((o : Int) < 12) = true := by simp; omega
      have hH := Lib.hid (hasOperand_any o wr hlt)
      have hnm := (hE.below hB).names o hlt
      have i1 : (0 : Int) ≤ (o : Int) := by omega
      have i2 : (o : Int) < 12 := by omega
      have hgoon : (∀ n, ¬ LineOf s o n) → ∀ p, p < o + 1 → ∀ n, ¬ LineOf s p n := fun h p hp => by
        by_cases e : p = o
        · subst e; exact h
        · exact hno p (by omega)
      have hnl := opName_len hlt
      have hnl1 : 1 ≤ (opName o).length := by
        rcases (show o = 0 ∨ o = 1 ∨ o = 2 ∨ o = 3 ∨ o = 4 ∨ o = 5 ∨ o = 6 ∨ o = 7 ∨ o = 8 ∨ o = 9 ∨ o = 10 ∨ o = 11 by omega) with rfl | rfl | rfl | rfl | rfl | rfl | rfl | rfl | rfl | rfl | rfl | rfl <;> decide
      cases hl : longOp o with
      | false =>
        rw [hl] at hH
        by_cases hso : s = opName o
        · have hq := hEq.out _ hso
          have hrd : readT s = some (o, 0) := by rw [hso]; exact rd_short hlt hl
          replace hso := Lib.hid hso
          replace hrd := Lib.hid hrd
          generalize opName o = nm at *
          clear hgoon
          go_wp2_with fail
          refine hH.out.mono ?_
          rintro e w2 ⟨rfl, q, rfl⟩
          have hA2 : Arr (wr.drewN q) w.heap.size 43 [.int .i64 0, .int .i64 0, .int .i64 0] := hA
          have hB2 := below_drewN hB q
          have hnm2 : (wr.drewN q).cell? ⟨2, o, none⟩ = some (.string (str nm)) := hnm
          generalize wr.drewN q = w2 at *
          obtain ⟨s0, s1, s2, t0, t1, t2, r0, r1, r2⟩ := set3_all hA2 (.int .i64 0) (.int .i64 (o : Int)) (.int .i64 0)
          have hfin : Hid (ReadRPost s w (.returned (rdV o 0 true)) (((w2.setCell ⟨w.heap.size, 0, none⟩ (.int .i64 0)).setCell ⟨w.heap.size, 1, none⟩ (.int .i64 (o : Int))).setCell ⟨w.heap.size, 2, none⟩ (.int .i64 0))) := ⟨o, 0, true, rfl, hlt, by omega, fun _ => hrd.out, fun e => (by cases e), set3_below hB2 (Nat.le_refl _) _ _ _⟩
          go_wp2_with fail
          exact bodyPost_ret (v := rdV o 0 true) (by simp [rdV, results, Tryd.f44, go_sem, r0, r1, r2]) rfl hfin.out
        · have hq := hNe.out _ hso
          have hgo2 := Lib.hid (hgoon (rd_short_no hl hso))
          replace hso := Lib.hid hso
          generalize opName o = nm at *
          clear hgoon
          go_wp2_with fail
          refine hH.out.mono ?_
          rintro e w2 ⟨rfl, q, rfl⟩
          have hA2 : Arr (wr.drewN q) w.heap.size 43 [.int .i64 0, .int .i64 0, .int .i64 0] := hA
          have hB2 := below_drewN hB q
          have hnm2 : (wr.drewN q).cell? ⟨2, o, none⟩ = some (.string (str nm)) := hnm
          generalize wr.drewN q = w2 at *
          go_wp2_with fail
          exact ⟨⟨o + 1, by omega, by first | rfl | go_num, (show Hid _ from ⟨hgo2.out, hB2, hA2⟩)⟩, by simp [intOf]; omega⟩
      | true =>
        rw [hl] at hH
        have hlno := fun h => rd_long_no (s := s) hl h
        have hpar := fun h => rd_parts (s := s) (o := o) h
        have hbad := fun (r : List UInt8) (hs : s = opName o ++ 32 :: r) (x : UInt8) hx hb => rd_bad hlt hs (x := x) hx hb
        have hgood := fun (r : List UInt8) (n : Nat) (hn : n ≤ 65535) (hr : Lib.decDigits n = r) => rd_good (o := o) hlt hl hn hr
        have hnog := fun (r : List UInt8) (n : Nat) (hs : s = opName o ++ 32 :: r) hv hn => rd_nogood (n := n) hlt hs hv hn
        have hadd := add_str (opName o) [32] (by simp; omega)
        rw [show str [32] = (⟨#[32]⟩ : ByteArray) from rfl] at hadd
        generalize opName o = nm at *
        obtain ⟨nl, hnlen⟩ : ∃ nl, nl = nm.length := ⟨_, rfl⟩
        rw [← hnlen] at hnl hnl1 hlno hpar
        have hwk : IntKind.i64.wrap ((nl : Int) + 1) = (nl : Int) + 1 := IntWalk.i64_in _ (by omega)
        have hwk5 : IntKind.i64.wrap ((nl : Int) + 1 + 5) = (nl : Int) + 1 + 5 := IntWalk.i64_in _ (by omega)
        have hnsz : (str nm).size = nl := by rw [str_size, hnlen]
        replace hnlen := Lib.hid hnlen
        replace hlno := Lib.hid hlno
        replace hpar := Lib.hid hpar
        replace hbad := Lib.hid hbad
        replace hgood := Lib.hid hgood
        replace hnog := Lib.hid hnog
        replace hgoon := Lib.hid hgoon
        replace hno := Lib.hid hno
        go_wp2_with fail
        refine hH.out.mono ?_
        rintro e w2 ⟨rfl, q, rfl⟩
        have hA2 : Arr (wr.drewN q) w.heap.size 43 [.int .i64 0, .int .i64 0, .int .i64 0] := hA
        have hB2 := below_drewN hB q
        have hnm2 : (wr.drewN q).cell? ⟨2, o, none⟩ = some (.string (str nm)) := hnm
        generalize wr.drewN q = w2 at *
        clear hA hB hnm hH
        by_cases c1 : s.length ≤ nl + 1
        · have d1 : decide ((s.length : Int) ≤ (nl : Int) + 1) = true := by simp; omega
          have hgo2 := Lib.hid (hgoon.out (hlno.out (.inl c1)))
          go_wp2_with fail
          refine wp_region_held_drew (S := fun w' => True) (by kernel_rfl) (by trivial) (fun hHeld => ?_)
          refine take_l (i := 0) (v := ?_) rfl (by kernel_rfl) (by kernel_rfl) (by kernel_rfl) (fun _ _ _ h => h) (Or.inl ⟨by kernel_rfl, ?_⟩) (by assumption) ?_
          rotate_left
          · intro w hSw; (try dsimp only at hSw); go_simp; (try with_reducible rfl)
          (try simp only [Act.put, List.setIfInBounds_toArray, List.set_cons_zero, List.set_cons_succ])
          refine take_l (i := 1) (v := ?_) rfl (by kernel_rfl) (by kernel_rfl) (by kernel_rfl) (fun _ _ _ h => h) (Or.inl ⟨by kernel_rfl, ?_⟩) (by assumption) ?_
          rotate_left
          · intro w hSw; (try dsimp only at hSw); go_simp; (try with_reducible rfl)
          (try simp only [Act.put, List.setIfInBounds_toArray, List.set_cons_zero, List.set_cons_succ])
          refine take_l (i := 2) (v := ?_) rfl (by kernel_rfl) (by kernel_rfl) (by kernel_rfl) (fun _ _ _ h => h) (Or.inl ⟨by kernel_rfl, ?_⟩) (by assumption) ?_
          rotate_left
          · intro w hSw; (try dsimp only at hSw); go_simp; (try with_reducible rfl)
          (try simp only [Act.put, List.setIfInBounds_toArray, List.set_cons_zero, List.set_cons_succ])
          refine take_l (i := 3) (v := ?_) rfl (by kernel_rfl) (by kernel_rfl) (by kernel_rfl) (fun _ _ _ h => h) (Or.inl ⟨by kernel_rfl, ?_⟩) (by assumption) ?_
          rotate_left
          · intro w hSw; (try dsimp only at hSw); go_simp; (try with_reducible rfl)
          (try simp only [Act.put, List.setIfInBounds_toArray, List.set_cons_zero, List.set_cons_succ])
          refine take_l (i := 4) (v := ?_) rfl (by kernel_rfl) (by kernel_rfl) (by kernel_rfl) (fun _ _ _ h => h) (Or.inl ⟨by kernel_rfl, ?_⟩) (by assumption) ?_
          rotate_left
          · intro w hSw; (try dsimp only at hSw); go_simp; (try with_reducible rfl)
          (try simp only [Act.put, List.setIfInBounds_toArray, List.set_cons_zero, List.set_cons_succ])
          refine take_l (i := 5) (v := undef) rfl (by kernel_rfl) (by kernel_rfl) (by kernel_rfl) (fun _ _ _ h => h) (Or.inr ⟨by kernel_rfl, rfl⟩) (by assumption) ?_
          (try simp only [Act.put, List.setIfInBounds_toArray, List.set_cons_zero, List.set_cons_succ])
          refine take_l (i := 6) (v := undef) rfl (by kernel_rfl) (by kernel_rfl) (by kernel_rfl) (fun _ _ _ h => h) (Or.inr ⟨by kernel_rfl, rfl⟩) (by assumption) ?_
          (try simp only [Act.put, List.setIfInBounds_toArray, List.set_cons_zero, List.set_cons_succ])
          refine take_l (i := 7) (v := undef) rfl (by kernel_rfl) (by kernel_rfl) (by kernel_rfl) (fun _ _ _ h => h) (Or.inr ⟨by kernel_rfl, rfl⟩) (by assumption) ?_
          (try simp only [Act.put, List.setIfInBounds_toArray, List.set_cons_zero, List.set_cons_succ])
          refine take_l (i := 8) (v := undef) rfl (by kernel_rfl) (by kernel_rfl) (by kernel_rfl) (fun _ _ _ h => h) (Or.inr ⟨by kernel_rfl, rfl⟩) (by assumption) ?_
          (try simp only [Act.put, List.setIfInBounds_toArray, List.set_cons_zero, List.set_cons_succ])
          refine take_l (i := 9) (v := undef) rfl (by kernel_rfl) (by kernel_rfl) (by kernel_rfl) (fun _ _ _ h => h) (Or.inr ⟨by kernel_rfl, rfl⟩) (by assumption) ?_
          (try simp only [Act.put, List.setIfInBounds_toArray, List.set_cons_zero, List.set_cons_succ])
          refine take_l (i := 10) (v := ?_) rfl (by kernel_rfl) (by kernel_rfl) (by kernel_rfl) (fun _ _ _ h => h) (Or.inl ⟨by kernel_rfl, ?_⟩) (by assumption) ?_
          rotate_left
          · intro w hSw; (try dsimp only at hSw); go_simp; (try with_reducible rfl)
          (try simp only [Act.put, List.setIfInBounds_toArray, List.set_cons_zero, List.set_cons_succ])
          refine take_l (i := 11) (v := ?_) rfl (by kernel_rfl) (by kernel_rfl) (by kernel_rfl) (fun _ _ _ h => h) (Or.inl ⟨by kernel_rfl, ?_⟩) (by assumption) ?_
          rotate_left
          · intro w hSw; (try dsimp only at hSw); go_simp; (try with_reducible rfl)
          (try simp only [Act.put, List.setIfInBounds_toArray, List.set_cons_zero, List.set_cons_succ])
          refine take_l (i := 12) (v := undef) rfl (by kernel_rfl) (by kernel_rfl) (by kernel_rfl) (fun _ _ _ h => h) (Or.inr ⟨by kernel_rfl, rfl⟩) (by assumption) ?_
          (try simp only [Act.put, List.setIfInBounds_toArray, List.set_cons_zero, List.set_cons_succ])
          refine take_l (i := 13) (v := undef) rfl (by kernel_rfl) (by kernel_rfl) (by kernel_rfl) (fun _ _ _ h => h) (Or.inr ⟨by kernel_rfl, rfl⟩) (by assumption) ?_
          (try simp only [Act.put, List.setIfInBounds_toArray, List.set_cons_zero, List.set_cons_succ])
          refine take_l (i := 14) (v := undef) rfl (by kernel_rfl) (by kernel_rfl) (by kernel_rfl) (fun _ _ _ h => h) (Or.inr ⟨by kernel_rfl, rfl⟩) (by assumption) ?_
          (try simp only [Act.put, List.setIfInBounds_toArray, List.set_cons_zero, List.set_cons_succ])
          refine take_l (i := 15) (v := undef) rfl (by kernel_rfl) (by kernel_rfl) (by kernel_rfl) (fun _ _ _ h => h) (Or.inr ⟨by kernel_rfl, rfl⟩) (by assumption) ?_
          (try simp only [Act.put, List.setIfInBounds_toArray, List.set_cons_zero, List.set_cons_succ])
          refine take_l (i := 16) (v := undef) rfl (by kernel_rfl) (by kernel_rfl) (by kernel_rfl) (fun _ _ _ h => h) (Or.inr ⟨by kernel_rfl, rfl⟩) (by assumption) ?_
          (try simp only [Act.put, List.setIfInBounds_toArray, List.set_cons_zero, List.set_cons_succ])
          refine take_l (i := 17) (v := undef) rfl (by kernel_rfl) (by kernel_rfl) (by kernel_rfl) (fun _ _ _ h => h) (Or.inr ⟨by kernel_rfl, rfl⟩) (by assumption) ?_
          (try simp only [Act.put, List.setIfInBounds_toArray, List.set_cons_zero, List.set_cons_succ])
          refine take_l (i := 18) (v := undef) rfl (by kernel_rfl) (by kernel_rfl) (by kernel_rfl) (fun _ _ _ h => h) (Or.inr ⟨by kernel_rfl, rfl⟩) (by assumption) ?_
          (try simp only [Act.put, List.setIfInBounds_toArray, List.set_cons_zero, List.set_cons_succ])
          refine take_l (i := 19) (v := undef) rfl (by kernel_rfl) (by kernel_rfl) (by kernel_rfl) (fun _ _ _ h => h) (Or.inr ⟨by kernel_rfl, rfl⟩) (by assumption) ?_
          (try simp only [Act.put, List.setIfInBounds_toArray, List.set_cons_zero, List.set_cons_succ])
          refine take_l (i := 20) (v := ?_) rfl (by kernel_rfl) (by kernel_rfl) (by kernel_rfl) (fun _ _ _ h => h) (Or.inl ⟨by kernel_rfl, ?_⟩) (by assumption) ?_
          rotate_left
          · intro w hSw; (try dsimp only at hSw); go_simp; (try with_reducible rfl)
          (try simp only [Act.put, List.setIfInBounds_toArray, List.set_cons_zero, List.set_cons_succ])
          refine wpAnyH_done (by kernel_rfl) ?_ _
          go_wp2_with fail
          exact ⟨⟨o + 1, by omega, by first | rfl | go_num, (show Hid _ from ⟨hgo2.out, hB2.drew, hA2.drew⟩)⟩, by simp [intOf]; omega⟩
        · have d1 : decide ((s.length : Int) ≤ (nl : Int) + 1) = false := by simp; omega
          by_cases c2 : nl + 1 + 5 < s.length
          · have d2 : decide ((s.length : Int) > (nl : Int) + 1 + 5) = true := by simp; omega
            have d3 : decide ((nl : Int) + 1 + 5 < (s.length : Int)) = true := by simp; omega
            have hgo2 := Lib.hid (hgoon.out (hlno.out (.inr (.inl c2))))
            go_wp2_with fail
            refine wp_region_held_drew (S := fun w' => True) (by kernel_rfl) (by trivial) (fun hHeld => ?_)
            refine take_l (i := 0) (v := ?_) rfl (by kernel_rfl) (by kernel_rfl) (by kernel_rfl) (fun _ _ _ h => h) (Or.inl ⟨by kernel_rfl, ?_⟩) (by assumption) ?_
            rotate_left
            · intro w hSw; (try dsimp only at hSw); go_simp; (try with_reducible rfl)
            (try simp only [Act.put, List.setIfInBounds_toArray, List.set_cons_zero, List.set_cons_succ])
            refine take_l (i := 1) (v := ?_) rfl (by kernel_rfl) (by kernel_rfl) (by kernel_rfl) (fun _ _ _ h => h) (Or.inl ⟨by kernel_rfl, ?_⟩) (by assumption) ?_
            rotate_left
            · intro w hSw; (try dsimp only at hSw); go_simp; (try with_reducible rfl)
            (try simp only [Act.put, List.setIfInBounds_toArray, List.set_cons_zero, List.set_cons_succ])
            refine take_l (i := 2) (v := ?_) rfl (by kernel_rfl) (by kernel_rfl) (by kernel_rfl) (fun _ _ _ h => h) (Or.inl ⟨by kernel_rfl, ?_⟩) (by assumption) ?_
            rotate_left
            · intro w hSw; (try dsimp only at hSw); go_simp; (try with_reducible rfl)
            (try simp only [Act.put, List.setIfInBounds_toArray, List.set_cons_zero, List.set_cons_succ])
            refine take_l (i := 3) (v := ?_) rfl (by kernel_rfl) (by kernel_rfl) (by kernel_rfl) (fun _ _ _ h => h) (Or.inl ⟨by kernel_rfl, ?_⟩) (by assumption) ?_
            rotate_left
            · intro w hSw; (try dsimp only at hSw); go_simp; (try with_reducible rfl)
            (try simp only [Act.put, List.setIfInBounds_toArray, List.set_cons_zero, List.set_cons_succ])
            refine take_l (i := 4) (v := ?_) rfl (by kernel_rfl) (by kernel_rfl) (by kernel_rfl) (fun _ _ _ h => h) (Or.inl ⟨by kernel_rfl, ?_⟩) (by assumption) ?_
            rotate_left
            · intro w hSw; (try dsimp only at hSw); go_simp; (try with_reducible rfl)
            (try simp only [Act.put, List.setIfInBounds_toArray, List.set_cons_zero, List.set_cons_succ])
            refine take_l (i := 5) (v := ?_) rfl (by kernel_rfl) (by kernel_rfl) (by kernel_rfl) (fun _ _ _ h => h) (Or.inl ⟨by kernel_rfl, ?_⟩) (by assumption) ?_
            rotate_left
            · intro w hSw; (try dsimp only at hSw); go_simp; (try with_reducible rfl)
            (try simp only [Act.put, List.setIfInBounds_toArray, List.set_cons_zero, List.set_cons_succ])
            refine take_l (i := 6) (v := ?_) rfl (by kernel_rfl) (by kernel_rfl) (by kernel_rfl) (fun _ _ _ h => h) (Or.inl ⟨by kernel_rfl, ?_⟩) (by assumption) ?_
            rotate_left
            · intro w hSw; (try dsimp only at hSw); go_simp; (try with_reducible rfl)
            (try simp only [Act.put, List.setIfInBounds_toArray, List.set_cons_zero, List.set_cons_succ])
            refine take_l (i := 7) (v := ?_) rfl (by kernel_rfl) (by kernel_rfl) (by kernel_rfl) (fun _ _ _ h => h) (Or.inl ⟨by kernel_rfl, ?_⟩) (by assumption) ?_
            rotate_left
            · intro w hSw; (try dsimp only at hSw); go_simp; (try with_reducible rfl)
            (try simp only [Act.put, List.setIfInBounds_toArray, List.set_cons_zero, List.set_cons_succ])
            refine take_l (i := 8) (v := ?_) rfl (by kernel_rfl) (by kernel_rfl) (by kernel_rfl) (fun _ _ _ h => h) (Or.inl ⟨by kernel_rfl, ?_⟩) (by assumption) ?_
            rotate_left
            · intro w hSw; (try dsimp only at hSw); go_simp; (try with_reducible rfl)
            (try simp only [Act.put, List.setIfInBounds_toArray, List.set_cons_zero, List.set_cons_succ])
            refine take_l (i := 9) (v := ?_) rfl (by kernel_rfl) (by kernel_rfl) (by kernel_rfl) (fun _ _ _ h => h) (Or.inl ⟨by kernel_rfl, ?_⟩) (by assumption) ?_
            rotate_left
            · intro w hSw; (try dsimp only at hSw); go_simp; (try with_reducible rfl)
            (try simp only [Act.put, List.setIfInBounds_toArray, List.set_cons_zero, List.set_cons_succ])
            refine take_l (i := 10) (v := ?_) rfl (by kernel_rfl) (by kernel_rfl) (by kernel_rfl) (fun _ _ _ h => h) (Or.inl ⟨by kernel_rfl, ?_⟩) (by assumption) ?_
            rotate_left
            · intro w hSw; (try dsimp only at hSw); go_simp; (try with_reducible rfl)
            (try simp only [Act.put, List.setIfInBounds_toArray, List.set_cons_zero, List.set_cons_succ])
            refine take_l (i := 11) (v := ?_) rfl (by kernel_rfl) (by kernel_rfl) (by kernel_rfl) (fun _ _ _ h => h) (Or.inl ⟨by kernel_rfl, ?_⟩) (by assumption) ?_
            rotate_left
            · intro w hSw; (try dsimp only at hSw); go_simp; (try with_reducible rfl)
            (try simp only [Act.put, List.setIfInBounds_toArray, List.set_cons_zero, List.set_cons_succ])
            refine take_l (i := 12) (v := undef) rfl (by kernel_rfl) (by kernel_rfl) (by kernel_rfl) (fun _ _ _ h => h) (Or.inr ⟨by kernel_rfl, rfl⟩) (by assumption) ?_
            (try simp only [Act.put, List.setIfInBounds_toArray, List.set_cons_zero, List.set_cons_succ])
            refine take_l (i := 13) (v := undef) rfl (by kernel_rfl) (by kernel_rfl) (by kernel_rfl) (fun _ _ _ h => h) (Or.inr ⟨by kernel_rfl, rfl⟩) (by assumption) ?_
            (try simp only [Act.put, List.setIfInBounds_toArray, List.set_cons_zero, List.set_cons_succ])
            refine take_l (i := 14) (v := undef) rfl (by kernel_rfl) (by kernel_rfl) (by kernel_rfl) (fun _ _ _ h => h) (Or.inr ⟨by kernel_rfl, rfl⟩) (by assumption) ?_
            (try simp only [Act.put, List.setIfInBounds_toArray, List.set_cons_zero, List.set_cons_succ])
            refine take_l (i := 15) (v := undef) rfl (by kernel_rfl) (by kernel_rfl) (by kernel_rfl) (fun _ _ _ h => h) (Or.inr ⟨by kernel_rfl, rfl⟩) (by assumption) ?_
            (try simp only [Act.put, List.setIfInBounds_toArray, List.set_cons_zero, List.set_cons_succ])
            refine take_l (i := 16) (v := undef) rfl (by kernel_rfl) (by kernel_rfl) (by kernel_rfl) (fun _ _ _ h => h) (Or.inr ⟨by kernel_rfl, rfl⟩) (by assumption) ?_
            (try simp only [Act.put, List.setIfInBounds_toArray, List.set_cons_zero, List.set_cons_succ])
            refine take_l (i := 17) (v := undef) rfl (by kernel_rfl) (by kernel_rfl) (by kernel_rfl) (fun _ _ _ h => h) (Or.inr ⟨by kernel_rfl, rfl⟩) (by assumption) ?_
            (try simp only [Act.put, List.setIfInBounds_toArray, List.set_cons_zero, List.set_cons_succ])
            refine take_l (i := 18) (v := undef) rfl (by kernel_rfl) (by kernel_rfl) (by kernel_rfl) (fun _ _ _ h => h) (Or.inr ⟨by kernel_rfl, rfl⟩) (by assumption) ?_
            (try simp only [Act.put, List.setIfInBounds_toArray, List.set_cons_zero, List.set_cons_succ])
            refine take_l (i := 19) (v := undef) rfl (by kernel_rfl) (by kernel_rfl) (by kernel_rfl) (fun _ _ _ h => h) (Or.inr ⟨by kernel_rfl, rfl⟩) (by assumption) ?_
            (try simp only [Act.put, List.setIfInBounds_toArray, List.set_cons_zero, List.set_cons_succ])
            refine take_l (i := 20) (v := ?_) rfl (by kernel_rfl) (by kernel_rfl) (by kernel_rfl) (fun _ _ _ h => h) (Or.inl ⟨by kernel_rfl, ?_⟩) (by assumption) ?_
            rotate_left
            · intro w hSw; (try dsimp only at hSw); go_simp; (try with_reducible rfl)
            (try simp only [Act.put, List.setIfInBounds_toArray, List.set_cons_zero, List.set_cons_succ])
            refine wpAnyH_done (by kernel_rfl) ?_ _
            go_wp2_with fail
            exact ⟨⟨o + 1, by omega, by first | rfl | go_num, (show Hid _ from ⟨hgo2.out, hB2.drew, hA2.drew⟩)⟩, by simp [intOf]; omega⟩
          · have d2 : decide ((s.length : Int) > (nl : Int) + 1 + 5) = false := by simp; omega
            have d3 : decide ((nl : Int) + 1 + 5 < (s.length : Int)) = false := by simp; omega
            have hexk := hex.out (nl + 1)
            have k1 : (0 : Int) ≤ (nl : Int) + 1 := by omega
            have k2 : (nl : Int) + 1 ≤ (s.length : Int) := by omega
            have k3 : ((nl : Int) + 1).toNat = nl + 1 := by omega
            by_cases c3 : s.take (nl + 1) = nm ++ [32]
            · have hneq := str_eqq2 (nm ++ [32])
              have hneq' := str_eqq (nm ++ [32])
              rw [← c3] at hneq hneq'
              rw [← c3] at hadd
              have hsp := hpar.out c3
              have hsgd := fun n hn (hr : Lib.decDigits n = s.drop (nl + 1)) => (show readT s = some (o, n) by
                have h := hgood.out _ n hn hr
                rwa [← hsp] at h)
              have hsng := fun n hv hn => hnog.out _ n hsp hv hn
              have hsbd := fun x hx hb => hbad.out _ hsp x hx hb
              have hexd := hex2.out (nl + 1)
              have hdn := fun (n : Nat) (h : Lib.decDigits n = s.drop (nl + 1)) => (show ((str (Lib.decDigits n)).toList == (str (s.drop (nl + 1))).toList) = true by rw [h]; exact str_eqq _)
              have hdn2 := fun (n : Nat) (h : Lib.decDigits n ≠ s.drop (nl + 1)) => str_neq h
              generalize hr9 : s.drop (nl + 1) = r9 at *
              replace hr9 := Lib.hid hr9
              replace hsgd := Lib.hid hsgd
              replace hsng := Lib.hid hsng
              replace hsbd := Lib.hid hsbd
              replace hdn := Lib.hid hdn
              replace hdn2 := Lib.hid hdn2
              replace hsp := Lib.hid hsp
              replace c3 := Lib.hid c3
              clear hbad hgood hnog hpar hlno hgoon hno
              go_wp2_with fail
              refine wp_region_held_drew (S := fun w' => w'.cell? ⟨2, o, none⟩ = some (.string (str nm))) (by kernel_rfl) (by exact hnm2) (fun hHeld => ?_)
              refine take_l (i := 0) (v := ?_) rfl (by kernel_rfl) (by kernel_rfl) (by kernel_rfl) (fun _ _ _ h => h) (Or.inl ⟨by kernel_rfl, ?_⟩) (by assumption) ?_
              rotate_left
              · intro w hSw; (try dsimp only at hSw); go_simp; (try with_reducible rfl)
              (try simp only [Act.put, List.setIfInBounds_toArray, List.set_cons_zero, List.set_cons_succ])
              refine take_l (i := 1) (v := ?_) rfl (by kernel_rfl) (by kernel_rfl) (by kernel_rfl) (fun _ _ _ h => h) (Or.inl ⟨by kernel_rfl, ?_⟩) (by assumption) ?_
              rotate_left
              · intro w hSw; (try dsimp only at hSw); go_simp; (try with_reducible rfl)
              (try simp only [Act.put, List.setIfInBounds_toArray, List.set_cons_zero, List.set_cons_succ])
              refine take_l (i := 2) (v := ?_) rfl (by kernel_rfl) (by kernel_rfl) (by kernel_rfl) (fun _ _ _ h => h) (Or.inl ⟨by kernel_rfl, ?_⟩) (by assumption) ?_
              rotate_left
              · intro w hSw; (try dsimp only at hSw); go_simp; (try with_reducible rfl)
              (try simp only [Act.put, List.setIfInBounds_toArray, List.set_cons_zero, List.set_cons_succ])
              refine take_l (i := 3) (v := ?_) rfl (by kernel_rfl) (by kernel_rfl) (by kernel_rfl) (fun _ _ _ h => h) (Or.inl ⟨by kernel_rfl, ?_⟩) (by assumption) ?_
              rotate_left
              · intro w hSw; (try dsimp only at hSw); go_simp; (try with_reducible rfl)
              (try simp only [Act.put, List.setIfInBounds_toArray, List.set_cons_zero, List.set_cons_succ])
              refine take_l (i := 4) (v := ?_) rfl (by kernel_rfl) (by kernel_rfl) (by kernel_rfl) (fun _ _ _ h => h) (Or.inl ⟨by kernel_rfl, ?_⟩) (by assumption) ?_
              rotate_left
              · intro w hSw; (try dsimp only at hSw); go_simp; (try with_reducible rfl)
              (try simp only [Act.put, List.setIfInBounds_toArray, List.set_cons_zero, List.set_cons_succ])
              refine take_l (i := 5) (v := ?_) rfl (by kernel_rfl) (by kernel_rfl) (by kernel_rfl) (fun _ _ _ h => h) (Or.inl ⟨by kernel_rfl, ?_⟩) (by assumption) ?_
              rotate_left
              · intro w hSw; (try dsimp only at hSw); go_simp; (try with_reducible rfl)
              (try simp only [Act.put, List.setIfInBounds_toArray, List.set_cons_zero, List.set_cons_succ])
              refine take_l (i := 6) (v := ?_) rfl (by kernel_rfl) (by kernel_rfl) (by kernel_rfl) (fun _ _ _ h => h) (Or.inl ⟨by kernel_rfl, ?_⟩) (by assumption) ?_
              rotate_left
              · intro w hSw; (try dsimp only at hSw); go_simp; (try with_reducible rfl)
              (try simp only [Act.put, List.setIfInBounds_toArray, List.set_cons_zero, List.set_cons_succ])
              refine take_l (i := 7) (v := ?_) rfl (by kernel_rfl) (by kernel_rfl) (by kernel_rfl) (fun _ _ _ h => h) (Or.inl ⟨by kernel_rfl, ?_⟩) (by assumption) ?_
              rotate_left
              · intro w hSw; (try dsimp only at hSw); go_simp; (try with_reducible rfl)
              (try simp only [Act.put, List.setIfInBounds_toArray, List.set_cons_zero, List.set_cons_succ])
              refine take_l (i := 8) (v := ?_) rfl (by kernel_rfl) (by kernel_rfl) (by kernel_rfl) (fun _ _ _ h => h) (Or.inl ⟨by kernel_rfl, ?_⟩) (by assumption) ?_
              rotate_left
              · intro w hSw; (try dsimp only at hSw); go_simp; (try with_reducible rfl)
              (try simp only [Act.put, List.setIfInBounds_toArray, List.set_cons_zero, List.set_cons_succ])
              refine take_l (i := 9) (v := ?_) rfl (by kernel_rfl) (by kernel_rfl) (by kernel_rfl) (fun _ _ _ h => h) (Or.inl ⟨by kernel_rfl, ?_⟩) (by assumption) ?_
              rotate_left
              · intro w hSw; (try dsimp only at hSw); go_simp; (try with_reducible rfl)
              (try simp only [Act.put, List.setIfInBounds_toArray, List.set_cons_zero, List.set_cons_succ])
              refine take_l (i := 10) (v := ?_) rfl (by kernel_rfl) (by kernel_rfl) (by kernel_rfl) (fun _ _ _ h => h) (Or.inl ⟨by kernel_rfl, ?_⟩) (by assumption) ?_
              rotate_left
              · intro w hSw; (try dsimp only at hSw); go_simp; (try with_reducible rfl)
              (try simp only [Act.put, List.setIfInBounds_toArray, List.set_cons_zero, List.set_cons_succ])
              refine take_l (i := 11) (v := ?_) rfl (by kernel_rfl) (by kernel_rfl) (by kernel_rfl) (fun _ _ _ h => h) (Or.inl ⟨by kernel_rfl, ?_⟩) (by assumption) ?_
              rotate_left
              · intro w hSw; (try dsimp only at hSw); go_simp; (try with_reducible rfl)
              (try simp only [Act.put, List.setIfInBounds_toArray, List.set_cons_zero, List.set_cons_succ])
              refine take_l (i := 12) (v := ?_) rfl (by kernel_rfl) (by kernel_rfl) (by kernel_rfl) (fun _ _ _ h => h) (Or.inl ⟨by kernel_rfl, ?_⟩) (by assumption) ?_
              rotate_left
              · intro w hSw; (try dsimp only at hSw); go_simp; (try with_reducible rfl)
              (try simp only [Act.put, List.setIfInBounds_toArray, List.set_cons_zero, List.set_cons_succ])
              refine take_l (i := 13) (v := ?_) rfl (by kernel_rfl) (by kernel_rfl) (by kernel_rfl) (fun _ _ _ h => h) (Or.inl ⟨by kernel_rfl, ?_⟩) (by assumption) ?_
              rotate_left
              · intro w hSw; (try dsimp only at hSw); go_simp; (try with_reducible rfl)
              (try simp only [Act.put, List.setIfInBounds_toArray, List.set_cons_zero, List.set_cons_succ])
              refine take_l (i := 14) (v := ?_) rfl (by kernel_rfl) (by kernel_rfl) (by kernel_rfl) (fun _ _ _ h => h) (Or.inl ⟨by kernel_rfl, ?_⟩) (by assumption) ?_
              rotate_left
              · intro w hSw; (try dsimp only at hSw); go_simp; (try with_reducible rfl)
              (try simp only [Act.put, List.setIfInBounds_toArray, List.set_cons_zero, List.set_cons_succ])
              refine take_l (i := 15) (v := ?_) rfl (by kernel_rfl) (by kernel_rfl) (by kernel_rfl) (fun _ _ _ h => h) (Or.inl ⟨by kernel_rfl, ?_⟩) (by assumption) ?_
              rotate_left
              · intro w hSw; (try dsimp only at hSw); go_simp; (try with_reducible rfl)
              (try simp only [Act.put, List.setIfInBounds_toArray, List.set_cons_zero, List.set_cons_succ])
              refine take_l (i := 16) (v := ?_) rfl (by kernel_rfl) (by kernel_rfl) (by kernel_rfl) (fun _ _ _ h => h) (Or.inl ⟨by kernel_rfl, ?_⟩) (by assumption) ?_
              rotate_left
              · intro w hSw; (try dsimp only at hSw); go_simp; (try with_reducible rfl)
              (try simp only [Act.put, List.setIfInBounds_toArray, List.set_cons_zero, List.set_cons_succ])
              refine take_l (i := 17) (v := ?_) rfl (by kernel_rfl) (by kernel_rfl) (by kernel_rfl) (fun _ _ _ h => h) (Or.inl ⟨by kernel_rfl, ?_⟩) (by assumption) ?_
              rotate_left
              · intro w hSw; (try dsimp only at hSw); go_simp; (try with_reducible rfl)
              (try simp only [Act.put, List.setIfInBounds_toArray, List.set_cons_zero, List.set_cons_succ])
              refine take_l (i := 18) (v := ?_) rfl (by kernel_rfl) (by kernel_rfl) (by kernel_rfl) (fun _ _ _ h => h) (Or.inl ⟨by kernel_rfl, ?_⟩) (by assumption) ?_
              rotate_left
              · intro w hSw; (try dsimp only at hSw); go_simp; (try with_reducible rfl)
              (try simp only [Act.put, List.setIfInBounds_toArray, List.set_cons_zero, List.set_cons_succ])
              refine take_l (i := 19) (v := ?_) rfl (by kernel_rfl) (by kernel_rfl) (by kernel_rfl) (fun _ _ _ h => h) (Or.inl ⟨by kernel_rfl, ?_⟩) (by assumption) ?_
              rotate_left
              · intro w hSw; (try dsimp only at hSw); go_simp; (try with_reducible rfl)
              (try simp only [Act.put, List.setIfInBounds_toArray, List.set_cons_zero, List.set_cons_succ])
              refine take_l (i := 20) (v := ?_) rfl (by kernel_rfl) (by kernel_rfl) (by kernel_rfl) (fun _ _ _ h => h) (Or.inl ⟨by kernel_rfl, ?_⟩) (by assumption) ?_
              rotate_left
              · intro w hSw; (try dsimp only at hSw); go_simp; (try with_reducible rfl)
              (try simp only [Act.put, List.setIfInBounds_toArray, List.set_cons_zero, List.set_cons_succ])
              refine wpAnyH_done (by kernel_rfl) ?_ _
              clear hHeld
              go_wp2_with fail
              have hA3 := hA2.drew
              have hB3 := hB2.drew
              generalize w2.drew = W3 at *
              clear hA2 hB2 hadd hexk hnm2 hex hex2
              go_loopw [6, 7] (fun nv iv wr' => ∃ n i : Nat, nv = .int .i64 (n : Int) ∧ iv = .int .i64 (i : Int) ∧ i ≤ s.length ∧ Hid (NumI s (nl + 1) i n) ∧ wr' = W3) (fun _ i _ => s.length - (intOf i).toNat)
              case atStart => exact ⟨0, nl + 1, rfl, by first | rfl | go_num, by omega, (show Hid _ from NumI.zero s _), rfl⟩
              case round =>
                obtain ⟨n, i, rfl, rfl, hi, hNI, rfl⟩ := hrel
                have hbd := hNI.out.bound (by omega)
                by_cases hil : i < s.length
                · have hdi : decide ((i : Int) < (s.length : Int)) = true := by simpa using hil
                  have hj0 : i < P.size := by omega
                  have hx := hPG.out i hj0
                  have j1 : (0 : Int) ≤ (i : Int) := by omega
                  have j2 : (i : Int) < (s.length : Int) := by omega
                  have hst := fun h1 h2 => hNI.out.step hil h1 h2
                  have hmem := mem_drop_at hNI.out.le hil
                  rw [hr9.out] at hmem
                  have hwi : IntKind.i64.wrap ((i : Int) + 1) = ((i + 1 : Nat) : Int) := by rw [Int.natCast_succ]; exact IntWalk.i64_in _ (by omega)
                  have hxb := fun hb => hsbd.out _ hmem hb
                  have hxl := (s[i]!).toNat_lt
                  generalize (s[i]!).toNat = x at *
                  clear hmem
                  by_cases hb : x < 48 ∨ 57 < x
                  · have hnone := hxb hb
                    obtain ⟨s0, s1, s2, t0, t1, t2, r0, r1, r2⟩ := set3_all hA3 (.int .i64 0) (.int .i64 0) (.int .i64 0)
                    have hfin := Lib.hid (hrt0 _ (set3_below hB3 (Nat.le_refl _) (.int .i64 0) (.int .i64 0) (.int .i64 0)) hnone)
                    replace hxb := Lib.hid hxb
                    replace hst := Lib.hid hst
                    clear hnone hrt0
                    by_cases hb1 : x < 48
                    · have e1 : decide ((x : Int) < 48) = true := by simp; omega
                      have e1' : decide (x < 48) = true := by simp; omega
                      go_wp2_with fail
                      exact bodyPost_ret (v := rdV 0 0 false) (by simp [rdV, results, Tryd.f44, go_sem, r0, r1, r2]) rfl hfin.out
                    · have e1 : decide ((x : Int) < 48) = false := by simp; omega
                      have e1' : decide (x < 48) = false := by simp; omega
                      have e2 : decide (57 < (x : Int)) = true := by simp; omega
                      have e2' : decide (57 < x) = true := by simp; omega
                      go_wp2_with fail
                      exact bodyPost_ret (v := rdV 0 0 false) (by simp [rdV, results, Tryd.f44, go_sem, r0, r1, r2]) rfl hfin.out
                  · have e1 : decide ((x : Int) < 48) = false := by simp; omega
                    have e2 : decide (57 < (x : Int)) = false := by simp; omega
                    have e1' : decide (x < 48) = false := by simp; omega
                    have e2' : decide (57 < x) = false := by simp; omega
                    have hN2 := Lib.hid (hst (by omega) (by omega))
                    have hw1 : IntKind.i64.wrap (10 * (n : Int)) = 10 * (n : Int) := IntWalk.i64_in _ (by omega)
                    have hw2 : IntKind.u8.wrap ((x : Int) - 48) = (x : Int) - 48 := IntWalk.u8_in _ (by omega)
                    have hw3 : IntKind.i64.wrap ((x : Int) - 48) = (x : Int) - 48 := IntWalk.i64_in _ (by omega)
                    have hw4 : IntKind.i64.wrap (10 * (n : Int) + ((x : Int) - 48)) = ((10 * n + (x - 48) : Nat) : Int) := by rw [show ((10 * n + (x - 48) : Nat) : Int) = 10 * (n : Int) + ((x : Int) - 48) by omega]; exact IntWalk.i64_in _ (by omega)
                    replace hxb := Lib.hid hxb
                    replace hb := Lib.hid hb
                    clear hst
                    go_wp2_with fail
                    exact ⟨⟨10 * n + (x - 48), i + 1, by first | rfl | go_num, by first | rfl | go_num, by omega, hN2, trivial⟩, by simp [intOf]; omega⟩
                · have hdi : decide ((i : Int) < (s.length : Int)) = false := by simpa using hil
                  obtain rfl : i = s.length := by omega
                  have hall := hNI.out.all
                  rw [hr9.out] at hall
                  have k4 : (nl : Int) + 1 ≤ (P.size : Int) := by omega
                  by_cases hn : n ≤ 65535
                  · have e1 : decide ((n : Int) ≤ 65535) = true := by simp; omega
                    have e1' : decide (n ≤ 65535) = true := by simp; omega
                    have hdg := fun W' => Lib.hid (digits8_any n W' (by omega))
                    by_cases hd9 : Lib.decDigits n = r9
                    · have hres := hsgd.out n hn hd9
                      have hq := hdn.out n hd9
                      have hfin : ∀ W, Below w.heap.size w W → Hid (ReadRPost s w (.returned (rdV o n true)) (((W.setCell ⟨w.heap.size, 0, none⟩ (.int .i64 0)).setCell ⟨w.heap.size, 1, none⟩ (.int .i64 (o : Int))).setCell ⟨w.heap.size, 2, none⟩ (.int .i64 (n : Int)))) := fun W hW => ⟨o, n, true, rfl, hlt, hbd, fun _ => hres, fun e => (by cases e), set3_below hW (Nat.le_refl _) _ _ _⟩
                      generalize Lib.decDigits n = dg at *
                      replace hd9 := Lib.hid hd9
                      replace hall := Lib.hid hall
                      replace hres := Lib.hid hres
                      go_wp2_with fail
                      refine wp_region_held_drew (S := fun w' => True) (by kernel_rfl) (by trivial) (fun hHeld => ?_)
                      refine take_l (i := 0) (v := ?_) rfl (by kernel_rfl) (by kernel_rfl) (by kernel_rfl) (fun _ _ _ h => h) (Or.inl ⟨by kernel_rfl, ?_⟩) (by assumption) ?_
                      rotate_left
                      · intro w hSw; (try dsimp only at hSw); go_simp; (try with_reducible rfl)
                      (try simp only [Act.put, List.setIfInBounds_toArray, List.set_cons_zero, List.set_cons_succ])
                      refine take_l (i := 1) (v := ?_) rfl (by kernel_rfl) (by kernel_rfl) (by kernel_rfl) (fun _ _ _ h => h) (Or.inl ⟨by kernel_rfl, ?_⟩) (by assumption) ?_
                      rotate_left
                      · intro w hSw; (try dsimp only at hSw); go_simp; (try with_reducible rfl)
                      (try simp only [Act.put, List.setIfInBounds_toArray, List.set_cons_zero, List.set_cons_succ])
                      refine take_l (i := 2) (v := ?_) rfl (by kernel_rfl) (by kernel_rfl) (by kernel_rfl) (fun _ _ _ h => h) (Or.inl ⟨by kernel_rfl, ?_⟩) (by assumption) ?_
                      rotate_left
                      · intro w hSw; (try dsimp only at hSw); go_simp; (try with_reducible rfl)
                      (try simp only [Act.put, List.setIfInBounds_toArray, List.set_cons_zero, List.set_cons_succ])
                      refine take_l (i := 3) (v := ?_) rfl (by kernel_rfl) (by kernel_rfl) (by kernel_rfl) (fun _ _ _ h => h) (Or.inl ⟨by kernel_rfl, ?_⟩) (by assumption) ?_
                      rotate_left
                      · intro w hSw; (try dsimp only at hSw); go_simp; (try with_reducible rfl)
                      (try simp only [Act.put, List.setIfInBounds_toArray, List.set_cons_zero, List.set_cons_succ])
                      refine take_l (i := 4) (v := ?_) rfl (by kernel_rfl) (by kernel_rfl) (by kernel_rfl) (fun _ _ _ h => h) (Or.inl ⟨by kernel_rfl, ?_⟩) (by assumption) ?_
                      rotate_left
                      · intro w hSw; (try dsimp only at hSw); go_simp; (try with_reducible rfl)
                      (try simp only [Act.put, List.setIfInBounds_toArray, List.set_cons_zero, List.set_cons_succ])
                      refine take_l (i := 5) (v := ?_) rfl (by kernel_rfl) (by kernel_rfl) (by kernel_rfl) (fun _ _ _ h => h) (Or.inl ⟨by kernel_rfl, ?_⟩) (by assumption) ?_
                      rotate_left
                      · intro w hSw; (try dsimp only at hSw); go_simp; (try with_reducible rfl)
                      (try simp only [Act.put, List.setIfInBounds_toArray, List.set_cons_zero, List.set_cons_succ])
                      refine take_l (i := 6) (v := ?_) rfl (by kernel_rfl) (by kernel_rfl) (by kernel_rfl) (fun _ _ _ h => h) (Or.inl ⟨by kernel_rfl, ?_⟩) (by assumption) ?_
                      rotate_left
                      · intro w hSw; (try dsimp only at hSw); go_simp; (try with_reducible rfl)
                      (try simp only [Act.put, List.setIfInBounds_toArray, List.set_cons_zero, List.set_cons_succ])
                      refine take_l (i := 8) (v := ?_) rfl (by kernel_rfl) (by kernel_rfl) (by kernel_rfl) (fun _ _ _ h => h) (Or.inl ⟨by kernel_rfl, ?_⟩) (by assumption) ?_
                      rotate_left
                      · intro w hSw; (try dsimp only at hSw); go_simp; (try with_reducible rfl)
                      (try simp only [Act.put, List.setIfInBounds_toArray, List.set_cons_zero, List.set_cons_succ])
                      refine take_l (i := 9) (v := ?_) rfl (by kernel_rfl) (by kernel_rfl) (by kernel_rfl) (fun _ _ _ h => h) (Or.inl ⟨by kernel_rfl, ?_⟩) (by assumption) ?_
                      rotate_left
                      · intro w hSw; (try dsimp only at hSw); go_simp; (try with_reducible rfl)
                      (try simp only [Act.put, List.setIfInBounds_toArray, List.set_cons_zero, List.set_cons_succ])
                      refine take_l (i := 10) (v := ?_) rfl (by kernel_rfl) (by kernel_rfl) (by kernel_rfl) (fun _ _ _ h => h) (Or.inl ⟨by kernel_rfl, ?_⟩) (by assumption) ?_
                      rotate_left
                      · intro w hSw; (try dsimp only at hSw); go_simp; (try with_reducible rfl)
                      (try simp only [Act.put, List.setIfInBounds_toArray, List.set_cons_zero, List.set_cons_succ])
                      refine wpAnyH_ready (rs := [7]) (by kernel_rfl) (by simp) ?_
                      refine ready_l rfl (fun K hK => ?_) AllReadyH.nil
                      go_simp
                      (go_at_call 40; (with_reducible refine ((hdg _).out).mono ?_); rintro e vA ⟨rfl, hbvA⟩; have hBvA : Below wr.heap.size wr vA := Below.trans (by repeat first | with_reducible exact Below.refl _ _ | with_reducible assumption | with_reducible refine below_drewN ?_ _ | with_reducible refine Below.drew ?_ | with_reducible refine Below.setCell ?_ (by first | exact Nat.le_refl _ | (simp; done) | (simp; omega) | omega) _ | with_reducible refine Below.alloc ?_ (by first | exact Nat.le_refl _ | (simp; done) | (simp; omega) | omega) _ | exact Below.refl _ _ | assumption) (hbvA.mono (by first | exact Nat.le_refl _ | assumption | (simp; done) | (simp; omega) | omega)); have hzvA := hbvA.size; )
                      refine hK.out _ _ (by trivial) (fun hHeld => ?_)
                      clear hK K
                      (try simp only [Act.put, List.setIfInBounds_toArray, List.set_cons_zero, List.set_cons_succ])
                      refine take_l (i := 11) (v := ?_) rfl (by kernel_rfl) (by kernel_rfl) (by kernel_rfl) (fun _ _ _ h => h) (Or.inl ⟨by kernel_rfl, ?_⟩) (by assumption) ?_
                      rotate_left
                      · intro w hSw; (try dsimp only at hSw); go_simp; (try with_reducible rfl)
                      (try simp only [Act.put, List.setIfInBounds_toArray, List.set_cons_zero, List.set_cons_succ])
                      refine take_l (i := 12) (v := ?_) rfl (by kernel_rfl) (by kernel_rfl) (by kernel_rfl) (fun _ _ _ h => h) (Or.inl ⟨by kernel_rfl, ?_⟩) (by assumption) ?_
                      rotate_left
                      · intro w hSw; (try dsimp only at hSw); go_simp; (try with_reducible rfl)
                      (try simp only [Act.put, List.setIfInBounds_toArray, List.set_cons_zero, List.set_cons_succ])
                      have hA4 := hA3.drew.below hbvA
                      have hB4 := hB3.drew.trans (hbvA.mono hB3.size)
                      obtain ⟨s0, s1, s2, t0, t1, t2, r0, r1, r2⟩ := set3_all hA4 (.int .i64 0) (.int .i64 (o : Int)) (.int .i64 (n : Int))
                      have hfn := hfin vA hB4
                      refine wpAnyH_ready (rs := [13]) (by kernel_rfl) (by simp) ?_
                      refine ready_l rfl (fun K hK => ?_) AllReadyH.nil
                      go_simp
                      refine hK.out _ _ (by trivial) (fun hHeld => ?_)
                      clear hK K
                      (try simp only [Act.put, List.setIfInBounds_toArray, List.set_cons_zero, List.set_cons_succ])
                      refine take_l (i := 14) (v := ?_) rfl (by kernel_rfl) (by kernel_rfl) (by kernel_rfl) (fun _ _ _ h => h) (Or.inl ⟨by kernel_rfl, ?_⟩) (by assumption) ?_
                      rotate_left
                      · intro w hSw; (try dsimp only at hSw); go_simp; (try with_reducible rfl)
                      (try simp only [Act.put, List.setIfInBounds_toArray, List.set_cons_zero, List.set_cons_succ])
                      refine wpAnyH_done (by kernel_rfl) ?_ _
                      go_wp2_with fail
                      exact bodyPost_ret (v := rdV o n true) (by simp [rdV, results, Tryd.f44, go_sem, r0, r1, r2]) rfl hfn.out
                    · have hres := hsng.out n hall (fun h => hd9 h.2)
                      have hq := hdn2.out n hd9
                      have hfin : ∀ W, Below w.heap.size w W → Hid (ReadRPost s w (.returned (rdV o n false)) (((W.setCell ⟨w.heap.size, 0, none⟩ (.int .i64 0)).setCell ⟨w.heap.size, 1, none⟩ (.int .i64 (o : Int))).setCell ⟨w.heap.size, 2, none⟩ (.int .i64 (n : Int)))) := fun W hW => ⟨o, n, false, rfl, hlt, hbd, fun e => (by cases e), fun _ => hres, set3_below hW (Nat.le_refl _) _ _ _⟩
                      generalize Lib.decDigits n = dg at *
                      replace hd9 := Lib.hid hd9
                      replace hall := Lib.hid hall
                      replace hres := Lib.hid hres
                      go_wp2_with fail
                      refine wp_region_held_drew (S := fun w' => True) (by kernel_rfl) (by trivial) (fun hHeld => ?_)
                      refine take_l (i := 0) (v := ?_) rfl (by kernel_rfl) (by kernel_rfl) (by kernel_rfl) (fun _ _ _ h => h) (Or.inl ⟨by kernel_rfl, ?_⟩) (by assumption) ?_
                      rotate_left
                      · intro w hSw; (try dsimp only at hSw); go_simp; (try with_reducible rfl)
                      (try simp only [Act.put, List.setIfInBounds_toArray, List.set_cons_zero, List.set_cons_succ])
                      refine take_l (i := 1) (v := ?_) rfl (by kernel_rfl) (by kernel_rfl) (by kernel_rfl) (fun _ _ _ h => h) (Or.inl ⟨by kernel_rfl, ?_⟩) (by assumption) ?_
                      rotate_left
                      · intro w hSw; (try dsimp only at hSw); go_simp; (try with_reducible rfl)
                      (try simp only [Act.put, List.setIfInBounds_toArray, List.set_cons_zero, List.set_cons_succ])
                      refine take_l (i := 2) (v := ?_) rfl (by kernel_rfl) (by kernel_rfl) (by kernel_rfl) (fun _ _ _ h => h) (Or.inl ⟨by kernel_rfl, ?_⟩) (by assumption) ?_
                      rotate_left
                      · intro w hSw; (try dsimp only at hSw); go_simp; (try with_reducible rfl)
                      (try simp only [Act.put, List.setIfInBounds_toArray, List.set_cons_zero, List.set_cons_succ])
                      refine take_l (i := 3) (v := ?_) rfl (by kernel_rfl) (by kernel_rfl) (by kernel_rfl) (fun _ _ _ h => h) (Or.inl ⟨by kernel_rfl, ?_⟩) (by assumption) ?_
                      rotate_left
                      · intro w hSw; (try dsimp only at hSw); go_simp; (try with_reducible rfl)
                      (try simp only [Act.put, List.setIfInBounds_toArray, List.set_cons_zero, List.set_cons_succ])
                      refine take_l (i := 4) (v := ?_) rfl (by kernel_rfl) (by kernel_rfl) (by kernel_rfl) (fun _ _ _ h => h) (Or.inl ⟨by kernel_rfl, ?_⟩) (by assumption) ?_
                      rotate_left
                      · intro w hSw; (try dsimp only at hSw); go_simp; (try with_reducible rfl)
                      (try simp only [Act.put, List.setIfInBounds_toArray, List.set_cons_zero, List.set_cons_succ])
                      refine take_l (i := 5) (v := ?_) rfl (by kernel_rfl) (by kernel_rfl) (by kernel_rfl) (fun _ _ _ h => h) (Or.inl ⟨by kernel_rfl, ?_⟩) (by assumption) ?_
                      rotate_left
                      · intro w hSw; (try dsimp only at hSw); go_simp; (try with_reducible rfl)
                      (try simp only [Act.put, List.setIfInBounds_toArray, List.set_cons_zero, List.set_cons_succ])
                      refine take_l (i := 6) (v := ?_) rfl (by kernel_rfl) (by kernel_rfl) (by kernel_rfl) (fun _ _ _ h => h) (Or.inl ⟨by kernel_rfl, ?_⟩) (by assumption) ?_
                      rotate_left
                      · intro w hSw; (try dsimp only at hSw); go_simp; (try with_reducible rfl)
                      (try simp only [Act.put, List.setIfInBounds_toArray, List.set_cons_zero, List.set_cons_succ])
                      refine take_l (i := 8) (v := ?_) rfl (by kernel_rfl) (by kernel_rfl) (by kernel_rfl) (fun _ _ _ h => h) (Or.inl ⟨by kernel_rfl, ?_⟩) (by assumption) ?_
                      rotate_left
                      · intro w hSw; (try dsimp only at hSw); go_simp; (try with_reducible rfl)
                      (try simp only [Act.put, List.setIfInBounds_toArray, List.set_cons_zero, List.set_cons_succ])
                      refine take_l (i := 9) (v := ?_) rfl (by kernel_rfl) (by kernel_rfl) (by kernel_rfl) (fun _ _ _ h => h) (Or.inl ⟨by kernel_rfl, ?_⟩) (by assumption) ?_
                      rotate_left
                      · intro w hSw; (try dsimp only at hSw); go_simp; (try with_reducible rfl)
                      (try simp only [Act.put, List.setIfInBounds_toArray, List.set_cons_zero, List.set_cons_succ])
                      refine take_l (i := 10) (v := ?_) rfl (by kernel_rfl) (by kernel_rfl) (by kernel_rfl) (fun _ _ _ h => h) (Or.inl ⟨by kernel_rfl, ?_⟩) (by assumption) ?_
                      rotate_left
                      · intro w hSw; (try dsimp only at hSw); go_simp; (try with_reducible rfl)
                      (try simp only [Act.put, List.setIfInBounds_toArray, List.set_cons_zero, List.set_cons_succ])
                      refine wpAnyH_ready (rs := [7]) (by kernel_rfl) (by simp) ?_
                      refine ready_l rfl (fun K hK => ?_) AllReadyH.nil
                      go_simp
                      (go_at_call 40; (with_reducible refine ((hdg _).out).mono ?_); rintro e vA ⟨rfl, hbvA⟩; have hBvA : Below wr.heap.size wr vA := Below.trans (by repeat first | with_reducible exact Below.refl _ _ | with_reducible assumption | with_reducible refine below_drewN ?_ _ | with_reducible refine Below.drew ?_ | with_reducible refine Below.setCell ?_ (by first | exact Nat.le_refl _ | (simp; done) | (simp; omega) | omega) _ | with_reducible refine Below.alloc ?_ (by first | exact Nat.le_refl _ | (simp; done) | (simp; omega) | omega) _ | exact Below.refl _ _ | assumption) (hbvA.mono (by first | exact Nat.le_refl _ | assumption | (simp; done) | (simp; omega) | omega)); have hzvA := hbvA.size; )
                      refine hK.out _ _ (by trivial) (fun hHeld => ?_)
                      clear hK K
                      (try simp only [Act.put, List.setIfInBounds_toArray, List.set_cons_zero, List.set_cons_succ])
                      refine take_l (i := 11) (v := ?_) rfl (by kernel_rfl) (by kernel_rfl) (by kernel_rfl) (fun _ _ _ h => h) (Or.inl ⟨by kernel_rfl, ?_⟩) (by assumption) ?_
                      rotate_left
                      · intro w hSw; (try dsimp only at hSw); go_simp; (try with_reducible rfl)
                      (try simp only [Act.put, List.setIfInBounds_toArray, List.set_cons_zero, List.set_cons_succ])
                      refine take_l (i := 12) (v := ?_) rfl (by kernel_rfl) (by kernel_rfl) (by kernel_rfl) (fun _ _ _ h => h) (Or.inl ⟨by kernel_rfl, ?_⟩) (by assumption) ?_
                      rotate_left
                      · intro w hSw; (try dsimp only at hSw); go_simp; (try with_reducible rfl)
                      (try simp only [Act.put, List.setIfInBounds_toArray, List.set_cons_zero, List.set_cons_succ])
                      have hA4 := hA3.drew.below hbvA
                      have hB4 := hB3.drew.trans (hbvA.mono hB3.size)
                      obtain ⟨s0, s1, s2, t0, t1, t2, r0, r1, r2⟩ := set3_all hA4 (.int .i64 0) (.int .i64 (o : Int)) (.int .i64 (n : Int))
                      have hfn := hfin vA hB4
                      refine wpAnyH_ready (rs := [13]) (by kernel_rfl) (by simp) ?_
                      refine ready_l rfl (fun K hK => ?_) AllReadyH.nil
                      go_simp
                      refine hK.out _ _ (by trivial) (fun hHeld => ?_)
                      clear hK K
                      (try simp only [Act.put, List.setIfInBounds_toArray, List.set_cons_zero, List.set_cons_succ])
                      refine take_l (i := 14) (v := ?_) rfl (by kernel_rfl) (by kernel_rfl) (by kernel_rfl) (fun _ _ _ h => h) (Or.inl ⟨by kernel_rfl, ?_⟩) (by assumption) ?_
                      rotate_left
                      · intro w hSw; (try dsimp only at hSw); go_simp; (try with_reducible rfl)
                      (try simp only [Act.put, List.setIfInBounds_toArray, List.set_cons_zero, List.set_cons_succ])
                      refine wpAnyH_done (by kernel_rfl) ?_ _
                      go_wp2_with fail
                      exact bodyPost_ret (v := rdV o n false) (by simp [rdV, results, Tryd.f44, go_sem, r0, r1, r2]) rfl hfn.out
                  · have e1 : decide ((n : Int) ≤ 65535) = false := by simp; omega
                    have e1' : decide (n ≤ 65535) = false := by simp; omega
                    have hres := hsng.out n hall (fun h => hn h.1)
                    obtain ⟨s0, s1, s2, t0, t1, t2, r0, r1, r2⟩ := set3_all hA3 (.int .i64 0) (.int .i64 (o : Int)) (.int .i64 (n : Int))
                    have hfn : Hid (ReadRPost s w (.returned (rdV o n false)) (((wr.setCell ⟨w.heap.size, 0, none⟩ (.int .i64 0)).setCell ⟨w.heap.size, 1, none⟩ (.int .i64 (o : Int))).setCell ⟨w.heap.size, 2, none⟩ (.int .i64 (n : Int))).drew) := ⟨o, n, false, rfl, hlt, hbd, fun e => (by cases e), fun _ => hres, (set3_below hB3 (Nat.le_refl _) _ _ _).drew⟩
                    replace hall := Lib.hid hall
                    replace hres := Lib.hid hres
                    go_wp2_with fail
                    refine wp_region_held_drew (S := fun w' => True) (by kernel_rfl) (by trivial) (fun hHeld => ?_)
                    refine take_l (i := 0) (v := ?_) rfl (by kernel_rfl) (by kernel_rfl) (by kernel_rfl) (fun _ _ _ h => h) (Or.inl ⟨by kernel_rfl, ?_⟩) (by assumption) ?_
                    rotate_left
                    · intro w hSw; (try dsimp only at hSw); go_simp; (try with_reducible rfl)
                    (try simp only [Act.put, List.setIfInBounds_toArray, List.set_cons_zero, List.set_cons_succ])
                    refine take_l (i := 1) (v := ?_) rfl (by kernel_rfl) (by kernel_rfl) (by kernel_rfl) (fun _ _ _ h => h) (Or.inl ⟨by kernel_rfl, ?_⟩) (by assumption) ?_
                    rotate_left
                    · intro w hSw; (try dsimp only at hSw); go_simp; (try with_reducible rfl)
                    (try simp only [Act.put, List.setIfInBounds_toArray, List.set_cons_zero, List.set_cons_succ])
                    refine take_l (i := 2) (v := ?_) rfl (by kernel_rfl) (by kernel_rfl) (by kernel_rfl) (fun _ _ _ h => h) (Or.inl ⟨by kernel_rfl, ?_⟩) (by assumption) ?_
                    rotate_left
                    · intro w hSw; (try dsimp only at hSw); go_simp; (try with_reducible rfl)
                    (try simp only [Act.put, List.setIfInBounds_toArray, List.set_cons_zero, List.set_cons_succ])
                    refine take_l (i := 3) (v := ?_) rfl (by kernel_rfl) (by kernel_rfl) (by kernel_rfl) (fun _ _ _ h => h) (Or.inl ⟨by kernel_rfl, ?_⟩) (by assumption) ?_
                    rotate_left
                    · intro w hSw; (try dsimp only at hSw); go_simp; (try with_reducible rfl)
                    (try simp only [Act.put, List.setIfInBounds_toArray, List.set_cons_zero, List.set_cons_succ])
                    refine take_l (i := 4) (v := ?_) rfl (by kernel_rfl) (by kernel_rfl) (by kernel_rfl) (fun _ _ _ h => h) (Or.inl ⟨by kernel_rfl, ?_⟩) (by assumption) ?_
                    rotate_left
                    · intro w hSw; (try dsimp only at hSw); go_simp; (try with_reducible rfl)
                    (try simp only [Act.put, List.setIfInBounds_toArray, List.set_cons_zero, List.set_cons_succ])
                    refine take_l (i := 5) (v := ?_) rfl (by kernel_rfl) (by kernel_rfl) (by kernel_rfl) (fun _ _ _ h => h) (Or.inl ⟨by kernel_rfl, ?_⟩) (by assumption) ?_
                    rotate_left
                    · intro w hSw; (try dsimp only at hSw); go_simp; (try with_reducible rfl)
                    (try simp only [Act.put, List.setIfInBounds_toArray, List.set_cons_zero, List.set_cons_succ])
                    refine take_l (i := 6) (v := undef) rfl (by kernel_rfl) (by kernel_rfl) (by kernel_rfl) (fun _ _ _ h => h) (Or.inr ⟨by kernel_rfl, rfl⟩) (by assumption) ?_
                    (try simp only [Act.put, List.setIfInBounds_toArray, List.set_cons_zero, List.set_cons_succ])
                    refine take_l (i := 7) (v := undef) rfl (by kernel_rfl) (by kernel_rfl) (by kernel_rfl) (fun _ _ _ h => h) (Or.inr ⟨by kernel_rfl, rfl⟩) (by assumption) ?_
                    (try simp only [Act.put, List.setIfInBounds_toArray, List.set_cons_zero, List.set_cons_succ])
                    refine take_l (i := 8) (v := undef) rfl (by kernel_rfl) (by kernel_rfl) (by kernel_rfl) (fun _ _ _ h => h) (Or.inr ⟨by kernel_rfl, rfl⟩) (by assumption) ?_
                    (try simp only [Act.put, List.setIfInBounds_toArray, List.set_cons_zero, List.set_cons_succ])
                    refine take_l (i := 9) (v := undef) rfl (by kernel_rfl) (by kernel_rfl) (by kernel_rfl) (fun _ _ _ h => h) (Or.inr ⟨by kernel_rfl, rfl⟩) (by assumption) ?_
                    (try simp only [Act.put, List.setIfInBounds_toArray, List.set_cons_zero, List.set_cons_succ])
                    refine take_l (i := 10) (v := undef) rfl (by kernel_rfl) (by kernel_rfl) (by kernel_rfl) (fun _ _ _ h => h) (Or.inr ⟨by kernel_rfl, rfl⟩) (by assumption) ?_
                    (try simp only [Act.put, List.setIfInBounds_toArray, List.set_cons_zero, List.set_cons_succ])
                    refine take_l (i := 11) (v := undef) rfl (by kernel_rfl) (by kernel_rfl) (by kernel_rfl) (fun _ _ _ h => h) (Or.inr ⟨by kernel_rfl, rfl⟩) (by assumption) ?_
                    (try simp only [Act.put, List.setIfInBounds_toArray, List.set_cons_zero, List.set_cons_succ])
                    refine take_l (i := 12) (v := ?_) rfl (by kernel_rfl) (by kernel_rfl) (by kernel_rfl) (fun _ _ _ h => h) (Or.inl ⟨by kernel_rfl, ?_⟩) (by assumption) ?_
                    rotate_left
                    · intro w hSw; (try dsimp only at hSw); go_simp; (try with_reducible rfl)
                    (try simp only [Act.put, List.setIfInBounds_toArray, List.set_cons_zero, List.set_cons_succ])
                    refine wpAnyH_ready (rs := [13]) (by kernel_rfl) (by simp) ?_
                    refine ready_l rfl (fun K hK => ?_) AllReadyH.nil
                    go_simp
                    refine hK.out _ _ (by trivial) (fun hHeld => ?_)
                    clear hK K
                    (try simp only [Act.put, List.setIfInBounds_toArray, List.set_cons_zero, List.set_cons_succ])
                    refine take_l (i := 14) (v := ?_) rfl (by kernel_rfl) (by kernel_rfl) (by kernel_rfl) (fun _ _ _ h => h) (Or.inl ⟨by kernel_rfl, ?_⟩) (by assumption) ?_
                    rotate_left
                    · intro w hSw; (try dsimp only at hSw); go_simp; (try with_reducible rfl)
                    (try simp only [Act.put, List.setIfInBounds_toArray, List.set_cons_zero, List.set_cons_succ])
                    refine wpAnyH_done (by kernel_rfl) ?_ _
                    go_wp2_with fail
                    exact bodyPost_ret (v := rdV o n false) (by simp [rdV, results, Tryd.f44, go_sem, r0, r1, r2]) rfl hfn.out
            · have hneq := str_neq2 c3
              have hneq' := str_neq c3
              have hgo2 := Lib.hid (hgoon.out (hlno.out (.inr (.inr c3))))
              replace c3 := Lib.hid c3
              go_wp2_with fail
              refine wp_region_held_drew (S := fun w' => w'.cell? ⟨2, o, none⟩ = some (.string (str nm))) (by kernel_rfl) (by exact hnm2) (fun hHeld => ?_)
              refine take_l (i := 0) (v := ?_) rfl (by kernel_rfl) (by kernel_rfl) (by kernel_rfl) (fun _ _ _ h => h) (Or.inl ⟨by kernel_rfl, ?_⟩) (by assumption) ?_
              rotate_left
              · intro w hSw; (try dsimp only at hSw); go_simp; (try with_reducible rfl)
              (try simp only [Act.put, List.setIfInBounds_toArray, List.set_cons_zero, List.set_cons_succ])
              refine take_l (i := 1) (v := ?_) rfl (by kernel_rfl) (by kernel_rfl) (by kernel_rfl) (fun _ _ _ h => h) (Or.inl ⟨by kernel_rfl, ?_⟩) (by assumption) ?_
              rotate_left
              · intro w hSw; (try dsimp only at hSw); go_simp; (try with_reducible rfl)
              (try simp only [Act.put, List.setIfInBounds_toArray, List.set_cons_zero, List.set_cons_succ])
              refine take_l (i := 2) (v := ?_) rfl (by kernel_rfl) (by kernel_rfl) (by kernel_rfl) (fun _ _ _ h => h) (Or.inl ⟨by kernel_rfl, ?_⟩) (by assumption) ?_
              rotate_left
              · intro w hSw; (try dsimp only at hSw); go_simp; (try with_reducible rfl)
              (try simp only [Act.put, List.setIfInBounds_toArray, List.set_cons_zero, List.set_cons_succ])
              refine take_l (i := 3) (v := ?_) rfl (by kernel_rfl) (by kernel_rfl) (by kernel_rfl) (fun _ _ _ h => h) (Or.inl ⟨by kernel_rfl, ?_⟩) (by assumption) ?_
              rotate_left
              · intro w hSw; (try dsimp only at hSw); go_simp; (try with_reducible rfl)
              (try simp only [Act.put, List.setIfInBounds_toArray, List.set_cons_zero, List.set_cons_succ])
              refine take_l (i := 4) (v := ?_) rfl (by kernel_rfl) (by kernel_rfl) (by kernel_rfl) (fun _ _ _ h => h) (Or.inl ⟨by kernel_rfl, ?_⟩) (by assumption) ?_
              rotate_left
              · intro w hSw; (try dsimp only at hSw); go_simp; (try with_reducible rfl)
              (try simp only [Act.put, List.setIfInBounds_toArray, List.set_cons_zero, List.set_cons_succ])
              refine take_l (i := 5) (v := ?_) rfl (by kernel_rfl) (by kernel_rfl) (by kernel_rfl) (fun _ _ _ h => h) (Or.inl ⟨by kernel_rfl, ?_⟩) (by assumption) ?_
              rotate_left
              · intro w hSw; (try dsimp only at hSw); go_simp; (try with_reducible rfl)
              (try simp only [Act.put, List.setIfInBounds_toArray, List.set_cons_zero, List.set_cons_succ])
              refine take_l (i := 6) (v := ?_) rfl (by kernel_rfl) (by kernel_rfl) (by kernel_rfl) (fun _ _ _ h => h) (Or.inl ⟨by kernel_rfl, ?_⟩) (by assumption) ?_
              rotate_left
              · intro w hSw; (try dsimp only at hSw); go_simp; (try with_reducible rfl)
              (try simp only [Act.put, List.setIfInBounds_toArray, List.set_cons_zero, List.set_cons_succ])
              refine take_l (i := 7) (v := ?_) rfl (by kernel_rfl) (by kernel_rfl) (by kernel_rfl) (fun _ _ _ h => h) (Or.inl ⟨by kernel_rfl, ?_⟩) (by assumption) ?_
              rotate_left
              · intro w hSw; (try dsimp only at hSw); go_simp; (try with_reducible rfl)
              (try simp only [Act.put, List.setIfInBounds_toArray, List.set_cons_zero, List.set_cons_succ])
              refine take_l (i := 8) (v := ?_) rfl (by kernel_rfl) (by kernel_rfl) (by kernel_rfl) (fun _ _ _ h => h) (Or.inl ⟨by kernel_rfl, ?_⟩) (by assumption) ?_
              rotate_left
              · intro w hSw; (try dsimp only at hSw); go_simp; (try with_reducible rfl)
              (try simp only [Act.put, List.setIfInBounds_toArray, List.set_cons_zero, List.set_cons_succ])
              refine take_l (i := 9) (v := ?_) rfl (by kernel_rfl) (by kernel_rfl) (by kernel_rfl) (fun _ _ _ h => h) (Or.inl ⟨by kernel_rfl, ?_⟩) (by assumption) ?_
              rotate_left
              · intro w hSw; (try dsimp only at hSw); go_simp; (try with_reducible rfl)
              (try simp only [Act.put, List.setIfInBounds_toArray, List.set_cons_zero, List.set_cons_succ])
              refine take_l (i := 10) (v := ?_) rfl (by kernel_rfl) (by kernel_rfl) (by kernel_rfl) (fun _ _ _ h => h) (Or.inl ⟨by kernel_rfl, ?_⟩) (by assumption) ?_
              rotate_left
              · intro w hSw; (try dsimp only at hSw); go_simp; (try with_reducible rfl)
              (try simp only [Act.put, List.setIfInBounds_toArray, List.set_cons_zero, List.set_cons_succ])
              refine take_l (i := 11) (v := ?_) rfl (by kernel_rfl) (by kernel_rfl) (by kernel_rfl) (fun _ _ _ h => h) (Or.inl ⟨by kernel_rfl, ?_⟩) (by assumption) ?_
              rotate_left
              · intro w hSw; (try dsimp only at hSw); go_simp; (try with_reducible rfl)
              (try simp only [Act.put, List.setIfInBounds_toArray, List.set_cons_zero, List.set_cons_succ])
              refine take_l (i := 12) (v := ?_) rfl (by kernel_rfl) (by kernel_rfl) (by kernel_rfl) (fun _ _ _ h => h) (Or.inl ⟨by kernel_rfl, ?_⟩) (by assumption) ?_
              rotate_left
              · intro w hSw; (try dsimp only at hSw); go_simp; (try with_reducible rfl)
              (try simp only [Act.put, List.setIfInBounds_toArray, List.set_cons_zero, List.set_cons_succ])
              refine take_l (i := 13) (v := ?_) rfl (by kernel_rfl) (by kernel_rfl) (by kernel_rfl) (fun _ _ _ h => h) (Or.inl ⟨by kernel_rfl, ?_⟩) (by assumption) ?_
              rotate_left
              · intro w hSw; (try dsimp only at hSw); go_simp; (try with_reducible rfl)
              (try simp only [Act.put, List.setIfInBounds_toArray, List.set_cons_zero, List.set_cons_succ])
              refine take_l (i := 14) (v := ?_) rfl (by kernel_rfl) (by kernel_rfl) (by kernel_rfl) (fun _ _ _ h => h) (Or.inl ⟨by kernel_rfl, ?_⟩) (by assumption) ?_
              rotate_left
              · intro w hSw; (try dsimp only at hSw); go_simp; (try with_reducible rfl)
              (try simp only [Act.put, List.setIfInBounds_toArray, List.set_cons_zero, List.set_cons_succ])
              refine take_l (i := 15) (v := ?_) rfl (by kernel_rfl) (by kernel_rfl) (by kernel_rfl) (fun _ _ _ h => h) (Or.inl ⟨by kernel_rfl, ?_⟩) (by assumption) ?_
              rotate_left
              · intro w hSw; (try dsimp only at hSw); go_simp; (try with_reducible rfl)
              (try simp only [Act.put, List.setIfInBounds_toArray, List.set_cons_zero, List.set_cons_succ])
              refine take_l (i := 16) (v := ?_) rfl (by kernel_rfl) (by kernel_rfl) (by kernel_rfl) (fun _ _ _ h => h) (Or.inl ⟨by kernel_rfl, ?_⟩) (by assumption) ?_
              rotate_left
              · intro w hSw; (try dsimp only at hSw); go_simp; (try with_reducible rfl)
              (try simp only [Act.put, List.setIfInBounds_toArray, List.set_cons_zero, List.set_cons_succ])
              refine take_l (i := 17) (v := ?_) rfl (by kernel_rfl) (by kernel_rfl) (by kernel_rfl) (fun _ _ _ h => h) (Or.inl ⟨by kernel_rfl, ?_⟩) (by assumption) ?_
              rotate_left
              · intro w hSw; (try dsimp only at hSw); go_simp; (try with_reducible rfl)
              (try simp only [Act.put, List.setIfInBounds_toArray, List.set_cons_zero, List.set_cons_succ])
              refine take_l (i := 18) (v := ?_) rfl (by kernel_rfl) (by kernel_rfl) (by kernel_rfl) (fun _ _ _ h => h) (Or.inl ⟨by kernel_rfl, ?_⟩) (by assumption) ?_
              rotate_left
              · intro w hSw; (try dsimp only at hSw); go_simp; (try with_reducible rfl)
              (try simp only [Act.put, List.setIfInBounds_toArray, List.set_cons_zero, List.set_cons_succ])
              refine take_l (i := 19) (v := ?_) rfl (by kernel_rfl) (by kernel_rfl) (by kernel_rfl) (fun _ _ _ h => h) (Or.inl ⟨by kernel_rfl, ?_⟩) (by assumption) ?_
              rotate_left
              · intro w hSw; (try dsimp only at hSw); go_simp; (try with_reducible rfl)
              (try simp only [Act.put, List.setIfInBounds_toArray, List.set_cons_zero, List.set_cons_succ])
              refine take_l (i := 20) (v := ?_) rfl (by kernel_rfl) (by kernel_rfl) (by kernel_rfl) (fun _ _ _ h => h) (Or.inl ⟨by kernel_rfl, ?_⟩) (by assumption) ?_
              rotate_left
              · intro w hSw; (try dsimp only at hSw); go_simp; (try with_reducible rfl)
              (try simp only [Act.put, List.setIfInBounds_toArray, List.set_cons_zero, List.set_cons_succ])
              refine wpAnyH_done (by kernel_rfl) ?_ _
              go_wp2_with fail
              exact ⟨⟨o + 1, by omega, by first | rfl | go_num, (show Hid _ from ⟨hgo2.out, hB2.drew, hA2.drew⟩)⟩, by simp [intOf]; omega⟩
    · have hd : decide ((o : Int) < 12) = false := by simp; omega
      have hnone : readT s = none := readT_none fun p n h => hno p (by have := h.2.1; omega) n h
      obtain ⟨s0, s1, s2, t0, t1, t2, r0, r1, r2⟩ := set3_all hA (.int .i64 0) (.int .i64 0) (.int .i64 0)
      have hfin := Lib.hid (hrt0 _ (set3_below hB (Nat.le_refl _) (.int .i64 0) (.int .i64 0) (.int .i64 0)) hnone)
      clear hnone hrt0
      go_wp2_with fail
      exact bodyPost_ret (v := rdV 0 0 false) (by simp [rdV, results, Tryd.f44, go_sem, r0, r1, r2]) rfl hfin.out
end Go.Proofs.YtainohbfcehpoaaDoor
