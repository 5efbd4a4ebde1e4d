/-
  Formats of chapter 4: the helper pick of the law and of the reference; the reference's free: ranges.
  Formats of chapter 4: what the reference's Make holds; a list of formats is copied behind an empty row.
  Formats of chapter 4: the reference's Make.
-/
import Derived.Test.YtcpfmlaipejfpaaGreatDoorKB
import Derived.Deep.Upon
import Derived.Deep.Cut
import Derived.Deep.CutRange
import Derived.Deep.CutBlock
namespace Go.Proofs.YtcpfmlaipejfpaaGreatDoor
open Go.RowKit Go.Shelf Go.Maps

attribute [local go_sem] Oper.semAt_some

def pickv (c : Int) (n : Nat) : Nat := (if c < 0 then -(c + 1) else c).toNat % n
theorem pickv_lt (c : Int) (n : Nat) (h : 1 ≤ n) : pickv c n < n := Nat.mod_lt _ (by omega)
set_option maxHeartbeats 400000 in
theorem pick_any (c : Int) (n : Nat) (w : World) (hc : I64 c) (h1 : 1 ≤ n) (h2 : n ≤ 1000000000) :
    Calls Tryz.prog 14 #[.int .i64 c, .int .i64 n] w fun e w' => e = .returned (.int .i64 (pickv c n : Nat)) ∧ w' = w := by
  obtain ⟨hc1, hc2⟩ := hc
  by_cases h0 : c < 0
  · have hv : Hid (((pickv c n : Nat) : Int) = (-(c + 1)) % (n : Int)) := by
      show _ = _
      rw [pickv, if_pos h0, Int.natCast_emod, Int.toNat_of_nonneg (by omega)]
    have hd : decide (c < 0) = true := by simpa using h0
    have hnn : 0 ≤ -(c + 1) := by omega
    go_enter Tryz.func14, Tryz.ntmps14
    go_wp2
    go_ret
    exact ⟨ret_i64 (by rw [← Int.neg_tmod, Int.tmod_eq_emod_of_nonneg hnn]; exact hv.out.symm), rfl⟩
  · have hv : Hid (((pickv c n : Nat) : Int) = c % (n : Int)) := by
      show _ = _
      rw [pickv, if_neg h0, Int.natCast_emod, Int.toNat_of_nonneg (by omega)]
    have hd : decide (c < 0) = false := by simpa using h0
    have h0' : 0 ≤ c := by omega
    go_enter Tryz.func14, Tryz.ntmps14
    go_wp2
    go_ret
    exact ⟨ret_i64 hv.out.symm, rfl⟩
set_option maxHeartbeats 400000 in
theorem pickR_any (c : Int) (n : Nat) (w : World) (hc : I64 c) (h1 : 1 ≤ n) (h2 : n ≤ 1000000000) :
    Calls Tryz.prog 28 #[.int .i64 c, .int .i64 n] w fun e w' => e = .returned (.int .i64 (pickv c n : Nat)) ∧ w' = w := by
  obtain ⟨hc1, hc2⟩ := hc
  by_cases h0 : c < 0
  · have hv : Hid (((pickv c n : Nat) : Int) = (-(c + 1)) % (n : Int)) := by
      show _ = _
      rw [pickv, if_pos h0, Int.natCast_emod, Int.toNat_of_nonneg (by omega)]
    have hd : decide (c < 0) = true := by simpa using h0
    have hnn : 0 ≤ -(c + 1) := by omega
    go_enter Tryz.func28, Tryz.ntmps28
    go_wp2
    go_ret
    exact ⟨ret_i64 (by rw [← Int.neg_tmod, Int.tmod_eq_emod_of_nonneg hnn]; exact hv.out.symm), rfl⟩
  · have hv : Hid (((pickv c n : Nat) : Int) = c % (n : Int)) := by
      show _ = _
      rw [pickv, if_neg h0, Int.natCast_emod, Int.toNat_of_nonneg (by omega)]
    have hd : decide (c < 0) = false := by simpa using h0
    have h0' : 0 ≤ c := by omega
    go_enter Tryz.func28, Tryz.ntmps28
    go_wp2
    go_ret
    exact ⟨ret_i64 hv.out.symm, rfl⟩
set_option maxRecDepth 100000 in
set_option maxHeartbeats 4000000 in
theorem free_any (v : Value) (fs : List Fld) (w : World) (h : Flds w v fs) :
    Calls Tryz.prog 29 #[v] w fun e w' => (∃ r : Int, e = .returned (.int .i64 r) ∧ -1 ≤ r ∧ r < (fs.length : Int)) ∧ w' = w := by
  have hlen := h.len
  have hh := Lib.hid h
  obtain ⟨a, c, rfl⟩ := h.val
  have hwl : IntKind.i64.wrap ((fs.length : Int) - 1) = (fs.length : Int) - 1 := IntWalk.i64_in _ (by omega)
  clear h
  go_enter Tryz.func29, Tryz.ntmps29
  go_wp2_with fail
  go_loopw [3, 4, 5] (fun iv _ _ wr => ∃ i : Int, iv = .int .i64 i ∧ Hid (-1 ≤ i ∧ i < (fs.length : Int)) ∧ wr = w) (fun iv _ _ _ => ((intOf iv) + 1).toNat)
  case atStart => exact ⟨(fs.length : Int) - 1, by first | rfl | go_num, (show Hid _ from ⟨by omega, by omega⟩), rfl⟩
  case round =>
    obtain ⟨i, rfl, hI, hw⟩ := hrel
    subst wr
    by_cases h0 : 0 ≤ i
    · obtain ⟨k, rfl⟩ : ∃ k : Nat, i = (k : Int) := ⟨i.toNat, by omega⟩
      have hkl : k < fs.length := by have := hI.out.2; omega
      have hd1 : decide ((k : Int) ≥ 0) = true := decide_eq_true h0
      have hd2 : decide (0 ≤ (k : Int)) = true := decide_eq_true h0
      obtain ⟨gb, go, c2, hv, y0, _, _, _, _⟩ := hh.out.at hkl
      injection hv with hv1 _ hv3
      subst hv1 hv3
      generalize fs[k]!.kind = kd at y0
      have i0 : (0 : Int) ≤ (k : Int) := by omega
      have i1 : (k : Int) < (fs.length : Int) := by omega
      have hw1 : IntKind.i64.wrap ((k : Int) + 1) = ((k + 1 : Nat) : Int) := by rw [Int.natCast_succ]; exact IntWalk.i64_in _ (by omega)
      have hw2 : IntKind.i64.wrap ((k : Int) - 1) = (k : Int) - 1 := IntWalk.i64_in _ (by omega)
      go_wp2_with fail
      go_loopw [4, 5] (fun uv kv wr => ∃ (u : Bool) (j : Nat), uv = .bool u ∧ kv = .int .i64 (j : Int) ∧ Hid (k < j ∧ j ≤ fs.length) ∧ wr = w) (fun _ kv _ => fs.length - (intOf kv).toNat)
      case atStart => exact ⟨_, k + 1, rfl, by first | rfl | go_num, (show Hid _ from ⟨by omega, by omega⟩), rfl⟩
      case round =>
        obtain ⟨u, j, rfl, rfl, hJ, hw⟩ := hrel
        subst wr
        by_cases hlt : j < fs.length
        · have hd : decide ((j : Int) < (fs.length : Int)) = true := by simpa using hlt
          obtain ⟨gb3, go3, c3, hv, _, _, u2, _, _⟩ := hh.out.at hlt
          injection hv with hv1 _ hv3
          injection hv1 with hv1
          injection hv1 with hv4 hv5
          subst hv4 hv5 hv3
          generalize fs[j]!.frm = fi at u2
          have j0 : (0 : Int) ≤ (j : Int) := by omega
          have j1 : (j : Int) < (fs.length : Int) := by omega
          have hw3 : IntKind.i64.wrap ((j : Int) + 1) = ((j + 1 : Nat) : Int) := by rw [Int.natCast_succ]; exact IntWalk.i64_in _ (by omega)
          have hJn : Hid (k < j + 1 ∧ j + 1 ≤ fs.length) := ⟨by have := hJ.out.1; omega, by omega⟩
          cases u with
          | true =>
            go_wp2_with fail
            exact ⟨⟨true, j + 1, rfl, by first | rfl | go_num, hJn, trivial⟩, by simp [intOf]; omega⟩
          | false =>
            go_wp2_with fail
            exact ⟨⟨_, j + 1, rfl, by first | rfl | go_num, hJn, trivial⟩, by simp [intOf]; omega⟩
        · have hd : decide ((j : Int) < (fs.length : Int)) = false := by simpa using hlt
          have hkk : Hid (-1 ≤ (k : Int) ∧ (k : Int) < (fs.length : Int)) := ⟨by omega, by omega⟩
          have hIn : Hid (-1 ≤ (k : Int) - 1 ∧ (k : Int) - 1 < (fs.length : Int)) := ⟨by omega, by omega⟩
          cases u with
          | true =>
            go_wp2_with fail
            exact ⟨⟨(k : Int) - 1, by first | rfl | go_num, hIn, trivial⟩, by simp [intOf]⟩
          | false =>
            go_wp2_with fail
            go_ret
            exact ⟨⟨(k : Int), by first | rfl | go_num, hkk.out.1, hkk.out.2⟩, rfl⟩
    · have hd1 : decide (i ≥ 0) = false := by simpa using h0
      have hd2 : decide (0 ≤ i) = false := by simpa using h0
      go_wp2_with fail
      go_ret
      exact ⟨⟨-1, rfl, by omega, by omega⟩, rfl⟩
end Go.Proofs.YtcpfmlaipejfpaaGreatDoor
namespace Go.Proofs.YtcpfmlaipejfpaaGreatDoor
open Go.RowKit Go.Shelf Go.Maps

/-- A list of formats in its own row, its fields in theirs. -/
structure MkL (B : Nat) (w : World) (lv : Value) (fvs : List Value) (l : List Fmt) : Prop where
  fl : fvs.length = l.length
  row : w.ownsRow B 34 2 lv l.length (fmtC l fvs)
  rows : ∀ i, i < l.length → w.ownsRow B 55 4 fvs[i]! l[i]!.flds.length (fldL l[i]!.flds)
theorem MkL.below {B : Nat} {w w' : World} {lv : Value} {fvs : List Value} {l : List Fmt} (h : MkL B w lv fvs l) (hb : Below w.heap.size w w') : MkL B w' lv fvs l :=
  ⟨h.fl, own_below h.row hb, fun i hi => own_below (h.rows i hi) hb⟩
/-- A field's own bytes are few. -/
def SmallF (f : Fld) : Prop := (f.kind = 3 → f.n ≤ 4) ∧ f.text.length ≤ 4
/-- What Make's list is. -/
structure MkOk (l : List Fmt) : Prop where
  valid : validR l = true
  len : l.length ≤ 6
  ids : ∀ i, i < l.length → 1 + 3 * (i : Int) ≤ l[i]!.id ∧ l[i]!.id ≤ 3 + 3 * (i : Int)
  flds : ∀ f ∈ l, f.flds.length ≤ 6
  ok : ∀ f ∈ l, ∀ x ∈ f.flds, FldOk x
  small : ∀ f ∈ l, ∀ x ∈ f.flds, SmallF x
theorem MkOk.in_ {l : List Fmt} (h : MkOk l) : FmtIn l :=
  ⟨by have := h.len; omega, fun f hf => by
    obtain ⟨i, hi, rfl⟩ := List.getElem_of_mem hf
    have := h.ids i hi
    have h6 := h.len
    rw [getElem!_pos l i hi] at this
    exact ⟨by omega, by omega⟩, fun f hf => by have := h.flds f hf; omega, h.ok⟩
theorem MkL.fmts {B : Nat} {w : World} {lv : Value} {fvs : List Value} {l : List Fmt} (h : MkL B w lv fvs l) (hin : FmtIn l) : Fmts w lv l :=
  ⟨⟨fvs, h.fl, sliceAt_of_own h.row, fun i hi => sliceAt_of_own (h.rows i hi)⟩, hin⟩
theorem MkOk.nil : MkOk [] := ⟨by decide, by decide, fun i hi => absurd hi (Nat.not_lt_zero _), fun f hf => (List.not_mem_nil hf).elim, fun f hf => (List.not_mem_nil hf).elim, fun f hf => (List.not_mem_nil hf).elim⟩
theorem MkOk.more {l : List Fmt} {id : Int} {fs : List Fld} (h : MkOk l) (h6 : l.length < 6) (hid : 1 + 3 * (l.length : Int) ≤ id ∧ id ≤ 3 + 3 * (l.length : Int)) (hf : fs.length ≤ 6) (hok : ∀ x ∈ fs, FldOk x) (hsm : ∀ x ∈ fs, SmallF x) (hv : validR (l ++ [⟨id, fs⟩]) = true) : MkOk (l ++ [⟨id, fs⟩]) := by
  refine ⟨hv, by rw [List.length_append, List.length_singleton]; omega, fun i hi => ?_, fun f hm => ?_, fun f hm => ?_, fun f hm => ?_⟩
  · rw [List.length_append, List.length_singleton] at hi
    by_cases hl : i = l.length
    · rw [hl, get_last]; exact hid
    · rw [get_app (by omega)]; exact h.ids i (by omega)
  · rcases List.mem_append.1 hm with hm | hm
    · exact h.flds f hm
    · rw [List.mem_singleton.1 hm]; exact hf
  · rcases List.mem_append.1 hm with hm | hm
    · exact h.ok f hm
    · rw [List.mem_singleton.1 hm]; exact hok
  · rcases List.mem_append.1 hm with hm | hm
    · exact h.small f hm
    · rw [List.mem_singleton.1 hm]; exact hsm
def fallF : Fld := ⟨3, 3, -1, []⟩
theorem MkOk.fall {l : List Fmt} {id : Int} (h : MkOk l) (h6 : l.length < 6) (hid : 1 + 3 * (l.length : Int) ≤ id ∧ id ≤ 3 + 3 * (l.length : Int)) : MkOk (l ++ [⟨id, [fallF]⟩]) := by
  refine h.more h6 hid (by decide) (fun x hx => ?_) (fun x hx => ?_) ?_
  · rw [List.mem_singleton.1 hx]
    exact ⟨⟨by decide, by decide⟩, ⟨by decide, by decide⟩, ⟨by decide, by decide⟩, by decide⟩
  · rw [List.mem_singleton.1 hx]
    exact ⟨fun _ => by decide, by decide⟩
  · unfold validR
    rw [beginsR_snoc, h.valid, decide_eq_true (show l.length + 1 ≤ 60 by omega)]
    have hlt : (decide (l.length = 0) || decide (l[l.length - 1]!.id < id)) = true := by
      by_cases h0 : l.length = 0
      · rw [decide_eq_true h0]; rfl
      · have := h.ids (l.length - 1) (by omega)
        rw [decide_eq_true (show l[l.length - 1]!.id < id by omega), Bool.or_true]
    have hn : nextR l ⟨id, [fallF]⟩ = true := by
      unfold nextR
      rw [withinZ_iff.2 (show (1 : Int) ≤ id ∧ id ≤ 1000000 by omega), hlt]
      have e1 : ((List.range [fallF].length).all fun k => fitsR l [fallF] k) = true := by
        rw [range_all]
        intro j hj
        obtain rfl : j = 0 := by simpa using hj
        rfl
      have e2 : fmtR l (leastsR l) [fallF] = 3 := rfl
      show (true && true && true && ((List.range [fallF].length).all fun k => fitsR l [fallF] k) && decide (fmtR l (leastsR l) [fallF] ≤ 65536)) = true
      rw [e1, e2]
      rfl
    rw [hn, show (l ++ [(⟨id, [fallF]⟩ : Fmt)]).length - 1 = l.length by simp, get_last]
    simp
theorem fmtC_one : ∀ (l : List Fmt) (vs : List Value), (∀ v ∈ vs, v.oneCell' = true) → ∀ u ∈ fmtC l vs, u.oneCell' = true
  | [], _, _, u, h => by simp [fmtC] at h
  | _ :: _, [], _, u, h => by simp [fmtC] at h
  | f :: r, v :: vs, hv, u, h => by
    simp only [fmtC, List.mem_cons] at h
    rcases h with rfl | rfl | h
    · rfl
    · exact hv _ (by simp)
    · exact fmtC_one r vs (fun v hm => hv v (by simp [hm])) u h
theorem MkL.one {B : Nat} {w : World} {lv : Value} {fvs : List Value} {l : List Fmt} (h : MkL B w lv fvs l) : ∀ u ∈ fmtC l fvs, u.oneCell' = true := by
  refine fmtC_one l fvs fun v hv => ?_
  obtain ⟨i, hi, rfl⟩ := List.getElem_of_mem hv
  obtain ⟨a, c, e⟩ := own_val (h.rows i (by rw [← h.fl]; exact hi))
  rw [getElem!_pos fvs i hi] at e
  rw [e]
  rfl
/-- The list behind an empty row. -/
theorem append_fmts {B0 B : Nat} {w : World} {lv : Value} {fvs : List Value} {l : List Fmt} (h : MkL B0 w lv fvs l) (hl : l.length ≤ 1000) (v0 : Value) (hown : w.ownsRow B 34 2 v0 0 []) (hb : B ≤ w.heap.size) (h0 : v0 ≠ .slice none 0 0) :
    ∃ v' w', (Builtin.append_ #[22, 22] 22 #[v0, lv]).run Tryz.prog w = .ok v' w' ∧ w'.ownsRow B 34 2 v' l.length (fmtC l fvs) ∧ w.grownBy w' v0.ownBlock ∧ (v'.ownBlock = v0.ownBlock ∨ v'.ownBlock = some w.heap.size) := by
  obtain ⟨i0, hi, hz0, hz1, hz2⟩ := info_parts info_fmt
  have hone := h.one
  obtain ⟨hxl, hrow⟩ := h.row
  have hsrc := sliceAt_of_own h.row
  rcases hrow with ⟨rfl, hn⟩ | ⟨g, cap, cur, rfl, _⟩
  · obtain rfl : l = [] := List.eq_nil_of_length_eq_zero hn
    obtain rfl : fvs = [] := List.eq_nil_of_length_eq_zero h.fl
    obtain ⟨_, q⟩ := id hown
    rcases q with ⟨rfl, _⟩ | ⟨g, cap, cur, rfl, hB, hg, h1, h2, h3, h4⟩
    · exact absurd rfl h0
    · exact ⟨_, w, run_append_nothing (P := Tryz.prog) w _ _ _ _ i0 Tryz.underlying22 hi _ 0 cap h1 _ (Src.ofNil w Tryz.underlying22 0), hown, ⟨rfl, rfl, rfl, Nat.le_refl _, fun _ _ _ => rfl⟩, .inl rfl⟩
  · obtain ⟨a, c, e, _, _, hc⟩ := hsrc
    injection e with e1 _ e3
    subst e1 e3
    obtain ⟨v', w', hrun, r1, r2, _, r3⟩ := run_append_own_at (P := Tryz.prog) w B 22 22 34 i0 (.agg #[.int .i64 0, .slice none 0 0]) 2 32 Tryz.underlying22 hi hz0 hz1 hz2 rfl (by decide) v0 0 [] hown ⟨g, 0, none⟩ l.length cap (fmtC l fvs) hxl (fun j u hu => by
      by_cases hn : 0 < l.length
      · obtain ⟨b, o, e, _, hat⟩ := hc hn
        simp only [Option.some.injEq, Addr.mk.injEq] at e
        obtain ⟨rfl, rfl, _⟩ := e
        rw [Addr.add_mid]
        exact hat j u hu
      · rw [List.length_eq_zero_iff.1 (show (fmtC l fvs).length = 0 by omega)] at hu
        cases hu) hone (by unfold maxLen; omega) (by omega) hb
    exact ⟨v', w', hrun, by simpa using r1, r2, r3⟩
end Go.Proofs.YtcpfmlaipejfpaaGreatDoor
namespace Go.Proofs.YtcpfmlaipejfpaaGreatDoor
open Go.RowKit Go.Shelf Go.Maps

attribute [local go_sem] Oper.semAt_some

theorem pickB (c : Int) (n : Nat) (w : World) (hc : I64 c) (h1 : 1 ≤ n) (h2 : n ≤ 1000000000) :
    Calls Tryz.prog 28 #[.int .i64 c, .int .i64 n] w fun e w' => (∃ r : Nat, r < n ∧ e = .returned (.int .i64 (r : Int))) ∧ w' = w :=
  (pickR_any c n w hc h1 h2).mono fun _ _ h => ⟨⟨_, pickv_lt c n h1, h.1⟩, h.2⟩
theorem shr_i64 (c : Int) (k : Nat) (h : I64 c) : I64 (c / 2 ^ k) := by
  obtain ⟨h1, h2⟩ := h
  have hp1 : (1 : Int) ≤ 2 ^ k := Int.pow_pos (by decide)
  generalize (2 : Int) ^ k = d at *
  constructor
  · exact Int.le_ediv_of_mul_le (by omega) (by
      have : (-9223372036854775808 : Int) * d ≤ -9223372036854775808 * 1 := Int.mul_le_mul_of_nonpos_left (by decide) hp1
      omega)
  · by_cases h0 : 0 ≤ c
    · exact Int.le_trans (Int.ediv_le_self _ h0) h2
    · have := Int.ediv_neg_of_neg_of_pos (show c < 0 by omega) (show 0 < d by omega)
      omega
/-- A format that Make makes: its box, its fields' row. -/
structure InF (W1 : World) (id : Int) (fv : Value) (fs : List Fld) (w : World) : Prop where
  below : Below W1.heap.size W1 w
  box : Arr w W1.heap.size 34 [.int .i64 id, fv]
  row : w.ownsRow (W1.heap.size + 1) 55 4 fv fs.length (fldL fs)
  ok : ∀ x ∈ fs, FldOk x
  small : ∀ x ∈ fs, SmallF x
theorem InF.flds {W1 w : World} {id : Int} {fv : Value} {fs : List Fld} (h : InF W1 id fv fs w) (h6 : fs.length ≤ 1000000) : Flds w fv fs := ⟨sliceAt_of_own h.row, h6, h.ok⟩
theorem InF.later {W1 w w' : World} {id : Int} {fv : Value} {fs : List Fld} (h : InF W1 id fv fs w) (hb : Below w.heap.size w w') : InF W1 id fv fs w' :=
  ⟨h.below.trans (hb.mono h.below.size), h.box.below hb, own_below h.row hb, h.ok, h.small⟩
theorem BoxF.all {W0 wx : World} {f : Fld} (h : BoxF W0 f wx) (g : Fld) (ho : FldOk g) (ht : g.text.length ≤ 100000) : BoxF W0 g ((((wx.setCell ⟨W0.heap.size, 0, none⟩ (.int .i64 g.kind)).setCell ⟨W0.heap.size, 1, none⟩ (.int .i64 g.n)).setCell ⟨W0.heap.size, 2, none⟩ (.int .i64 g.frm)).setCell ⟨W0.heap.size, 3, none⟩ (.string (str g.text))) := by
  obtain ⟨k, n, m, t⟩ := g
  obtain ⟨k', n', m', t'⟩ := f
  exact (((h.set (g := ⟨k, n', m', t'⟩) 0 _ rfl ⟨ho.k, h.ok.n, h.ok.m, h.ok.t⟩ h.txt).set (g := ⟨k, n, m', t'⟩) 1 _ rfl ⟨ho.k, ho.n, h.ok.m, h.ok.t⟩ h.txt).set (g := ⟨k, n, m, t'⟩) 2 _ rfl ⟨ho.k, ho.n, ho.m, h.ok.t⟩ h.txt).set (g := ⟨k, n, m, t⟩) 3 _ rfl ho ht
theorem fok {k n m : Int} {t : List UInt8} (h1 : I64 k) (h2 : I64 n) (h3 : I64 m) (h4 : t.length ≤ 100) : FldOk ⟨k, n, m, t⟩ := ⟨h1, h2, h3, by dsimp only; omega⟩
theorem InF.add {W1 X w6 : World} {id : Int} {fv fv' : Value} {fs : List Fld} {g : Fld} (h : InF W1 id fv fs X) (hr : w6.ownsRow (W1.heap.size + 1) 55 4 fv' (fs ++ [g]).length (fldL (fs ++ [g]))) (hg : X.grownBy w6 fv.ownBlock) (ho : FldOk g) (hs : SmallF g) : InF W1 id fv' (fs ++ [g]) (w6.setCell ⟨W1.heap.size, 1, none⟩ fv') := by
  have hx := h.box.lt
  refine ⟨(h.below.grown hg (by omega) (fun j hj => by have := (own_block h.row hj).2.1; omega)).setCell (p := ⟨W1.heap.size, 1, none⟩) (Nat.le_refl _) _, ?_, ownsRow_setCell_other hr (fun e => by have := (own_block hr e).2.1; dsimp only at this; omega) _, fun x hm => ?_, fun x hm => ?_⟩
  · have hb : Arr w6 W1.heap.size 34 [.int .i64 id, fv] := (hg.block _ hx (fun e => by have := (own_block h.row e.symm).2.1; omega)).trans h.box
    exact hb.set 1 fv'
  · rcases List.mem_append.1 hm with hm | hm
    · exact h.ok x hm
    · rw [List.mem_singleton.1 hm]; exact ho
  · rcases List.mem_append.1 hm with hm | hm
    · exact h.small x hm
    · rw [List.mem_singleton.1 hm]; exact hs
theorem MkL.snoc {B : Nat} {w w' : World} {lv lv' fv : Value} {fvs : List Value} {l : List Fmt} {id : Int} {fs : List Fld} (h : MkL B w lv fvs l) (hk : ∀ i, i < l.length → w'.ownsRow B 55 4 fvs[i]! l[i]!.flds.length (fldL l[i]!.flds)) (hr : w'.ownsRow B 34 2 lv' (l.length + 1) (fmtC l fvs ++ [.int .i64 id, fv])) (hf : w'.ownsRow B 55 4 fv fs.length (fldL fs)) : MkL B w' lv' (fvs ++ [fv]) (l ++ [⟨id, fs⟩]) := by
  refine ⟨by simp [h.fl], by rw [fmtC_snoc _ _ _ _ h.fl, List.length_append]; exact hr, fun i hi => ?_⟩
  rw [List.length_append, List.length_singleton] at hi
  by_cases hl : i = l.length
  · rw [hl, get_last, show l.length = fvs.length from h.fl.symm, getD_snoc_last]
    exact hf
  · rw [get_app (by omega), getD_snoc _ _ (by rw [h.fl]; omega)]
    exact hk i (by omega)
/-- The list with a format more, in a row made anew. -/
structure NextAt (W : World) (fvs : List Value) (l : List Fmt) (id : Int) (fv nv : Value) (w : World) : Prop where
  row : w.ownsRow W.heap.size 34 2 nv (l.length + 1) (fmtC l fvs ++ [.int .i64 id, fv])
  below : Below W.heap.size W w
theorem next_row {B : Nat} {W X : World} {lv : Value} {fvs : List Value} {l : List Fmt} (h : MkL B W lv fvs l) (hl : l.length ≤ 6) (hX : Below W.heap.size W X) (g : Nat) (hg : W.heap.size ≤ g) (hA : Arr X g 34 []) :
    ∃ v' w', (Builtin.append_ #[22, 22] 22 #[.slice (some ⟨g, 0, none⟩) 0 0, lv]).run Tryz.prog X = .ok v' w' ∧ w'.ownsRow W.heap.size 34 2 v' l.length (fmtC l fvs) ∧ Below W.heap.size W w' ∧ ∀ b L, b ≠ g → Arr X b 34 L → Arr w' b 34 L := by
  have hown : X.ownsRow W.heap.size 34 2 (.slice (some ⟨g, 0, none⟩) 0 0) 0 [] := ⟨rfl, .inr ⟨g, 0, #[], rfl, hg, hA, Nat.le_refl _, Nat.zero_le _, rfl, rfl⟩⟩
  obtain ⟨v', w', hrun, r1, r2, _⟩ := append_fmts (h.below hX) (by omega) _ hown hX.size (by simp)
  exact ⟨v', w', hrun, r1, hX.grown r2 hX.size (fun j hj => by
    simp only [Value.ownBlock, Option.some.injEq] at hj
    omega), fun b L hb hA => (r2.block b hA.lt (by simpa [Value.ownBlock] using hb)).trans hA⟩
theorem next_snoc {W w2 : World} {fvs : List Value} {l : List Fmt} {v2 : Value} (hl : l.length ≤ 6) (hown : w2.ownsRow W.heap.size 34 2 v2 l.length (fmtC l fvs)) (hB : Below W.heap.size W w2) (b : Nat) (id : Int) (fv : Value) (hf : fv.oneCell' = true) (hA : Arr w2 b 34 [.int .i64 id, fv]) :
    ∃ v' w', (Builtin.append_ #[22, 22] 22 #[v2, .slice (some ⟨b, 0, none⟩) 1 1]).run Tryz.prog w2 = .ok v' w' ∧ NextAt W fvs l id fv v' w' := by
  obtain ⟨v', w', hrun, r1, r2, _⟩ := append_fmt w2 W.heap.size v2 l.length _ hown b _ hA rfl (by
    intro u hu
    simp only [List.mem_cons, List.not_mem_nil, or_false] at hu
    rcases hu with rfl | rfl
    · rfl
    · exact hf) (by omega) hB.size
  exact ⟨v', w', hrun, r1, hB.grown r2 hB.size (fun j hj => (own_block hown hj).2.1)⟩
theorem below_set_far {w w' : World} {B b o : Nat} {u : Value} (h : Below B w w') (hb : B ≤ b) : Below B w (w'.setCell ⟨b, o, none⟩ u) := h.setCell (p := ⟨b, o, none⟩) hb u
/-- The list with the format that always fits. -/
theorem MkL.fallen {w wr wv : World} {lv : Value} {fvs : List Value} {l : List Fmt} {id : Int} {fB : Nat} (h : MkL w.heap.size wr lv fvs l) (hl : l.length ≤ 6) (hw : Below w.heap.size w wr) (hb : Below wr.heap.size wr wv) (hf : wr.heap.size ≤ fB) (hf2 : fB < wv.heap.size) :
    ∃ v' w', (Builtin.append_ #[22, 22] 22 #[lv, .slice (some ⟨wv.heap.size + 1, 0, none⟩) 1 1]).run Tryz.prog (((wv.alloc (.cells #[.int .i64 3, .int .i64 3, .int .i64 (-1), .string { data := #[] }] 55)).setCell ⟨fB, 1, none⟩ (.slice (some ⟨wv.heap.size, 0, none⟩) 1 1)).alloc (.cells #[.int .i64 id, .slice (some ⟨wv.heap.size, 0, none⟩) 1 1] 34)) = .ok v' w' ∧ MkL w.heap.size w' v' (fvs ++ [.slice (some ⟨wv.heap.size, 0, none⟩) 1 1]) (l ++ [⟨id, [fallF]⟩]) ∧ Below w.heap.size w w' := by
  obtain ⟨Y1, hY1⟩ : ∃ Y1, Y1 = wv.alloc (.cells #[.int .i64 3, .int .i64 3, .int .i64 (-1), .string { data := #[] }] 55) := ⟨_, rfl⟩
  have hs1 : Y1.heap.size = wv.heap.size + 1 := by rw [hY1]; simp
  have hb1 : Below wr.heap.size wr Y1 := by rw [hY1]; exact hb.alloc hb.size _
  have hA1 : Arr Y1 wv.heap.size 55 (fldC fallF) := by rw [hY1]; exact Arr.new rfl rfl
  rw [← hY1]
  obtain ⟨Y2, hY2⟩ : ∃ Y2, Y2 = Y1.setCell ⟨fB, 1, none⟩ (.slice (some ⟨wv.heap.size, 0, none⟩) 1 1) := ⟨_, rfl⟩
  have hs2 : Y2.heap.size = wv.heap.size + 1 := by rw [hY2]; simpa [World.setCell] using hs1
  have hb2 : Below wr.heap.size wr Y2 := by rw [hY2]; exact below_set_far hb1 hf
  rw [← hY2]
  obtain ⟨Y3, hY3⟩ : ∃ Y3, Y3 = Y2.alloc (.cells #[.int .i64 id, .slice (some ⟨wv.heap.size, 0, none⟩) 1 1] 34) := ⟨_, rfl⟩
  have hb3 : Below wr.heap.size wr Y3 := by rw [hY3]; exact hb2.alloc hb2.size _
  have hA3 : Arr Y3 (wv.heap.size + 1) 34 [.int .i64 id, .slice (some ⟨wv.heap.size, 0, none⟩) 1 1] := by rw [hY3, ← hs2]; exact Arr.new rfl rfl
  rw [← hY3]
  have hrow := (h.below hb3).row
  obtain ⟨v', w', hrun, r1, r2, _⟩ := append_fmt Y3 w.heap.size lv l.length _ hrow _ _ hA3 rfl (by
    intro u hu
    simp only [List.mem_cons, List.not_mem_nil, or_false] at hu
    rcases hu with rfl | rfl <;> rfl) (by omega) (Nat.le_trans hw.size hb3.size)
  refine ⟨v', w', hrun, h.snoc (fun i hi => own_apart ((h.below hb3).rows i hi) hrow (by decide) r2) r1 ?_, (hw.trans (hb3.mono hw.size)).grown r2 (Nat.le_trans hw.size hb3.size) (fun j hj => (own_block hrow hj).2.1)⟩
  have o1 : Y1.ownsRow w.heap.size 55 4 (.slice (some ⟨wv.heap.size, 0, none⟩) 1 1) 1 (fldL [fallF]) := ⟨rfl, .inr ⟨wv.heap.size, 1, (fldC fallF).toArray, rfl, Nat.le_trans hw.size hb.size, hA1, Nat.le_refl _, by unfold maxLen; omega, rfl, rfl⟩⟩
  have o2 : Y2.ownsRow w.heap.size 55 4 (.slice (some ⟨wv.heap.size, 0, none⟩) 1 1) 1 (fldL [fallF]) := by
    rw [hY2]
    refine ownsRow_setCell_other o1 ?_ _
    simp only [Value.ownBlock, ne_eq, Option.some.injEq]
    omega
  have o3 : Y3.ownsRow w.heap.size 55 4 (.slice (some ⟨wv.heap.size, 0, none⟩) 1 1) 1 (fldL [fallF]) := own_below o2 (by rw [hY3]; exact (Below.refl _ _).alloc (Nat.le_refl _) _)
  exact own_apart o3 hrow (by decide) r2
end Go.Proofs.YtcpfmlaipejfpaaGreatDoor
