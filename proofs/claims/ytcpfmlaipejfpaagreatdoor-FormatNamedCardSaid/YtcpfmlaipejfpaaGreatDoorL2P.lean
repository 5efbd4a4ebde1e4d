/-
  Formats of chapter 4: what FormatNamed's loops hold.
  Formats of chapter 4: FormatNamed, walked.
  FormatNamed is true of every input: the row, and its tied card. Conditions: the library variables that are read hold what their packages lay in them (the card ties that to the text).
-/
import Derived.Test.YtcpfmlaipejfpaaGreatDoorKG
import Derived.Test.YtcpfmlaipejfpaaGreatDoorKD
import Derived.Test.YtcpfmlaipejfpaaGreatDoorKE
import Derived.Test.YtcpfmlaipejfpaaGreatDoorCards
import Derived.Test.YtcpfmlaipejfpaaGreatDoorTie
import Derived.Test.YtcpfmlaipejfpaaGreatDoorKF
import Derived.SevenTiedAt
namespace Go.Proofs.YtcpfmlaipejfpaaGreatDoor
open Go.RowKit Go.Shelf

theorem bget_set {l : List Bool} {i j : Nat} (h : i < l.length) : (l.set i true)[j]! = if j = i then true else l[j]! := by
  by_cases hj : j < l.length
  · rw [getElem!_pos _ j (by simpa using hj), getElem!_pos l j hj, List.getElem_set]
    by_cases e : i = j
    · rw [if_pos e, if_pos e.symm]
    · rw [if_neg e, if_neg fun x => e x.symm]
  · rw [if_neg (by omega), getElem!_neg _ j (by simpa using hj), getElem!_neg l j hj]
/-- Field k of format i is looked through, up to format j. -/
def FK (l : List Fmt) (keep : List Bool) (i k j : Nat) : Prop := ∀ j', j' < j → keep[i]! = true → namesF l[i]!.flds[k]! → l[j']!.id = l[i]!.flds[k]!.n → keep[j']! = true
structure KI (l : List Fmt) (keep : List Bool) (i k j : Nat) : Prop where
  len : keep.length = l.length
  later : ∀ i', i < i' → i' < l.length → Kept l keep i'
  flds : ∀ k', k' < k → FK l keep i k' i
  now : FK l keep i k j
theorem kept_set {l : List Fmt} {keep : List Bool} {i j : Nat} (hj : j < keep.length) (hji : j < i) (h : Kept l keep i) : Kept l (keep.set j true) i := by
  intro hk f hf hn j' hj' he
  rw [bget_set hj, if_neg (by omega)] at hk
  rw [bget_set hj]
  split
  · rfl
  · exact h hk f hf hn j' hj' he
theorem KI.set {l : List Fmt} {keep : List Bool} {i k j : Nat} (h : KI l keep i k j) (hi : i < l.length) (hji : j < i) : KI l (keep.set j true) i k (j + 1) := by
  have hjl : j < keep.length := by rw [h.len]; omega
  refine ⟨by rw [List.length_set]; exact h.len, fun i' h1 h2 => kept_set hjl (by omega) (h.later i' h1 h2), fun k' hk' j' hj' hk hn he => ?_, fun j' hj' hk hn he => ?_⟩
  · rw [bget_set hjl, if_neg (by omega)] at hk
    rw [bget_set hjl]
    split
    · rfl
    · exact h.flds k' hk' j' hj' hk hn he
  · rw [bget_set hjl, if_neg (by omega)] at hk
    rw [bget_set hjl]
    split
    · rfl
    · exact h.now j' (by omega) hk hn he
theorem KI.skip {l : List Fmt} {keep : List Bool} {i k j : Nat} (h : KI l keep i k j) (hx : ¬ (namesF l[i]!.flds[k]! ∧ l[j]!.id = l[i]!.flds[k]!.n)) : KI l keep i k (j + 1) := by
  refine ⟨h.len, h.later, h.flds, fun j' hj' hk hn he => ?_⟩
  by_cases e : j' = j
  · subst e
    exact absurd ⟨hn, he⟩ hx
  · exact h.now j' (by omega) hk hn he
theorem KI.next {l : List Fmt} {keep : List Bool} {i k : Nat} (h : KI l keep i k i) : KI l keep i (k + 1) 0 := by
  refine ⟨h.len, h.later, fun k' hk' => ?_, fun j' hj' => absurd hj' (Nat.not_lt_zero _)⟩
  by_cases e : k' = k
  · rw [e]; exact h.now
  · exact h.flds k' (by omega)
theorem KI.kept {l : List Fmt} {keep : List Bool} {i k : Nat} (h : KI l keep i k 0) (hk : k = l[i]!.flds.length ∨ keep[i]! = false) : Kept l keep i := by
  intro hki f hf hn j hj he
  rcases hk with hk | hk
  · obtain ⟨k', hk', e⟩ := List.getElem_of_mem hf
    have := h.flds k' (by omega) j hj hki
    rw [getElem!_pos _ k' hk', e] at this
    exact this hn he
  · rw [hk] at hki
    cases hki
theorem KI.begin {l : List Fmt} {keep : List Bool} {i : Nat} (hl : keep.length = l.length) (h : ∀ i', i < i' → i' < l.length → Kept l keep i') : KI l keep i 0 0 :=
  ⟨hl, h, fun _ hk' => absurd hk' (Nat.not_lt_zero _), fun _ hj' => absurd hj' (Nat.not_lt_zero _)⟩
theorem info_bool : (Tryz.prog.info? 4).map (fun i => (i.zero, i.size, i.bytes)) = some (some (.bool false), 1, 1) := by kernel_rfl
def boolC (l : List Bool) : List Value := l.map .bool
theorem make_bools (w : World) (n : Nat) (hn : n ≤ 1000000) : (Instr.makeSlice 53 (.int .i64 (n : Int)) (.int .i64 (n : Int))).run Tryz.prog w = .ok (.slice (some ⟨w.heap.size, 0, none⟩) n n) (w.alloc (.cells (boolC (List.replicate n false)).toArray 4)) := by
  obtain ⟨i0, hi, hz0, hz1, hz2⟩ := info_parts info_bool
  have h := run_makeSlice (P := Tryz.prog) w 53 4 i0 (.bool false) Tryz.underlying53 hi hz0 .i64 .i64 n n (by omega) (by omega) (by rw [hz1]; omega) (by rw [hz2]; omega) (by omega)
  rw [Int.toNat_natCast] at h
  have e : madeCells (Value.bool false).cells (n * i0.size) = (boolC (List.replicate n false)).toArray := by
    rw [hz1, Nat.mul_one]
    apply Array.ext'
    simp [madeCells, Value.cells, boolC, Nat.mod_one]
    rw [List.map_const', List.length_range]
  rw [e] at h
  exact h
/-- Values of the formats that are kept. -/
def subV (fvs : List Value) (keep : List Bool) : Nat → List Value
  | 0 => []
  | n + 1 => if keep[n]! = true then subV fvs keep n ++ [fvs[n]!] else subV fvs keep n
theorem subV_len (l : List Fmt) (fvs : List Value) (keep : List Bool) : ∀ n, (subV fvs keep n).length = (subL l keep n).length
  | 0 => rfl
  | n + 1 => by
    rw [subV, subL]
    split
    · rw [List.length_append, List.length_append, subV_len l fvs keep n]; rfl
    · exact subV_len l fvs keep n
theorem subV_at (l : List Fmt) (fvs : List Value) (keep : List Bool) : ∀ n, ∀ i, i < (subL l keep n).length → ∃ j, j < n ∧ (subL l keep n)[i]! = l[j]! ∧ (subV fvs keep n)[i]! = fvs[j]!
  | 0, i, h => absurd h (Nat.not_lt_zero _)
  | n + 1, i, h => by
    rw [subL] at h ⊢
    rw [subV]
    split at h
    · rename_i hk
      rw [if_pos hk, if_pos hk]
      rw [List.length_append, List.length_singleton] at h
      by_cases hi : i = (subL l keep n).length
      · refine ⟨n, by omega, by rw [hi, get_last], ?_⟩
        rw [hi, ← subV_len l fvs keep n, getD_snoc_last]
      · obtain ⟨j, h1, h2, h3⟩ := subV_at l fvs keep n i (by omega)
        exact ⟨j, by omega, by rw [get_app (by omega)]; exact h2, by rw [getD_snoc _ _ (by rw [subV_len l fvs keep n]; omega)]; exact h3⟩
    · rename_i hk
      rw [if_neg hk, if_neg hk]
      obtain ⟨j, h1, h2⟩ := subV_at l fvs keep n i h
      exact ⟨j, by omega, h2⟩
/-- What the list of the kept formats is. -/
structure SubI (W : World) (l : List Fmt) (fvs : List Value) (keep : List Bool) (i : Nat) (mv : Value) (wr : World) : Prop where
  below : Below W.heap.size W wr
  row : wr.ownsRow W.heap.size 34 2 mv (subL l keep i).length (fmtC (subL l keep i) (subV fvs keep i))
theorem SubI.fmts {W wr : World} {B : Nat} {l : List Fmt} {lv mv : Value} {fvs : List Value} {keep : List Bool} {i : Nat} (h : SubI W l fvs keep i mv wr) (hM : MkL B W lv fvs l) (hin : FmtIn l) (hi : i ≤ l.length) : Fmts wr mv (subL l keep i) := by
  have hM2 := hM.below h.below
  refine ⟨⟨_, subV_len l fvs keep i, sliceAt_of_own h.row, fun k hk => ?_⟩, ⟨?_, fun f hf => ?_, fun f hf => ?_, fun f hf => ?_⟩⟩
  · obtain ⟨j, h1, h2, h3⟩ := subV_at l fvs keep i k hk
    rw [h2, h3]
    exact sliceAt_of_own (hM2.rows j (by omega))
  · have := subL_len l keep i
    have := hin.len
    omega
  · obtain ⟨j, h1, _, rfl⟩ := subL_mem i f hf
    exact hin.id _ (by rw [getElem!_pos l j (by omega)]; exact List.getElem_mem _)
  · obtain ⟨j, h1, _, rfl⟩ := subL_mem i f hf
    exact hin.flen _ (by rw [getElem!_pos l j (by omega)]; exact List.getElem_mem _)
  · obtain ⟨j, h1, _, rfl⟩ := subL_mem i f hf
    exact hin.ok _ (by rw [getElem!_pos l j (by omega)]; exact List.getElem_mem _)
end Go.Proofs.YtcpfmlaipejfpaaGreatDoor
namespace Go.Proofs.YtcpfmlaipejfpaaGreatDoor
open Go.RowKit Go.Shelf

attribute [local go_sem] Oper.semAt_some

theorem bool_cell {w : World} {b : Nat} {keep : List Bool} {i : Nat} (hA : Arr w b 4 (boolC keep)) (hi : i < keep.length) : w.cell? ⟨b, i, none⟩ = some (.bool keep[i]!) :=
  hA.cell (by unfold boolC; rw [List.getElem?_map, List.getElem?_eq_getElem hi, getElem!_pos keep i hi]; rfl)
theorem bool_set {w : World} {b i : Nat} {keep : List Bool} (hA : Arr w b 4 (boolC keep)) : Arr (w.setCell ⟨b, i, none⟩ (.bool true)) b 4 (boolC (keep.set i true)) := by
  have := hA.set i (.bool true)
  unfold boolC at this ⊢
  rw [List.map_set]
  exact this
set_option maxRecDepth 100000 in
set_option maxHeartbeats 16000000 in
theorem Named_any (v : Value) (n : Nat) (zs : List Int) (which : Int) (w : World) (hs : SliceAt w w.heap.size v n (zs.map (Value.int .i64))) (hz : zs.length = n * 4) (hI : ∀ z ∈ zs, I64 z) (hwi : I64 which) (hE : Env w) :
    Calls Tryz.prog 8 #[v, .int .i64 which] w fun e w' => e = .returned (.bool true) ∧ Below w.heap.size w w' := by
  go_enter Tryz.func8, Tryz.ntmps8
  go_wp2_with fail
  refine (sane_any w hE).mono ?_
  rintro e w1 ⟨rfl, hb1⟩
  go_wp2_with fail
  refine (Make_any v n zs w1 (SliceAt.later hs hb1) hz hI).mono ?_
  rintro e w2 ⟨⟨lv, fvs, l, rfl, hok, hM⟩, hb2⟩
  have hB2 := hb1.trans (hb2.mono hb1.size)
  have hF := hM.fmts hok.in_
  have hl6 := hok.len
  have hval := hok.valid
  obtain ⟨a, c, hlv, hcap, _⟩ := hF.val
  subst hlv
  by_cases h0 : l.length = 0
  · have d0 : ((l.length : Int) == 0) = true := by rw [h0]; rfl
    replace h0 := Lib.hid h0
    go_wp2_with fail
    go_ret
    exact ⟨rfl, hB2⟩
  have d0 : ((l.length : Int) == 0) = false := by rw [beq_eq_false_iff_ne]; omega
  have hmk := make_bools w2 l.length (by omega)
  have hpk := Lib.hid (pick_any which l.length (w2.alloc (.cells (boolC (List.replicate l.length false)).toArray 4)) hwi (by omega) (by omega))
  have hplt := pickv_lt which l.length (by omega)
  have hAt := Lib.hid fun (W : World) (hb : Below w2.heap.size w2 W) i (hi : i < l.length) => (hF.later hb).at hi
  generalize pickv which l.length = pk at *
  have hwn : IntKind.i64.wrap ((l.length : Int) - 1) = (l.length : Int) - 1 := IntWalk.i64_in _ (by omega)
  obtain ⟨W3, hW3⟩ : ∃ W3, W3 = w2.alloc (.cells (boolC (List.replicate l.length false)).toArray 4) := ⟨_, rfl⟩
  have hA3 : Arr W3 w2.heap.size 4 (boolC (List.replicate l.length false)) := by rw [hW3]; exact Arr.new rfl rfl
  have hb3 : Below w2.heap.size w2 W3 := by rw [hW3]; exact (Below.refl _ _).alloc (Nat.le_refl _) _
  have k0 := bool_cell hA3 (i := pk) (by rw [List.length_replicate]; exact hplt)
  have k1 := hA3.free pk
  have p0 : (0 : Int) ≤ (pk : Int) := by omega
  have p1 : (pk : Int) < (l.length : Int) := by omega
  rw [← hW3] at hpk
  obtain ⟨W4, hW4⟩ : ∃ W4, W4 = W3.setCell ⟨w2.heap.size, pk, none⟩ (.bool true) := ⟨_, rfl⟩
  have hS4 : Hid (Arr W4 w2.heap.size 4 (boolC ((List.replicate l.length false).set pk true)) ∧ Below w2.heap.size w2 W4) := ⟨by rw [hW4]; exact bool_set hA3, by rw [hW4]; exact hb3.setCell (p := ⟨w2.heap.size, pk, none⟩) (Nat.le_refl _) _⟩
  replace h0 := Lib.hid h0
  go_upto_region 6 with fail
  rw [← hW3]
  clear hmk hW3
  go_wp2_with fail
  refine hpk.out.mono ?_
  rintro e w5 ⟨rfl, hw5⟩
  subst w5
  go_upto_region 7 with fail
  rw [← hW4]
  clear hW4 k0 k1 hpk hA3 hb3
  go_wp2_with fail
  go_loopw [8] (fun iv wr => ∃ (u : Nat) (keep : List Bool), iv = .int .i64 ((u : Int) - 1) ∧ u ≤ l.length ∧ Hid (keep.length = l.length ∧ (∀ i, u ≤ i → i < l.length → Kept l keep i) ∧ Arr wr w2.heap.size 4 (boolC keep) ∧ Below w2.heap.size w2 wr)) (fun iv _ => (intOf iv + 1).toNat)
  case atStart => exact ⟨l.length, _, rfl, Nat.le_refl _, (show Hid _ from ⟨by simp, fun i h1 h2 => by omega, hS4.out.1, hS4.out.2⟩)⟩
  case round =>
    obtain ⟨u, keep, rfl, hu, hS⟩ := hrel
    clear hS4
    obtain ⟨hkl, hkk, hkA, hkB⟩ := hS.out
    obtain ⟨wo, hwo⟩ : ∃ wo, wo = wr := ⟨_, rfl⟩
    subst hwo
    by_cases hu0 : u = 0
    · have hd : decide (1 ≤ (u : Int)) = false := decide_eq_false (by omega)
      have hd2 : ¬ 1 ≤ u := by omega
      have hKall : Hid (∀ i, i < l.length → Kept l keep i) := fun i hi => hkk i (by omega) hi
      have hNp := Lib.hid (named_plain (keep := keep) hval hKall.out)
      have hNb := Lib.hid hkB
      have hkl' := Lib.hid hkl
      have hkA' := Lib.hid hkA
      replace hu0 := Lib.hid hu0
      clear hS hkk hKall hkA hkB hkl
      go_wp2_with fail
      have hsub0 : Hid (SubI w2 l fvs keep 0 (.slice none 0 0) wo ∧ Arr wo w2.heap.size 4 (boolC keep)) := ⟨⟨hNb.out, ⟨rfl, .inl ⟨rfl, rfl⟩⟩⟩, hkA'.out⟩
      have hMh := Lib.hid hM
      have hoki := Lib.hid hok.in_
      clear hM hok hNb hkA' hd hd2
      go_loopw [13, 12] (fun iv mv wx => ∃ (i : Nat) (m : Value), iv = .int .i64 (i : Int) ∧ i ≤ l.length ∧ mv = m ∧ Hid (SubI w2 l fvs keep i m wx ∧ Arr wx w2.heap.size 4 (boolC keep))) (fun iv _ _ => l.length - (intOf iv).toNat)
      case atStart => exact ⟨0, _, rfl, Nat.zero_le _, rfl, hsub0⟩
      case round =>
        obtain ⟨i, m, rfl, hi, hmz, hS⟩ := hrel
        clear hsub0
        obtain ⟨ma, mc, rfl⟩ := own_val hS.out.1.row
        subst hmz
        obtain ⟨wp, hwp⟩ : ∃ wp, wp = wr := ⟨_, rfl⟩
        subst hwp
        by_cases hlt : i < l.length
        · have hdi : decide ((i : Int) < (l.length : Int)) = true := decide_eq_true (by omega)
          have i0 : (0 : Int) ≤ (i : Int) := by omega
          have i1 : (i : Int) < (l.length : Int) := by omega
          have hwi : IntKind.i64.wrap ((i : Int) + 1) = ((i + 1 : Nat) : Int) := by rw [Int.natCast_succ]; exact IntWalk.i64_in _ (by omega)
          have b0 := bool_cell hS.out.2 (i := i) (by rw [hkl'.out]; exact hlt)
          cases hki : keep[i]! with
          | true =>
            rw [hki] at b0
            have hMw := hMh.out.below hS.out.1.below
            have hFw := hMw.fmts hoki.out
            obtain ⟨fb, fo, cap, fa, fcap, e, x0, x1, _, _, _⟩ := hFw.at hlt
            injection e with e1 _ e3
            subst e1 e3
            have hfvi : fvs[i]! = .slice fa l[i]!.flds.length fcap := by
              obtain ⟨g', c', e', _, _, _, _, hcs, _⟩ := own_cells3 hMw.row (by omega)
              injection e' with e1 _ _
              injection e1 with e1
              injection e1 with e1 e2
              subst e1 e2
              obtain ⟨_, p2⟩ := fmtC_at l fvs hMw.fl i hlt
              have := hcs _ _ p2
              rw [Nat.zero_add] at x1
              rw [x1] at this
              injection this with this
              exact this.symm
            have hsl := subL_len l keep i
            obtain ⟨X, hXe⟩ : ∃ X, X = wp.alloc (.cells #[.int .i64 l[i]!.id, .slice fa l[i]!.flds.length fcap] 34) := ⟨_, rfl⟩
            have hbX : Below wp.heap.size wp X := by rw [hXe]; exact (Below.refl _ _).alloc (Nat.le_refl _) _
            have hAX : Arr X wp.heap.size 34 [.int .i64 l[i]!.id, .slice fa l[i]!.flds.length fcap] := by rw [hXe]; exact Arr.new rfl rfl
            have hrX := own_below hS.out.1.row hbX
            obtain ⟨v7, w7, hrun7, hr7, hg7, _⟩ := append_fmt X w2.heap.size _ _ _ hrX _ _ hAX rfl (by
              intro u hu
              simp only [List.mem_cons, List.not_mem_nil, or_false] at hu
              rcases hu with rfl | rfl <;> rfl) (by omega) (Nat.le_trans hS.out.1.below.size hbX.size)
            have hB7 : Below w2.heap.size w2 w7 := (hS.out.1.below.trans (hbX.mono hS.out.1.below.size)).grown hg7 (Nat.le_trans hS.out.1.below.size hbX.size) (fun j hj => (own_block hrX hj).2.1)
            have hK7 : Arr w7 w2.heap.size 4 (boolC keep) := (hg7.block _ (hS.out.2.below hbX).lt (fun e => by
              obtain ⟨_, _, cur, hc⟩ := own_block hrX e.symm
              have hx : X.heap[w2.heap.size]? = some (.cells (boolC keep).toArray 4 (0, 0)) := hS.out.2.below hbX
              rw [hx] at hc
              injection hc with hc
              injection hc with _ h2
              exact absurd h2 (by decide))).trans (hS.out.2.below hbX)
            obtain ⟨a7, c7, rfl⟩ := own_val hr7
            have e1 : subL l keep (i + 1) = subL l keep i ++ [l[i]!] := by rw [subL, if_pos hki]
            have e2 : subV fvs keep (i + 1) = subV fvs keep i ++ [fvs[i]!] := by rw [subV, if_pos hki]
            have hnew : Hid (SubI w2 l fvs keep (i + 1) (.slice a7 ((subL l keep i).length + 1) c7) w7 ∧ Arr w7 w2.heap.size 4 (boolC keep)) := ⟨⟨hB7, by
              rw [e1, e2, fmtC_snoc _ _ _ _ (subV_len l fvs keep i), List.length_append, List.length_singleton, hfvi]
              exact hr7⟩, hK7⟩
            rw [hXe] at hrun7
            have hlen7 : Hid ((subL l keep (i + 1)).length = (subL l keep i).length + 1) := by show _ = _; rw [e1]; simp
            generalize l[i]!.id = idi at *
            generalize l[i]!.flds.length = fli at *
            generalize (subL l keep i).length = sl at *
            replace hrun7 := Lib.hid hrun7
            replace hki := Lib.hid hki
            clear hr7 hg7 hB7 hK7 e1 e2 hAX hbX hXe hrX hfvi hMw hFw hsl hS
            go_wp2_with (at_builtin; go_loud (refine wpList_append_known rfl _ _ _ _ rfl _ _ rfl rfl hrun7.out ?_))
            exact ⟨⟨i + 1, _, by first | rfl | go_num, by omega, rfl, hnew⟩, by simp [intOf]; omega⟩
          | false =>
            rw [hki] at b0
            have e1 : subL l keep (i + 1) = subL l keep i := by rw [subL, if_neg (by rw [hki]; simp)]
            have e2 : subV fvs keep (i + 1) = subV fvs keep i := by rw [subV, if_neg (by rw [hki]; simp)]
            have hnew : Hid (SubI w2 l fvs keep (i + 1) (.slice ma (subL l keep i).length mc) wp ∧ Arr wp w2.heap.size 4 (boolC keep)) := ⟨⟨hS.out.1.below, by rw [e1, e2]; exact hS.out.1.row⟩, hS.out.2⟩
            replace hki := Lib.hid hki
            clear hS e1 e2
            go_wp2_with fail
            exact ⟨⟨i + 1, _, by first | rfl | go_num, by omega, rfl, hnew⟩, by simp [intOf]; omega⟩
        · obtain rfl : i = l.length := by omega
          have hdi : decide ((l.length : Int) < (l.length : Int)) = false := decide_eq_false (by omega)
          have hjj : ¬ l.length < l.length := by omega
          have hFm := hS.out.1.fmts hMh.out hoki.out (Nat.le_refl _)
          have hFl := (hMh.out.below hS.out.1.below).fmts hoki.out
          have hBm := hB2.trans (hS.out.1.below.mono hB2.size)
          obtain ⟨q1, q2⟩ := hNp.out
          have hq2 : Hid (∀ i, i < (subL l keep l.length).length → leastT (subL l keep l.length) (subL l keep l.length)[i]!.id = leastT l (subL l keep l.length)[i]!.id) := fun i hi => q2 _ (by rw [getElem!_pos _ i hi]; exact List.getElem_mem hi)
          have hvm := valid_any _ _ wp hFm.at_ hFm.in_
          rw [q1] at hvm
          obtain ⟨M, hMM⟩ : ∃ M, M = subL l keep l.length := ⟨_, rfl⟩
          rw [← hMM] at hFm hq2 hvm ⊢
          have hm60 := hFm.in_.len
          replace hvm := Lib.hid hvm
          replace hFm := Lib.hid hFm
          replace hFl := Lib.hid hFl
          replace hBm := Lib.hid hBm
          clear q1 q2 hS hNp hMM
          go_wp2_with fail
          refine hvm.out.mono ?_
          rintro e w8 ⟨rfl, hb8⟩
          replace hFm := Lib.hid (hFm.out.later hb8)
          replace hFl := Lib.hid (hFl.out.later hb8)
          replace hBm : Hid (Below w.heap.size w w8) := hBm.out.trans (hb8.mono hBm.out.size)
          clear hb8 hvm
          go_wp2_with fail
          go_loopw [14] (fun iv wx => ∃ i : Nat, i ≤ M.length ∧ iv = .int .i64 (i : Int) ∧ Hid (Below w8.heap.size w8 wx)) (fun iv _ => M.length - (intOf iv).toNat)
          case atStart => exact ⟨0, Nat.zero_le _, rfl, (show Hid _ from Below.refl _ _)⟩
          case round =>
            obtain ⟨i, hi, rfl, hB⟩ := hrel
            by_cases hlt : i < M.length
            · have hdm : decide ((i : Int) < (M.length : Int)) = true := decide_eq_true (by omega)
              have hFmr := hFm.out.later hB.out
              have hFlr := hFl.out.later hB.out
              have hq := hq2.out i hlt
              obtain ⟨fb, fo, cap, fa, fcap, e, x0, _, hid, _, _⟩ := hFmr.at hlt
              injection e with e1 _ e3
              subst e1 e3
              have j0 : (0 : Int) ≤ (i : Int) := by omega
              have j1 : (i : Int) < (M.length : Int) := by omega
              have hwj : IntKind.i64.wrap ((i : Int) + 1) = ((i + 1 : Nat) : Int) := by rw [Int.natCast_succ]; exact IntWalk.i64_in _ (by omega)
              generalize M[i]!.id = id at *
              have zb := World.block_lt_of_cell? _ _ x0
              have hle := Lib.hid fun (W : World) (hW : Below wr.heap.size wr W) => least_any _ _ id hid W (hFmr.later hW).at_ (hFmr.later hW).in_
              have hlk := Lib.hid fun (W : World) (hW : Below wr.heap.size wr W) => least_any _ _ id hid W (hFlr.later hW).at_ (hFlr.later hW).in_
              rw [hq] at hle
              generalize leastT l id = ll at *
              replace hFmr := Lib.hid hFmr
              replace hFlr := Lib.hid hFlr
              have hbd : Below wr.heap.size wr wr.drew := (Below.refl _ _).drew
              go_wp2_with fail
              refine wp_region_held_drew (S := fun w' => w'.cell? ⟨fb, fo + i * 2, none⟩ = some (.int .i64 id)) (by kernel_rfl) (by exact x0) (fun hHeld => ?_)
              refine take_l (i := 0) (v := ?_) rfl (by kernel_rfl) (by kernel_rfl) (by kernel_rfl) (fun _ _ _ h => h) (Or.inl ⟨by kernel_rfl, ?_⟩) (by assumption) ?_
              rotate_left
              · intro w hSw; (try dsimp only at hSw); go_simp; (try with_reducible rfl)
              (try simp only [Act.put, List.setIfInBounds_toArray, List.set_cons_zero, List.set_cons_succ])
              refine take_l (i := 1) (v := ?_) rfl (by kernel_rfl) (by kernel_rfl) (by kernel_rfl) (fun _ _ _ h => h) (Or.inl ⟨by kernel_rfl, ?_⟩) (by assumption) ?_
              rotate_left
              · intro w hSw; (try dsimp only at hSw); go_simp; (try with_reducible rfl)
              (try simp only [Act.put, List.setIfInBounds_toArray, List.set_cons_zero, List.set_cons_succ])
              refine take_l (i := 2) (v := ?_) rfl (by kernel_rfl) (by kernel_rfl) (by kernel_rfl) (fun _ _ _ h => h) (Or.inl ⟨by kernel_rfl, ?_⟩) (by assumption) ?_
              rotate_left
              · intro w hSw; (try dsimp only at hSw); go_simp; (try with_reducible rfl)
              (try simp only [Act.put, List.setIfInBounds_toArray, List.set_cons_zero, List.set_cons_succ])
              refine take_l (i := 3) (v := ?_) rfl (by kernel_rfl) (by kernel_rfl) (by kernel_rfl) (fun _ _ _ h => h) (Or.inl ⟨by kernel_rfl, ?_⟩) (by assumption) ?_
              rotate_left
              · intro w hSw; (try dsimp only at hSw); go_simp; (try with_reducible rfl)
              (try simp only [Act.put, List.setIfInBounds_toArray, List.set_cons_zero, List.set_cons_succ])
              refine take_l (i := 4) (v := ?_) rfl (by kernel_rfl) (by kernel_rfl) (by kernel_rfl) (fun _ _ _ h => h) (Or.inl ⟨by kernel_rfl, ?_⟩) (by assumption) ?_
              rotate_left
              · intro w hSw; (try dsimp only at hSw); go_simp; (try with_reducible rfl)
              (try simp only [Act.put, List.setIfInBounds_toArray, List.set_cons_zero, List.set_cons_succ])
              refine take_l (i := 5) (v := ?_) rfl (by kernel_rfl) (by kernel_rfl) (by kernel_rfl) (fun _ _ _ h => h) (Or.inl ⟨by kernel_rfl, ?_⟩) (by assumption) ?_
              rotate_left
              · intro w hSw; (try dsimp only at hSw); go_simp; (try with_reducible rfl)
              (try simp only [Act.put, List.setIfInBounds_toArray, List.set_cons_zero, List.set_cons_succ])
              refine take_l (i := 7) (v := ?_) rfl (by kernel_rfl) (by kernel_rfl) (by kernel_rfl) (fun _ _ _ h => h) (Or.inl ⟨by kernel_rfl, ?_⟩) (by assumption) ?_
              rotate_left
              · intro w hSw; (try dsimp only at hSw); go_simp; (try with_reducible rfl)
              (try simp only [Act.put, List.setIfInBounds_toArray, List.set_cons_zero, List.set_cons_succ])
              refine take_l (i := 8) (v := ?_) rfl (by kernel_rfl) (by kernel_rfl) (by kernel_rfl) (fun _ _ _ h => h) (Or.inl ⟨by kernel_rfl, ?_⟩) (by assumption) ?_
              rotate_left
              · intro w hSw; (try dsimp only at hSw); go_simp; (try with_reducible rfl)
              (try simp only [Act.put, List.setIfInBounds_toArray, List.set_cons_zero, List.set_cons_succ])
              refine take_l (i := 9) (v := ?_) rfl (by kernel_rfl) (by kernel_rfl) (by kernel_rfl) (fun _ _ _ h => h) (Or.inl ⟨by kernel_rfl, ?_⟩) (by assumption) ?_
              rotate_left
              · intro w hSw; (try dsimp only at hSw); go_simp; (try with_reducible rfl)
              (try simp only [Act.put, List.setIfInBounds_toArray, List.set_cons_zero, List.set_cons_succ])
              refine take_l (i := 10) (v := ?_) rfl (by kernel_rfl) (by kernel_rfl) (by kernel_rfl) (fun _ _ _ h => h) (Or.inl ⟨by kernel_rfl, ?_⟩) (by assumption) ?_
              rotate_left
              · intro w hSw; (try dsimp only at hSw); go_simp; (try with_reducible rfl)
              (try simp only [Act.put, List.setIfInBounds_toArray, List.set_cons_zero, List.set_cons_succ])
              refine take_l (i := 11) (v := ?_) rfl (by kernel_rfl) (by kernel_rfl) (by kernel_rfl) (fun _ _ _ h => h) (Or.inl ⟨by kernel_rfl, ?_⟩) (by assumption) ?_
              rotate_left
              · intro w hSw; (try dsimp only at hSw); go_simp; (try with_reducible rfl)
              (try simp only [Act.put, List.setIfInBounds_toArray, List.set_cons_zero, List.set_cons_succ])
              refine take_l (i := 12) (v := ?_) rfl (by kernel_rfl) (by kernel_rfl) (by kernel_rfl) (fun _ _ _ h => h) (Or.inl ⟨by kernel_rfl, ?_⟩) (by assumption) ?_
              rotate_left
              · intro w hSw; (try dsimp only at hSw); go_simp; (try with_reducible rfl)
              (try simp only [Act.put, List.setIfInBounds_toArray, List.set_cons_zero, List.set_cons_succ])
              refine wpAnyH_ready (rs := [6]) (by kernel_rfl) (by simp) ?_
              refine ready_l rfl (fun K hK => ?_) AllReadyH.nil
              go_simp
              ((with_reducible refine ((hle.out wr.drew hbd)).mono ?_); rintro e vA ⟨rfl, hbvA⟩; have hBvA : Below wr.heap.size wr vA := Below.trans (by repeat first | with_reducible exact Below.refl _ _ | with_reducible assumption | with_reducible refine below_drewN ?_ _ | with_reducible refine Below.drew ?_ | with_reducible refine Below.setCell ?_ (by first | exact Nat.le_refl _ | (simp; done) | (simp; omega) | omega) _ | with_reducible refine Below.alloc ?_ (by first | exact Nat.le_refl _ | (simp; done) | (simp; omega) | omega) _ | exact Below.refl _ _ | assumption) (hbvA.mono (by first | exact Nat.le_refl _ | assumption | (simp; done) | (simp; omega) | omega)); have hzvA := hbvA.size; )
              refine hK.out _ _ (by exact (hbvA.cell (p := ⟨fb, fo + i * 2, none⟩) zb).trans x0) (fun hHeld => ?_)
              clear hK K
              (try simp only [Act.put, List.setIfInBounds_toArray, List.set_cons_zero, List.set_cons_succ])
              refine wpAnyH_ready (rs := [13]) (by kernel_rfl) (by simp) ?_
              refine ready_l rfl (fun K hK => ?_) AllReadyH.nil
              go_simp
              refine (hlk.out vA (hbd.trans hbvA)).mono ?_
              rintro e vB ⟨rfl, hbB⟩
              refine hK.out _ _ (by exact (hbB.cell (p := ⟨fb, fo + i * 2, none⟩) (Nat.lt_of_lt_of_le zb hbvA.size)).trans ((hbvA.cell (p := ⟨fb, fo + i * 2, none⟩) zb).trans x0)) (fun hHeld => ?_)
              clear hK K
              (try simp only [Act.put, List.setIfInBounds_toArray, List.set_cons_zero, List.set_cons_succ])
              refine take_l (i := 14) (v := ?_) rfl (by kernel_rfl) (by kernel_rfl) (by kernel_rfl) (fun _ _ _ h => h) (Or.inl ⟨by kernel_rfl, ?_⟩) (by assumption) ?_
              rotate_left
              · intro w hSw; (try dsimp only at hSw); go_simp; (try with_reducible rfl)
              (try simp only [Act.put, List.setIfInBounds_toArray, List.set_cons_zero, List.set_cons_succ])
              refine wpAnyH_done (by kernel_rfl) ?_ _
              have hBn : Hid (Below w8.heap.size w8 vB) := (hB.out.trans (hbd.mono hB.out.size)).trans ((hbvA.trans (hbB.mono hbvA.size)).mono hB.out.size)
              go_wp2_with fail
              exact ⟨⟨i + 1, by omega, by first | rfl | go_num, hBn⟩, by simp [intOf]; omega⟩
            · have hdm : decide ((i : Int) < (M.length : Int)) = false := decide_eq_false (by omega)
              go_wp2_with fail
              go_ret
              exact ⟨rfl, hBm.out.trans (hB.out.mono hBm.out.size)⟩
    · obtain ⟨i, rfl⟩ : ∃ i, u = i + 1 := ⟨u - 1, by omega⟩
      have hi : i < l.length := by omega
      have ei : (((i + 1 : Nat) : Int) - 1) = (i : Int) := by omega
      rw [ei]
      have hd : decide ((i : Int) ≥ 0) = true := decide_eq_true (by omega)
      have i0 : (0 : Int) ≤ (i : Int) := by omega
      have i1 : (i : Int) < (l.length : Int) := by omega
      have hAti := Lib.hid fun (W : World) (hb : Below w2.heap.size w2 W) => hAt.out W hb i hi
      have hwm : IntKind.i64.wrap ((i : Int) - 1) = (i : Int) - 1 := IntWalk.i64_in _ (by omega)
      have hK0 : Hid (KI l keep i 0 0 ∧ Arr wo w2.heap.size 4 (boolC keep) ∧ Below w2.heap.size w2 wo) := ⟨KI.begin hkl fun i' h1 h2 => hkk i' (by omega) h2, hkA, hkB⟩
      obtain ⟨fs, hfs⟩ : ∃ fs, fs = l[i]!.flds := ⟨_, rfl⟩
      clear hS hkl hkk hkA hkB
      go_wp2_with fail
      go_loopw [9] (fun kv wx => ∃ (k : Nat) (keep : List Bool), kv = .int .i64 (k : Int) ∧ k ≤ fs.length ∧ Hid (KI l keep i k 0 ∧ Arr wx w2.heap.size 4 (boolC keep) ∧ Below w2.heap.size w2 wx)) (fun kv _ => fs.length - (intOf kv).toNat)
      case atStart => exact ⟨0, keep, rfl, Nat.zero_le _, hK0⟩
      case round =>
        obtain ⟨k, keep, rfl, hk, hS⟩ := hrel
        clear hK0
        obtain ⟨hKI, hkA, hkB⟩ := hS.out
        obtain ⟨wp, hwp⟩ : ∃ wp, wp = wr := ⟨_, rfl⟩
        subst hwp
        obtain ⟨fb, fo, cap, fa, fcap, e, _, x1, _, hfl, hz⟩ := hAti.out wp hkB
        injection e with e1 _ e3
        subst e1 e3
        rw [← hfs] at x1 hfl hz
        have b0 := bool_cell hkA (i := i) (by rw [hKI.len]; exact hi)
        have hkept := Lib.hid fun hx => hKI.kept (i := i) (k := k) hx
        by_cases hlk : k < fs.length
        · have hdk : decide ((k : Int) < (fs.length : Int)) = true := decide_eq_true (by omega)
          cases hki : keep[i]! with
          | true =>
            rw [hki] at b0
            have k0 : (0 : Int) ≤ (k : Int) := by omega
            have k1 : (k : Int) < (fs.length : Int) := by omega
            have hwk : IntKind.i64.wrap ((k : Int) + 1) = ((k + 1 : Nat) : Int) := by rw [Int.natCast_succ]; exact IntWalk.i64_in _ (by omega)
            obtain ⟨gb, go, rfl, z0, z1, z2, z3, _⟩ := hz k hlk
            obtain ⟨f, hf⟩ : ∃ f, f = fs[k]! := ⟨_, rfl⟩
            rw [← hf] at z0 z1 z2 z3
            have hff : Hid (l[i]!.flds[k]! = f) := by show _ = _; rw [hf, hfs]
            replace hf := Lib.hid hf
            obtain ⟨kd, nn, fr, tx⟩ := f
            dsimp only at z0 z1 z2 z3
            obtain ⟨W6, hW6⟩ : ∃ W6, W6 = wp.alloc (.cells #[.int .i64 kd, .int .i64 nn, .int .i64 fr, .string (str tx)] 55) := ⟨_, rfl⟩
            have hb6 : Below wp.heap.size wp W6 := by rw [hW6]; exact (Below.refl _ _).alloc (Nat.le_refl _) _
            have hA6 : Arr W6 wp.heap.size 55 (fldC ⟨kd, nn, fr, tx⟩) := by rw [hW6]; exact Arr.new rfl rfl
            have hK6 : Hid (KI l keep i k 0 ∧ Arr W6 w2.heap.size 4 (boolC keep) ∧ Below w2.heap.size w2 W6 ∧ Arr W6 wp.heap.size 55 (fldC ⟨kd, nn, fr, tx⟩)) := ⟨hKI, hkA.below hb6, hkB.trans (hb6.mono hkB.size), hA6⟩
            replace hki := Lib.hid hki
            have hwpb : w2.heap.size < wp.heap.size := hkA.lt
            clear hKI hS hkept hkA hkB hA6 hb6 hz
            replace hfs := Lib.hid hfs
            go_upto_region 14 with fail
            rw [← hW6]
            clear hW6 x1 b0 z0 z1 z2 z3
            go_wp2_with fail
            go_loopw [11] (fun jv wx => ∃ (j : Nat) (keep : List Bool), jv = .int .i64 (j : Int) ∧ j ≤ i ∧ Hid (KI l keep i k j ∧ Arr wx w2.heap.size 4 (boolC keep) ∧ Below w2.heap.size w2 wx ∧ Arr wx wp.heap.size 55 (fldC ⟨kd, nn, fr, tx⟩))) (fun jv _ => i - (intOf jv).toNat)
            case atStart => exact ⟨0, keep, rfl, Nat.zero_le _, hK6⟩
            case round =>
              obtain ⟨j, keep, rfl, hj, hS⟩ := hrel
              clear hK6
              obtain ⟨hKI, hkA, hkB, hkF⟩ := hS.out
              by_cases hlj : j < i
              · have hdj : decide ((j : Int) < (i : Int)) = true := decide_eq_true (by omega)
                have j0 : (0 : Int) ≤ (j : Int) := by omega
                have j1 : (j : Int) < (l.length : Int) := by omega
                have hwj : IntKind.i64.wrap ((j : Int) + 1) = ((j + 1 : Nat) : Int) := by rw [Int.natCast_succ]; exact IntWalk.i64_in _ (by omega)
                obtain ⟨fb2, fo2, cap2, fa2, fcap2, e, u0, _, _, _, _⟩ := hAt.out wr hkB j (by omega)
                injection e with e1 _ e3
                injection e1 with e1
                injection e1 with e4 e5
                subst e4 e5 e3
                have y0 := hkF.cell (j := 0) rfl
                have y1 := hkF.cell (j := 1) rfl
                have b1 := bool_cell hkA (i := j) (by rw [hKI.len]; omega)
                have b2 := hkA.free j
                obtain ⟨idj, hidj⟩ : ∃ idj, idj = l[j]!.id := ⟨_, rfl⟩
                rw [← hidj] at u0
                replace hidj := Lib.hid hidj
                have hSs : Hid (∀ q, KI l (keep.set j true) i k (j + 1) ∧ Arr ((wr.drewN q).setCell ⟨w2.heap.size, j, none⟩ (.bool true)) w2.heap.size 4 (boolC (keep.set j true)) ∧ Below w2.heap.size w2 ((wr.drewN q).setCell ⟨w2.heap.size, j, none⟩ (.bool true)) ∧ Arr ((wr.drewN q).setCell ⟨w2.heap.size, j, none⟩ (.bool true)) wp.heap.size 55 (fldC ⟨kd, nn, fr, tx⟩)) := fun q => ⟨hKI.set hi hlj, bool_set (hkA.drewN q), (below_drewN hkB q).setCell (p := ⟨w2.heap.size, j, none⟩) (Nat.le_refl _) _, (hkF.drewN q).other _ (by omega)⟩
                have hSk : Hid (∀ q, ¬ (namesF ⟨kd, nn, fr, tx⟩ ∧ idj = nn) → KI l keep i k (j + 1) ∧ Arr (wr.drewN q) w2.heap.size 4 (boolC keep) ∧ Below w2.heap.size w2 (wr.drewN q) ∧ Arr (wr.drewN q) wp.heap.size 55 (fldC ⟨kd, nn, fr, tx⟩)) := fun q hx => ⟨hKI.skip (by rw [hff.out, ← hidj.out]; exact hx), hkA.drewN q, below_drewN hkB q, hkF.drewN q⟩
                clear hKI hkA hkB hkF hS
                by_cases h4 : kd = 4
                · have q4 : (kd == 4) = true := by rw [beq_iff_eq]; exact h4
                  by_cases hid : idj = nn
                  · have qe : (idj == nn) = true := by rw [beq_iff_eq]; exact hid
                    replace h4 := Lib.hid h4
                    replace hid := Lib.hid hid
                    go_wp2_with fail
                    go_quiet (fail)
                    go_wp2_with fail
                    exact ⟨⟨j + 1, _, by first | rfl | go_num, by omega, (show Hid _ from hSs.out _)⟩, by simp [intOf]; omega⟩
                  · have qe : (idj == nn) = false := by rw [beq_eq_false_iff_ne]; exact hid
                    have hx : Hid (¬ (namesF ⟨kd, nn, fr, tx⟩ ∧ idj = nn)) := fun x => hid x.2
                    replace h4 := Lib.hid h4
                    replace hid := Lib.hid hid
                    go_wp2_with fail
                    go_quiet (fail)
                    go_wp2_with fail
                    exact ⟨⟨j + 1, _, by first | rfl | go_num, by omega, (show Hid _ from hSk.out _ hx.out)⟩, by simp [intOf]; omega⟩
                · have q4 : (kd == 4) = false := by rw [beq_eq_false_iff_ne]; exact h4
                  by_cases h5 : kd = 5
                  · have q5 : (kd == 5) = true := by rw [beq_iff_eq]; exact h5
                    by_cases hid : idj = nn
                    · have qe : (idj == nn) = true := by rw [beq_iff_eq]; exact hid
                      replace h4 := Lib.hid h4
                      replace h5 := Lib.hid h5
                      replace hid := Lib.hid hid
                      go_wp2_with fail
                      go_quiet (fail)
                      go_wp2_with fail
                      exact ⟨⟨j + 1, _, by first | rfl | go_num, by omega, (show Hid _ from hSs.out _)⟩, by simp [intOf]; omega⟩
                    · have qe : (idj == nn) = false := by rw [beq_eq_false_iff_ne]; exact hid
                      have hx : Hid (¬ (namesF ⟨kd, nn, fr, tx⟩ ∧ idj = nn)) := fun x => hid x.2
                      replace h4 := Lib.hid h4
                      replace h5 := Lib.hid h5
                      replace hid := Lib.hid hid
                      go_wp2_with fail
                      go_quiet (fail)
                      go_wp2_with fail
                      exact ⟨⟨j + 1, _, by first | rfl | go_num, by omega, (show Hid _ from hSk.out _ hx.out)⟩, by simp [intOf]; omega⟩
                  · have q5 : (kd == 5) = false := by rw [beq_eq_false_iff_ne]; exact h5
                    have hx : Hid (¬ (namesF ⟨kd, nn, fr, tx⟩ ∧ idj = nn)) := fun x => x.1.elim h4 h5
                    replace h4 := Lib.hid h4
                    replace h5 := Lib.hid h5
                    go_wp2_with fail
                    go_quiet (fail)
                    go_wp2_with fail
                    exact ⟨⟨j + 1, _, by first | rfl | go_num, by omega, (show Hid _ from hSk.out _ hx.out)⟩, by simp [intOf]; omega⟩
              · have hdj : decide ((j : Int) < (i : Int)) = false := decide_eq_false (by omega)
                obtain rfl : j = i := by omega
                have hn : Hid (KI l keep j (k + 1) 0 ∧ Arr wr w2.heap.size 4 (boolC keep) ∧ Below w2.heap.size w2 wr) := ⟨hKI.next, hkA, hkB⟩
                clear hKI hkA hkB hkF hS
                have hjj : ¬ j < j := by omega
                go_wp2_with fail
                exact ⟨⟨k + 1, keep, by first | rfl | go_num, by omega, hn⟩, by simp [intOf]; omega⟩
          | false =>
            rw [hki] at b0
            have hn : Hid (keep.length = l.length ∧ (∀ i', i ≤ i' → i' < l.length → Kept l keep i') ∧ Arr wp w2.heap.size 4 (boolC keep) ∧ Below w2.heap.size w2 wp) := ⟨hKI.len, fun i' h1 h2 => by
              by_cases e : i' = i
              · rw [e]; exact hkept.out (.inr hki)
              · exact hKI.later i' (by omega) h2, hkA, hkB⟩
            clear hKI hS hkept hkA hkB hz hfs
            replace hki := Lib.hid hki
            go_wp2_with fail
            exact ⟨⟨i, keep, by first | rfl | go_num, by omega, hn⟩, by simp [intOf]⟩
        · have hdk : decide ((k : Int) < (fs.length : Int)) = false := decide_eq_false (by omega)
          have hn : Hid (keep.length = l.length ∧ (∀ i', i ≤ i' → i' < l.length → Kept l keep i') ∧ Arr wp w2.heap.size 4 (boolC keep) ∧ Below w2.heap.size w2 wp) := ⟨hKI.len, fun i' h1 h2 => by
            by_cases e : i' = i
            · rw [e]; exact hkept.out (.inl (by rw [← hfs]; omega))
            · exact hKI.later i' (by omega) h2, hkA, hkB⟩
          clear hKI hS hkept hkA hkB hz hfs
          go_wp2_with fail
          exact ⟨⟨i, keep, by first | rfl | go_num, by omega, hn⟩, by simp [intOf]⟩
end Go.Proofs.YtcpfmlaipejfpaaGreatDoor
namespace Go.Proofs.YtcpfmlaipejfpaaGreatDoor.formatNamed
open Go.ChangeShapes Go.WideShapes Go.ChangeAt Go.RowKit
open Go.ChangeMaps (open_string)

set_option maxRecDepth 100000 in
set_option maxHeartbeats 1000000 in
theorem lifted (os : Os) (started : os.Started) (H : Type) (enc : TypeId × Value → H) :
    ReturnsInHanded {} Tryz.checked os 8 .any (fun w args => (Rows.formatNamedSpec.pre enc Tryz.prog Tryz.f8 [] false w args ∧ laidMetH Tryz.prog laid4 w) ∧ sizedMet enc Tryz.prog Tryz.f8 (OpenSpec.ofChange Rows.formatNamedSpec) false w args)
      (Rows.formatNamedSpec.post enc Tryz.prog Tryz.f8 false true false false) := by
  refine lift_shaped (C := Tryz.checked) (X := fun w => laidMetH Tryz.prog laid4 w) (fun _ _ hh h => h.of_heap hh) own started (by kernel_rfl) Tryz.func8
    (ChangeSpec.witness_shaped (enc := enc) (C := Tryz.checked) (os := os) (X := fun w _ => laidMetH Tryz.prog laid4 w) false (World.laidAll Tryz.prog os laid4) #[.slice none 0 0, .int .i64 0] 8 (World.laidAll_os _ _ _) (shape4 os) (by kernel_rfl) (by kernel_rfl) (by kernel_rfl) (door_met4 os _)) ?_
  intro W base args ds gs before hval0 hW hL hsh
  have hval : ∀ (j : Nat) t v, Tryz.f8.params[j]? = some t → args[j]? = some v → Value.okWide Tryz.prog W .any base t v := hval0
  have hW' := hW
  obtain ⟨p, q, hA0, hV, rfl, hfz, hnd⟩ := hW
  have hA : DataW.TrodAll enc Tryz.prog W 0 (fun _ => true) true Tryz.f8.params.toList args.toList ds p := hA0
  have hAk := hA
  rw [Tryz.params8] at hA hval
  obtain ⟨v0, vs0, d0, ds0, p0, q0, hargs, rfl, rfl, h0, r0⟩ := trodAll_cons hA
  obtain ⟨v1, vs1, d1, ds1, p1, q1, rfl, rfl, rfl, h1, r1⟩ := trodAll_cons r0
  obtain ⟨rfl, rfl, rfl⟩ := trodAll_nil r1
  obtain rfl : args = #[v0, v1] := by cases args; simp_all
  obtain ⟨rfl, rfl⟩ := trodVars_none hV
  obtain ⟨n0, z0, e0, g0, s0⟩ := open_quads (hval 0 23 v0 rfl rfl) h0
  obtain ⟨a1, rfl, rfl, _, w1⟩ := open_int Tryz.underlying3 (hval 1 3 v1 rfl rfl) h1
  clear hA0 hval0
  refine (Named_any v0 n0 z0 a1 W s0 e0 g0 (I64.of_wf w1) (env_of_laid hL hsh)).mono fun e W' ⟨he, hg⟩ => ?_
  subst he
  have hlt := DataW.TrodAll.lt hAk
  exact ⟨_, rfl, post_of_below (pa := _) (pv := []) hW' (fun _ _ _ => (trodAll_cons_mk (shut_bool Tryz.underlying4 _) trodAll_mk0)) (fun sp hsp => trodAll_stay Tryz.kids Tryz.full (by rw [Tryz.params8]; decide) hAk (fun x hx => sameAt_below hg (hlt x hx)) (fun x hx => hsp x (List.mem_append_left _ hx))) (fun _ _ => rfl) rfl hg (ok_one (by kernel_rfl) rfl (okWide_bool_mk Tryz.underlying4 _))⟩

theorem row_holds : Rows.FormatNamedSaid :=
  OpenClaim.holds_of_wide 8 Tryz.f8 rfl rfl rfl rfl rfl rfl rfl ⟨rfl, rfl, rfl, rfl, rfl⟩ rfl rfl rfl rfl rfl (by kernel_rfl) Tryz.func8 (by kernel_rfl)
    (of_decide_eq_true (by kernel_rfl)) (by unfold Func.isWrapper; first | (rw [if_pos (by decide +kernel)]; kernel_rfl) | (rw [if_neg (by decide +kernel)]; exact ⟨rfl, rfl⟩))
    (fun os started H enc _ => lifted os started H enc)

/-- THE TIED CARD. -/
theorem card_holds : Rows.FormatNamedCardSaid :=
  Claim7.holds_tied_plain_at .later [] [.data, .data, .data, .data, .sentinel, .sentinel, .pinned] true Rows.formatNamedCard.stood.harness true
    row_holds (fun _ h => by cases h) (by kernel_rfl) (fun _ h => by cases h) formatNamed_row_tie rfl ⟨rfl, rfl⟩ (by kernel_rfl) rfl
    (fun f fn hf hfn => by
      obtain rfl : f = 8 := Option.some.inj ((show Tryz.prog.funcNamed "evergreen/evergreenlaw04.FormatNamed" = some 8 by kernel_rfl).symm.trans hf) |>.symm
      obtain rfl : fn = Tryz.f8 := (Option.some.inj (Tryz.func8.symm.trans hfn)).symm
      exact ⟨by kernel_rfl, fun j t ht => by
        rw [Tryz.params8] at ht
        have hm : t ∈ [23, 3] := by simpa using Array.mem_of_getElem? ht
        have hall : ([23, 3].all fun u => !Tryz.prog.wantsStandIn u) = true := by kernel_rfl
        exact (show Tryz.prog.wantsStandIn t = false by simpa using List.all_eq_true.1 hall t hm)⟩)
    (by kernel_rfl)
#print axioms card_holds
end Go.Proofs.YtcpfmlaipejfpaaGreatDoor.formatNamed
