/-
  Formats of chapter 4: what FormatRoundTrip and FormatMatchesReference need.
  Formats of chapter 4: the reference's Least and Find.
-/
import Derived.Test.YtcpfmlaipejfpaaGreatDoorKS
import Derived.Test.YtcpfmlaipejfpaaGreatDoorKT
import Derived.Test.YtcpfmlaipejfpaaGreatDoorKR
import Derived.Test.YtcpfmlaipejfpaaGreatDoorKC
import Derived.Test.YtcpfmlaipejfpaaGreatDoorKA
namespace Go.Proofs.YtcpfmlaipejfpaaGreatDoor
open Go.RowKit Go.Shelf

theorem in_any {l : List Fmt} (h : FmtIn l) : FmtAny l := ⟨h.id, fun f hf x hx => by
  have := h.ok f hf x hx
  exact ⟨this.k, this.n, this.m, by have := this.t; omega⟩⟩
theorem text_len {l : List Fmt} (hv : validT l = true) (hin : FmtIn l) : (textF l).length ≤ 60600 := by
  have hfit := valid_fit hv
  have h1 := textF_len l hfit.ids fun g hg => ⟨hfit.flen g hg, fun f hf => line_len (hin.ok g hg f hf).n (hin.ok g hg f hf).m (hfit.fld g hg f hf).2⟩
  have := hfit.len
  omega
theorem allEq_fmt : ∀ (l m : List Fmt), Lib.allEq fmtB l m = true ↔ l = m
  | [], [] => by simp [Lib.allEq]
  | [], _ :: _ => by simp [Lib.allEq]
  | _ :: _, [] => by simp [Lib.allEq]
  | x :: l, y :: m => by rw [Lib.allEq, Bool.and_eq_true, fmtB_iff, allEq_fmt l m, List.cons.injEq]
theorem same_text {l m : List Fmt} (hl : validT l = true) (hm : validT m = true) : Lib.allEq fmtB l m = (textF l == textF m) := by
  rw [Bool.eq_iff_iff, allEq_fmt, beq_iff_eq]
  exact ⟨fun e => by rw [e], fun e => text_inj hl hm e⟩
/-- A list of tables lies in a block. -/
def Tabs (W : World) (B : Nat) (LS : List (List Fmt)) : Prop := ∀ k, k < LS.length → ∃ a c, W.cell? ⟨B, k, none⟩ = some (.slice a LS[k]!.length c) ∧ Fmts W (.slice a LS[k]!.length c) LS[k]!
theorem Tabs.later {W W' : World} {B : Nat} {LS : List (List Fmt)} (h : Tabs W B LS) (hb : Below W.heap.size W W') : Tabs W' B LS := fun k hk => by
  obtain ⟨a, c, h1, h2⟩ := h k hk
  exact ⟨a, c, (hb.cell (World.block_lt_of_cell? _ _ h1)).trans h1, h2.later hb⟩
def txs (LS : List (List Fmt)) (i : Nat) : List (List UInt8) := (LS.take i).map fun l => (print4 l).1
theorem txs_len {LS : List (List Fmt)} {i : Nat} (h : i ≤ LS.length) : (txs LS i).length = i := by
  unfold txs
  rw [List.length_map, List.length_take]
  omega
theorem txs_at {LS : List (List Fmt)} {i k : Nat} (h : k < i) (hi : i ≤ LS.length) : (txs LS i)[k]! = (print4 LS[k]!).1 := by
  rw [getElem!_pos _ k (by rw [txs_len hi]; exact h), getElem!_pos LS k (by omega)]
  unfold txs
  rw [List.getElem_map, List.getElem_take]
theorem txs_snoc {LS : List (List Fmt)} {i : Nat} (h : i < LS.length) : txs LS (i + 1) = txs LS i ++ [(print4 LS[i]!).1] := by
  unfold txs
  rw [List.take_succ_eq_append_getElem h, List.map_append, getElem!_pos LS i h]
  rfl
end Go.Proofs.YtcpfmlaipejfpaaGreatDoor
namespace Go.Proofs.YtcpfmlaipejfpaaGreatDoor
open Go.RowKit Go.Shelf Go.Maps

attribute [local go_sem] Oper.semAt_some

theorem idx_first {l : List Fmt} (ha : Asc l) {i : Nat} (hi : i < l.length) : idxTo l l[i]!.id l.length = (i : Int) := by
  have key : ∀ n, i < n → n ≤ l.length → idxTo l l[i]!.id n = (i : Int) := by
    intro n
    induction n with
    | zero => intro h; omega
    | succ n ih =>
      intro h1 h2
      rw [idxTo]
      by_cases e : i = n
      · rw [e, if_pos rfl]
      · rw [if_neg (fun h => by have := ha i n (by omega) (by omega); omega)]
        exact ih (by omega) (by omega)
  exact key _ hi (Nat.le_refl _)
theorem least_of {l : List Fmt} (hv : validR l = true) {i : Nat} (hi : i < l.length) : leastT l l[i]!.id = (leastsR l)[i]! := by
  have tl := took (l := l) (by rw [validR, Bool.and_eq_true] at hv; exact hv.1)
  rw [leastT_eq hv]
  unfold mOf
  rw [idx_first tl.asc hi, if_neg (by omega), Int.toNat_natCast]
  rfl
theorem least_none {l : List Fmt} {id : Int} (h : ∀ i, i < l.length → l[i]!.id ≠ id) : leastT l id = 0 := by
  by_cases hv : validR l = true
  · rw [leastT_eq hv]
    unfold mOf
    rw [idx_none _ h, if_pos (by omega)]
    rfl
  · unfold leastT
    rw [builtT_eq, if_neg hv]
theorem least_bad {l : List Fmt} {id : Int} (hv : validR l = false) : leastT l id = 0 := by
  unfold leastT
  rw [builtT_eq, if_neg (by rw [hv]; simp)]
theorem own_int8 {w : World} {B n : Nat} {v : Value} {xs : List Int} (h : w.ownsRow B 3 1 v n (intC xs)) {j : Nat} (hj : j < xs.length) (hn : 0 < n) : ∃ g c, v = .slice (some ⟨g, 0, none⟩) n c ∧ w.cell? ⟨g, j, none⟩ = some (.int .i64 xs[j]!) :=
  own_at1 h (by unfold intC; rw [List.getElem?_map, List.getElem?_eq_getElem hj, getElem!_pos xs j hj]; rfl) hn
set_option maxRecDepth 100000 in
set_option maxHeartbeats 8000000 in
theorem leastRf_any (v : Value) (l : List Fmt) (id : Int) (w : World) (h : Fmts w v l) :
    Calls Tryz.prog 19 #[v, .int .i64 id] w fun e w' => e = .returned (.int .i64 (leastT l id)) ∧ Below w.heap.size w w' := by
  obtain ⟨a, c, rfl, _, _⟩ := h.val
  have hll := h.in_.len
  have hv := Lib.hid (validR_any _ l w h)
  have hls := Lib.hid fun (W : World) (hW : Below w.heap.size w W) => leasts_any _ l W (h.later hW)
  have hAt := Lib.hid fun (W : World) (hb : Below w.heap.size w W) i (hi : i < l.length) => (h.later hb).at hi
  have hlr := leastsR_len l
  replace hlr := Lib.hid hlr
  clear h
  obtain ⟨V, hV⟩ : ∃ V, V = validR l := ⟨_, rfl⟩
  rw [← hV] at hv
  replace hV := Lib.hid hV
  go_enter Tryz.func19, Tryz.ntmps19
  go_wp2_with fail
  refine hv.out.mono ?_
  rintro e w1 ⟨rfl, hb1⟩
  go_wp2_with fail
  refine (hls.out w1 hb1).mono ?_
  rintro e w2 ⟨v2, rfl, ho2, hb2⟩
  obtain ⟨a2, c2, rfl⟩ := own_val ho2
  have hB2 := Lib.hid (hb1.trans (hb2.mono hb1.size))
  replace ho2 := Lib.hid ho2
  clear hb1 hb2 hv hls
  go_wp2_with fail
  go_loopw [7] (fun iv wr => ∃ i : Nat, i ≤ l.length ∧ iv = .int .i64 (i : Int) ∧ wr = w2 ∧ Hid (∀ j, j < i → l[j]!.id ≠ id)) (fun iv _ => l.length - (intOf iv).toNat)
  case atStart => exact ⟨0, Nat.zero_le _, rfl, rfl, (show Hid _ from fun j hj => absurd hj (Nat.not_lt_zero _))⟩
  case round =>
    obtain ⟨i, hi, rfl, rfl, hN⟩ := hrel
    by_cases hlt : i < l.length
    · have hd : decide ((i : Int) < (l.length : Int)) = true := decide_eq_true (by omega)
      have i0 : (0 : Int) ≤ (i : Int) := by omega
      have i1 : (i : Int) < (l.length : Int) := by omega
      have hwi : IntKind.i64.wrap ((i : Int) + 1) = ((i + 1 : Nat) : Int) := by rw [Int.natCast_succ]; exact IntWalk.i64_in _ (by omega)
      cases V with
      | false =>
        have hres : Hid (leastT l id = 0) := least_bad hV.out.symm
        go_wp2_with fail
        go_ret
        exact ⟨by rw [hres.out]; rfl, hB2.out⟩
      | true =>
        obtain ⟨fb, fo, cap, fa, fcap, e, x0, _, _, _, _⟩ := hAt.out wr hB2.out i hlt
        injection e with e1 _ e3
        subst e1 e3
        obtain ⟨g, c', ev, y0⟩ := own_int8 ho2.out (j := i) (by rw [hlr.out]; exact hlt) (by omega)
        injection ev with ev1 _ ev3
        subst ev1 ev3
        by_cases hid : l[i]!.id = id
        · have hres : Hid (leastT l id = (leastsR l)[i]!) := by show _ = _; rw [← hid]; exact least_of hV.out.symm hlt
          have q : (l[i]!.id == id) = true := by rw [beq_iff_eq]; exact hid
          generalize (leastsR l)[i]! = z at *
          generalize l[i]!.id = idi at *
          replace hid := Lib.hid hid
          go_wp2_with fail
          go_ret
          exact ⟨by rw [hres.out]; rfl, hB2.out⟩
        · have q : (l[i]!.id == id) = false := by rw [beq_eq_false_iff_ne]; exact hid
          have hN2 : Hid (∀ j, j < i + 1 → l[j]!.id ≠ id) := fun j hj => by
            by_cases e : j = i
            · rw [e]; exact hid
            · exact hN.out j (by omega)
          generalize (leastsR l)[i]! = z at *
          generalize l[i]!.id = idi at *
          replace hid := Lib.hid hid
          go_wp2_with fail
          exact ⟨⟨i + 1, by omega, by first | rfl | go_num, trivial, hN2⟩, by simp [intOf]; omega⟩
    · have hd : decide ((i : Int) < (l.length : Int)) = false := decide_eq_false (by omega)
      have hres : Hid (leastT l id = 0) := least_none fun j hj => hN.out j (by omega)
      go_wp2_with fail
      go_ret
      exact ⟨by rw [hres.out]; rfl, hB2.out⟩
/-- The fields behind an empty row. -/
theorem append_flds {B : Nat} {w : World} {fv : Value} {fs : List Fld} (h : FldsAt w w.heap.size fv fs) (hl : fs.length ≤ 1000000) (v0 : Value) (hown : w.ownsRow B 55 4 v0 0 []) (hb : B ≤ w.heap.size) (h0 : v0 ≠ .slice none 0 0) :
    ∃ v' w', (Builtin.append_ #[32, 32] 32 #[v0, fv]).run Tryz.prog w = .ok v' w' ∧ w'.ownsRow B 55 4 v' fs.length (fldL fs) ∧ w.grownBy w' v0.ownBlock := by
  obtain ⟨i0, hi, hz0, hz1, hz2⟩ := info_parts info_fld
  obtain ⟨a, c, rfl, _, _, hc⟩ := h
  by_cases hn : 0 < fs.length
  · obtain ⟨b, o, rfl, _, hat⟩ := hc hn
    obtain ⟨v', w', hrun, r1, r2, _, r3⟩ := run_append_own_at (P := Tryz.prog) w B 32 32 55 i0 (.agg #[.int .i64 0, .int .i64 0, .int .i64 0, .string ByteArray.empty]) 4 40 Tryz.underlying32 hi hz0 hz1 hz2 rfl (by decide) v0 0 [] hown ⟨b, o, none⟩ fs.length c (fldL fs) (fldL_len fs) (fun j u hu => by
      rw [Addr.add_mid]
      exact hat j u hu) (fldL_one fs) (by unfold maxLen; omega) (by omega) hb
    exact ⟨v', w', hrun, by simpa using r1, r2⟩
  · obtain rfl : fs = [] := List.eq_nil_of_length_eq_zero (by omega)
    obtain ⟨_, q⟩ := id hown
    rcases q with ⟨rfl, _⟩ | ⟨g, cap, cur, rfl, hB, hg, h1, h2, h3, h4⟩
    · exact absurd rfl h0
    · exact ⟨_, w, run_append_nothing (P := Tryz.prog) w _ _ _ _ i0 Tryz.underlying32 hi _ 0 cap h1 _ (by
        cases a with
        | none => exact Src.ofNil w Tryz.underlying32 c
        | some ad => exact Src.ofSlice w Tryz.underlying32 ad 0 c [] (by simp) (fun j u hu => by cases hu) (fun u hu => by cases hu)), hown, ⟨rfl, rfl, rfl, Nat.le_refl _, fun _ _ _ => rfl⟩⟩
theorem findT_at {l : List Fmt} {id : Int} {i : Nat} (hi : i < l.length) (h : l[i]!.id = id) (hn : ∀ j, j < i → l[j]!.id ≠ id) : findT l id = some l[i]! := by
  unfold findT
  induction l generalizing i with
  | nil => simp at hi
  | cons f r ih =>
    cases i with
    | zero =>
      have h' : f.id = id := h
      rw [List.find?_cons, show (f.id == id) = true from by rw [beq_iff_eq]; exact h']
      rfl
    | succ i =>
      have h0 : f.id ≠ id := hn 0 (by omega)
      rw [List.find?_cons, show (f.id == id) = false from by rw [beq_eq_false_iff_ne]; exact h0]
      exact ih (i := i) (by simpa using hi) h fun j hj => hn (j + 1) (by omega)
theorem findT_none {l : List Fmt} {id : Int} (hn : ∀ j, j < l.length → l[j]!.id ≠ id) : findT l id = none := by
  unfold findT
  rw [List.find?_eq_none]
  intro f hf
  obtain ⟨j, hj, rfl⟩ := List.getElem_of_mem hf
  have := hn j hj
  rw [getElem!_pos l j hj] at this
  simpa using this
set_option maxRecDepth 100000 in
set_option maxHeartbeats 8000000 in
theorem findR_any (v : Value) (l : List Fmt) (id : Int) (w : World) (h : Fmts w v l) :
    Calls Tryz.prog 16 #[v, .int .i64 id] w fun e w' => Below w.heap.size w w' ∧ ((findT l id = none ∧ e = .returned (.tuple #[.agg #[.int .i64 0, .slice none 0 0], .bool false])) ∨ ∃ f v', findT l id = some f ∧ e = .returned (.tuple #[.agg #[.int .i64 id, v'], .bool true]) ∧ w'.ownsRow w.heap.size 55 4 v' f.flds.length (fldL f.flds)) := by
  obtain ⟨a, c, rfl, _, _⟩ := h.val
  have hll := h.in_.len
  obtain ⟨W0, hW0⟩ : ∃ W0, W0 = w.alloc (.cells #[.int .i64 0, .slice none 0 0] 34) := ⟨_, rfl⟩
  have hb0 : Below w.heap.size w W0 := by rw [hW0]; exact (Below.refl _ _).alloc (Nat.le_refl _) _
  have hA0 : Arr W0 w.heap.size 34 [.int .i64 0, .slice none 0 0] := by rw [hW0]; exact Arr.new rfl rfl
  have h0 := h.later hb0
  have c0 := hA0.cell (j := 0) rfl
  have c1 := hA0.cell (j := 1) rfl
  have f0 := hA0.free 0
  have f1 := hA0.free 1
  go_enter Tryz.func16, Tryz.ntmps16
  go_upto_region 1 with fail
  rw [← hW0]
  clear hW0
  go_wp2_with fail
  go_loopw [6] (fun iv wr => ∃ i : Nat, i ≤ l.length ∧ iv = .int .i64 (i : Int) ∧ wr = W0 ∧ Hid (∀ j, j < i → l[j]!.id ≠ id)) (fun iv _ => l.length - (intOf iv).toNat)
  case atStart => exact ⟨0, Nat.zero_le _, rfl, rfl, (show Hid _ from fun j hj => absurd hj (Nat.not_lt_zero _))⟩
  case round =>
    obtain ⟨i, hi, rfl, rfl, hN⟩ := hrel
    by_cases hlt : i < l.length
    · have hd : decide ((i : Int) < (l.length : Int)) = true := decide_eq_true (by omega)
      have i0 : (0 : Int) ≤ (i : Int) := by omega
      have i1 : (i : Int) < (l.length : Int) := by omega
      have hwi : IntKind.i64.wrap ((i : Int) + 1) = ((i + 1 : Nat) : Int) := by rw [Int.natCast_succ]; exact IntWalk.i64_in _ (by omega)
      obtain ⟨fb, fo, cap, fa, fcap, e, x0, x1, _, hfl, _⟩ := h0.at hlt
      injection e with e1 _ e3
      subst e1 e3
      by_cases hid : l[i]!.id = id
      · have hres : Hid (findT l id = some l[i]!) := findT_at hlt hid hN.out
        have q : (l[i]!.id == id) = true := by rw [beq_iff_eq]; exact hid
        have hfs := h0.flds hlt rfl x1
        obtain ⟨X, hX⟩ : ∃ X, X = wr.alloc (.cells #[] 55) := ⟨_, rfl⟩
        have hbX : Below wr.heap.size wr X := by rw [hX]; exact (Below.refl _ _).alloc (Nat.le_refl _) _
        have hAX : Arr X wr.heap.size 55 [] := by rw [hX]; exact Arr.new rfl rfl
        have hown : X.ownsRow wr.heap.size 55 4 (.slice (some ⟨wr.heap.size, 0, none⟩) 0 0) 0 [] := ⟨rfl, .inr ⟨wr.heap.size, 0, #[], rfl, Nat.le_refl _, hAX, Nat.le_refl _, Nat.zero_le _, rfl, rfl⟩⟩
        obtain ⟨v6, w6, hrun6, r1, r2⟩ := append_flds (hfs.later hbX).at_ (hfs.later hbX).len _ hown hbX.size (by simp)
        obtain ⟨a6, c6, rfl⟩ := own_val r1
        have hb6 : Below wr.heap.size wr w6 := hbX.grown r2 hbX.size (fun j hj => by
          simp only [Value.ownBlock, Option.some.injEq] at hj
          omega)
        have hA6 := hA0.below hb6
        have s0 := hA6.cell (j := 0) rfl
        have s1 := hA6.cell (j := 1) rfl
        have t0 := hA6.free 0
        have t1 := hA6.free 1
        have hfin : Hid (Arr ((w6.setCell ⟨w.heap.size, 0, none⟩ (.int .i64 id)).setCell ⟨w.heap.size, 1, none⟩ (.slice a6 l[i]!.flds.length c6)) w.heap.size 34 [.int .i64 id, .slice a6 l[i]!.flds.length c6]) := (hA6.set 0 _).set 1 _
        have hbe : Hid (Below w.heap.size w ((w6.setCell ⟨w.heap.size, 0, none⟩ (.int .i64 id)).setCell ⟨w.heap.size, 1, none⟩ (.slice a6 l[i]!.flds.length c6))) := ((hb0.trans (hb6.mono hb0.size)).setCell (p := ⟨w.heap.size, 0, none⟩) (Nat.le_refl _) _).setCell (p := ⟨w.heap.size, 1, none⟩) (Nat.le_refl _) _
        have hrow : Hid (((w6.setCell ⟨w.heap.size, 0, none⟩ (.int .i64 id)).setCell ⟨w.heap.size, 1, none⟩ (.slice a6 l[i]!.flds.length c6)).ownsRow w.heap.size 55 4 (.slice a6 l[i]!.flds.length c6) l[i]!.flds.length (fldL l[i]!.flds)) := own_set_apart (own_set_apart (own_lower r1 hb0.size) hA6 (by decide)) (hA6.set 0 _) (by decide)
        have xX := (hbX.cell (World.block_lt_of_cell? _ _ x1)).trans x1
        rw [hX] at hrun6 xX
        generalize hgf : l[i]! = f at *
        obtain ⟨idi, fs⟩ := f
        dsimp only at *
        generalize hn : fs.length = n at *
        replace hn := Lib.hid hn
        replace hgf := Lib.hid hgf
        replace hrun6 := Lib.hid hrun6
        replace hid := Lib.hid hid
        clear r1 r2 hb6 hA6 hown hAX hbX hX hfs
        go_wp2_with (at_builtin; go_loud (refine wpList_append_known rfl _ _ _ _ rfl _ _ rfl rfl hrun6.out ?_))
        have r0 := hfin.out.cell (j := 0) rfl
        have r1 := hfin.out.cell (j := 1) rfl
        exact bodyPost_ret (v := .tuple #[.agg #[.int .i64 id, .slice a6 n c6], .bool true]) (by simp [results, Tryz.f16, go_sem, r0, r1]) rfl ⟨hbe.out, Or.inr ⟨(⟨idi, fs⟩ : Fmt), hres.out, Value.slice a6 n c6, rfl, by dsimp only; rw [hn.out]; exact hrow.out⟩⟩
      · have q : (l[i]!.id == id) = false := by rw [beq_eq_false_iff_ne]; exact hid
        have hN2 : Hid (∀ j, j < i + 1 → l[j]!.id ≠ id) := fun j hj => by
          by_cases e : j = i
          · rw [e]; exact hid
          · exact hN.out j (by omega)
        generalize l[i]!.id = idi at *
        replace hid := Lib.hid hid
        go_wp2_with fail
        exact ⟨⟨i + 1, by omega, by first | rfl | go_num, trivial, hN2⟩, by simp [intOf]; omega⟩
    · have hd : decide ((i : Int) < (l.length : Int)) = false := decide_eq_false (by omega)
      have hres : Hid (findT l id = none) := findT_none fun j hj => hN.out j (by omega)
      have hbe : Hid (Below w.heap.size w ((wr.setCell ⟨w.heap.size, 0, none⟩ (.int .i64 0)).setCell ⟨w.heap.size, 1, none⟩ (.slice none 0 0))) := (hb0.setCell (p := ⟨w.heap.size, 0, none⟩) (Nat.le_refl _) _).setCell (p := ⟨w.heap.size, 1, none⟩) (Nat.le_refl _) _
      have hfin : Hid (Arr ((wr.setCell ⟨w.heap.size, 0, none⟩ (.int .i64 0)).setCell ⟨w.heap.size, 1, none⟩ (.slice none 0 0)) w.heap.size 34 [.int .i64 0, .slice none 0 0]) := (hA0.set 0 _).set 1 _
      go_wp2_with fail
      have r0 := hfin.out.cell (j := 0) rfl
      have r1 := hfin.out.cell (j := 1) rfl
      exact bodyPost_ret (v := .tuple #[.agg #[.int .i64 0, .slice none 0 0], .bool false]) (by simp [results, Tryz.f16, go_sem, r0, r1]) rfl ⟨hbe.out, .inl ⟨hres.out, rfl⟩⟩
end Go.Proofs.YtcpfmlaipejfpaaGreatDoor
