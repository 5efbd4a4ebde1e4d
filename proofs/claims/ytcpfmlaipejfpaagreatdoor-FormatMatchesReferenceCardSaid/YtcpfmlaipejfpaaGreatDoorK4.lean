/-
  Formats of chapter 4: Same.
  Formats of chapter 4: Same.
  Formats of chapter 4: Find.
  Formats of chapter 4: the index that Find asks for.
  Formats of chapter 4: what Find finds, in plain words.
  Formats of chapter 4: slices.Clone of fields.
  Formats of chapter 4: Find.
  Formats of chapter 4: Find.
-/
import Derived.Test.YtcpfmlaipejfpaaGreatDoorK3
namespace Go.Proofs.YtcpfmlaipejfpaaGreatDoor
open Go.RowKit Go.Maps Go.Shelf

attribute [local go_sem] Oper.semAt_some

def fldB (a b : Fld) : Bool := a.kind == b.kind && a.n == b.n && a.frm == b.frm && a.text == b.text
theorem fldB_iff (a b : Fld) : fldB a b = true ↔ a = b := by
  obtain ⟨a1, a2, a3, a4⟩ := a
  obtain ⟨b1, b2, b3, b4⟩ := b
  simp [fldB, and_assoc]
theorem str_eqq (a b : List UInt8) : ((str a).toList == (str b).toList) = (a == b) := by simp [str]
theorem run_ne_fld (a b : Fld) (w : World) : (binOp .neq 55 (.agg (fldC a).toArray) (.agg (fldC b).toArray)).run Tryz.prog w = .ok (.bool !(fldB a b)) w := by
  obtain ⟨a1, a2, a3, a4⟩ := a
  obtain ⟨b1, b2, b3, b4⟩ := b
  unfold fldB fldC
  dsimp only
  by_cases h1 : a1 = b1
  · by_cases h2 : a2 = b2
    · by_cases h3 : a3 = b3
      · have h4 := str_eqq a4 b4
        by_cases h5 : a4 = b4
        · subst h1 h2 h3 h5
          go_simp
        · have h5' : (a4 == b4) = false := by simpa using h5
          subst h1 h2 h3
          go_simp
      · have h3' : (a3 == b3) = false := by simpa using h3
        subst h1 h2
        go_simp
    · have h2' : (a2 == b2) = false := by simpa using h2
      subst h1
      go_simp
  · have h1' : (a1 == b1) = false := by simpa using h1
    go_simp
theorem neqFld : NeqAt Tryz.prog 55 (fun x : Fld => .agg (fldC x).toArray) fldB := ⟨run_ne_fld, GuardAt.agg (fun x : Fld => (fldC x).toArray) (by kernel_rfl)⟩
set_option maxHeartbeats 1000000 in
theorem equal_len (a a' : Option Addr) (n m c c' : Nat) (w : World) (h : ((n : Int) == (m : Int)) = false) :
    Calls Tryz.prog 39 #[.slice a n c, .slice a' m c'] w fun e w' => e = .returned (.bool false) ∧ Below w.heap.size w w' := by
  have h' : ((n : Int) != (m : Int)) = true := by simpa [bne] using h
  go_enter Tryz.func39, Tryz.ntmps39
  go_wp2
  go_ret
  exact ⟨rfl, Below.refl _ _⟩
set_option maxHeartbeats 1000000 in
theorem equal_nil (a a' : Option Addr) (c c' : Nat) (w : World) :
    Calls Tryz.prog 39 #[.slice a 0 c, .slice a' 0 c'] w fun e w' => e = .returned (.bool true) ∧ Below w.heap.size w w' := by
  go_enter Tryz.func39, Tryz.ntmps39
  go_wp2
  go_loop [13] (fun i => i = .int .i64 0) (fun _ => 0)
  case atStart => rfl
  case round =>
    subst hrel
    go_wp2
    go_ret
    exact ⟨rfl, Below.refl _ w⟩
theorem allEq_fld : ∀ (l m : List Fld), Lib.allEq fldB l m = true ↔ l = m
  | [], [] => by simp [Lib.allEq]
  | [], _ :: _ => by simp [Lib.allEq]
  | _ :: _, [] => by simp [Lib.allEq]
  | x :: l, y :: m => by rw [Lib.allEq, Bool.and_eq_true, fldB_iff, allEq_fld l m, List.cons.injEq]
theorem equalFlds_any (v v' : Value) (l m : List Fld) (w : World) (B B' : Nat) (hv : FldsAt w B v l) (hv' : FldsAt w B' v' m) (hl : l.length ≤ 1000000) (hm : m.length ≤ 1000000) :
    Calls Tryz.prog 39 #[v, v'] w fun e w' => e = .returned (.bool (Lib.allEq fldB l m)) ∧ Below w.heap.size w w' := by
  obtain ⟨a, cap, rfl, _, _, hc⟩ := hv
  obtain ⟨a', cap', rfl, _, _, hc'⟩ := hv'
  by_cases hlm : l.length = m.length
  · by_cases h0 : l.length = 0
    · obtain rfl : l = [] := List.eq_nil_of_length_eq_zero h0
      obtain rfl : m = [] := List.eq_nil_of_length_eq_zero hlm.symm
      exact equal_nil a a' cap cap' w
    · obtain ⟨b, o, rfl, hb, hcell⟩ := hc (by omega)
      obtain ⟨b', o', rfl, hb', hcell'⟩ := hc' (by omega)
      have hh := AnyQ.slices_Equal Tryz.laysQ8 4 Tryz.isAgg55 Tryz.sizeOf55 fldC (fun _ => rfl) fldB neqFld b o l.length cap b' o' m.length cap' l m w (Nat.le_refl _) (Nat.le_refl _) (by omega) (by omega)
        (fun j hj i u hu => by
          have hi : i < 4 := (List.getElem?_eq_some_iff.1 hu).1
          have := hcell (j * 4 + i) u ((fldL_at l j i hj hi).trans hu)
          rwa [← Nat.add_assoc] at this)
        (fun j hj i u hu => by
          have hi : i < 4 := (List.getElem?_eq_some_iff.1 hu).1
          have := hcell' (j * 4 + i) u ((fldL_at m j i hj hi).trans hu)
          rwa [← Nat.add_assoc] at this)
      refine hh.mono ?_
      rintro e w' ⟨rfl, q, rfl⟩
      rw [List.take_length, List.take_length]
      exact ⟨rfl, below_drewN (Below.refl _ _) q⟩
  · rw [Lib.allEq_len fldB l m hlm]
    exact equal_len a a' l.length m.length cap cap' w (by simpa using fun e : (l.length : Int) = m.length => hlm (by omega))
end Go.Proofs.YtcpfmlaipejfpaaGreatDoor
namespace Go.Proofs.YtcpfmlaipejfpaaGreatDoor
open Go.RowKit Go.Maps Go.Shelf

attribute [local go_sem] Oper.semAt_some

def fmtB (f g : Fmt) : Bool := f.id == g.id && Lib.allEq fldB f.flds g.flds
theorem fmtB_iff (f g : Fmt) : fmtB f g = true ↔ f = g := by
  obtain ⟨a, l⟩ := f
  obtain ⟨b, m⟩ := g
  simp [fmtB, allEq_fld]
set_option maxHeartbeats 2000000 in
theorem same1_any (f g : Fmt) (v u : Value) (w : World) (B B' : Nat) (hv : FldsAt w B v f.flds) (hu : FldsAt w B' u g.flds) (hB : B ≤ w.heap.size) (hB' : B' ≤ w.heap.size) (hl : f.flds.length ≤ 1000000) (hm : g.flds.length ≤ 1000000) :
    Calls Tryz.prog 38 #[.agg #[.int .i64 f.id, v], .agg #[.int .i64 g.id, u]] w fun e w' => e = .returned (.bool (fmtB f g)) ∧ Below w.heap.size w w' := by
  obtain ⟨a, l⟩ := f
  obtain ⟨b, m⟩ := g
  unfold fmtB
  dsimp only at *
  obtain ⟨W, hW⟩ : ∃ W, W = (w.alloc (.cells #[.int .i64 a, v] 34)).alloc (.cells #[.int .i64 b, u] 34) := ⟨_, rfl⟩
  have hb : Below w.heap.size w W := by rw [hW]; exact ((Below.refl _ _).alloc (Nat.le_refl _) _).alloc (by simp) _
  have he := Lib.hid (equalFlds_any v u l m W W.heap.size W.heap.size (SliceAt.later (w := w) (by
    obtain ⟨a1, a2, a3, a4, a5, a6⟩ := hv
    exact ⟨a1, a2, a3, a4, a5, fun h => by obtain ⟨b, o, q1, q2, q3⟩ := a6 h; exact ⟨b, o, q1, by omega, q3⟩⟩) hb) (SliceAt.later (w := w) (by
    obtain ⟨a1, a2, a3, a4, a5, a6⟩ := hu
    exact ⟨a1, a2, a3, a4, a5, fun h => by obtain ⟨b, o, q1, q2, q3⟩ := a6 h; exact ⟨b, o, q1, by omega, q3⟩⟩) hb) hl hm)
  obtain ⟨a1, c1, rfl, _, _, _⟩ := hv
  obtain ⟨a2, c2, rfl, _, _, _⟩ := hu
  have hWh := Lib.hid hW
  replace hb := Lib.hid hb
  by_cases hab : a = b
  · have hab' : (a == b) = true := by simpa using hab
    rw [hab', Bool.true_and]
    subst hab
    go_enter Tryz.func38, Tryz.ntmps38
    go_wp2_with fail
    rw [← hWh.out]
    refine he.out.mono ?_
    rintro e w2 ⟨rfl, hb2⟩
    go_wp2_with fail
    go_ret
    exact ⟨rfl, hb.out.trans (hb2.mono hb.out.size)⟩
  · have hab' : (a == b) = false := by simpa using hab
    rw [hab', Bool.false_and]
    go_enter Tryz.func38, Tryz.ntmps38
    go_wp2_with fail
    go_ret
    rw [← hWh.out]
    exact ⟨rfl, hb.out⟩
theorem allEq_step (l m : List Fmt) {i : Nat} (h : i < l.length) (h' : i < m.length) : Lib.allEq fmtB (l.drop i) (m.drop i) = (fmtB l[i]! m[i]! && Lib.allEq fmtB (l.drop (i + 1)) (m.drop (i + 1))) := by
  rw [List.drop_eq_getElem_cons h, List.drop_eq_getElem_cons h', getElem!_pos l i h, getElem!_pos m i h', Lib.allEq]
set_option maxRecDepth 100000 in
set_option maxHeartbeats 4000000 in
theorem equalFunc_any (v u : Value) (l m : List Fmt) (w : World) (hv : FmtsAt w w.heap.size v l) (hu : FmtsAt w w.heap.size u m) (hl : FmtIn l) (hm : FmtIn m) :
    Calls Tryz.prog 37 #[v, u, .func (.func 38) #[] #[]] w fun e w' => e = .returned (.bool (Lib.allEq fmtB l m)) ∧ Below w.heap.size w w' := by
  obtain ⟨fvs, hfl, ⟨a, cap, rfl, hcp, hcm, hat⟩, hfs⟩ := hv
  obtain ⟨gvs, hgl, ⟨a', cap', rfl, hcp', hcm', hat'⟩, hgs⟩ := hu
  replace hat := Lib.hid hat
  replace hat' := Lib.hid hat'
  replace hfs := Lib.hid hfs
  replace hgs := Lib.hid hgs
  have hLl := hl.len
  have hLm := hm.len
  by_cases hlm : l.length = m.length
  · have hd : ((m.length : Int) != (m.length : Int)) = false := by simp
    rw [hlm]
    have hall0 : Hid (Lib.allEq fmtB l m = Lib.allEq fmtB (l.drop 0) (m.drop 0)) := rfl
    replace hlm := Lib.hid hlm
    replace hl := Lib.hid hl
    replace hm := Lib.hid hm
    go_enter Tryz.func37, Tryz.ntmps37
    go_wp2_with fail
    go_loopw [17] (fun iv wr => ∃ i : Nat, i ≤ m.length ∧ iv = .int .i64 (i : Int) ∧ Hid (Lib.allEq fmtB l m = Lib.allEq fmtB (l.drop i) (m.drop i)) ∧ Hid (Below w.heap.size w wr)) (fun iv _ => m.length - (intOf iv).toNat)
    case atStart => exact ⟨0, Nat.zero_le _, rfl, hall0, (show Hid _ from Below.refl _ _)⟩
    case round =>
      obtain ⟨i, hi, rfl, hq, hB⟩ := hrel
      by_cases hlt : i < m.length
      · have hlt' : i < l.length := by rw [hlm.out]; exact hlt
        obtain ⟨fb, fo, rfl, hfb, hcell⟩ := hat.out (by omega)
        obtain ⟨gb, go, rfl, hgb, hcell'⟩ := hat'.out (by omega)
        obtain ⟨p1, p2⟩ := fmtC_at l fvs hfl i hlt'
        obtain ⟨q1, q2⟩ := fmtC_at m gvs hgl i hlt
        have x0 := (hB.out.cell (p := ⟨fb, fo + i * 2, none⟩) hfb).trans (hcell _ _ p1)
        have x1 : wr.cell? ⟨fb, fo + i * 2 + 1, none⟩ = some fvs[i]! := (hB.out.cell (p := ⟨fb, fo + (i * 2 + 1), none⟩) hfb).trans (hcell _ _ p2)
        have y0 := (hB.out.cell (p := ⟨gb, go + i * 2, none⟩) hgb).trans (hcell' _ _ q1)
        have y1 : wr.cell? ⟨gb, go + i * 2 + 1, none⟩ = some gvs[i]! := (hB.out.cell (p := ⟨gb, go + (i * 2 + 1), none⟩) hgb).trans (hcell' _ _ q2)
        have hst := allEq_step l m hlt' hlt
        have hbF := hfs.out i hlt'
        have hbG := hgs.out i hlt
        have hnF := hl.out.flen l[i]! (by rw [getElem!_pos l i hlt']; exact List.getElem_mem hlt')
        have hnG := hm.out.flen m[i]! (by rw [getElem!_pos m i hlt]; exact List.getElem_mem hlt)
        obtain ⟨W5, hW5⟩ : ∃ W5, W5 = (wr.alloc (.cells #[.int .i64 l[i]!.id, fvs[i]!] 34)).alloc (.cells #[.int .i64 m[i]!.id, gvs[i]!] 34) := ⟨_, rfl⟩
        have hb5 : Below wr.heap.size wr W5 := by rw [hW5]; exact ((Below.refl _ _).alloc (Nat.le_refl _) _).alloc (by simp) _
        have hB5 : Below w.heap.size w W5 := hB.out.trans (hb5.mono hB.out.size)
        have hs1 := same1_any l[i]! m[i]! fvs[i]! gvs[i]! W5 W5.heap.size W5.heap.size (SliceAt.later (w := w) hbF hB5) (SliceAt.later (w := w) hbG hB5) (Nat.le_refl _) (Nat.le_refl _) hnF hnG
        have hw1i : IntKind.i64.wrap ((i : Int) + 1) = ((i + 1 : Nat) : Int) := by rw [Int.natCast_succ]; exact IntWalk.i64_in _ (by omega)
        have i0 : (0 : Int) ≤ (i : Int) := by omega
        have i1 : (i : Int) < (m.length : Int) := by omega
        obtain ⟨a1, c1, hv1, _, _, _⟩ := hbF
        obtain ⟨a2, c2, hv2, _, _, _⟩ := hbG
        rw [hv1] at x1 hs1 hW5
        rw [hv2] at y1 hs1 hW5
        generalize l[i]! = f1 at *
        generalize m[i]! = f2 at *
        generalize hfm : fmtB f1 f2 = ok at *
        obtain ⟨id1, fl1⟩ := f1
        obtain ⟨id2, fl2⟩ := f2
        dsimp only at x0 x1 y0 y1 hs1 hW5
        have y1' : (wr.alloc (.cells #[.int .i64 id1, .slice a1 fl1.length c1] 34)).cell? ⟨gb, go + i * 2 + 1, none⟩ = some (.slice a2 fl2.length c2) := (((Below.refl wr.heap.size wr).alloc (Nat.le_refl _) _).cell (p := ⟨gb, go + i * 2 + 1, none⟩) (Nat.lt_of_lt_of_le hgb hB.out.size)).trans y1
        have y0' : (wr.alloc (.cells #[.int .i64 id1, .slice a1 fl1.length c1] 34)).cell? ⟨gb, go + i * 2, none⟩ = some (.int .i64 id2) := (((Below.refl wr.heap.size wr).alloc (Nat.le_refl _) _).cell (p := ⟨gb, go + i * 2, none⟩) (Nat.lt_of_lt_of_le hgb hB.out.size)).trans y0
        replace hs1 := Lib.hid hs1
        replace hst := Lib.hid hst
        replace hW5 := Lib.hid hW5
        replace hB5 := Lib.hid hB5
        replace hfm := Lib.hid hfm
        clear hb5 hcell hcell' p1 p2 q1 q2
        go_wp2_with fail
        rw [← hW5.out]
        refine hs1.out.mono ?_
        rintro e w6 ⟨rfl, hb6⟩
        have hB6 := Lib.hid (hB5.out.trans (hb6.mono hB5.out.size))
        cases ok with
        | true =>
          have hq' : Hid (Lib.allEq fmtB l m = Lib.allEq fmtB (l.drop (i + 1)) (m.drop (i + 1))) := by
            show _ = _
            rw [hq.out, hst.out, Bool.true_and]
          go_wp2_with fail
          exact ⟨⟨i + 1, by omega, by first | rfl | go_num, hq', hB6⟩, by simp [intOf]; omega⟩
        | false =>
          have hq' : Hid (Lib.allEq fmtB l m = false) := by
            show _ = _
            rw [hq.out, hst.out, Bool.false_and]
          go_wp2_with fail
          go_ret
          exact ⟨by rw [hq'.out]; rfl, hB6.out⟩
      · have hd : decide ((i : Int) < (m.length : Int)) = false := by simpa using hlt
        have hq' : Hid (Lib.allEq fmtB l m = true) := by
          show _ = _
          rw [hq.out, List.drop_eq_nil_of_le (by have := hlm.out; omega), List.drop_eq_nil_of_le (by omega)]
          rfl
        go_wp2_with fail
        go_ret
        exact ⟨by rw [hq'.out]; rfl, hB.out⟩
  · have hd : ((l.length : Int) != (m.length : Int)) = true := by
      simp only [bne_iff_ne, ne_eq]
      omega
    rw [Lib.allEq_len fmtB l m hlm]
    go_enter Tryz.func37, Tryz.ntmps37
    go_wp2_with fail
    go_ret
    exact ⟨rfl, Below.refl _ _⟩
theorem same_any (v u : Value) (l m : List Fmt) (w : World) (hv : FmtsAt w w.heap.size v l) (hu : FmtsAt w w.heap.size u m) (hl : FmtIn l) (hm : FmtIn m) :
    Calls Tryz.prog 22 #[v, u] w fun e w' => e = .returned (.bool (Lib.allEq fmtB l m)) ∧ Below w.heap.size w w' := by
  have hmf : ∀ (fn : Fn) (first cap : Array Value) (w : World), (Instr.makeFunc fn first cap).run Tryz.prog w = .ok (.func fn first cap) w := fun _ _ _ _ => rfl
  go_enter Tryz.func22, Tryz.ntmps22
  have he := equalFunc_any v u l m w hv hu hl hm
  replace he := Lib.hid he
  go_wp2_with fail
  refine he.out.mono ?_
  rintro e w1 ⟨rfl, hb⟩
  go_wp2_with fail
  go_ret
  exact ⟨rfl, hb⟩
end Go.Proofs.YtcpfmlaipejfpaaGreatDoor
namespace Go.Proofs.YtcpfmlaipejfpaaGreatDoor
open Go.RowKit Go.Maps Go.Shelf

attribute [local go_sem] Oper.semAt_some

theorem compare_any (x y : Int) (w : World) : Calls Tryz.prog 32 #[.int .i64 x, .int .i64 y] w fun e w' => (∃ r : Int, e = .returned (.int .i64 r) ∧ (r = 0 ↔ x = y)) ∧ w' = w := by
  have hx : (x != x) = false := by simp
  have hy : (y != y) = false := by simp
  by_cases h1 : x < y
  · have hd : decide (x < y) = true := by simpa using h1
    have hne : ¬ x = y := by omega
    go_enter Tryz.func32, Tryz.ntmps32
    go_wp2
    go_ret
    exact ⟨⟨-1, rfl, by simp [hne]⟩, rfl⟩
  · have hd : decide (x < y) = false := by simpa using h1
    by_cases h2 : y < x
    · have hd2 : decide (y < x) = true := by simpa using h2
      have hne : ¬ x = y := by omega
      go_enter Tryz.func32, Tryz.ntmps32
      go_wp2
      go_ret
      exact ⟨⟨1, rfl, by simp [hne]⟩, rfl⟩
    · have hd2 : decide (y < x) = false := by simpa using h2
      have he : Hid (x = y) := by show _ = _; omega
      go_enter Tryz.func32, Tryz.ntmps32
      go_wp2
      go_ret
      exact ⟨⟨0, rfl, by simp [he.out]⟩, rfl⟩
set_option maxHeartbeats 2000000 in
theorem find1_any (x id : Int) (v : Value) (B : Nat) (w : World) (hB : w.cell? ⟨B, 0, none⟩ = some (.int .i64 id)) (hlt : B < w.heap.size) :
    Calls Tryz.prog 31 #[.agg #[.int .i64 x, v], .pointer (some ⟨B, 0, none⟩)] w fun e w' => e = .returned (.bool (x == id)) ∧ Below w.heap.size w w' := by
  have hal : Below w.heap.size w (w.alloc (.cells #[.int .i64 x, v] 34)) := (Below.refl _ _).alloc (Nat.le_refl _) _
  have c0 := (hal.cell (p := ⟨B, 0, none⟩) hlt).trans hB
  replace hal := Lib.hid hal
  go_enter Tryz.func31, Tryz.ntmps31
  go_wp2_with fail
  refine (compare_any x id _).mono ?_
  rintro e w1 ⟨⟨r, rfl, hr⟩, rfl⟩
  have hrb : (r == 0) = (x == id) := by rw [Bool.eq_iff_iff, beq_iff_eq, beq_iff_eq]; exact hr
  replace hr := Lib.hid hr
  replace hrb := Lib.hid hrb
  go_wp2_with fail
  go_ret
  exact ⟨by rw [← hrb.out]; rfl, hal.out⟩
end Go.Proofs.YtcpfmlaipejfpaaGreatDoor
namespace Go.Proofs.YtcpfmlaipejfpaaGreatDoor
open Go.RowKit Go.Maps Go.Shelf

attribute [local go_sem] Oper.semAt_some

def encF (z : Fmt × Value) : List Value := [.int .i64 z.1.id, z.2]
theorem zip_at (l : List Fmt) (fvs : List Value) (h : fvs.length = l.length) {j : Nat} (hj : j < l.length) : (l.zip fvs)[j]! = (l[j]!, fvs[j]!) := by
  rw [getElem!_pos (l.zip fvs) j (by simp; omega), getElem!_pos l j hj, getElem!_pos fvs j (by omega), List.getElem_zip]
set_option maxHeartbeats 1000000 in
theorem index_some (l : List Fmt) (fvs : List Value) (hfl : fvs.length = l.length) (b o cap : Nat) (id : Int) (B : Nat) (w : World) (hb : b < w.heap.size) (hl : l.length ≤ 1000000)
    (hat : ∀ (j : Nat) (u : Value), (fmtC l fvs)[j]? = some u → w.cell? ⟨b, o + j, none⟩ = some u) (h : w.cell? ⟨B, 0, none⟩ = some (.int .i64 id)) (hB : B < w.heap.size) :
    Calls Tryz.prog 30 #[.slice (some ⟨b, o, none⟩) l.length cap, .func (.func 31) #[] #[.pointer (some ⟨B, 0, none⟩)]] w fun e w' => e = .returned (.int .i64 (Lib.idxBy (fun _ (z : Fmt × Value) => z.1.id == id) (l.zip fvs) default)) ∧ Below w.heap.size w w' := by
  have hzl : (l.zip fvs).length = l.length := by simp; omega
  have hh := AnyQ.slices_IndexFunc Tryz.laysF6 2 Tryz.isAgg34 Tryz.sizeOf34 encF (fun _ => rfl) (fun z => z.1.id == id) 31 #[.pointer (some ⟨B, 0, none⟩)] (enters_of Tryz.func31 (by kernel_rfl) rfl) b o l.length cap (l.zip fvs) w
    (fun W y hb' => (find1_any y.1.id id y.2 B W ((hb'.cell (p := ⟨B, 0, none⟩) hB).trans h) (Nat.lt_of_lt_of_le hB hb'.size)).mono fun _ _ h => ⟨h.1, hb'.trans (h.2.mono hb'.size)⟩) (by omega) (by omega) hb
    (fun j hj i u hu => by
      rw [hzl] at hj
      rw [zip_at l fvs hfl hj] at hu
      obtain ⟨p1, p2⟩ := fmtC_at l fvs hfl j hj
      match i, hu with
      | 0, hu => 
        injection hu with hu
        rw [← hu]
        exact hat _ _ p1
      | 1, hu =>
        injection hu with hu
        rw [← hu]
        exact hat _ _ p2)
  rwa [List.take_of_length_le (by omega)] at hh
end Go.Proofs.YtcpfmlaipejfpaaGreatDoor
namespace Go.Proofs.YtcpfmlaipejfpaaGreatDoor
open Go.RowKit Go.Maps Go.Shelf

def findT (l : List Fmt) (id : Int) : Option Fmt := l.find? fun f => f.id == id
theorem idx_from (id : Int) (x : Fmt × Value) : ∀ (l : List Fmt) (fvs : List Value), fvs.length = l.length → ∀ i : Nat,
    (Lib.idxByFrom (fun _ (z : Fmt × Value) => z.1.id == id) x (l.zip fvs) i = -1 ∧ findT l id = none) ∨ ∃ k, k < l.length ∧ Lib.idxByFrom (fun _ (z : Fmt × Value) => z.1.id == id) x (l.zip fvs) i = ((i + k : Nat) : Int) ∧ findT l id = some l[k]! ∧ l[k]!.id = id
  | [], [], _, i => .inl ⟨rfl, rfl⟩
  | f :: l, v :: fvs, h, i => by
    rw [List.zip_cons_cons, Lib.idxByFrom]
    unfold findT
    rw [List.find?_cons]
    dsimp only
    cases hf : f.id == id with
    | true => exact .inr ⟨0, by simp, by simp, by simp, by simpa using hf⟩
    | false =>
      rcases idx_from id x l fvs (by simpa using h) (i + 1) with ⟨h1, h2⟩ | ⟨k, h1, h2, h3, h4⟩
      · exact .inl ⟨by simpa using h1, h2⟩
      · exact .inr ⟨k + 1, by simp; omega, by simp only [Bool.false_eq_true, if_false]; rw [h2]; congr 1; omega, by rw [findT] at h3; simpa using h3, by simpa using h4⟩
end Go.Proofs.YtcpfmlaipejfpaaGreatDoor
namespace Go.Proofs.YtcpfmlaipejfpaaGreatDoor
open Go.RowKit Go.Maps Go.Shelf

attribute [local go_sem] Oper.semAt_some

theorem fldL_one : ∀ (l : List Fld), ∀ u ∈ fldL l, u.oneCell' = true
  | [], u, h => by cases h
  | f :: l, u, h => by
    rw [fldL] at h
    rcases List.mem_append.1 h with h | h
    · simp only [fldC, List.mem_cons, List.not_mem_nil, or_false] at h
      rcases h with rfl | rfl | rfl | rfl <;> rfl
    · exact fldL_one l u h
set_option maxRecDepth 100000 in
set_option maxHeartbeats 2000000 in
theorem clone_any (v : Value) (l : List Fld) (B : Nat) (w : World) (hv : FldsAt w B v l) (hl : l.length ≤ 1000000) :
    Calls Tryz.prog 33 #[v] w fun e w' => ∃ v', e = .returned v' ∧ w'.ownsRow w.heap.size 55 4 v' l.length (fldL l) ∧ Below w.heap.size w w' := by
  obtain ⟨a, cap, rfl, _, _, hc⟩ := hv
  cases a with
  | none =>
    have h0 : l = [] := by
      cases l with
      | nil => rfl
      | cons x r => obtain ⟨_, _, h, _⟩ := hc (by simp); cases h
    subst h0
    exact (AnyE.slices_Clone_nil Tryz.laysE41 0 cap w).mono fun e w' h => by
      obtain ⟨rfl, rfl⟩ := h
      exact ⟨_, rfl, ⟨rfl, .inl ⟨rfl, rfl⟩⟩, Below.refl _ _⟩
  | some p =>
    obtain ⟨i0, hi, hz0, hz1, hz2⟩ := info_parts info_fld
    have hcell : Hid (∀ j u, (fldL l)[j]? = some u → w.cell? (p.add j) = some u) := fun j u hu => by
      by_cases h0 : 0 < l.length
      · obtain ⟨b, o, h, _, hat⟩ := hc h0
        injection h with h
        subst h
        rw [Addr.add_lit]
        exact hat j u hu
      · obtain rfl : l = [] := List.eq_nil_of_length_eq_zero (by omega)
        cases hu
    have hlen : (fldL l).length = l.length * 4 := fldL_len l
    replace hlen := Lib.hid hlen
    clear hc
    have q22 : ∀ (w : World) (a : Option Addr) (n c n' c' : Nat), (binOp .eql 32 (.slice a n c) (.slice none n' c')).run Tryz.prog w = .ok (.bool a.isNone) w := fun w a n c n' c' => Lib.run_eql_slice_nil w _ _ a n c n' c' Tryz.underlying32
    go_enter Tryz.func33, Tryz.ntmps33
    go_wp2_with (at_builtin; refine wpList_append_own _ rfl _ _ 32 rfl w.heap.size 55 i0 (.agg #[.int .i64 0, .int .i64 0, .int .i64 0, .string ByteArray.empty]) 4 40 Tryz.underlying32 hi hz0 hz1 hz2 rfl (by decide) _ _ _ rfl (World.ownsRow_made w #[] 0 (Nat.le_refl _) (Nat.zero_le _) (by simp)) p l.length cap (fldL l) rfl ?qc1 ?qc2 ?qc3 ?qc4 ?qc5 ?qc6 ?_)
    case qc1 => exact hlen.out
    case qc2 =>
      intro j u hj
      exact Lib.cell?_alloc_some _ (hcell.out j u hj)
    case qc3 => exact fldL_one l
    case qc4 => unfold maxLen; omega
    case qc5 => omega
    case qc6 => simp
    intro v' w1 hown hgrow hnil
    go_wp2
    go_ret
    refine ⟨v', rfl, by simpa using hown, ?_⟩
    exact ((Below.refl _ w).alloc (Nat.le_refl _) _).grown hgrow (by simp) (by intro k hk; simp [Value.ownBlock] at hk; omega)
end Go.Proofs.YtcpfmlaipejfpaaGreatDoor
namespace Go.Proofs.YtcpfmlaipejfpaaGreatDoor
open Go.RowKit Go.Maps Go.Shelf

attribute [local go_sem] Oper.semAt_some

set_option maxHeartbeats 1000000 in
theorem index_none (a : Option Addr) (c b : Nat) (w : World) :
    Calls Tryz.prog 30 #[.slice a 0 c, .func (.func 31) #[] #[.pointer (some ⟨b, 0, none⟩)]] w fun e w' => e = .returned (.int .i64 (-1)) ∧ Below w.heap.size w w' := by
  go_enter Tryz.func30, Tryz.ntmps30
  go_wp2
  go_loop [8] (fun i => i = .int .i64 0) (fun _ => 0)
  case atStart => rfl
  case round =>
    subst hrel
    go_wp2
    go_ret
    exact ⟨rfl, Below.refl _ w⟩
theorem index_any (v : Value) (l : List Fmt) (id : Int) (B : Nat) (w : World) (hv : FmtsAt w w.heap.size v l) (hl : l.length ≤ 1000000) (h : w.cell? ⟨B, 0, none⟩ = some (.int .i64 id)) (hB : B < w.heap.size) :
    Calls Tryz.prog 30 #[v, .func (.func 31) #[] #[.pointer (some ⟨B, 0, none⟩)]] w fun e w' => ∃ r : Int, e = .returned (.int .i64 r) ∧ Below w.heap.size w w' ∧ ((r = -1 ∧ findT l id = none) ∨ ∃ k : Nat, k < l.length ∧ r = (k : Int) ∧ findT l id = some l[k]! ∧ l[k]!.id = id) := by
  obtain ⟨fvs, hfl, ⟨a, cap, rfl, _, _, hat⟩, _⟩ := hv
  by_cases h0 : l.length = 0
  · obtain rfl : l = [] := List.eq_nil_of_length_eq_zero h0
    exact (index_none a cap B w).mono fun e w' hh => ⟨-1, hh.1, hh.2, .inl ⟨rfl, rfl⟩⟩
  · obtain ⟨b, o, rfl, hb, hcell⟩ := hat (by omega)
    refine (index_some l fvs hfl b o cap id B w hb hl hcell h hB).mono fun e w' hh => ⟨_, hh.1, hh.2, ?_⟩
    rcases idx_from id default l fvs hfl 0 with ⟨h1, h2⟩ | ⟨k, h1, h2, h3, h4⟩
    · exact .inl ⟨h1, h2⟩
    · exact .inr ⟨k, h1, by rw [Lib.idxBy, h2, Nat.zero_add], h3, h4⟩
end Go.Proofs.YtcpfmlaipejfpaaGreatDoor
namespace Go.Proofs.YtcpfmlaipejfpaaGreatDoor
open Go.RowKit Go.Maps Go.Shelf

attribute [local go_sem] Oper.semAt_some

theorem FmtsAt.later {w w' : World} {B : Nat} {v : Value} {l : List Fmt} (h : FmtsAt w B v l) (hb : Below w.heap.size w w') (hB : B ≤ w.heap.size) : FmtsAt w' w'.heap.size v l := by
  obtain ⟨fvs, h1, h2, h3⟩ := h
  have key : ∀ {v : Value} {n : Nat} {xs : List Value}, SliceAt w B v n xs → SliceAt w' w'.heap.size v n xs := fun h => by
    obtain ⟨a1, a2, a3, a4, a5, a6⟩ := h
    refine SliceAt.later (w := w) ⟨a1, a2, a3, a4, a5, fun hn => ?_⟩ hb
    obtain ⟨b, o, q1, q2, q3⟩ := a6 hn
    exact ⟨b, o, q1, by omega, q3⟩
  exact ⟨fvs, h1, key h2, fun i hi => key (h3 i hi)⟩
set_option maxRecDepth 100000 in
set_option maxHeartbeats 2000000 in
theorem find_any (v : Value) (l : List Fmt) (id : Int) (w : World) (hv : FmtsAt w w.heap.size v l) (hl : FmtIn l) :
    Calls Tryz.prog 15 #[v, .int .i64 id] w fun e w' => Below w.heap.size w w' ∧ ((findT l id = none ∧ e = .returned (.tuple #[.agg #[.int .i64 0, .slice none 0 0], .bool false])) ∨ ∃ f v', findT l id = some f ∧ e = .returned (.tuple #[.agg #[.int .i64 id, v'], .bool true]) ∧ w'.ownsRow w.heap.size 55 4 v' f.flds.length (fldL f.flds)) := by
  have hmf : ∀ (fn : Fn) (first cap : Array Value) (w : World), (Instr.makeFunc fn first cap).run Tryz.prog w = .ok (.func fn first cap) w := fun _ _ _ _ => rfl
  obtain ⟨W, hW⟩ : ∃ W, W = (w.alloc (.cells #[.int .i64 id] 3)).alloc (.cells #[.int .i64 0, .slice none 0 0] 34) := ⟨_, rfl⟩
  have hA0 : Arr W w.heap.size 3 [.int .i64 id] := by rw [hW]; exact (Arr.new rfl rfl).alloc _
  have hA1 : Arr W (w.heap.size + 1) 34 [.int .i64 0, .slice none 0 0] := by rw [hW]; exact Arr.new rfl (by simp)
  have hBW : Below w.heap.size w W := by rw [hW]; exact ((Below.refl _ _).alloc (Nat.le_refl _) _).alloc (by simp) _
  have hvW := hv.later hBW (Nat.le_refl _)
  have hix := Lib.hid (index_any v l id w.heap.size W hvW hl.len (hA0.cell rfl) hA0.lt)
  obtain ⟨fvs, hfl, ⟨a, cap, rfl, hcp, hcm, hat⟩, hfs⟩ := hv
  replace hat := Lib.hid hat
  replace hfs := Lib.hid hfs
  clear hvW
  go_enter Tryz.func15, Tryz.ntmps15
  go_wp2_with fail
  rw [← hW]
  refine hix.out.mono ?_
  rintro e w1 ⟨r, rfl, hb1, hr⟩
  have hB1 := hBW.trans (hb1.mono hBW.size)
  have hA0' := hA0.below hb1
  have hA1' := hA1.below hb1
  clear hW hA0 hA1 hix
  rcases hr with ⟨rfl, hn⟩ | ⟨k, hk, rfl, hf, hid⟩
  · replace hn := Lib.hid hn
    have c0 := hA1'.cell (j := 0) rfl
    have f0 := hA1'.free 0
    have hA2 : Arr (w1.setCell ⟨w.heap.size + 1, 0, none⟩ (.int .i64 0)) (w.heap.size + 1) 34 [.int .i64 0, .slice none 0 0] := hA1'.set 0 _
    have c1 := hA2.cell (j := 1) rfl
    have f1 := hA2.free 1
    have hA3 : Arr ((w1.setCell ⟨w.heap.size + 1, 0, none⟩ (.int .i64 0)).setCell ⟨w.heap.size + 1, 1, none⟩ (.slice none 0 0)) (w.heap.size + 1) 34 [.int .i64 0, .slice none 0 0] := hA2.set 1 _
    have hfb : Hid (Below w.heap.size w ((w1.setCell ⟨w.heap.size + 1, 0, none⟩ (.int .i64 0)).setCell ⟨w.heap.size + 1, 1, none⟩ (.slice none 0 0))) := (hB1.setCell (p := ⟨w.heap.size + 1, 0, none⟩) (Nat.le_succ _) _).setCell (p := ⟨w.heap.size + 1, 1, none⟩) (Nat.le_succ _) _
    have r0 := hA3.cell (j := 0) rfl
    have r1 := hA3.cell (j := 1) rfl
    clear hA2 hA3 hA1' hA0' hb1
    go_wp2_with fail
    refine bodyPost_ret (v := .tuple #[.agg #[.int .i64 0, .slice none 0 0], .bool false]) (by simp [results, Tryz.f15, go_sem, r0, r1]) rfl ⟨hfb.out, .inl ⟨hn.out, rfl⟩⟩
  · obtain ⟨b, o, rfl, hb, hcell⟩ := hat.out (by omega)
    have hd : decide ((k : Int) < 0) = false := by simp
    have k0 : (0 : Int) ≤ (k : Int) := by omega
    have k1 : (k : Int) < (l.length : Int) := by omega
    have d0 : w1.cell? ⟨w.heap.size, 0, none⟩ = some (.int .i64 id) := hA0'.cell rfl
    have d1 : w1.cell? ⟨b, o + k * 2 + 1, none⟩ = some fvs[k]! := (hB1.cell (p := ⟨b, o + (k * 2 + 1), none⟩) hb).trans (hcell _ _ (fmtC_at l fvs hfl k hk).2)
    have hvk : FldsAt w1.drew w1.drew.heap.size fvs[k]! l[k]!.flds := (hfs.out k hk).later (w := w) hB1.drew
    have hlk := hl.flen l[k]! (by rw [getElem!_pos l k hk]; exact List.getElem_mem hk)
    have hclone := Lib.hid (clone_any fvs[k]! l[k]!.flds w1.drew.heap.size w1.drew hvk hlk)
    generalize l[k]! = f at *
    generalize fvs[k]! = fv at *
    replace hf := Lib.hid hf
    replace hid := Lib.hid hid
    have hAd : Arr w1.drew (w.heap.size + 1) 34 [.int .i64 0, .slice none 0 0] := hA1'
    have hz1 : w.heap.size ≤ w1.drew.heap.size := hB1.size
    have hBd : Below w.heap.size w w1.drew := hB1.drew
    clear hvk hcell
    go_wp2_with fail
    refine wp_region_held_drew (S := fun w' => w'.cell? ⟨w.heap.size, 0, none⟩ = some (.int .i64 id) ∧ w'.cell? ⟨b, o + k * 2 + 1, none⟩ = some fv) (by kernel_rfl) (by exact ⟨d0, d1⟩) (fun hHeld => ?_)
    refine take_l (i := 0) (v := ?_) rfl (by kernel_rfl) (by kernel_rfl) (by kernel_rfl) (fun _ _ _ h => h) (Or.inl ⟨by kernel_rfl, ?_⟩) (by assumption) ?_
    rotate_left
    · intro w hSw; (try dsimp only at hSw); go_simp; (try with_reducible rfl)
    (try simp only [Act.put, List.setIfInBounds_toArray, List.set_cons_zero, List.set_cons_succ])
    refine take_l (i := 1) (v := ?_) rfl (by kernel_rfl) (by kernel_rfl) (by kernel_rfl) (fun _ _ _ h => h) (Or.inl ⟨by kernel_rfl, ?_⟩) (by assumption) ?_
    rotate_left
    · intro w hSw; (try dsimp only at hSw); go_simp; (try with_reducible rfl)
    (try simp only [Act.put, List.setIfInBounds_toArray, List.set_cons_zero, List.set_cons_succ])
    refine take_l (i := 2) (v := ?_) rfl (by kernel_rfl) (by kernel_rfl) (by kernel_rfl) (fun _ _ _ h => h) (Or.inl ⟨by kernel_rfl, ?_⟩) (by assumption) ?_
    rotate_left
    · intro w hSw; (try dsimp only at hSw); go_simp; (try with_reducible rfl)
    (try simp only [Act.put, List.setIfInBounds_toArray, List.set_cons_zero, List.set_cons_succ])
    refine take_l (i := 3) (v := ?_) rfl (by kernel_rfl) (by kernel_rfl) (by kernel_rfl) (fun _ _ _ h => h) (Or.inl ⟨by kernel_rfl, ?_⟩) (by assumption) ?_
    rotate_left
    · intro w hSw; (try dsimp only at hSw); go_simp; (try with_reducible rfl)
    (try simp only [Act.put, List.setIfInBounds_toArray, List.set_cons_zero, List.set_cons_succ])
    refine take_l (i := 4) (v := ?_) rfl (by kernel_rfl) (by kernel_rfl) (by kernel_rfl) (fun _ _ _ h => h) (Or.inl ⟨by kernel_rfl, ?_⟩) (by assumption) ?_
    rotate_left
    · intro w hSw; (try dsimp only at hSw); go_simp; (try with_reducible rfl)
    (try simp only [Act.put, List.setIfInBounds_toArray, List.set_cons_zero, List.set_cons_succ])
    refine take_l (i := 5) (v := ?_) rfl (by kernel_rfl) (by kernel_rfl) (by kernel_rfl) (fun _ _ _ h => h) (Or.inl ⟨by kernel_rfl, ?_⟩) (by assumption) ?_
    rotate_left
    · intro w hSw; (try dsimp only at hSw); go_simp; (try with_reducible rfl)
    (try simp only [Act.put, List.setIfInBounds_toArray, List.set_cons_zero, List.set_cons_succ])
    refine wpAnyH_ready (rs := [6]) (by kernel_rfl) (by simp) ?_
    refine ready_l rfl (fun K hK => ?_) AllReadyH.nil
    go_simp
    ((with_reducible refine ((hclone.out)).mono ?_); rintro e vA ⟨vcl, rfl, hown, hbvA⟩; have hBvA : Below w1.heap.size w1 vA := Below.trans (by repeat first | with_reducible exact Below.refl _ _ | with_reducible assumption | with_reducible refine below_drewN ?_ _ | with_reducible refine Below.drew ?_ | with_reducible refine Below.setCell ?_ (by first | exact Nat.le_refl _ | (simp; done) | (simp; omega) | omega) _ | with_reducible refine Below.alloc ?_ (by first | exact Nat.le_refl _ | (simp; done) | (simp; omega) | omega) _ | exact Below.refl _ _ | assumption) (hbvA.mono (by first | exact Nat.le_refl _ | assumption | (simp; done) | (simp; omega) | omega)); have hzvA := hbvA.size; obtain ⟨ao, vcap, rfl⟩ := own_val hown; have hA3 := hAd.below hbvA; have hB3 := hBd.trans (hbvA.mono hz1); have c0 := hA3.cell (j := 0) rfl; have f0 := hA3.free 0; have hA4 : Arr (vA.setCell ⟨w.heap.size + 1, 0, none⟩ (.int .i64 id)) (w.heap.size + 1) 34 [.int .i64 id, .slice none 0 0] := hA3.set 0 _; have c1 := hA4.cell (j := 1) rfl; have f1 := hA4.free 1; have e0 := (hbvA.cell (p := ⟨w.heap.size, 0, none⟩) hA0'.lt).trans d0; have e1 := (hbvA.cell (p := ⟨b, o + k * 2 + 1, none⟩) (Nat.lt_of_lt_of_le hb hz1)).trans d1; have hBs := (Below.refl (w.heap.size + 1) vA).setCell (p := ⟨w.heap.size + 1, 0, none⟩) (Nat.le_refl _) (.int .i64 id); have hBt := hBs.setCell (p := ⟨w.heap.size + 1, 1, none⟩) (Nat.le_refl _) (.slice ao f.flds.length vcap); have g0 := (hBt.cell (p := ⟨w.heap.size, 0, none⟩) (Nat.lt_succ_self _)).trans e0; have g1 := (hBt.cell (p := ⟨b, o + k * 2 + 1, none⟩) (Nat.lt_succ_of_lt hb)).trans e1)
    refine hK.out _ _ (by exact ⟨e0, e1⟩) (fun hHeld => ?_)
    clear hK K
    (try simp only [Act.put, List.setIfInBounds_toArray, List.set_cons_zero, List.set_cons_succ])
    refine take_l (i := 7) (v := ?_) rfl (by kernel_rfl) (by kernel_rfl) (by kernel_rfl) (fun _ _ _ h => h) (Or.inl ⟨by kernel_rfl, ?_⟩) (by assumption) ?_
    rotate_left
    · intro w hSw; (try dsimp only at hSw); go_simp; (try with_reducible rfl)
    (try simp only [Act.put, List.setIfInBounds_toArray, List.set_cons_zero, List.set_cons_succ])
    refine wpAnyH_ready (rs := [8]) (by kernel_rfl) (by simp) ?_
    refine ready_l rfl (fun K hK => ?_) AllReadyH.nil
    go_simp
    refine hK.out _ _ (by exact ⟨g0, g1⟩) (fun hHeld => ?_)
    clear hK K
    (try simp only [Act.put, List.setIfInBounds_toArray, List.set_cons_zero, List.set_cons_succ])
    refine take_l (i := 9) (v := ?_) rfl (by kernel_rfl) (by kernel_rfl) (by kernel_rfl) (fun _ _ _ h => h) (Or.inl ⟨by kernel_rfl, ?_⟩) (by assumption) ?_
    rotate_left
    · intro w hSw; (try dsimp only at hSw); go_simp; (try with_reducible rfl)
    (try simp only [Act.put, List.setIfInBounds_toArray, List.set_cons_zero, List.set_cons_succ])
    refine wpAnyH_done (by kernel_rfl) ?_ _
    have hA5 : Arr ((vA.setCell ⟨w.heap.size + 1, 0, none⟩ (.int .i64 id)).setCell ⟨w.heap.size + 1, 1, none⟩ (.slice ao f.flds.length vcap)) (w.heap.size + 1) 34 [.int .i64 id, .slice ao f.flds.length vcap] := hA4.set 1 _
    have hfb : Hid (Below w.heap.size w ((vA.setCell ⟨w.heap.size + 1, 0, none⟩ (.int .i64 id)).setCell ⟨w.heap.size + 1, 1, none⟩ (.slice ao f.flds.length vcap))) := (hB3.setCell (p := ⟨w.heap.size + 1, 0, none⟩) (Nat.le_succ _) _).setCell (p := ⟨w.heap.size + 1, 1, none⟩) (Nat.le_succ _) _
    have hown5 := own_set_apart (o := 1) (u := .slice ao f.flds.length vcap) (own_set_apart (o := 0) (u := .int .i64 id) (own_lower hown hz1) hA3 (by decide)) hA4 (by decide)
    have r0 := hA5.cell (j := 0) rfl
    have r1 := hA5.cell (j := 1) rfl
    go_wp2_with fail
    refine bodyPost_ret (v := .tuple #[.agg #[.int .i64 id, .slice ao f.flds.length vcap], .bool true]) (by simp [results, Tryz.f15, go_sem, r0, r1]) rfl ⟨hfb.out, .inr ⟨f, _, hf.out, rfl, hown5⟩⟩
end Go.Proofs.YtcpfmlaipejfpaaGreatDoor
