/-
  Formats of chapter 4: FormatLeast, walked.
  FormatLeast is true of every input: the row, and its tied card. Conditions: the library variables that are read hold what their packages lay in them (the card ties that to the text).
-/
import Derived.Test.YtcpfmlaipejfpaaGreatDoorKH
import Derived.Test.YtcpfmlaipejfpaaGreatDoorKD
import Derived.Test.YtcpfmlaipejfpaaGreatDoorKE
import Derived.Test.YtcpfmlaipejfpaaGreatDoorCards
import Derived.Test.YtcpfmlaipejfpaaGreatDoorTie
import Derived.Test.YtcpfmlaipejfpaaGreatDoorKF
import Derived.SevenTiedAt
namespace Go.Proofs.YtcpfmlaipejfpaaGreatDoor
open Go.RowKit Go.Shelf

attribute [local go_sem] Oper.semAt_some

/-- A copy of the list, with a format more behind it. -/
theorem copy_more {B : Nat} {W : World} {lv : Value} {fvs : List Value} {l : List Fmt} (h : MkL B W lv fvs l) (hl : l.length ≤ 100) (hB : B ≤ W.heap.size) (id : Int) (fs : List Fld) (hf : fs.length ≤ 100) (hf0 : 0 < fs.length) :
    ∃ v2 w2 v5 w5, (Builtin.append_ #[22, 22] 22 #[.slice (some ⟨W.heap.size, 0, none⟩) 0 0, lv]).run Tryz.prog (W.alloc (.cells #[] 34)) = .ok v2 w2 ∧ (∃ a c, v2 = .slice a l.length c) ∧
      (Builtin.append_ #[22, 22] 22 #[v2, .slice (some ⟨w2.heap.size + 1, 0, none⟩) 1 1]).run Tryz.prog ((w2.alloc (.cells (fldL fs).toArray 55)).alloc (.cells #[.int .i64 id, .slice (some ⟨w2.heap.size, 0, none⟩) fs.length fs.length] 34)) = .ok v5 w5 ∧
      MkL B w5 v5 (fvs ++ [.slice (some ⟨w2.heap.size, 0, none⟩) fs.length fs.length]) (l ++ [⟨id, fs⟩]) ∧ Below W.heap.size W w5 := by
  obtain ⟨X, hX⟩ : ∃ X, X = W.alloc (.cells #[] 34) := ⟨_, rfl⟩
  have hbX : Below W.heap.size W X := by rw [hX]; exact (Below.refl _ _).alloc (Nat.le_refl _) _
  have hAX : Arr X W.heap.size 34 [] := by rw [hX]; exact Arr.new rfl rfl
  rw [← hX]
  have hown : X.ownsRow W.heap.size 34 2 (.slice (some ⟨W.heap.size, 0, none⟩) 0 0) 0 [] := ⟨rfl, .inr ⟨W.heap.size, 0, #[], rfl, Nat.le_refl _, hAX, Nat.le_refl _, Nat.zero_le _, rfl, rfl⟩⟩
  obtain ⟨v2, w2, hrun2, r1, r2, _⟩ := append_fmts (h.below hbX) (by omega) _ hown hbX.size (by simp)
  have hb2 : Below W.heap.size W w2 := hbX.grown r2 hbX.size (fun j hj => by
    simp only [Value.ownBlock, Option.some.injEq] at hj
    omega)
  obtain ⟨Y, hY⟩ : ∃ Y, Y = w2.alloc (.cells (fldL fs).toArray 55) := ⟨_, rfl⟩
  have hbY : Below w2.heap.size w2 Y := by rw [hY]; exact (Below.refl _ _).alloc (Nat.le_refl _) _
  have hAY : Arr Y w2.heap.size 55 (fldL fs) := by rw [hY]; exact Arr.new rfl rfl
  have hsY : Y.heap.size = w2.heap.size + 1 := by rw [hY]; simp
  obtain ⟨Z, hZ⟩ : ∃ Z, Z = Y.alloc (.cells #[.int .i64 id, .slice (some ⟨w2.heap.size, 0, none⟩) fs.length fs.length] 34) := ⟨_, rfl⟩
  have hbZ : Below Y.heap.size Y Z := by rw [hZ]; exact (Below.refl _ _).alloc (Nat.le_refl _) _
  have hAZ : Arr Z Y.heap.size 34 [.int .i64 id, .slice (some ⟨w2.heap.size, 0, none⟩) fs.length fs.length] := by rw [hZ]; exact Arr.new rfl rfl
  have hb2Z : Below w2.heap.size w2 Z := hbY.trans (hbZ.mono hbY.size)
  have hrow := own_below r1 hb2Z
  obtain ⟨v5, w5, hrun5, s1, s2, _⟩ := append_fmt Z W.heap.size v2 l.length _ hrow _ _ hAZ rfl (by
    intro u hu
    simp only [List.mem_cons, List.not_mem_nil, or_false] at hu
    rcases hu with rfl | rfl <;> rfl) (by omega) (Nat.le_trans hb2.size hb2Z.size)
  have hM := h.below (hb2.trans (hb2Z.mono hb2.size))
  have hfr : Z.ownsRow B 55 4 (.slice (some ⟨w2.heap.size, 0, none⟩) fs.length fs.length) fs.length (fldL fs) := own_below ⟨fldL_len fs, .inr ⟨w2.heap.size, fs.length, (fldL fs).toArray, rfl, Nat.le_trans hB hb2.size, hAY, Nat.le_refl _, by unfold maxLen; omega, by simp [fldL_len], by rw [← fldL_len fs]; simp⟩⟩ hbZ
  exact ⟨v2, w2, v5, w5, hrun2, own_val r1, by rw [← hY, ← hsY, ← hZ]; exact hrun5, hM.snoc (fun i hi => own_apart (hM.rows i hi) hrow (by decide) s2) (own_lower s1 hB) (own_apart hfr hrow (by decide) s2), (hb2.trans (hb2Z.mono hb2.size)).grown s2 (Nat.le_trans hb2.size hb2Z.size) (fun j hj => (own_block hrow hj).2.1)⟩
theorem in_more {l : List Fmt} {f : Fmt} (h : FmtIn l) (hl : l.length ≤ 100) (hid : I64 f.id) (hf : f.flds.length ≤ 1000) (hok : ∀ x ∈ f.flds, FldOk x) : FmtIn (l ++ [f]) := by
  refine ⟨by rw [List.length_append, List.length_singleton]; omega, fun g hg => ?_, fun g hg => ?_, fun g hg => ?_⟩
  · rcases List.mem_append.1 hg with hg | hg
    · exact h.id g hg
    · rw [List.mem_singleton.1 hg]; exact hid
  · rcases List.mem_append.1 hg with hg | hg
    · exact h.flen g hg
    · rw [List.mem_singleton.1 hg]; omega
  · rcases List.mem_append.1 hg with hg | hg
    · exact h.ok g hg
    · rw [List.mem_singleton.1 hg]; exact hok
set_option maxRecDepth 100000 in
set_option maxHeartbeats 16000000 in
theorem Least_any (v : Value) (n : Nat) (zs : List Int) (x y : Int) (w : World) (hs : SliceAt w w.heap.size v n (zs.map (Value.int .i64))) (hz : zs.length = n * 4) (hI : ∀ z ∈ zs, I64 z) (hx : I64 x) (hy : I64 y) (hE : Env w) :
    Calls Tryz.prog 9 #[v, .int .i64 x, .int .i64 y] w fun e w' => e = .returned (.bool true) ∧ Below w.heap.size w w' := by
  go_enter Tryz.func9, Tryz.ntmps9
  go_wp2_with fail
  refine (sane_any w hE).mono ?_
  rintro e w1 ⟨rfl, hb1⟩
  go_wp2_with fail
  refine (Make_any v n zs w1 (SliceAt.later hs hb1) hz hI).mono ?_
  rintro e w2 ⟨⟨lv, fvs, l, rfl, hok, hM⟩, hb2⟩
  have hB2 := hb1.trans (hb2.mono hb1.size)
  have hF := hM.fmts hok.in_
  have hl6 := hok.len
  obtain ⟨a, c, hlv, hcap, _⟩ := hF.val
  subst hlv
  by_cases h0 : l.length = 0
  · have d0 : ((l.length : Int) == 0) = true := by rw [h0]; rfl
    replace h0 := Lib.hid h0
    go_wp2_with fail
    go_ret
    exact ⟨rfl, hB2⟩
  have d0 : ((l.length : Int) == 0) = false := by rw [beq_eq_false_iff_ne]; omega
  have hpx := Lib.hid (pick_any x l.length w2 hx (by omega) (by omega))
  have hpy := Lib.hid (pick_any y l.length w2 hy (by omega) (by omega))
  have hi := pickv_lt x l.length (by omega)
  have hj := pickv_lt y l.length (by omega)
  generalize pickv x l.length = i at *
  generalize pickv y l.length = j at *
  obtain ⟨p1, p2, p3, p4, p5, p6, p7, p8⟩ := least_plain hok hi hj
  obtain ⟨fb, fo, cap, fa, fcap, e, x0, _, hid1, _, _⟩ := hF.at hi
  injection e with e1 _ e3
  subst e1 e3
  obtain ⟨fb2, fo2, cap2, fa2, fcap2, e, y0, _, hid2, _, _⟩ := hF.at hj
  injection e with e1 _ e3
  injection e1 with e1
  injection e1 with e4 e5
  subst e4 e5 e3
  obtain ⟨one, hone⟩ : ∃ one, one = l[i]!.id := ⟨_, rfl⟩
  obtain ⟨two, htwo⟩ : ∃ two, two = l[j]!.id := ⟨_, rfl⟩
  rw [← hone] at p1 p2 p3 p4 p5 p6 x0 hid1
  rw [← htwo] at p1 p2 p3 p4 p7 p8 y0 hid2
  have hBs : w1.heap.size ≤ w2.heap.size := hb2.size
  obtain ⟨v3, w3, v4, w4, hr1, ⟨a3, c3, rfl⟩, hr2, hM4, hb4⟩ := copy_more hM (by omega) hBs 500 (twoF one two).flds (show (4 : Nat) ≤ 100 by decide) (show (0 : Nat) < 4 by decide)
  have hm : (l ++ [(⟨500, (twoF one two).flds⟩ : Fmt)]).length = l.length + 1 := by simp
  obtain ⟨v5, w5, v6, w6, hr3, ⟨a5, c5, rfl⟩, hr4, hM6, hb6⟩ := copy_more hM4 (by rw [hm]; omega) (Nat.le_trans hBs hb4.size) 501 listF.flds (show (2 : Nat) ≤ 100 by decide) (show (0 : Nat) < 2 by decide)
  have hfk : ∀ (k n m : Int), 0 ≤ k → k ≤ 6 → I64 n → -1 ≤ m → m ≤ 10 → FldOk ⟨k, n, m, []⟩ := fun k n m q1 q2 q3 q4 q5 => ⟨⟨by dsimp only; omega, by dsimp only; omega⟩, q3, ⟨by dsimp only; omega, by dsimp only; omega⟩, by simp⟩
  have hi64 : ∀ n : Int, 0 ≤ n → n ≤ 1000 → I64 n := fun n q1 q2 => ⟨by omega, by omega⟩
  have hIn4 : FmtIn (l ++ [(⟨500, (twoF one two).flds⟩ : Fmt)]) := in_more hok.in_ (by omega) (show I64 (500 : Int) from hi64 _ (by decide) (by decide)) (show (4 : Nat) ≤ 1000 by decide) (fun z hz => by
    simp only [twoF, num3, List.mem_cons, List.not_mem_nil, or_false] at hz
    rcases hz with rfl | rfl | rfl | rfl
    · exact hfk _ _ _ (by omega) (by omega) (hi64 _ (by omega) (by omega)) (by omega) (by omega)
    · exact hfk _ _ _ (by omega) (by omega) (hi64 _ (by omega) (by omega)) (by omega) (by omega)
    · exact hfk _ _ _ (by omega) (by omega) hid1 (by omega) (by omega)
    · exact hfk _ _ _ (by omega) (by omega) hid2 (by omega) (by omega))
  have hIn6 : FmtIn (l ++ [(⟨500, (twoF one two).flds⟩ : Fmt)] ++ [(⟨501, listF.flds⟩ : Fmt)]) := in_more hIn4 (by rw [hm]; omega) (show I64 (501 : Int) from hi64 _ (by decide) (by decide)) (show (2 : Nat) ≤ 1000 by decide) (fun z hz => by
    simp only [listF, List.mem_cons, List.not_mem_nil, or_false] at hz
    rcases hz with rfl | rfl
    · exact hfk _ _ _ (by omega) (by omega) (hi64 _ (by omega) (by omega)) (by omega) (by omega)
    · exact hfk _ _ _ (by omega) (by omega) (hi64 _ (by omega) (by omega)) (by omega) (by omega))
  have hF4 := (hM4.below hb6).fmts hIn4
  have hF6 := hM6.fmts hIn6
  have hFl := ((hM.below hb4).below hb6).fmts hok.in_
  have hB6 : Hid (Below w.heap.size w w6) := (hB2.trans (hb4.mono hB2.size)).trans (hb6.mono (Nat.le_trans hB2.size hb4.size))
  obtain ⟨m4, hm4⟩ : ∃ m4, m4 = l ++ [(⟨500, (twoF one two).flds⟩ : Fmt)] := ⟨_, rfl⟩
  obtain ⟨m6, hm6⟩ : ∃ m6, m6 = m4 ++ [(⟨501, listF.flds⟩ : Fmt)] := ⟨_, rfl⟩
  rw [← hm4, ← hm6] at hF6
  rw [← hm4] at hF4 hr3 hr4 hM4 hm
  have q4 : (l ++ [twoF one two]) = m4 := by rw [hm4]; rfl
  have q6 : (m4 ++ [listF]) = m6 := by rw [hm6]; rfl
  rw [q4] at p1 p2 p3 p4
  rw [q6] at p1 p3 p4
  obtain ⟨a4, c4, hv4, _⟩ := hF4.val
  obtain ⟨a6, c6, hv6, _⟩ := hF6.val
  subst hv4 hv6
  have hL1 := Lib.hid fun (W : World) (hW : Below w6.heap.size w6 W) => least_any _ _ 500 (hi64 _ (by decide) (by decide)) W (hF4.later hW).at_ (hF4.later hW).in_
  have hL2 := Lib.hid fun (W : World) (hW : Below w6.heap.size w6 W) => least_any _ _ one hid1 W (hFl.later hW).at_ (hFl.later hW).in_
  have hL3 := Lib.hid fun (W : World) (hW : Below w6.heap.size w6 W) => least_any _ _ two hid2 W (hFl.later hW).at_ (hFl.later hW).in_
  have hL4 := Lib.hid fun (W : World) (hW : Below w6.heap.size w6 W) => least_any _ _ 501 (hi64 _ (by decide) (by decide)) W (hF6.later hW).at_ (hF6.later hW).in_
  have hL5 := Lib.hid fun (W : World) (hW : Below w6.heap.size w6 W) => least_any _ _ 500 (hi64 _ (by decide) (by decide)) W (hF6.later hW).at_ (hF6.later hW).in_
  have hV := Lib.hid fun (W : World) (hW : Below w6.heap.size w6 W) => valid_any _ _ W (hF6.later hW).at_ (hF6.later hW).in_
  rw [p4] at hL5
  rw [p2] at hL1 hL5
  rw [p3] at hL4
  rw [p1] at hV
  generalize leastT l one = A at *
  generalize leastT l two = B at *
  have s1 : IntKind.i64.wrap (6 + A) = 6 + A := IntWalk.i64_in _ (by omega)
  have s2 : IntKind.i64.wrap (6 + A + B) = 6 + A + B := IntWalk.i64_in _ (by omega)
  have i0 : (0 : Int) ≤ (i : Int) := by omega
  have i1 : (i : Int) < (l.length : Int) := by omega
  have j0 : (0 : Int) ≤ (j : Int) := by omega
  have j1 : (j : Int) < (l.length : Int) := by omega
  obtain ⟨N4, hN4⟩ : ∃ N4, N4 = m4.length := ⟨_, rfl⟩
  obtain ⟨N6, hN6⟩ : ∃ N6, N6 = m6.length := ⟨_, rfl⟩
  have hr1' := hr1
  have hr2' := hr2
  have hr3' := hr3
  have hr4' := hr4
  unfold twoF num3 at hr2'
  unfold listF at hr4'
  simp only [fldL, fldC, List.flatMap_cons, List.flatMap_nil, List.append_nil, List.cons_append, List.nil_append, List.length_cons, List.length_nil, Nat.zero_add, Nat.reduceAdd] at hr2' hr4'
  rw [show str [] = (⟨#[]⟩ : ByteArray) from rfl] at hr2' hr4'
  rw [← hN4] at hr2' hr3' hr4' hL1
  rw [← hN6] at hr4' hL4 hL5 hV
  replace hr1' := Lib.hid hr1'
  replace hr2' := Lib.hid hr2'
  replace hr3' := Lib.hid hr3'
  replace hr4' := Lib.hid hr4'
  replace hone := Lib.hid hone
  replace htwo := Lib.hid htwo
  replace h0 := Lib.hid h0
  replace hm4 := Lib.hid hm4
  replace hm6 := Lib.hid hm6
  replace hN4 := Lib.hid hN4
  replace hN6 := Lib.hid hN6
  clear hr1 hr2 hr3 hr4 q4 q6 p1 p2 p3 p4 p5 p6 p7 p8 hM4 hM6 hM hok hF hF4 hF6 hFl hIn4 hIn6 hm hi64 hfk hb4 hb6 hBs
  go_wp2_with fail
  refine hpx.out.mono ?_
  rintro e w7 ⟨rfl, hw⟩
  subst w7
  go_wp2_with fail
  refine hpy.out.mono ?_
  rintro e w7 ⟨rfl, hw⟩
  subst w7
  clear hpx hpy
  go_wp2_with (at_builtin; go_loud (first | (refine wpList_append_known rfl _ _ _ _ rfl _ _ rfl rfl hr1'.out ?_; clear hr1') | (refine wpList_append_known rfl _ _ _ _ rfl _ _ rfl rfl hr2'.out ?_; clear hr2') | (refine wpList_append_known rfl _ _ _ _ rfl _ _ rfl rfl hr3'.out ?_; clear hr3') | (refine wpList_append_known rfl _ _ _ _ rfl _ _ rfl rfl hr4'.out ?_; clear hr4')))
  have b0 : Below w6.heap.size w6 w6 := Below.refl _ _
  refine (hL1.out w6 b0).mono ?_
  rintro e u1 ⟨rfl, b1⟩
  go_wp2_with fail
  refine (hL2.out u1 b1).mono ?_
  rintro e u2 ⟨rfl, b2⟩
  replace b2 := b1.trans (b2.mono b1.size)
  go_wp2_with fail
  refine (hL3.out u2 b2).mono ?_
  rintro e u3 ⟨rfl, b3⟩
  replace b3 := b2.trans (b3.mono b2.size)
  have qq : ((6 + A + B : Int) == 6 + A + B) = true := by simp
  go_wp2_with fail
  refine (hL4.out u3 b3).mono ?_
  rintro e u4 ⟨rfl, b4⟩
  replace b4 := b3.trans (b4.mono b3.size)
  go_wp2_with fail
  refine (hL5.out u4 b4).mono ?_
  rintro e u5 ⟨rfl, b5⟩
  replace b5 := b4.trans (b5.mono b4.size)
  go_wp2_with fail
  refine (hL1.out u5 b5).mono ?_
  rintro e u6 ⟨rfl, b6⟩
  replace b6 := b5.trans (b6.mono b5.size)
  go_wp2_with fail
  refine (hV.out u6 b6).mono ?_
  rintro e u7 ⟨rfl, b7⟩
  replace b7 := b6.trans (b7.mono b6.size)
  go_wp2_with fail
  go_ret
  exact ⟨rfl, hB6.out.trans (b7.mono hB6.out.size)⟩
end Go.Proofs.YtcpfmlaipejfpaaGreatDoor
namespace Go.Proofs.YtcpfmlaipejfpaaGreatDoor.formatLeast
open Go.ChangeShapes Go.WideShapes Go.ChangeAt Go.RowKit
open Go.ChangeMaps (open_string)

set_option maxRecDepth 100000 in
set_option maxHeartbeats 1000000 in
theorem lifted (os : Os) (started : os.Started) (H : Type) (enc : TypeId × Value → H) :
    ReturnsInHanded {} Tryz.checked os 9 .any (fun w args => (Rows.formatLeastSpec.pre enc Tryz.prog Tryz.f9 [] false w args ∧ laidMetH Tryz.prog laid4 w) ∧ sizedMet enc Tryz.prog Tryz.f9 (OpenSpec.ofChange Rows.formatLeastSpec) false w args)
      (Rows.formatLeastSpec.post enc Tryz.prog Tryz.f9 false true false false) := by
  refine lift_shaped (C := Tryz.checked) (X := fun w => laidMetH Tryz.prog laid4 w) (fun _ _ hh h => h.of_heap hh) own started (by kernel_rfl) Tryz.func9
    (ChangeSpec.witness_shaped (enc := enc) (C := Tryz.checked) (os := os) (X := fun w _ => laidMetH Tryz.prog laid4 w) false (World.laidAll Tryz.prog os laid4) #[.slice none 0 0, .int .i64 0, .int .i64 0] 8 (World.laidAll_os _ _ _) (shape4 os) (by kernel_rfl) (by kernel_rfl) (by kernel_rfl) (door_met4 os _)) ?_
  intro W base args ds gs before hval0 hW hL hsh
  have hval : ∀ (j : Nat) t v, Tryz.f9.params[j]? = some t → args[j]? = some v → Value.okWide Tryz.prog W .any base t v := hval0
  have hW' := hW
  obtain ⟨p, q, hA0, hV, rfl, hfz, hnd⟩ := hW
  have hA : DataW.TrodAll enc Tryz.prog W 0 (fun _ => true) true Tryz.f9.params.toList args.toList ds p := hA0
  have hAk := hA
  rw [Tryz.params9] at hA hval
  obtain ⟨v0, vs0, d0, ds0, p0, q0, hargs, rfl, rfl, h0, r0⟩ := trodAll_cons hA
  obtain ⟨v1, vs1, d1, ds1, p1, q1, rfl, rfl, rfl, h1, r1⟩ := trodAll_cons r0
  obtain ⟨v2, vs2, d2, ds2, p2, q2, rfl, rfl, rfl, h2, r2⟩ := trodAll_cons r1
  obtain ⟨rfl, rfl, rfl⟩ := trodAll_nil r2
  obtain rfl : args = #[v0, v1, v2] := by cases args; simp_all
  obtain ⟨rfl, rfl⟩ := trodVars_none hV
  obtain ⟨n0, z0, e0, g0, s0⟩ := open_quads (hval 0 23 v0 rfl rfl) h0
  obtain ⟨a1, rfl, rfl, _, w1⟩ := open_int Tryz.underlying3 (hval 1 3 v1 rfl rfl) h1
  obtain ⟨a2, rfl, rfl, _, w2⟩ := open_int Tryz.underlying3 (hval 2 3 v2 rfl rfl) h2
  clear hA0 hval0
  refine (Least_any v0 n0 z0 a1 a2 W s0 e0 g0 (I64.of_wf w1) (I64.of_wf w2) (env_of_laid hL hsh)).mono fun e W' ⟨he, hg⟩ => ?_
  subst he
  have hlt := DataW.TrodAll.lt hAk
  exact ⟨_, rfl, post_of_below (pa := _) (pv := []) hW' (fun _ _ _ => (trodAll_cons_mk (shut_bool Tryz.underlying4 _) trodAll_mk0)) (fun sp hsp => trodAll_stay Tryz.kids Tryz.full (by rw [Tryz.params9]; decide) hAk (fun x hx => sameAt_below hg (hlt x hx)) (fun x hx => hsp x (List.mem_append_left _ hx))) (fun _ _ => rfl) rfl hg (ok_one (by kernel_rfl) rfl (okWide_bool_mk Tryz.underlying4 _))⟩

theorem row_holds : Rows.FormatLeastSaid :=
  OpenClaim.holds_of_wide 9 Tryz.f9 rfl rfl rfl rfl rfl rfl rfl ⟨rfl, rfl, rfl, rfl, rfl⟩ rfl rfl rfl rfl rfl (by kernel_rfl) Tryz.func9 (by kernel_rfl)
    (of_decide_eq_true (by kernel_rfl)) (by unfold Func.isWrapper; first | (rw [if_pos (by decide +kernel)]; kernel_rfl) | (rw [if_neg (by decide +kernel)]; exact ⟨rfl, rfl⟩))
    (fun os started H enc _ => lifted os started H enc)

/-- THE TIED CARD. -/
theorem card_holds : Rows.FormatLeastCardSaid :=
  Claim7.holds_tied_plain_at .later [] [.data, .data, .data, .data, .sentinel, .sentinel, .pinned] true Rows.formatLeastCard.stood.harness true
    row_holds (fun _ h => by cases h) (by kernel_rfl) (fun _ h => by cases h) formatLeast_row_tie rfl ⟨rfl, rfl⟩ (by kernel_rfl) rfl
    (fun f fn hf hfn => by
      obtain rfl : f = 9 := Option.some.inj ((show Tryz.prog.funcNamed "evergreen/evergreenlaw04.FormatLeast" = some 9 by kernel_rfl).symm.trans hf) |>.symm
      obtain rfl : fn = Tryz.f9 := (Option.some.inj (Tryz.func9.symm.trans hfn)).symm
      exact ⟨by kernel_rfl, fun j t ht => by
        rw [Tryz.params9] at ht
        have hm : t ∈ [23, 3, 3] := by simpa using Array.mem_of_getElem? ht
        have hall : ([23, 3, 3].all fun u => !Tryz.prog.wantsStandIn u) = true := by kernel_rfl
        exact (show Tryz.prog.wantsStandIn t = false by simpa using List.all_eq_true.1 hall t hm)⟩)
    (by kernel_rfl)
#print axioms card_holds
end Go.Proofs.YtcpfmlaipejfpaaGreatDoor.formatLeast
