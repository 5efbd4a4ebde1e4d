/-
  The contract of program: the instructions of a program that is well formed.
  The contract of verified's closure: an instruction is reached at a depth.
  A round of verified's worklist, plain.
  A round of the reference's worklist, plain.
-/
import Derived.Test.YtainohbfcehpoaaDoorMzD
import Derived.Shelf.Abstract
import Derived.StillTailTactics
namespace Go.Proofs.YtainohbfcehpoaaDoor
open Go.RowKit Go.Shelf

attribute [local go_sem] Oper.semAt_some

/-- What program returns. -/
def ProgPost (code : List UInt8) (w : World) (e : Ending) (w' : World) : Prop :=
  (∀ l, formed code = some l → ∃ g cap, e = .returned (.tuple #[.slice (some ⟨g, 0, none⟩) l.length cap, .bool true]) ∧ w.heap.size ≤ g ∧ g < w'.heap.size ∧ l.length ≤ cap ∧ cap ≤ maxLen ∧ InsRow w' g 0 l (fun i => toOf l l[i]!)) ∧
  (formed code = none → e = .returned (.tuple #[.slice none 0 0, .bool false])) ∧ Below w.heap.size w w'

set_option maxRecDepth 100000 in
set_option maxHeartbeats 4000000 in
theorem program_in (code : List UInt8) (w : World) (h1 : code ≠ []) (h2 : code.length ≤ 1024) (hO : OpsIs w) :
    CallsIn Fence.wide 3 Tryd.prog 34 #[.string (str code)] w fun e w' => ProgPost code w e w' := by
  have hg := hO.lt
  have hps : (str code).size = code.length := str_size code
  have hI := fun W => instructions_any (str code) W
  obtain ⟨K, hK⟩ : ∃ K, K = (evSeq 0 code).length := ⟨_, rfl⟩
  have hKl : K ≤ code.length := by rw [hK]; exact evSeq_len _ code (Nat.le_refl _) 0
  have hne : (str code).toList.isEmpty = false := by rw [ByteArray.toList_eq, str_list]; simpa using h1
  have hlt : decide ((code.length : Int) > 1024) = false := by simp; omega
  refine callsIn_of_wp_marks Tryd.func34 rfl trivial ?_ rfl
  simp only [Tryd.ntmps34, List.size_toArray, List.length_cons, List.length_nil, Nat.reduceAdd, Nat.reduceSub, Array.replicate_succ, Array.replicate_zero, List.push_toArray, List.append_toArray, List.nil_append, List.cons_append]
  gi_wp2_with (fail)
  obtain ⟨W3, hW3⟩ : ∃ W3, W3 = ((w.alloc (Obj.cells #[Value.slice none 0 0] 56)).alloc (Obj.cells #[Value.bool false] 4)).alloc (Obj.cells #[Value.slice none 0 0] 56) := ⟨_, rfl⟩
  have hs3 : W3.heap.size = w.heap.size + 3 := by rw [hW3]; simp
  have bR : Boxed W3 w.heap.size 56 (.slice none 0 0) := by rw [hW3]; exact ((Boxed.new w _ _).alloc _).alloc _
  have bO : Boxed W3 (w.heap.size + 1) 4 (.bool false) := by
    rw [hW3]
    have := (Boxed.new (w.alloc (Obj.cells #[Value.slice none 0 0] 56)) 4 (.bool false)).alloc (Obj.cells #[Value.slice none 0 0] 56)
    simpa using this
  have bL : Boxed W3 (w.heap.size + 1 + 1) 56 (.slice none 0 0) := by
    rw [hW3]
    have := Boxed.new ((w.alloc (Obj.cells #[Value.slice none 0 0] 56)).alloc (Obj.cells #[Value.bool false] 4)) 56 (.slice none 0 0)
    simpa using this
  have hB3 : Below w.heap.size w W3 := by rw [hW3]; exact (((Below.refl _ _).alloc (Nat.le_refl _) _).alloc (by simp) _).alloc (by simp; omega) _
  rw [← hW3]
  clear hW3
  refine ⟨trivial, (callsIn_wide.2 (hI W3)).mono ?_⟩
  rintro e w4 ⟨rfl, mA, hb4⟩
  have bR4 : Boxed w4 _ _ _ := (hb4.block _ bR.lt).trans bR
  have bO4 : Boxed w4 _ _ _ := (hb4.block _ bO.lt).trans bO
  have bL4 : Boxed w4 _ _ _ := (hb4.block _ bL.lt).trans bL
  have hB4 := hB3.trans (hb4.mono hB3.size)
  have hO4 := hO.below hB4 hg
  have hlt4 := mA.lt
  clear bR bO bL hB3 hI
  replace hne := Lib.hid hne
  gi_wp2_with (fail)
  have hPI0 : PI code w ([] : List (Fin K)) w4 := ⟨⟨_, bL4, World.ownsRow_nil _ _ _ _⟩, bR4, bO4, by rw [hs3] at mA; exact mA, by simp⟩
  rw [hs3] at mA hlt4
  have hg4 := hO4.lt
  refine wpIn_rangeFunc_ownH rfl (by omega) (gf := 55) (lb := #[.pointer (some ⟨w.heap.size + 3, 0, none⟩)]) rfl trivial (enters_of Tryd.func55 (by kernel_rfl) rfl)
    (instr1_stops _ (w.heap.size + 3) K code w4 hK (by omega) hlt4 hg4 hO4 (mA.cell rfl)) keepB_t (keepB_b hlt4 hg4) (Below.refl _ _) (fun _ => rfl)
    (fun pre W => PI code w pre W ∧ Below w.heap.size w W)
    (fun c _ W => (c = .ret ∧ PX code w K W) ∧ Below w.heap.size w W)
    (OwnFrom.and (Own.from (PI.own code w K) _) (ownFrom_below (Nat.le_refl _) (by omega)))
    (fun c => OwnFrom.and (OwnFrom.and (ownFrom_pure _ (fun _ => c = Code.ret)) (Own.from (PX.own code w K) _)) (ownFrom_below (Nat.le_refl _) (by omega)))
    ⟨hPI0, hB4⟩
    (fun x a' W => ∃ Bx, w.heap.size + 3 < Bx ∧ Arr W Bx 66 (insC (evAt code x.1).1) ∧ a' = { tmps := #[.string (str code), undef, .pointer (some ⟨w.heap.size, 0, none⟩), .pointer (some ⟨w.heap.size + 1, 0, none⟩), .pointer (some ⟨w.heap.size + 1 + 1, 0, none⟩), .pointer (some ⟨Bx, 0, none⟩), .bool (evAt code x.1).2, undef, undef, undef, undef, .string (str code), .bool false, .bool false, .string (str code), .int .i64 (code.length : Int), .bool false, .bool false, .string (str code), .func (.func 55) #[] #[.pointer (some ⟨w.heap.size + 3, 0, none⟩)], .agg #[.int .i64 ((evAt code x.1).1.off : Int), .int .i64 ((evAt code x.1).1.op : Int), .int .i64 ((evAt code x.1).1.opd : Int), .int .i64 0], .bool (evAt code x.1).2, undef, undef, undef, undef, undef, undef, undef, undef, undef, undef, undef, undef, undef, undef, undef, undef, undef, undef, undef, undef, undef, undef, undef, undef, undef, undef, undef, undef, undef, undef, undef, undef, undef, undef, undef, undef], defers := [] })
    ?own ?assign ?body ?done ?stop
  case own =>
    intro x a' s A B row hs hgr hr
    obtain ⟨Bx, hBx, hA, ha⟩ := hs
    refine ⟨Bx, hBx, (hgr.block Bx hA.lt (fun e => ?_)).trans hA, ha⟩
    obtain ⟨_, o, ho, hc⟩ := hr Bx e.symm
    rw [show A.heap[Bx]? = _ from hA] at ho; injection ho with ho; subst ho; cases hc
  case assign =>
    rintro l pre x W Kc ⟨hPI, hB⟩ hKc
    have hlx := hPI.txt.lt
    have hgx : 3 < W.heap.size := by have := hB.size; omega
    unfold insAgg
    gi_wp2
    refine hKc _ _ (keepsFrom_below ((Below.refl _ _).alloc (Nat.le_refl _) _)) (KeepB.of_below ((Below.refl _ _).alloc (Nat.le_refl _) _) hlx hgx) ⟨hPI.below ((Below.refl _ _).alloc (Nat.le_refl _) _), hB.alloc hB.size _⟩ ⟨W.heap.size, hlx, Arr.new rfl rfl, rfl⟩
  case body =>
    rintro l pre x a' W hl ⟨r, hr⟩ ⟨hPI, hB⟩ ⟨Bx, hBx, hA, rfl⟩ hlt
    obtain ⟨v, hv, hrow⟩ := hPI.row
    have hres := hPI.res
    have hok := hPI.ok
    have htxt := hPI.txt
    have hall := hPI.all
    have hlx := hPI.txt.lt
    have hgx : 3 < W.heap.size := by have := hB.size; omega
    cases hx : (evAt code x.1).2 with
    | false =>
      have c1 := hres.cell
      have f1 := hres.frozen
      have c2 := hok.cell
      have f2 := hok.frozen
      gi_wp2
      exact ⟨((KeepsOthers.setCell _ _ _).trans (KeepsOthers.setCell _ _ _)).from _, ⟨rfl, ⟨x, hx⟩, Boxed.other (hres.set _) (by omega) _, (Boxed.other hok (by omega) _).set _⟩, (hB.setCell (p := ⟨w.heap.size, 0, none⟩) (Nat.le_refl _) _).setCell (p := ⟨w.heap.size + 1, 0, none⟩) (by simp) _⟩
    | true =>
      have cv := hv.cell
      have fv := hv.frozen
      unfold insC at hA
      have q0 := hA.cell (j := 0) rfl
      have q1 := hA.cell (j := 1) rfl
      have q2 := hA.cell (j := 2) rfl
      have q3 := hA.cell (j := 3) rfl
      obtain ⟨v', w1, hrun, hown', hgrow⟩ := append_ins (W.alloc (.cells #[.int .i64 ((evAt code x.1).1.off : Int), .int .i64 ((evAt code x.1).1.op : Int), .int .i64 ((evAt code x.1).1.opd : Int), .int .i64 0] 66)) w.heap.size v (come code pre) (evAt code x.1).1 (own_below hrow ((Below.refl _ _).alloc (Nat.le_refl _) _)) W.heap.size (Arr.new rfl rfl) (by simp [come]; omega) (by have := hB.size; simp; omega)
      rw [List.length_append, List.length_singleton] at hown'
      obtain ⟨g', cap', rfl⟩ := ownsRow_succ hown'
      obtain ⟨hv1, hv2, hr2, hk2, hb2⟩ := hv.appended (by decide) hrow hB.size (by omega) hown' hgrow
      have hc1 := hv1.cell
      have hf1 := hv1.frozen
      replace hrun := Lib.hid hrun
      gi_wp2_with (gi_at_builtin; refine wpListIn_append_known rfl _ _ _ _ rfl _ _ rfl rfl hrun.out ?_)
      have hkeep : ∀ {b t u}, Boxed W b t u → t ≠ 66 → b ≠ w.heap.size + 1 + 1 → Boxed (w1.setCell ⟨w.heap.size + 1 + 1, 0, none⟩ (.slice (some ⟨g', 0, none⟩) ((come code pre).length + 1) cap')) b t u := fun {b t u} h ht hne => Boxed.other ((h.alloc _).kept hgrow (h.not_row ht hrow)) hne _
      have hcm : come code (pre ++ [x]) = come code pre ++ [(evAt code x.1).1] := by simp [come]
      refine ⟨hk2.from _, ⟨(hkeep htxt (by decide) (by omega)).trans htxt.symm, hb2.block _ hg⟩, ⟨⟨_, hv2, ?_⟩, hkeep hres (by decide) (by omega), hkeep hok (by decide) (by omega), hkeep htxt (by decide) (by omega), ?_⟩, hB.trans hb2⟩
      · rw [hcm, List.length_append, List.length_singleton]
        exact hr2
      · intro y hy
        rcases List.mem_append.1 hy with hy | hy
        · exact hall y hy
        · rw [List.mem_singleton.1 hy]
          exact hx
  case done =>
    rintro D ys W hD rfl ⟨hPI, hB⟩ hKD
    obtain ⟨v, hv, hrow⟩ := hPI.row
    have hdec := done_dec code K hK hPI.all
    have hne0 : (come code (List.finRange K)).length ≠ 0 := by
      simp only [come, List.length_map, List.length_finRange]
      intro e
      rw [e] at hK
      have := evSeq_pos code h1
      omega
    have hK2 : (come code (List.finRange K)).length ≤ 1024 := by simp [come]; omega
    generalize come code (List.finRange K) = L at *
    obtain ⟨g, cap, cur, rfl, hbg, hgb, hnc, hcm, hcs, hct⟩ : ∃ g cap cur, v = .slice (some ⟨g, 0, none⟩) L.length cap ∧ w.heap.size ≤ g ∧ W.heap[g]? = some (.cells cur 66 (0, 0)) ∧ L.length ≤ cap ∧ cap ≤ maxLen ∧ cur.size = cap * 4 ∧ cur.toList.take (L.length * 4) = insL L := by
      rcases hrow.2 with ⟨_, h0⟩ | h
      · exact absurd h0 hne0
      · exact h
    have hR : InsRow W g 0 L (tosK L 0) := insRow_of_cur hgb hct
    have hLaid := dec_laid _ code (Nat.le_refl _) _ _ hdec
    have hres := hPI.res
    have hok := hPI.ok
    have hOW := hO.below hB hg
    have hgW := hOW.lt
    have cv := hv.cell
    clear hrow hPI hct hK
    gi_wp2
    refine wpIn_wide.2 ?_
    go_loopw [30] (fun i wr => ∃ k : Nat, k ≤ L.length ∧ i = .int .i64 (k : Int) ∧ Hid (PL w L g cap D k wr)) (fun i _ => L.length - (intOf i).toNat)
    case atStart => exact ⟨0, Nat.zero_le _, rfl, (show Hid _ from ⟨⟨cur, hgb⟩, hR, hKD, hres, hok, hv, hB, fun i hi => absurd hi (Nat.not_lt_zero _)⟩)⟩
    case round =>
      obtain ⟨k, hk, rfl, hPL⟩ := hrel
      clear hres hok hv cv hOW hR hgb hKD hB
      have hPL' := hPL.out
      have cR := hPL'.res.cell
      have fR := hPL'.res.frozen
      have cO := hPL'.ok.cell
      have fO := hPL'.ok.frozen
      have cL := hPL'.lst.cell
      by_cases hlt : k < L.length
      · have hd : decide ((k : Int) < (L.length : Int)) = true := by simpa using hlt
        obtain ⟨m0, m1, m2, m3⟩ := hPL'.row k hlt
        simp only [Nat.zero_add] at m0 m1 m2 m3
        rw [tosK, if_neg (Nat.lt_irrefl k)] at m3
        have hOr := hO.below hPL'.bel hg
        have ho12 := hLaid.ops k hlt
        have hled := hPL'.ledd
        obtain ⟨z, hz⟩ : ∃ z, z = L[k]! := ⟨_, rfl⟩
        rw [← hz] at m0 m1 m2 ho12
        have hkd := kind_any z.off z.op z.opd 0 wr ho12 hOr hOr.lt
        unfold insAgg opVals at hkd
        have hfd := fun W => field_lead (.string (str (opName z.op))) (.int .i64 (takesOp z.op : Nat)) (.int .i64 (putsOp z.op : Nat)) (.bool (longOp z.op)) (.bool (leadOp z.op)) W
        replace hz := Lib.hid hz
        replace hled := Lib.hid hled
        cases hl : leadOp z.op with
        | false =>
          rw [hl] at hkd hfd
          replace hkd := Lib.hid hkd
          replace hl := Lib.hid hl
          go_wp2_with fail
          refine hkd.out.mono ?_
          rintro e w2 ⟨rfl, hb2⟩
          have hPL2 := hPL'.below hb2
          go_wp2_with fail
          obtain ⟨p1, p2, p3, p4, p5, p6, p7, p8⟩ := hPL2
          refine ⟨⟨k + 1, by omega, by go_num, (show Hid _ from ⟨p1, insRow_skip p2 (by rw [← hz.out]; exact hl.out), p3, p4, p5, p6, p7, fun i hi hli => ?_⟩)⟩, by simp [intOf]; omega⟩
          by_cases e : i = k
          · subst e
            rw [← hz.out, hl.out] at hli
            cases hli
          · exact p8 i (by omega) hli
        | true =>
          rw [hl] at hkd hfd
          replace hkd := Lib.hid hkd
          replace hl := Lib.hid hl
          go_wp2_with fail
          refine hkd.out.mono ?_
          rintro e w2 ⟨rfl, hb2⟩
          have hPL2 := hPL'.below hb2
          obtain ⟨d0, d1, d2, d3⟩ := hPL2.row k hlt
          simp only [Nat.zero_add] at d0 d1 d2 d3
          rw [← hz.out] at d0 d1 d2
          have cL2 := hPL2.lst.cell
          obtain ⟨cur2, hcu2⟩ := hPL2.blk
          have hsr : Hid (∀ W : World, W.heap = w2.heap → _) := fun W hW => search_any g 0 cap L (tosK L k) z.opd W (by omega) hLaid (fun i hi => by have := (dec_bnd hdec hi).1; omega) (by have := (dec_bnd hdec hlt).2; rw [← hz.out] at this; omega) (by rw [hW]; exact (Array.getElem?_eq_some_iff.1 hcu2).1) (hPL2.row.keep (by rw [hW]))
          have hKc : Hid (∀ W : World, Below w2.heap.size w2 W → W.cell? ⟨w.heap.size + 1 + 1, 0, none⟩ = some (.slice (some ⟨g, 0, none⟩) L.length cap) ∧ W.cell? ⟨g, k * 4 + 2, none⟩ = some (.int .i64 (z.opd : Int))) := fun W hW => by
            have h := hPL2.below hW
            have h2 := (h.row k hlt).2.2.1
            rw [Nat.zero_add, ← hz.out] at h2
            exact ⟨h.lst.cell, h2⟩
          clear hkd m0 m1 m2 m3 cR fR cO fO cL
          go_wp2_with fail
          refine wp_norm ?_
          refine wp_region_held_drew (S := fun w' => w'.cell? ⟨w.heap.size + 1 + 1, 0, none⟩ = some (.slice (some ⟨g, 0, none⟩) L.length cap) ∧ w'.cell? ⟨g, k * 4 + 2, none⟩ = some (.int .i64 (z.opd : Int))) (by kernel_rfl) (by exact ⟨cL2, d2⟩) (fun hHeld => ?_)
          refine take_l (i := 0) (v := ?_) rfl (by kernel_rfl) (by kernel_rfl) (by kernel_rfl) (fun _ _ _ h => h) (Or.inl ⟨by kernel_rfl, ?_⟩) (by assumption) ?_
          rotate_left
          · intro w hSw; (try dsimp only at hSw); go_simp; (try with_reducible rfl)
          (try simp only [Act.put, List.setIfInBounds_toArray, List.set_cons_zero, List.set_cons_succ])
          refine take_l (i := 1) (v := ?_) rfl (by kernel_rfl) (by kernel_rfl) (by kernel_rfl) (fun _ _ _ h => h) (Or.inl ⟨by kernel_rfl, ?_⟩) (by assumption) ?_
          rotate_left
          · intro w hSw; (try dsimp only at hSw); go_simp; (try with_reducible rfl)
          (try simp only [Act.put, List.setIfInBounds_toArray, List.set_cons_zero, List.set_cons_succ])
          refine take_l (i := 2) (v := ?_) rfl (by kernel_rfl) (by kernel_rfl) (by kernel_rfl) (fun _ _ _ h => h) (Or.inl ⟨by kernel_rfl, ?_⟩) (by assumption) ?_
          rotate_left
          · intro w hSw; (try dsimp only at hSw); go_simp; (try with_reducible rfl)
          (try simp only [Act.put, List.setIfInBounds_toArray, List.set_cons_zero, List.set_cons_succ])
          refine take_l (i := 3) (v := ?_) rfl (by kernel_rfl) (by kernel_rfl) (by kernel_rfl) (fun _ _ _ h => h) (Or.inl ⟨by kernel_rfl, ?_⟩) (by assumption) ?_
          rotate_left
          · intro w hSw; (try dsimp only at hSw); go_simp; (try with_reducible rfl)
          (try simp only [Act.put, List.setIfInBounds_toArray, List.set_cons_zero, List.set_cons_succ])
          refine take_l (i := 4) (v := ?_) rfl (by kernel_rfl) (by kernel_rfl) (by kernel_rfl) (fun _ _ _ h => h) (Or.inl ⟨by kernel_rfl, ?_⟩) (by assumption) ?_
          rotate_left
          · intro w hSw; (try dsimp only at hSw); go_simp; (try with_reducible rfl)
          (try simp only [Act.put, List.setIfInBounds_toArray, List.set_cons_zero, List.set_cons_succ])
          refine wpAnyH_ready (rs := [5]) (by kernel_rfl) (by simp) ?_
          refine ready_l rfl (fun K hK => ?_) AllReadyH.nil
          go_simp
          (go_at_call 47; (with_reducible refine (hsr.out w2.drew rfl).mono ?_); rintro e vA ⟨j, rfl, hj, hbvA⟩; have hBvA : Below w2.heap.size w2 vA := Below.trans (by repeat first | with_reducible exact Below.refl _ _ | with_reducible assumption | with_reducible refine below_drewN ?_ _ | with_reducible refine Below.drew ?_ | with_reducible refine Below.setCell ?_ (by first | exact Nat.le_refl _ | (simp; done) | (simp; omega) | omega) _ | with_reducible refine Below.alloc ?_ (by first | exact Nat.le_refl _ | (simp; done) | (simp; omega) | omega) _ | exact Below.refl _ _ | assumption) (hbvA.mono (by first | exact Nat.le_refl _ | assumption | (simp; done) | (simp; omega) | omega)); have hzvA := hbvA.size; )
          refine hK.out _ _ (by exact hKc.out _ hBvA) (fun hHeld => ?_)
          clear hK K
          (try simp only [Act.put, List.setIfInBounds_toArray, List.set_cons_zero, List.set_cons_succ])
          refine take_l (i := 6) (v := ?_) rfl (by kernel_rfl) (by kernel_rfl) (by kernel_rfl) (fun _ _ _ h => h) (Or.inl ⟨by kernel_rfl, ?_⟩) (by assumption) ?_
          rotate_left
          · intro w hSw; (try dsimp only at hSw); go_simp; (try with_reducible rfl)
          (try simp only [Act.put, List.setIfInBounds_toArray, List.set_cons_zero, List.set_cons_succ])
          refine take_l (i := 7) (v := ?_) rfl (by kernel_rfl) (by kernel_rfl) (by kernel_rfl) (fun _ _ _ h => h) (Or.inl ⟨by kernel_rfl, ?_⟩) (by assumption) ?_
          rotate_left
          · intro w hSw; (try dsimp only at hSw); go_simp; (try with_reducible rfl)
          (try simp only [Act.put, List.setIfInBounds_toArray, List.set_cons_zero, List.set_cons_succ])
          refine take_l (i := 8) (v := ?_) rfl (by kernel_rfl) (by kernel_rfl) (by kernel_rfl) (fun _ _ _ h => h) (Or.inl ⟨by kernel_rfl, ?_⟩) (by assumption) ?_
          rotate_left
          · intro w hSw; (try dsimp only at hSw); go_simp; (try with_reducible rfl)
          (try simp only [Act.put, List.setIfInBounds_toArray, List.set_cons_zero, List.set_cons_succ])
          refine take_l (i := 9) (v := ?_) rfl (by kernel_rfl) (by kernel_rfl) (by kernel_rfl) (fun _ _ _ h => h) (Or.inl ⟨by kernel_rfl, ?_⟩) (by assumption) ?_
          rotate_left
          · intro w hSw; (try dsimp only at hSw); go_simp; (try with_reducible rfl)
          (try simp only [Act.put, List.setIfInBounds_toArray, List.set_cons_zero, List.set_cons_succ])
          refine take_l (i := 10) (v := ?_) rfl (by kernel_rfl) (by kernel_rfl) (by kernel_rfl) (fun _ _ _ h => h) (Or.inl ⟨by kernel_rfl, ?_⟩) (by assumption) ?_
          rotate_left
          · intro w hSw; (try dsimp only at hSw); go_simp; (try with_reducible rfl)
          (try simp only [Act.put, List.setIfInBounds_toArray, List.set_cons_zero, List.set_cons_succ])
          refine wpAnyH_done (by kernel_rfl) ?_ _
          dsimp only [onlyNormal]
          have hPLA := hPL2.below hBvA
          have aR := hPLA.res.cell
          have fR := hPLA.res.frozen
          have aO := hPLA.ok.cell
          have fO := hPLA.ok.frozen
          obtain ⟨a0, a1, a2, a3⟩ := hPLA.row k hlt
          simp only [Nat.zero_add] at a0 a1 a2 a3
          obtain ⟨curA, hcuA⟩ := hPLA.blk
          have fA := frozen_of_row vA g (k * 4 + 3) curA 66 hcuA
          have hll : leadOp L[k]!.op = true := by rw [← hz.out]; exact hl.out
          replace hll := Lib.hid hll
          cases hix : idxOf L z.opd with
          | none =>
            have hno := formed_nolead hdec hlt hll.out (by rw [← hz.out]; exact hix)
            replace hix := Lib.hid hix
            have r2 : Boxed ((vA.setCell ⟨w.heap.size, 0, none⟩ (.slice none 0 0)).setCell ⟨w.heap.size + 1, 0, none⟩ (.bool false)) w.heap.size 56 (.slice none 0 0) := Boxed.other (hPLA.res.set _) (by omega) _
            have o2 : Boxed ((vA.setCell ⟨w.heap.size, 0, none⟩ (.slice none 0 0)).setCell ⟨w.heap.size + 1, 0, none⟩ (.bool false)) (w.heap.size + 1) 4 (.bool false) := (Boxed.other hPLA.ok (by omega) _).set _
            have hb2 : Below w.heap.size w ((vA.setCell ⟨w.heap.size, 0, none⟩ (.slice none 0 0)).setCell ⟨w.heap.size + 1, 0, none⟩ (.bool false)) := (hPLA.bel.setCell (p := ⟨w.heap.size, 0, none⟩) (Nat.le_refl _) _).setCell (p := ⟨w.heap.size + 1, 0, none⟩) (by simp) _
            have hmk : ((vA.setCell ⟨w.heap.size, 0, none⟩ (.slice none 0 0)).setCell ⟨w.heap.size + 1, 0, none⟩ (.bool false)).heap[D]? = some (.deferred (some [])) := ((KeepsOthers.setCell _ _ _).trans (KeepsOthers.setCell _ _ _)).same D _ hPLA.mark rfl
            replace hno := Lib.hid hno
            go_wp2_with fail
            gi_wp2_with fail
            generalize (vA.setCell ⟨w.heap.size, 0, none⟩ (.slice none 0 0)).setCell ⟨w.heap.size + 1, 0, none⟩ (.bool false) = wz at *
            have hgr := grownBy_putObj' wz D (.deferred none)
            have hrK : ∀ {b t u}, Boxed wz b t u → (wz.putObj D (.deferred none)).cell? ⟨b, 0, none⟩ = some u := fun {b t u} h => (arr_kept' h hgr (fun r e => by cases e; exact ⟨_, hmk, rfl⟩)).cell
            have c0 := hrK r2
            have c1 := hrK o2
            refine ⟨by simp, .inl ⟨_, _, rfl, run_takeDeferred hmk, ?_⟩⟩
            have hpost : ProgPost code w (.returned (.tuple #[.slice none 0 0, .bool false])) (wz.putObj D (.deferred none)) := ⟨fun l h => (by rw [hno.out] at h; cases h), fun _ => rfl, hb2.trans (belowK_b (w := w) (Nat.le_refl _) wz D _ _ (by omega) hmk rfl rfl)⟩
            exact ⟨_, (by simp [results, Tryd.f34, go_sem, c0, c1]), hpost⟩
          | some j' =>
            obtain rfl := hj j' hix
            have hto : j = toOf L L[k]! := by rw [toOf, hll.out, if_pos rfl, ← hz.out, hix]; rfl
            have hsome : ∃ j, idxOf L L[k]!.opd = some j := ⟨j, by rw [← hz.out]; exact hix⟩
            replace hto := Lib.hid hto
            replace hsome := Lib.hid hsome
            replace hix := Lib.hid hix
            go_wp2_with fail
            have hne1 : ∀ {b t u}, Boxed vA b t u → t ≠ 66 → Boxed (vA.setCell ⟨g, k * 4 + 3, none⟩ (.int .i64 (j : Int))) b t u := fun {b t u} h ht =>
              (heap_setCell_other _ _ _ _ (by
                intro e
                simp only at e
                unfold Boxed at h
                rw [e, hcuA] at h
                injection h with h
                injection h with _ h _
                exact ht h.symm)).trans h
            have hmk : (vA.setCell ⟨g, k * 4 + 3, none⟩ (.int .i64 (j : Int))).heap[D]? = some (.deferred (some [])) := (KeepsOthers.setCell _ _ _).same D _ hPLA.mark rfl
            refine ⟨⟨k + 1, by omega, by go_num, (show Hid _ from ⟨⟨_, cell_setRow_ok hcuA _⟩, insRow_set hPLA.row hlt hto.out, hmk, hne1 hPLA.res (by decide), hne1 hPLA.ok (by decide), hne1 hPLA.lst (by decide), hPLA.bel.setCell (p := ⟨g, k * 4 + 3, none⟩) hbg _, fun i hi hli => ?_⟩)⟩, by simp [intOf]; omega⟩
            by_cases e : i = k
            · subst e
              exact hsome.out
            · exact hPLA.ledd i (by omega) hli
      · have hd : decide ((k : Int) < (L.length : Int)) = false := by simpa using hlt
        obtain rfl : k = L.length := by omega
        have hform := formed_mk h1 h2 hdec hPL'.ledd
        obtain ⟨hblk, hrow, hmark, hres, hok, hlst, hbel, _⟩ := hPL'
        obtain ⟨cur, hcu⟩ := hblk
        have r2 : Boxed ((wr.setCell ⟨w.heap.size, 0, none⟩ (.slice (some ⟨g, 0, none⟩) L.length cap)).setCell ⟨w.heap.size + 1, 0, none⟩ (.bool true)) w.heap.size 56 (.slice (some ⟨g, 0, none⟩) L.length cap) := Boxed.other (hres.set _) (by omega) _
        have o2 : Boxed ((wr.setCell ⟨w.heap.size, 0, none⟩ (.slice (some ⟨g, 0, none⟩) L.length cap)).setCell ⟨w.heap.size + 1, 0, none⟩ (.bool true)) (w.heap.size + 1) 4 (.bool true) := (Boxed.other hok (by omega) _).set _
        have hb2 : Below w.heap.size w ((wr.setCell ⟨w.heap.size, 0, none⟩ (.slice (some ⟨g, 0, none⟩) L.length cap)).setCell ⟨w.heap.size + 1, 0, none⟩ (.bool true)) := (hbel.setCell (p := ⟨w.heap.size, 0, none⟩) (Nat.le_refl _) _).setCell (p := ⟨w.heap.size + 1, 0, none⟩) (by simp) _
        replace hform := Lib.hid hform
        go_wp2_with fail
        gi_wp2_with fail
        have hmk : ((wr.setCell ⟨w.heap.size, 0, none⟩ (.slice (some ⟨g, 0, none⟩) L.length cap)).setCell ⟨w.heap.size + 1, 0, none⟩ (.bool true)).heap[D]? = some (.deferred (some [])) := ((KeepsOthers.setCell _ _ _).trans (KeepsOthers.setCell _ _ _)).same D _ hmark rfl
        have hgk : ((wr.setCell ⟨w.heap.size, 0, none⟩ (.slice (some ⟨g, 0, none⟩) L.length cap)).setCell ⟨w.heap.size + 1, 0, none⟩ (.bool true)).heap[g]? = wr.heap[g]? := by
          have e1 : g ≠ w.heap.size := fun e => by
            rw [e, show wr.heap[w.heap.size]? = _ from hres] at hcu
            injection hcu with hcu
            injection hcu with _ hcu _
            exact absurd hcu (by decide)
          have e2 : g ≠ w.heap.size + 1 := fun e => by
            rw [e, show wr.heap[w.heap.size + 1]? = _ from hok] at hcu
            injection hcu with hcu
            injection hcu with _ hcu _
            exact absurd hcu (by decide)
          rw [heap_setCell_other _ _ _ _ (by simpa using e2), heap_setCell_other _ _ _ _ (by simpa using e1)]
        have hrg := hrow.keep hgk
        generalize (wr.setCell ⟨w.heap.size, 0, none⟩ (.slice (some ⟨g, 0, none⟩) L.length cap)).setCell ⟨w.heap.size + 1, 0, none⟩ (.bool true) = wz at *
        have hgr := grownBy_putObj' wz D (.deferred none)
        have hrK : ∀ {b t u}, Boxed wz b t u → (wz.putObj D (.deferred none)).cell? ⟨b, 0, none⟩ = some u := fun {b t u} h => (arr_kept' h hgr (fun r e => by cases e; exact ⟨_, hmk, rfl⟩)).cell
        have c0 := hrK r2
        have c1 := hrK o2
        have hgD : g ≠ D := fun e => by
          rw [e, hmark] at hcu
          cases hcu
        refine ⟨by simp, .inl ⟨_, _, rfl, run_takeDeferred hmk, ?_⟩⟩
        have hpost : ProgPost code w (.returned (.tuple #[.slice (some ⟨g, 0, none⟩) L.length cap, .bool true])) (wz.putObj D (.deferred none)) := by
          refine ⟨fun l h => ?_, fun h => ?_, hb2.trans (belowK_b (w := w) (Nat.le_refl _) wz D _ _ (by omega) hmk rfl rfl)⟩
          · rw [hform.out] at h
            injection h with h
            subst h
            have hgz := hgk.trans hcu
            have hput := World.putObj_heap_other (w := wz) (o := .deferred none) hgD
            refine ⟨g, cap, rfl, hbg, (Array.getElem?_eq_some_iff.1 (hput.trans hgz)).1, hnc, hcm, ?_⟩
            have := hrg.keep hput
            intro i hi
            have := this i hi
            rw [tosK, if_pos hi] at this
            exact this
          · rw [hform.out] at h
            cases h
        exact ⟨_, (by simp [results, Tryd.f34, go_sem, c0, c1]), hpost⟩
  case stop =>
    rintro D c pre W hD _ ⟨⟨rfl, hPX⟩, hB⟩ hKD
    obtain ⟨⟨x, hx⟩, hres, hok⟩ := hPX
    have hno := formed_nodec (stop_dec code K hK x hx)
    gi_wp2
    have hgr := grownBy_putObj' W D (.deferred none)
    have hrK : ∀ {b t u}, Boxed W b t u → (W.putObj D (.deferred none)).cell? ⟨b, 0, none⟩ = some u := fun {b t u} h => (arr_kept' h hgr (fun r e => by cases e; exact ⟨_, hKD, rfl⟩)).cell
    have c0 := hrK hres
    have c1 := hrK hok
    refine ⟨by simp, .inl ⟨_, _, rfl, run_takeDeferred hKD, ?_⟩⟩
    have hpost : ProgPost code w (.returned (.tuple #[.slice none 0 0, .bool false])) (W.putObj D (.deferred none)) := ⟨fun l h => (by rw [hno] at h; cases h), fun _ => rfl, hB.trans (belowK_b (w := w) (Nat.le_refl _) W D _ _ (by omega) hKD rfl rfl)⟩
    exact ⟨_, by simp [results, Tryd.f34, go_sem, c0, c1], hpost⟩
set_option maxRecDepth 100000 in
set_option maxHeartbeats 2000000 in
theorem program_any (code : List UInt8) (w : World) (hc : code.length ≤ 1000000) (hO : OpsIs w) :
    Calls Tryd.prog 34 #[.string (str code)] w fun e w' => ProgPost code w e w' := by
  by_cases h1 : code = []
  · have hne : (str code).toList.isEmpty = true := by rw [ByteArray.toList_eq, str_list, h1]; rfl
    have hno : Hid (formed code = none) := by show _ = _; unfold formed; rw [if_pos (.inl h1)]
    replace h1 := Lib.hid h1
    generalize str code = P at *
    have hB : Below w.heap.size w w := Below.refl _ _
    go_enter Tryd.func34, Tryd.ntmps34
    go_wp2_with fail
    refine bodyPost_ret (v := .tuple #[.slice none 0 0, .bool false]) (by simp [results, Tryd.f34, go_sem]) rfl ?_
    exact ⟨fun l h => (by rw [hno.out] at h; cases h), fun _ => rfl, (hB.alloc (Nat.le_refl _) _).alloc (by simp) _⟩
  · by_cases h2 : code.length ≤ 1024
    · exact callsIn_wide.1 (program_in code w h1 h2 hO)
    · have hne : (str code).toList.isEmpty = false := by rw [ByteArray.toList_eq, str_list]; simpa using h1
      have hno : Hid (formed code = none) := by show _ = _; unfold formed; rw [if_pos (.inr (by omega))]
      have hps : (str code).size = code.length := str_size code
      have hd : decide ((code.length : Int) > 1024) = true := by simp; omega
      have hgt : 1024 < (code.length : Int) := by omega
      replace h1 := Lib.hid h1
      generalize str code = P at *
      have hB : Below w.heap.size w w := Below.refl _ _
      go_enter Tryd.func34, Tryd.ntmps34
      go_wp2_with fail
      refine bodyPost_ret (v := .tuple #[.slice none 0 0, .bool false]) (by simp [results, Tryd.f34, go_sem]) rfl ?_
      exact ⟨fun l h => (by rw [hno.out] at h; cases h), fun _ => rfl, (hB.alloc (Nat.le_refl _) _).alloc (by simp) _⟩
end Go.Proofs.YtainohbfcehpoaaDoor
namespace Go.Proofs.YtainohbfcehpoaaDoor
open Go.RowKit Go.Shelf

theorem info_int : (Tryd.prog.info? 3).map (fun i => (i.zero, i.size, i.bytes)) = some (some (.int .i64 0), 1, 8) := by kernel_rfl
def natC (l : List Nat) : List Value := l.map fun n : Nat => Value.int .i64 (n : Int)
def intC (l : List Int) : List Value := l.map (Value.int .i64)
/-- What verified's variables hold while it works. -/
structure VS (b5 b7 b10 g cap dB n : Nat) (ds : List Int) (td : List Nat) (W : World) : Prop where
  lst : Boxed W b5 56 (.slice (some ⟨g, 0, none⟩) n cap)
  dep : Boxed W b7 31 (.slice (some ⟨dB, 0, none⟩) (n + 1) (n + 1))
  row : Arr W dB 3 (intC ds)
  tod : ∃ v, Boxed W b10 31 v ∧ W.ownsRow (dB + 1) 3 1 v td.length (natC td)
  len : ds.length = n + 1
structure KeepVS (dB : Nat) (W W' : World) : Prop where
  bel : Below dB W W'
  oth : ∀ (k : Nat) (cs : Array Value) (T : TypeId) (fr : Nat × Nat), W.heap[k]? = some (.cells cs T fr) → T ≠ 3 → T ≠ 31 → W'.heap[k]? = some (.cells cs T fr)
theorem KeepVS.refl (dB : Nat) (W : World) : KeepVS dB W W := ⟨Below.refl _ _, fun _ _ _ _ h _ _ => h⟩
theorem KeepVS.trans {dB : Nat} {A B C : World} (h : KeepVS dB A B) (k : KeepVS dB B C) : KeepVS dB A C := ⟨h.bel.trans k.bel, fun i cs T fr e h1 h2 => k.oth i cs T fr (h.oth i cs T fr e h1 h2) h1 h2⟩
theorem KeepVS.of_below {dB : Nat} {W W' : World} (h : Below W.heap.size W W') (hd : dB ≤ W.heap.size) : KeepVS dB W W' := ⟨h.mono hd, fun k _ _ _ e _ _ => (h.block k (Array.getElem?_eq_some_iff.1 e).1).trans e⟩
theorem KeepVS.set {dB b o : Nat} {W : World} {cs : Array Value} {T : TypeId} {fr : Nat × Nat} (u : Value) (hb : W.heap[b]? = some (.cells cs T fr)) (hT : T = 3 ∨ T = 31) (hd : dB ≤ b) : KeepVS dB W (W.setCell ⟨b, o, none⟩ u) :=
  ⟨(Below.refl _ _).setCell (p := ⟨b, o, none⟩) hd u, fun k cs' T' fr' e h1 h2 => (heap_setCell_other W ⟨b, o, none⟩ k u (by
    intro hk
    simp only at hk
    subst hk
    rw [hb] at e
    injection e with e
    injection e with _ e _
    subst e
    rcases hT with h | h
    · exact h1 h
    · exact h2 h)).trans e⟩
theorem KeepVS.arr {dB b : Nat} {W W' : World} {T : TypeId} {L : List Value} (h : KeepVS dB W W') (hA : Arr W b T L) (h1 : T ≠ 3) (h2 : T ≠ 31) : Arr W' b T L := h.oth _ _ _ _ hA h1 h2
theorem VS.below {b5 b7 b10 g cap dB n : Nat} {ds : List Int} {td : List Nat} {W W' : World} (h : VS b5 b7 b10 g cap dB n ds td W) (hb : Below W.heap.size W W') : VS b5 b7 b10 g cap dB n ds td W' := by
  obtain ⟨v, h1, h2⟩ := h.tod
  exact ⟨boxed_below h.lst hb, boxed_below h.dep hb, h.row.below hb, ⟨v, boxed_below h1 hb, own_below h2 hb⟩, h.len⟩
/-- A store into the row of depths. -/
theorem VS.setRow {b5 b7 b10 g cap dB n : Nat} {ds : List Int} {td : List Nat} {W : World} (h : VS b5 b7 b10 g cap dB n ds td W) (i : Nat) (d : Int) : VS b5 b7 b10 g cap dB n (ds.set i d) td (W.setCell ⟨dB, i, none⟩ (.int .i64 d)) := by
  obtain ⟨v, h1, h2⟩ := h.tod
  have hr := h.row
  have key : ∀ {b t u}, Boxed W b t u → t ≠ 3 → Boxed (W.setCell ⟨dB, i, none⟩ (.int .i64 d)) b t u := fun {b t u} hb ht =>
    (heap_setCell_other _ _ _ _ (by
      intro e
      simp only at e
      unfold Boxed at hb
      rw [e, show W.heap[dB]? = _ from hr] at hb
      injection hb with hb
      injection hb with _ hb _
      exact ht hb.symm)).trans hb
  refine ⟨key h.lst (by decide), key h.dep (by decide), ?_, ⟨v, key h1 (by decide), h2.1, ?_⟩, by simpa using h.len⟩
  · have := hr.set i (.int .i64 d)
    rw [intC, List.map_set]
    exact this
  · rcases h2.2 with hh | ⟨g', cap', cur, hv, hg1, hg2, r⟩
    · exact .inl hh
    · exact .inr ⟨g', cap', cur, hv, hg1, by rw [heap_setCell_other _ _ _ _ (by simp; omega)]; exact hg2, r⟩
/-- A store into the list's variable. -/
theorem VS.setTod {b5 b7 b10 g cap dB n : Nat} {ds : List Int} {td td' : List Nat} {W : World} {v' : Value} (h : VS b5 b7 b10 g cap dB n ds td W) (hne : b10 ≠ b7) (hv : W.ownsRow (dB + 1) 3 1 v' td'.length (natC td')) : VS b5 b7 b10 g cap dB n ds td' (W.setCell ⟨b10, 0, none⟩ v') := by
  obtain ⟨v, h1, h2⟩ := h.tod
  have key : ∀ {b t u}, Boxed W b t u → t ≠ 31 → Boxed (W.setCell ⟨b10, 0, none⟩ v') b t u := fun {b t u} hb ht =>
    (heap_setCell_other _ _ _ _ (by
      intro e
      simp only at e
      unfold Boxed at hb h1
      rw [e, h1] at hb
      injection hb with hb
      injection hb with _ hb _
      exact ht hb.symm)).trans hb
  refine ⟨key h.lst (by decide), Boxed.other h.dep (fun e => hne e.symm) _, ?_, ⟨v', h1.set v', hv.kept (grownBy_setCell' W b10 v') (.inr (h1.not_row (by decide) hv).symm)⟩, h.len⟩
  refine (heap_setCell_other _ _ _ _ ?_).trans h.row
  intro e
  simp only at e
  have hr := h.row
  unfold Arr at hr
  unfold Boxed at h1
  rw [e, h1] at hr
  injection hr with hr
  injection hr with _ hr _
  exact absurd hr (by decide)
theorem setCell_swap (W : World) {b c o p : Nat} {u v : Value} (h : b ≠ c) : (W.setCell ⟨b, o, none⟩ u).setCell ⟨c, p, none⟩ v = (W.setCell ⟨c, p, none⟩ v).setCell ⟨b, o, none⟩ u := by
  unfold World.setCell
  simp only [World.mk.injEq, and_true]
  apply Array.ext
  · simp
  · intro i h1 h2
    simp only [Array.getElem_modify]
    by_cases e1 : b = i
    · have e2 : ¬ c = i := fun e => h (e1.trans e.symm)
      simp [e1, e2]
    · by_cases e2 : c = i <;> simp [e1, e2]
theorem boxed_other' {W : World} {b c o : Nat} {t t' : TypeId} {v u : Value} {L : List Value} (h : Boxed W b t v) (hA : Arr W c t' L) (ht : t ≠ t') : Boxed (W.setCell ⟨c, o, none⟩ u) b t v :=
  (heap_setCell_other _ _ _ _ (by
    intro e
    simp only at e
    unfold Boxed at h
    unfold Arr at hA
    rw [e, hA] at h
    injection h with h
    injection h with _ h _
    exact ht h.symm)).trans h
/-- append of a number onto the list, and the two stores behind it. -/
theorem append_num {b5 b7 b10 g cap dB n : Nat} {ds : List Int} {td : List Nat} {W : World} (h : VS b5 b7 b10 g cap dB n ds td W) (hne : b10 ≠ b7) (hb10 : dB ≤ b10) {v : Value} (h1 : Boxed W b10 31 v) (h2 : W.ownsRow (dB + 1) 3 1 v td.length (natC td)) (i j : Nat) (d : Int) (hl : td.length ≤ 1000000) :
    ∃ v' wN, (Builtin.append_ #[31, 31] 31 #[v, .slice (some ⟨W.heap.size, 0, none⟩) 1 1]).run Tryd.prog (W.alloc (.cells #[.int .i64 (i : Int)] 3)) = .ok v' wN ∧
      (Boxed wN b7 31 (.slice (some ⟨dB, 0, none⟩) (n + 1) (n + 1)) ∧ Arr wN dB 3 (intC ds) ∧ Boxed wN b10 31 v) ∧ (∃ a c, v' = .slice (some a) (td.length + 1) c) ∧
      VS b5 b7 b10 g cap dB n (ds.set j d) (td ++ [i]) ((wN.setCell ⟨dB, j, none⟩ (.int .i64 d)).setCell ⟨b10, 0, none⟩ v') ∧
      KeepVS dB W ((wN.setCell ⟨dB, j, none⟩ (.int .i64 d)).setCell ⟨b10, 0, none⟩ v') := by
  have hdB := h.row.lt
  have hal : Below W.heap.size W (W.alloc (.cells #[.int .i64 (i : Int)] 3)) := (Below.refl _ _).alloc (Nat.le_refl _) _
  have hA : Arr (W.alloc (.cells #[.int .i64 (i : Int)] 3)) W.heap.size 3 [.int .i64 (i : Int)] := Arr.new rfl rfl
  have hal2 := h.below hal
  have h1' := boxed_below h1 hal
  have h2' := own_below h2 hal
  have hsz : dB + 1 ≤ (W.alloc (.cells #[.int .i64 (i : Int)] 3)).heap.size := by simp; omega
  obtain ⟨i0, hi, hz0, hz1, hz2⟩ := info_parts info_int
  obtain ⟨v', wN, hrun, r1, r2, r3, _⟩ := run_append_own_at (P := Tryd.prog) (W.alloc (.cells #[.int .i64 (i : Int)] 3)) (dB + 1) 31 31 3 i0 (.int .i64 0) 1 8 Tryd.underlying31 hi hz0 hz1 hz2 rfl (by decide) v td.length (natC td) h2' ⟨W.heap.size, 0, none⟩ 1 1 [.int .i64 (i : Int)] rfl (fun j u hu => by rw [Addr.add_mid, Nat.zero_add]; exact hA.cell hu) (by simp [Value.oneCell']) (by unfold maxLen; omega) (by omega) hsz
  generalize W.alloc (.cells #[.int .i64 (i : Int)] 3) = Wa at *
  have hown : wN.ownsRow (dB + 1) 3 1 v' (td ++ [i]).length (natC (td ++ [i])) := by
    rw [List.length_append, natC, List.map_append]
    exact r1
  have key : ∀ {b t u}, Boxed Wa b t u → t ≠ 3 → Boxed wN b t u := fun {b t u} hb ht => hb.kept r2 (hb.not_row ht h2')
  have hlow : ∀ k, k ≤ dB → wN.heap[k]? = Wa.heap[k]? := fun k hk => r2.block k (by omega) (fun e => by have := (h2'.lt k e.symm).1; omega)
  have hrow : Arr wN dB 3 (intC ds) := (hlow dB (Nat.le_refl _)).trans hal2.row
  obtain ⟨g', cap', rfl⟩ := ownsRow_succ r1
  have hN7 := key hal2.dep (by decide)
  have hN10 := key h1' (by decide)
  have hV : VS b5 b7 b10 g cap dB n ds (td ++ [i]) (wN.setCell ⟨b10, 0, none⟩ (.slice (some ⟨g', 0, none⟩) (td.length + 1) cap')) := by
    have keyB : ∀ {b t u}, Boxed wN b t u → t ≠ 31 → Boxed (wN.setCell ⟨b10, 0, none⟩ (.slice (some ⟨g', 0, none⟩) (td.length + 1) cap')) b t u := fun {b t u} hb ht =>
      (heap_setCell_other _ _ _ _ (by
        intro e
        simp only at e
        unfold Boxed at hb hN10
        rw [e, hN10] at hb
        injection hb with hb
        injection hb with _ hb _
        exact ht hb.symm)).trans hb
    refine ⟨keyB (key hal2.lst (by decide)) (by decide), Boxed.other hN7 (fun e => hne e.symm) _, ?_, ⟨_, hN10.set _, hown.kept (grownBy_setCell' wN b10 _) (.inr (hN10.not_row (by decide) hown).symm)⟩, h.len⟩
    refine (heap_setCell_other _ _ _ _ ?_).trans hrow
    intro e
    simp only at e
    unfold Arr at hrow
    unfold Boxed at hN10
    rw [e, hN10] at hrow
    injection hrow with hrow
    injection hrow with _ hrow _
    exact absurd hrow (by decide)
  have hswap : (wN.setCell ⟨dB, j, none⟩ (.int .i64 d)).setCell ⟨b10, 0, none⟩ (.slice (some ⟨g', 0, none⟩) (td.length + 1) cap') = (wN.setCell ⟨b10, 0, none⟩ (.slice (some ⟨g', 0, none⟩) (td.length + 1) cap')).setCell ⟨dB, j, none⟩ (.int .i64 d) := by
    have hne2 : b10 ≠ dB := fun e => by
      unfold Arr at hrow
      unfold Boxed at hN10
      rw [← e, hN10] at hrow
      injection hrow with hrow
      injection hrow with _ hrow _
      exact absurd hrow (by decide)
    exact setCell_swap wN hne2.symm
  refine ⟨_, wN, hrun, ⟨hN7, hrow, hN10⟩, ⟨_, _, rfl⟩, ?_, ?_⟩
  · rw [hswap]
    exact hV.setRow j d
  · have k1 : KeepVS dB W Wa := KeepVS.of_below hal (Nat.le_of_lt hdB)
    have k2 : KeepVS dB Wa wN := ⟨⟨r2.os, r2.tape, r2.output, r2.size, fun k hk => hlow k (Nat.le_of_lt hk)⟩, fun k cs T fr e t1 _ => (r2.block k (Array.getElem?_eq_some_iff.1 e).1 (fun eb => by
      rcases h2'.2 with ⟨rfl, _⟩ | ⟨gv, cv, cur, rfl, hg1, hg2, _⟩
      · cases eb
      · injection eb with eb
        have eb' : k = gv := eb
        rw [eb', hg2] at e
        injection e with e
        injection e with _ e _
        exact t1 e.symm)).trans e⟩
    refine (k1.trans k2).trans ((KeepVS.set (T := 3) _ hrow (.inl rfl) (Nat.le_refl _)).trans (KeepVS.set (T := 31) _ (boxed_other' hN10 hrow (by decide)) (.inr rfl) hb10))
/-- An append whose run is known, as one step of a region that draws. -/
theorem step_append_known {P : Program} {ops : Array Oper} {o : Oper} {a : Act} {w : World} {K : Act → World → Prop} {Q : Exit → Act → World → Prop} {E : Prop} (hgd : o.guard = none) (d s : Operand) (t t' : TypeId)
    (ho : o.op = .call { callee := .builtin .append, args := #[d, s], argTypes := #[t, t'] }) (v u : Value) (hd : a.eval d = v) (hs : a.eval s = u) {v' : Value} {w' : World}
    (hr : (Builtin.append_ #[t, t'] o.type #[v, u]).run P w = .ok v' w') (h : K (a.put o.dst v') w') : if Region.wanted o (yielded ops a.tmps) = true then Oper.wp P o a w K Q else E := by
  have hw : Region.wanted o (yielded ops a.tmps) = true := by simp [Region.wanted, hgd]
  rw [if_pos hw]
  unfold Oper.wp execOp
  simp only [ho, resolve, invoke, builtin, Sem.run_bind, Sem.run_pure, Result.andThen_ok, List.map_toArray, List.map_cons, List.map_nil, hd, hs, hr]
  exact h
theorem wpList_append_known {P : Program} {ops : Array Oper} {rest : List Oper} {o : Oper} {a : Act} {w : World} {Q : Exit → Act → World → Prop} (hgd : o.guard = none) (d s : Operand) (t t' : TypeId)
    (ho : o.op = .call { callee := .builtin .append, args := #[d, s], argTypes := #[t, t'] }) (v u : Value) (hd : a.eval d = v) (hs : a.eval s = u) {v' : Value} {w' : World}
    (hr : (Builtin.append_ #[t, t'] o.type #[v, u]).run P w = .ok v' w') (h : wpList P ops Q rest (a.put o.dst v') w') : wpList P ops Q (o :: rest) a w :=
  wpList_plain hgd fun _ hK => by
    unfold Oper.wp execOp
    simp only [ho, resolve, invoke, builtin, Sem.run_bind, Sem.run_pure, Result.andThen_ok, List.map_toArray, List.map_cons, List.map_nil, hd, hs, hr]
    exact hK _ _ h
theorem intC_at {ds : List Int} {i : Nat} (h : i < ds.length) : (intC ds)[i]? = some (.int .i64 ds[i]!) := by
  rw [intC, List.getElem?_map, List.getElem?_eq_getElem h, getElem!_pos ds i h]
  rfl
/-- What reach does. -/
def ReachPost (b5 b7 b10 g cap dB n : Nat) (ds : List Int) (td : List Nat) (i : Nat) (d : Int) (W : World) (e : Ending) (W' : World) : Prop :=
  (ds[i]! < 0 ∧ VS b5 b7 b10 g cap dB n (ds.set i d) (td ++ [i]) W' ∧ KeepVS dB W W' ∧ e = .returned (.bool (decide (i < n)))) ∨
  (0 ≤ ds[i]! ∧ VS b5 b7 b10 g cap dB n ds td W' ∧ KeepVS dB W W' ∧ e = .returned (.bool (ds[i]! == d && decide (i < n))))
set_option maxRecDepth 100000 in
set_option maxHeartbeats 4000000 in
theorem reach_any (b5 b7 b10 g cap dB n : Nat) (ds : List Int) (td : List Nat) (i : Nat) (d : Int) (W : World) (h : VS b5 b7 b10 g cap dB n ds td W) (hi : i ≤ n) (hl : td.length ≤ 100000) (hne : b10 ≠ b7) (hb10 : dB ≤ b10) :
    Calls Tryd.prog 45 #[.int .i64 (i : Int), .int .i64 d, .pointer (some ⟨b7, 0, none⟩), .pointer (some ⟨b10, 0, none⟩), .pointer (some ⟨b5, 0, none⟩)] W fun e W' => ReachPost b5 b7 b10 g cap dB n ds td i d W e W' := by
  have c7 := h.dep.cell
  have c5 := h.lst.cell
  have hil : i < ds.length := by rw [h.len]; omega
  have cD := h.row.cell (intC_at hil)
  have hin : (i : Int) < (n : Int) + 1 := by omega
  have hdB := h.row.lt
  obtain ⟨x, hx⟩ : ∃ x, x = ds[i]! := ⟨_, rfl⟩
  rw [← hx] at cD
  have hcmp : decide ((i : Int) < (n : Int)) = decide (i < n) := by simp
  by_cases hneg : x < 0
  · obtain ⟨v, h1, h2⟩ := h.tod
    have hd : decide (x < 0) = true := by simpa using hneg
    obtain ⟨v', wN, hrun, ⟨q7, qD, q10⟩, ⟨a, c, rfl⟩, hV, hK⟩ := append_num (h.below (Below.refl W.heap.size W).drew) hne hb10 h1 (own_below h2 (Below.refl W.heap.size W).drew) i i d (by omega)
    have hK2 := (KeepVS.of_below (dB := dB) (Below.refl W.heap.size W).drew (Nat.le_of_lt hdB)).trans hK
    have c10 := h1.cell
    have s7 := q7.cell
    have fD := qD.free i
    have sD := qD.cell (intC_at hil)
    rw [← hx] at sD
    have q10' := boxed_other' (o := i) (u := .int .i64 d) q10 qD (by decide)
    have t7 := (boxed_other' (o := i) (u := .int .i64 d) q7 qD (by decide)).cell
    have t10 := q10'.cell
    have f10 := q10'.frozen
    have e5 := hV.lst.cell
    have e7 := hV.dep.cell
    have hset : (ds.set i d)[i]! = d := by
      rw [getElem!_pos _ i (by simpa using hil)]
      simp
    have eD := hV.row.cell (intC_at (ds := ds.set i d) (i := i) (by simpa using hil))
    rw [hset] at eD
    have c7' : (W.alloc (.cells #[.int .i64 (i : Int)] 3)).cell? ⟨b7, 0, none⟩ = some (.slice (some ⟨dB, 0, none⟩) (n + 1) (n + 1)) := (boxed_below h.dep ((Below.refl W.heap.size W).alloc (Nat.le_refl _) _)).cell
    have c10' : (W.alloc (.cells #[.int .i64 (i : Int)] 3)).cell? ⟨b10, 0, none⟩ = some v := (boxed_below h1 ((Below.refl W.heap.size W).alloc (Nat.le_refl _) _)).cell
    obtain ⟨vo, vc, rfl⟩ := own_val h2
    have hpost : Hid (∀ (w' : World), w' = (wN.setCell ⟨dB, i, none⟩ (.int .i64 d)).setCell ⟨b10, 0, none⟩ (.slice (some a) (td.length + 1) c) → ReachPost b5 b7 b10 g cap dB n ds td i d W (.returned (.bool (decide (i < n)))) w') := fun w' hw => by
      subst hw
      exact .inl ⟨hx ▸ hneg, hV, hK2, rfl⟩
    replace hrun := Lib.hid hrun
    clear hV hK hK2 hset h h2 hx hil
    go_enter Tryd.func45, Tryd.ntmps45
    go_wp2_with fail
    refine wp_region_held_drew (S := fun w' => w'.cell? ⟨b7, 0, none⟩ = some (.slice (some ⟨dB, 0, none⟩) (n + 1) (n + 1))) (by kernel_rfl) (by exact c7) (fun hHeld => ?_)
    refine take_l (i := 0) (v := ?_) rfl (by kernel_rfl) (by kernel_rfl) (by kernel_rfl) (fun _ _ _ h => h) (Or.inl ⟨by kernel_rfl, ?_⟩) (by assumption) ?_
    rotate_left
    · intro w hSw; (try dsimp only at hSw); go_simp; (try with_reducible rfl)
    (try simp only [Act.put, List.setIfInBounds_toArray, List.set_cons_zero, List.set_cons_succ])
    refine take_l (i := 1) (v := ?_) rfl (by kernel_rfl) (by kernel_rfl) (by kernel_rfl) (fun _ _ _ h => h) (Or.inl ⟨by kernel_rfl, ?_⟩) (by assumption) ?_
    rotate_left
    · intro w hSw; (try dsimp only at hSw); go_simp; (try with_reducible rfl)
    (try simp only [Act.put, List.setIfInBounds_toArray, List.set_cons_zero, List.set_cons_succ])
    refine take_l (i := 2) (v := ?_) rfl (by kernel_rfl) (by kernel_rfl) (by kernel_rfl) (fun _ _ _ h => h) (Or.inl ⟨by kernel_rfl, ?_⟩) (by assumption) ?_
    rotate_left
    · intro w hSw; (try dsimp only at hSw); go_simp; (try with_reducible rfl)
    (try simp only [Act.put, List.setIfInBounds_toArray, List.set_cons_zero, List.set_cons_succ])
    refine take_l (i := 4) (v := ?_) rfl (by kernel_rfl) (by kernel_rfl) (by kernel_rfl) (fun _ _ _ h => h) (Or.inl ⟨by kernel_rfl, ?_⟩) (by assumption) ?_
    rotate_left
    · intro w hSw; (try dsimp only at hSw); go_simp; (try with_reducible rfl)
    (try simp only [Act.put, List.setIfInBounds_toArray, List.set_cons_zero, List.set_cons_succ])
    refine wpAnyH_ready (rs := [3, 5]) (by kernel_rfl) (by simp) ?_
    refine ready_l rfl (fun K hK => ?_) (ready_l rfl (fun K hK => ?_) AllReadyH.nil)
    · go_simp
      refine hK.out _ _ c7 (fun hHeld => ?_)
      clear hK K
      refine wpAnyH_ready (rs := [5]) (by kernel_rfl) (by simp) ?_
      refine ready_l rfl (fun K hK => ?_) AllReadyH.nil
      go_simp
      refine hK.out _ _ (by exact c7') (fun hHeld => ?_)
      clear hK K
      (try simp only [Act.put, List.setIfInBounds_toArray, List.set_cons_zero, List.set_cons_succ])
      refine wpAnyH_ready (rs := [6]) (by kernel_rfl) (by simp) ?_
      refine ready_l rfl (fun K hK => ?_) AllReadyH.nil
      refine step_append_known rfl _ _ _ _ rfl _ _ rfl rfl hrun.out ?_
      (try simp only [Act.put, List.setIfInBounds_toArray, List.set_cons_zero, List.set_cons_succ])
      refine hK.out _ _ (by exact s7) (fun hHeld => ?_)
      clear hK K
      (try simp only [Act.put, List.setIfInBounds_toArray, List.set_cons_zero, List.set_cons_succ])
      refine take_l (i := 7) (v := ?_) rfl (by kernel_rfl) (by kernel_rfl) (by kernel_rfl) (fun _ _ _ h => h) (Or.inl ⟨by kernel_rfl, ?_⟩) (by assumption) ?_
      rotate_left
      · intro w hSw; (try dsimp only at hSw); go_simp; (try with_reducible rfl)
      (try simp only [Act.put, List.setIfInBounds_toArray, List.set_cons_zero, List.set_cons_succ])
      refine wpAnyH_ready (rs := [8]) (by kernel_rfl) (by simp) ?_
      refine ready_l rfl (fun K hK => ?_) AllReadyH.nil
      go_simp
      refine hK.out _ _ (by exact t7) (fun hHeld => ?_)
      clear hK K
      (try simp only [Act.put, List.setIfInBounds_toArray, List.set_cons_zero, List.set_cons_succ])
      refine wpAnyH_ready (rs := [9]) (by kernel_rfl) (by simp) ?_
      refine ready_l rfl (fun K hK => ?_) AllReadyH.nil
      go_simp
      refine hK.out _ _ (by exact e7) (fun hHeld => ?_)
      clear hK K
      (try simp only [Act.put, List.setIfInBounds_toArray, List.set_cons_zero, List.set_cons_succ])
      refine wpAnyH_done (by kernel_rfl) ?_ _
      go_wp2_with fail
      go_ret
      exact hpost.out _ rfl
    · go_simp
      refine hK.out _ _ (by exact c7') (fun hHeld => ?_)
      clear hK K
      (try simp only [Act.put, List.setIfInBounds_toArray, List.set_cons_zero, List.set_cons_succ])
      refine wpAnyH_ready (rs := [3]) (by kernel_rfl) (by simp) ?_
      refine ready_l rfl (fun K hK => ?_) AllReadyH.nil
      go_simp
      refine hK.out _ _ (by exact c7') (fun hHeld => ?_)
      clear hK K
      (try simp only [Act.put, List.setIfInBounds_toArray, List.set_cons_zero, List.set_cons_succ])
      refine wpAnyH_ready (rs := [6]) (by kernel_rfl) (by simp) ?_
      refine ready_l rfl (fun K hK => ?_) AllReadyH.nil
      refine step_append_known rfl _ _ _ _ rfl _ _ rfl rfl hrun.out ?_
      (try simp only [Act.put, List.setIfInBounds_toArray, List.set_cons_zero, List.set_cons_succ])
      refine hK.out _ _ (by exact s7) (fun hHeld => ?_)
      clear hK K
      (try simp only [Act.put, List.setIfInBounds_toArray, List.set_cons_zero, List.set_cons_succ])
      refine take_l (i := 7) (v := ?_) rfl (by kernel_rfl) (by kernel_rfl) (by kernel_rfl) (fun _ _ _ h => h) (Or.inl ⟨by kernel_rfl, ?_⟩) (by assumption) ?_
      rotate_left
      · intro w hSw; (try dsimp only at hSw); go_simp; (try with_reducible rfl)
      (try simp only [Act.put, List.setIfInBounds_toArray, List.set_cons_zero, List.set_cons_succ])
      refine wpAnyH_ready (rs := [8]) (by kernel_rfl) (by simp) ?_
      refine ready_l rfl (fun K hK => ?_) AllReadyH.nil
      go_simp
      refine hK.out _ _ (by exact t7) (fun hHeld => ?_)
      clear hK K
      (try simp only [Act.put, List.setIfInBounds_toArray, List.set_cons_zero, List.set_cons_succ])
      refine wpAnyH_ready (rs := [9]) (by kernel_rfl) (by simp) ?_
      refine ready_l rfl (fun K hK => ?_) AllReadyH.nil
      go_simp
      refine hK.out _ _ (by exact e7) (fun hHeld => ?_)
      clear hK K
      (try simp only [Act.put, List.setIfInBounds_toArray, List.set_cons_zero, List.set_cons_succ])
      refine wpAnyH_done (by kernel_rfl) ?_ _
      go_wp2_with fail
      go_ret
      exact hpost.out _ rfl
  · have hd : decide (x < 0) = false := by simpa using hneg
    have hpost : Hid (ReachPost b5 b7 b10 g cap dB n ds td i d W (.returned (.bool (x == d && decide (i < n)))) W) := .inr ⟨by omega, h, KeepVS.refl _ _, by rw [hx]⟩
    clear hx h hil
    by_cases he : x = d
    · have he2 : (x == d) = true := by simpa using he
      subst he
      rw [he2, Bool.true_and] at hpost
      go_enter Tryd.func45, Tryd.ntmps45
      go_wp2_with fail
      go_ret
      exact hpost.out
    · have he2 : (x == d) = false := by simpa using he
      rw [he2, Bool.false_and] at hpost
      go_enter Tryd.func45, Tryd.ntmps45
      go_wp2_with fail
      go_ret
      exact hpost.out
end Go.Proofs.YtainohbfcehpoaaDoor
namespace Go.Proofs.YtainohbfcehpoaaDoor
open Go.RowKit Go.Shelf

theorem depOf_at {ds : List Int} {i : Nat} (h : i < ds.length) : depOf ds i = if ds[i]! < 0 then none else some ds[i]!.toNat := by
  unfold depOf
  rw [List.getElem?_eq_getElem h, getElem!_pos ds i h]
theorem depOf_some {ds : List Int} {i d : Nat} (h : depOf ds i = some d) : i < ds.length ∧ ds[i]! = (d : Int) := by
  unfold depOf at h
  cases hq : ds[i]? with
  | none => rw [hq] at h; cases h
  | some z =>
    rw [hq] at h
    dsimp only at h
    split at h
    · cases h
    · injection h with h
      obtain ⟨h1, h2⟩ := List.getElem?_eq_some_iff.1 hq
      refine ⟨h1, ?_⟩
      rw [getElem!_pos ds i h1, h2]
      omega
def negC (ds : List Int) : Nat := ds.countP fun z => decide (z < 0)
def mu (ds : List Int) (td : List Nat) : Nat := 2 * negC ds + td.length
theorem negC_set {ds : List Int} {i : Nat} (h : i < ds.length) (hn : ds[i]! < 0) (a : Nat) : negC (ds.set i (a : Int)) + 1 = negC ds := by
  induction ds generalizing i with
  | nil => simp at h
  | cons z l ih =>
    cases i with
    | zero =>
      simp only [List.getElem!_cons_zero] at hn
      simp [negC, hn]
    | succ i =>
      rw [List.getElem!_cons_succ] at hn
      have := ih (by simpa using h) hn
      simp only [negC, List.set_cons_succ, List.countP_cons] at this ⊢
      omega
/-- Number j has been reached at depth a. -/
structure Ext (ds : List Int) (td : List Nat) (ds' : List Int) (td' : List Nat) (j a : Nat) : Prop where
  ext : ∀ k e, depOf ds k = some e → depOf ds' k = some e
  got : depOf ds' j = some a
  new : ∀ k e, depOf ds' k = some e → depOf ds k = some e ∨ (k = j ∧ e = a ∧ k ∈ td')
  sub : ∀ k ∈ td, k ∈ td'
  sup : ∀ k ∈ td', k ∈ td ∨ k = j
  mu : mu ds' td' ≤ mu ds td
theorem reach_split {b5 b7 b10 g cap dB n : Nat} {ds : List Int} {td : List Nat} {j a : Nat} {W W' : World} {e : Ending} (h : ReachPost b5 b7 b10 g cap dB n ds td j (a : Int) W e W') (hlen : ds.length = n + 1) (hj : j ≤ n) :
    ∃ ds' td' b, VS b5 b7 b10 g cap dB n ds' td' W' ∧ KeepVS dB W W' ∧ e = .returned (.bool b) ∧ ((b = true ∧ j < n ∧ Ext ds td ds' td' j a) ∨ (b = false ∧ (j = n ∨ ∃ e, depOf ds j = some e ∧ e ≠ a))) := by
  have hjl : j < ds.length := by omega
  rcases h with ⟨hneg, hV, hK, rfl⟩ | ⟨hpos, hV, hK, rfl⟩
  · refine ⟨_, _, _, hV, hK, rfl, ?_⟩
    by_cases hjn : j < n
    · refine .inl ⟨by simpa using hjn, hjn, ?_⟩
      have hnone : depOf ds j = none := by rw [depOf_at hjl, if_pos hneg]
      refine ⟨fun k e hk => ?_, ?_, fun k e hk => ?_, fun k hk => by simp [hk], fun k hk => ?_, ?_⟩
      · rw [depOf_set ds j k a hjl]
        by_cases hkj : k = j
        · subst hkj
          rw [hnone] at hk
          cases hk
        · rw [if_neg hkj]; exact hk
      · rw [depOf_set ds j j a hjl, if_pos rfl]
      · rw [depOf_set ds j k a hjl] at hk
        by_cases hkj : k = j
        · rw [if_pos hkj] at hk
          injection hk with hk
          exact .inr ⟨hkj, hk.symm, by simp [hkj]⟩
        · rw [if_neg hkj] at hk
          exact .inl hk
      · rcases List.mem_append.1 hk with hk | hk
        · exact .inl hk
        · exact .inr (List.mem_singleton.1 hk)
      · have := negC_set hjl hneg a
        simp only [mu, List.length_append, List.length_singleton]
        omega
    · exact .inr ⟨by simpa using hjn, .inl (by omega)⟩
  · refine ⟨_, _, _, hV, hK, rfl, ?_⟩
    have hsome : depOf ds j = some ds[j]!.toNat := by rw [depOf_at hjl, if_neg (by omega)]
    by_cases hda : ds[j]! = (a : Int)
    · by_cases hjn : j < n
      · refine .inl ⟨by simp [hda, hjn], hjn, ?_⟩
        exact ⟨fun _ _ h => h, by rw [hsome, hda]; rfl, fun _ _ h => .inl h, fun _ h => h, fun _ h => .inl h, Nat.le_refl _⟩
      · exact .inr ⟨by simp [hjn], .inl (by omega)⟩
    · exact .inr ⟨by rw [beq_eq_false_iff_ne.2 hda, Bool.false_and], .inr ⟨_, hsome, by omega⟩⟩
/-- What is reached from an instruction. -/
def ExtO (ds : List Int) (td : List Nat) (ds' : List Int) (td' : List Nat) : Option Nat → Nat → Prop
  | none, _ => ds' = ds ∧ td' = td
  | some j, a => Ext ds td ds' td' j a
theorem ExtO.facts {ds ds' : List Int} {td td' : List Nat} {o : Option Nat} {a : Nat} (h : ExtO ds td ds' td' o a) :
    (∀ k e, depOf ds k = some e → depOf ds' k = some e) ∧ (∀ j, o = some j → depOf ds' j = some a) ∧ (∀ k e, depOf ds' k = some e → depOf ds k = some e ∨ (o = some k ∧ e = a ∧ k ∈ td')) ∧ (∀ k ∈ td, k ∈ td') ∧ (∀ k ∈ td', k ∈ td ∨ o = some k) ∧ mu ds' td' ≤ mu ds td := by
  cases o with
  | none =>
    obtain ⟨rfl, rfl⟩ := h
    exact ⟨fun _ _ h => h, fun _ h => (by cases h), fun _ _ h => .inl h, fun _ h => h, fun _ h => .inl h, Nat.le_refl _⟩
  | some j =>
    exact ⟨h.ext, fun _ e => by injection e with e; subst e; exact h.got, fun k e hk => (h.new k e hk).imp id fun ⟨h1, h2, h3⟩ => ⟨by rw [h1], h2, h3⟩, h.sub, fun k hk => (h.sup k hk).imp id fun h1 => by rw [h1], h.mu⟩
def leadO (L : List Ins) (i : Nat) : Option Nat := if leadOp L[i]!.op then some (toOf L L[i]!) else none
def nextO (L : List Ins) (i : Nat) : Option Nat := if L[i]!.op ≠ 7 ∧ L[i]!.op ≠ 11 then some (i + 1) else none
/-- What a worklist has found so far. -/
structure VM (L : List Ins) (ds : List Int) (td : List Nat) (m : Nat) : Prop where
  marks : Marks L (depOf ds) td m
  got : ∃ i d, Reach L i d ∧ (m = d ∨ m = afterOp L[i]!.op d)
  ins : ∀ i ∈ td, i < L.length
  le : ∀ i d, depOf ds i = some d → d ≤ 16
theorem VM.round {L : List Ins} {ds ds1 ds2 : List Int} {td0 td1 td2 : List Nat} {i m d : Nat} (hF : Form L) (h : VM L ds (td0 ++ [i]) m) (hd : depOf ds i = some d) (ht : takesOp L[i]!.op ≤ d) (hr : afterOp L[i]!.op d ≤ 16)
    (h1 : ExtO ds td0 ds1 td1 (leadO L i) (afterOp L[i]!.op d)) (h2 : ExtO ds1 td1 ds2 td2 (nextO L i) (afterOp L[i]!.op d)) (hn : ∀ j, nextO L i = some j → j < L.length) :
    VM L ds2 td2 (max (max m d) (afterOp L[i]!.op d)) ∧ mu ds2 td2 < mu ds (td0 ++ [i]) := by
  have hin := h.ins i (by simp)
  have hR := h.marks.reach i d hd
  obtain ⟨a1, a2, a3, a4, a5, a6⟩ := h1.facts
  obtain ⟨b1, b2, b3, b4, b5, b6⟩ := h2.facts
  have hto : ∀ j, leadO L i = some j → leadOp L[i]!.op = true ∧ idxOf L L[i]!.opd = some j := fun j hj => by
    unfold leadO at hj
    split at hj
    · rename_i hl
      injection hj with hj
      subst hj
      exact ⟨hl, hF.to hin hl⟩
    · cases hj
  have hnx : ∀ j, nextO L i = some j → j = i + 1 ∧ L[i]!.op ≠ 7 ∧ L[i]!.op ≠ 11 := fun j hj => by
    unfold nextO at hj
    split at hj
    · rename_i hl
      injection hj with hj
      exact ⟨hj.symm, hl.1, hl.2⟩
    · cases hj
  have hkn : ∀ k ∈ td0, ∃ e, depOf ds k = some e := fun k hk => h.marks.known k (by simp [hk])
  refine ⟨⟨?_, ?_, ?_, ?_⟩, ?_⟩
  · refine h.marks.step hd hin ht hr (fun k e hk => b1 k e (a1 k e hk)) (fun k e hk => ?_) (fun h7 h11 => ?_) (fun j hl hj => ?_) (fun k hk => ?_) (fun k hk => ?_) (by omega) (by omega) (by omega)
    · rcases b3 k e hk with hk | ⟨ho, he, hm⟩
      · rcases a3 k e hk with hk | ⟨ho, he, hm⟩
        · exact .inl hk
        · exact .inr ⟨he, b4 k hm, .inr (hto k ho)⟩
      · exact .inr ⟨he, hm, .inl (hnx k ho)⟩
    · exact b2 _ (by rw [nextO, if_pos ⟨h7, h11⟩])
    · refine b1 _ _ (a2 j ?_)
      rw [leadO, if_pos hl]
      have := hF.to hin hl
      rw [hj] at this
      exact this.symm
    · rcases List.mem_append.1 hk with hk | hk
      · exact .inr (b4 k (a4 k hk))
      · exact .inl (List.mem_singleton.1 hk)
    · rcases b5 k hk with hk | ho
      · rcases a5 k hk with hk | ho
        · obtain ⟨e, he⟩ := hkn k hk
          exact ⟨e, b1 _ _ (a1 _ _ he)⟩
        · exact ⟨_, b1 _ _ (a2 k ho)⟩
      · exact ⟨_, b2 k ho⟩
  · obtain ⟨i0, d0, r0, e0⟩ := h.got
    rcases Nat.le_total (max m d) (afterOp L[i]!.op d) with hle | hle
    · exact ⟨i, d, hR, .inr (by omega)⟩
    · rcases Nat.le_total m d with hmd | hmd
      · exact ⟨i, d, hR, .inl (by omega)⟩
      · refine ⟨i0, d0, r0, ?_⟩
        rw [Nat.max_eq_left hle, Nat.max_eq_left hmd]
        exact e0
  · intro k hk
    rcases b5 k hk with hk | ho
    · rcases a5 k hk with hk | ho
      · exact h.ins k (by simp [hk])
      · exact (idxOf_some (hto k ho).2).1
    · exact hn k ho
  · intro k e hk
    rcases b3 k e hk with hk | ⟨_, he, _⟩
    · rcases a3 k e hk with hk | ⟨_, he, _⟩
      · exact h.le k e hk
      · omega
    · omega
  · have : mu ds td0 < mu ds (td0 ++ [i]) := by simp [mu]
    omega
theorem VM.start (L : List Ins) (n : Nat) (hn : 0 < L.length) : VM L ((List.replicate (n + 1) (-1 : Int)).set 0 0) [0] 0 := by
  have hdep : ∀ k, depOf ((List.replicate (n + 1) (-1 : Int)).set 0 0) k = if k = 0 then some 0 else none := fun k => by
    have := depOf_set (List.replicate (n + 1) (-1 : Int)) 0 k 0 (by simp)
    rw [show ((0 : Nat) : Int) = 0 from rfl] at this
    rw [this]
    split
    · rfl
    · unfold depOf
      rw [List.getElem?_replicate]
      by_cases hk : k < n + 1
      · rw [if_pos hk]
        rfl
      · rw [if_neg hk]
  refine ⟨⟨fun i d h => ?_, by rw [hdep]; rfl, fun i hi => ?_, fun i d h hi => ?_⟩, ⟨0, 0, .zero, .inl rfl⟩, fun i hi => ?_, fun i d h => ?_⟩
  · rw [hdep] at h
    split at h
    · injection h with h
      subst h
      rename_i h0
      subst h0
      exact .zero
    · cases h
  · rw [List.mem_singleton.1 hi]
    exact ⟨0, by rw [hdep]; rfl⟩
  · rw [hdep] at h
    split at h
    · rename_i h0
      exact absurd (by simp [h0]) hi
    · cases h
  · rw [List.mem_singleton.1 hi]
    exact hn
  · rw [hdep] at h
    split at h
    · injection h with h
      omega
    · cases h
end Go.Proofs.YtainohbfcehpoaaDoor
namespace Go.Proofs.YtainohbfcehpoaaDoor

theorem ext_new {ds : List Int} {td : List Nat} {j a : Nat} (hj : j < ds.length) (hneg : ds[j]! < 0) : Ext ds td (ds.set j (a : Int)) (td ++ [j]) j a := by
  have hnone : depOf ds j = none := by rw [depOf_at hj, if_pos hneg]
  refine ⟨fun k e hk => ?_, ?_, fun k e hk => ?_, fun k hk => by simp [hk], fun k hk => ?_, ?_⟩
  · rw [depOf_set ds j k a hj]
    by_cases hkj : k = j
    · subst hkj
      rw [hnone] at hk
      cases hk
    · rw [if_neg hkj]; exact hk
  · rw [depOf_set ds j j a hj, if_pos rfl]
  · rw [depOf_set ds j k a hj] at hk
    by_cases hkj : k = j
    · rw [if_pos hkj] at hk
      injection hk with hk
      exact .inr ⟨hkj, hk.symm, by simp [hkj]⟩
    · rw [if_neg hkj] at hk
      exact .inl hk
  · rcases List.mem_append.1 hk with hk | hk
    · exact .inl hk
    · exact .inr (List.mem_singleton.1 hk)
  · have := negC_set hj hneg a
    simp only [mu, List.length_append, List.length_singleton]
    omega
theorem ext_old {ds : List Int} {td : List Nat} {j a : Nat} (hj : j < ds.length) (hda : ds[j]! = (a : Int)) : Ext ds td ds td j a := by
  have hsome : depOf ds j = some ds[j]!.toNat := by rw [depOf_at hj, if_neg (by omega)]
  exact ⟨fun _ _ h => h, by rw [hsome, hda]; rfl, fun _ _ h => .inl h, fun _ h => h, fun _ h => .inl h, Nat.le_refl _⟩
/-- Some numbers have been reached at depth a. -/
structure ExtL (ds : List Int) (td : List Nat) (ns : List Nat) (a : Nat) (ds' : List Int) (td' : List Nat) : Prop where
  ext : ∀ k e, depOf ds k = some e → depOf ds' k = some e
  got : ∀ j ∈ ns, depOf ds' j = some a
  new : ∀ k e, depOf ds' k = some e → depOf ds k = some e ∨ (k ∈ ns ∧ e = a ∧ k ∈ td')
  sub : ∀ k ∈ td, k ∈ td'
  sup : ∀ k ∈ td', k ∈ td ∨ k ∈ ns
  mu : mu ds' td' ≤ mu ds td
theorem ExtL.nil (ds : List Int) (td : List Nat) (a : Nat) : ExtL ds td [] a ds td :=
  ⟨fun _ _ h => h, fun _ h => (by cases h), fun _ _ h => .inl h, fun _ h => h, fun _ h => .inl h, Nat.le_refl _⟩
theorem ExtL.snoc {ds ds1 ds2 : List Int} {td td1 td2 ns : List Nat} {a j : Nat} (h : ExtL ds td ns a ds1 td1) (k : Ext ds1 td1 ds2 td2 j a) : ExtL ds td (ns ++ [j]) a ds2 td2 := by
  refine ⟨fun x e hx => k.ext _ _ (h.ext _ _ hx), fun x hx => ?_, fun x e hx => ?_, fun x hx => k.sub _ (h.sub _ hx), fun x hx => ?_, Nat.le_trans k.mu h.mu⟩
  · rcases List.mem_append.1 hx with hx | hx
    · exact k.ext _ _ (h.got _ hx)
    · rw [List.mem_singleton.1 hx]; exact k.got
  · rcases k.new _ _ hx with hx | ⟨h1, h2, h3⟩
    · rcases h.new _ _ hx with hx | ⟨h1, h2, h3⟩
      · exact .inl hx
      · exact .inr ⟨by simp [h1], h2, k.sub _ h3⟩
    · exact .inr ⟨by simp [h1], h2, h3⟩
  · rcases k.sup _ hx with hx | hx
    · rcases h.sup _ hx with hx | hx
      · exact .inl hx
      · exact .inr (by simp [hx])
    · exact .inr (by simp [hx])
/-- What follows an instruction, as the reference lists it. -/
def nextL (L : List Ins) (i : Nat) : List Nat := (if L[i]!.op ≠ 7 ∧ L[i]!.op ≠ 11 then [i + 1] else []) ++ (if leadOp L[i]!.op then [toOf L L[i]!] else [])
theorem nextL_mem {L : List Ins} {i j : Nat} (h : j ∈ nextL L i) : (j = i + 1 ∧ L[i]!.op ≠ 7 ∧ L[i]!.op ≠ 11) ∨ (leadOp L[i]!.op = true ∧ j = toOf L L[i]!) := by
  unfold nextL at h
  rcases List.mem_append.1 h with h | h
  · split at h
    · rename_i hc
      exact .inl ⟨List.mem_singleton.1 h, hc.1, hc.2⟩
    · cases h
  · split at h
    · rename_i hc
      exact .inr ⟨hc, List.mem_singleton.1 h⟩
    · cases h
theorem VM.roundL {L : List Ins} {ds ds2 : List Int} {td0 td2 : List Nat} {i m d : Nat} (hF : Form L) (h : VM L ds (i :: td0) m) (hd : depOf ds i = some d) (ht : takesOp L[i]!.op ≤ d) (hr : afterOp L[i]!.op d ≤ 16)
    (hE : ExtL ds td0 (nextL L i) (afterOp L[i]!.op d) ds2 td2) (hn : ∀ j ∈ nextL L i, j < L.length) :
    VM L ds2 td2 (max (max m d) (afterOp L[i]!.op d)) ∧ mu ds2 td2 < mu ds (i :: td0) := by
  have hin := h.ins i (by simp)
  have hR := h.marks.reach i d hd
  have hkn : ∀ k ∈ td0, ∃ e, depOf ds k = some e := fun k hk => h.marks.known k (by simp [hk])
  refine ⟨⟨?_, ?_, ?_, ?_⟩, ?_⟩
  · refine h.marks.step hd hin ht hr hE.ext (fun k e hk => ?_) (fun h7 h11 => ?_) (fun j hl hj => ?_) (fun k hk => ?_) (fun k hk => ?_) (by omega) (by omega) (by omega)
    · rcases hE.new k e hk with hk | ⟨ho, he, hm⟩
      · exact .inl hk
      · refine .inr ⟨he, hm, ?_⟩
        rcases nextL_mem ho with h1 | ⟨hl, rfl⟩
        · exact .inl h1
        · exact .inr ⟨hl, hF.to hin hl⟩
    · refine hE.got _ ?_
      unfold nextL
      rw [if_pos ⟨h7, h11⟩]
      simp
    · refine hE.got _ ?_
      have := hF.to hin hl
      rw [hj] at this
      injection this with this
      unfold nextL
      rw [if_pos hl, ← this]
      simp
    · rcases List.mem_cons.1 hk with hk | hk
      · exact .inl hk
      · exact .inr (hE.sub k hk)
    · rcases hE.sup k hk with hk | hk
      · obtain ⟨e, he⟩ := hkn k hk
        exact ⟨e, hE.ext _ _ he⟩
      · exact ⟨_, hE.got k hk⟩
  · obtain ⟨i0, d0, r0, e0⟩ := h.got
    rcases Nat.le_total (max m d) (afterOp L[i]!.op d) with hle | hle
    · exact ⟨i, d, hR, .inr (by omega)⟩
    · rcases Nat.le_total m d with hmd | hmd
      · exact ⟨i, d, hR, .inl (by omega)⟩
      · refine ⟨i0, d0, r0, ?_⟩
        rw [Nat.max_eq_left hle, Nat.max_eq_left hmd]
        exact e0
  · intro k hk
    rcases hE.sup k hk with hk | hk
    · exact h.ins k (by simp [hk])
    · exact hn k hk
  · intro k e hk
    rcases hE.new k e hk with hk | ⟨_, he, _⟩
    · exact h.le k e hk
    · omega
  · have h1 := hE.mu
    have : mu ds td0 < mu ds (i :: td0) := by simp [mu]
    omega
/-- A number that is met at another depth: the program is not good. -/
theorem bad_next {L : List Ins} {ds ds' : List Int} {td0 td' ns : List Nat} {i m d nx e : Nat} (hF : Form L) (h : VM L ds (i :: td0) m) (hd : depOf ds i = some d) (hE : ExtL ds td0 ns (afterOp L[i]!.op d) ds' td') (hnx : nx ∈ nextL L i) (he : depOf ds' nx = some e) (hne : e ≠ afterOp L[i]!.op d) : ¬ Good L := by
  have hin := h.ins i (by simp)
  have hR := h.marks.reach i d hd
  have hr : Reach L nx e := by
    rcases hE.new _ _ he with h1 | ⟨_, h1, _⟩
    · exact h.marks.reach _ _ h1
    · exact absurd h1 hne
  rcases nextL_mem hnx with ⟨rfl, h7, h11⟩ | ⟨hl, rfl⟩
  · exact not_next hR hin h7 h11 hr hne
  · exact not_lead hR hin hl (hF.to hin hl) hr hne
theorem VM.start' (L : List Ins) (hn : 0 < L.length) : VM L ((List.replicate L.length (-1 : Int)).set 0 0) [0] 0 := by
  have := VM.start L (L.length - 1) hn
  rwa [show L.length - 1 + 1 = L.length by omega] at this
theorem mu_start' (n : Nat) : mu ((List.replicate n (-1 : Int)).set 0 0) [0] ≤ 2 * n + 3 := by
  have : negC ((List.replicate n (-1 : Int)).set 0 0) ≤ n := by
    have := List.countP_le_length (p := fun z : Int => decide (z < 0)) (l := (List.replicate n (-1 : Int)).set 0 0)
    simpa [negC] using this
  simp only [mu, List.length_singleton]
  omega
end Go.Proofs.YtainohbfcehpoaaDoor
