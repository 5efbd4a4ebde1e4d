/-
  The contract of program: the instructions of a program that is well formed.
-/
import Derived.Test.YtainohbfcehpoaaDoorMb6
import Derived.Shelf.Abstract
import Derived.StillTailTactics
namespace Go.Proofs.YtainohbfcehpoaaDoor
open Go.RowKit Go.Shelf

attribute [local go_sem] Oper.semAt_some

/-- What program returns. -/
def ProgPost (code : List UInt8) (w : World) (e : Ending) (w' : World) : Prop :=
  (∀ l, formed code = some l → ∃ g cap, e = .returned (.tuple #[.slice (some ⟨g, 0, none⟩) l.length cap, .bool true]) ∧ w.heap.size ≤ g ∧ g < w'.heap.size ∧ l.length ≤ cap ∧ cap ≤ maxLen ∧ InsRow w' g 0 l (fun i => toOf l l[i]!)) ∧
  (formed code = none → e = .returned (.tuple #[.slice none 0 0, .bool false])) ∧ Below w.heap.size w w'

set_option maxRecDepth 100000 in
set_option maxHeartbeats 4000000 in
theorem program_in (code : List UInt8) (w : World) (h1 : code ≠ []) (h2 : code.length ≤ 1024) (hO : OpsIs w) :
    CallsIn Fence.wide 3 Tryd.prog 34 #[.string (str code)] w fun e w' => ProgPost code w e w' := by
  have hg := hO.lt
  have hps : (str code).size = code.length := str_size code
  have hI := fun W => instructions_any (str code) W
  obtain ⟨K, hK⟩ : ∃ K, K = (evSeq 0 code).length := ⟨_, rfl⟩
  have hKl : K ≤ code.length := by rw [hK]; exact evSeq_len _ code (Nat.le_refl _) 0
  have hne : (str code).toList.isEmpty = false := by rw [ByteArray.toList_eq, str_list]; simpa using h1
  have hlt : decide ((code.length : Int) > 1024) = false := by simp; omega
  refine callsIn_of_wp_marks Tryd.func34 rfl trivial ?_ rfl
  simp only [Tryd.ntmps34, List.size_toArray, List.length_cons, List.length_nil, Nat.reduceAdd, Nat.reduceSub, Array.replicate_succ, Array.replicate_zero, List.push_toArray, List.append_toArray, List.nil_append, List.cons_append]
  gi_wp2_with (fail)
  obtain ⟨W3, hW3⟩ : ∃ W3, W3 = ((w.alloc (Obj.cells #[Value.slice none 0 0] 56)).alloc (Obj.cells #[Value.bool false] 4)).alloc (Obj.cells #[Value.slice none 0 0] 56) := ⟨_, rfl⟩
  have hs3 : W3.heap.size = w.heap.size + 3 := by rw [hW3]; simp
  have bR : Boxed W3 w.heap.size 56 (.slice none 0 0) := by rw [hW3]; exact ((Boxed.new w _ _).alloc _).alloc _
  have bO : Boxed W3 (w.heap.size + 1) 4 (.bool false) := by
    rw [hW3]
    have := (Boxed.new (w.alloc (Obj.cells #[Value.slice none 0 0] 56)) 4 (.bool false)).alloc (Obj.cells #[Value.slice none 0 0] 56)
    simpa using this
  have bL : Boxed W3 (w.heap.size + 1 + 1) 56 (.slice none 0 0) := by
    rw [hW3]
    have := Boxed.new ((w.alloc (Obj.cells #[Value.slice none 0 0] 56)).alloc (Obj.cells #[Value.bool false] 4)) 56 (.slice none 0 0)
    simpa using this
  have hB3 : Below w.heap.size w W3 := by rw [hW3]; exact (((Below.refl _ _).alloc (Nat.le_refl _) _).alloc (by simp) _).alloc (by simp; omega) _
  rw [← hW3]
  clear hW3
  refine ⟨trivial, (callsIn_wide.2 (hI W3)).mono ?_⟩
  rintro e w4 ⟨rfl, mA, hb4⟩
  have bR4 : Boxed w4 _ _ _ := (hb4.block _ bR.lt).trans bR
  have bO4 : Boxed w4 _ _ _ := (hb4.block _ bO.lt).trans bO
  have bL4 : Boxed w4 _ _ _ := (hb4.block _ bL.lt).trans bL
  have hB4 := hB3.trans (hb4.mono hB3.size)
  have hO4 := hO.below hB4 hg
  have hlt4 := mA.lt
  clear bR bO bL hB3 hI
  replace hne := Lib.hid hne
  gi_wp2_with (fail)
  have hPI0 : PI code w ([] : List (Fin K)) w4 := ⟨⟨_, bL4, World.ownsRow_nil _ _ _ _⟩, bR4, bO4, by rw [hs3] at mA; exact mA, by simp⟩
  rw [hs3] at mA hlt4
  have hg4 := hO4.lt
  refine wpIn_rangeFunc_ownH rfl (by omega) (gf := 55) (lb := #[.pointer (some ⟨w.heap.size + 3, 0, none⟩)]) rfl trivial (enters_of Tryd.func55 (by kernel_rfl) rfl)
    (instr1_stops _ (w.heap.size + 3) K code w4 hK (by omega) hlt4 hg4 hO4 (mA.cell rfl)) keepB_t (keepB_b hlt4 hg4) (Below.refl _ _) (fun _ => rfl)
    (fun pre W => PI code w pre W ∧ Below w.heap.size w W)
    (fun c _ W => (c = .ret ∧ PX code w K W) ∧ Below w.heap.size w W)
    (OwnFrom.and (Own.from (PI.own code w K) _) (ownFrom_below (Nat.le_refl _) (by omega)))
    (fun c => OwnFrom.and (OwnFrom.and (ownFrom_pure _ (fun _ => c = Code.ret)) (Own.from (PX.own code w K) _)) (ownFrom_below (Nat.le_refl _) (by omega)))
    ⟨hPI0, hB4⟩
    (fun x a' W => ∃ Bx, w.heap.size + 3 < Bx ∧ Arr W Bx 66 (insC (evAt code x.1).1) ∧ a' = { tmps := #[.string (str code), undef, .pointer (some ⟨w.heap.size, 0, none⟩), .pointer (some ⟨w.heap.size + 1, 0, none⟩), .pointer (some ⟨w.heap.size + 1 + 1, 0, none⟩), .pointer (some ⟨Bx, 0, none⟩), .bool (evAt code x.1).2, undef, undef, undef, undef, .string (str code), .bool false, .bool false, .string (str code), .int .i64 (code.length : Int), .bool false, .bool false, .string (str code), .func (.func 55) #[] #[.pointer (some ⟨w.heap.size + 3, 0, none⟩)], .agg #[.int .i64 ((evAt code x.1).1.off : Int), .int .i64 ((evAt code x.1).1.op : Int), .int .i64 ((evAt code x.1).1.opd : Int), .int .i64 0], .bool (evAt code x.1).2, undef, undef, undef, undef, undef, undef, undef, undef, undef, undef, undef, undef, undef, undef, undef, undef, undef, undef, undef, undef, undef, undef, undef, undef, undef, undef, undef, undef, undef, undef, undef, undef, undef, undef, undef, undef], defers := [] })
    ?own ?assign ?body ?done ?stop
  case own =>
    intro x a' s A B row hs hgr hr
    obtain ⟨Bx, hBx, hA, ha⟩ := hs
    refine ⟨Bx, hBx, (hgr.block Bx hA.lt (fun e => ?_)).trans hA, ha⟩
    obtain ⟨_, o, ho, hc⟩ := hr Bx e.symm
    rw [show A.heap[Bx]? = _ from hA] at ho; injection ho with ho; subst ho; cases hc
  case assign =>
    rintro l pre x W Kc ⟨hPI, hB⟩ hKc
    have hlx := hPI.txt.lt
    have hgx : 3 < W.heap.size := by have := hB.size; omega
    unfold insAgg
    gi_wp2
    refine hKc _ _ (keepsFrom_below ((Below.refl _ _).alloc (Nat.le_refl _) _)) (KeepB.of_below ((Below.refl _ _).alloc (Nat.le_refl _) _) hlx hgx) ⟨hPI.below ((Below.refl _ _).alloc (Nat.le_refl _) _), hB.alloc hB.size _⟩ ⟨W.heap.size, hlx, Arr.new rfl rfl, rfl⟩
  case body =>
    rintro l pre x a' W hl ⟨r, hr⟩ ⟨hPI, hB⟩ ⟨Bx, hBx, hA, rfl⟩ hlt
    obtain ⟨v, hv, hrow⟩ := hPI.row
    have hres := hPI.res
    have hok := hPI.ok
    have htxt := hPI.txt
    have hall := hPI.all
    have hlx := hPI.txt.lt
    have hgx : 3 < W.heap.size := by have := hB.size; omega
    cases hx : (evAt code x.1).2 with
    | false =>
      have c1 := hres.cell
      have f1 := hres.frozen
      have c2 := hok.cell
      have f2 := hok.frozen
      gi_wp2
      exact ⟨((KeepsOthers.setCell _ _ _).trans (KeepsOthers.setCell _ _ _)).from _, ⟨rfl, ⟨x, hx⟩, Boxed.other (hres.set _) (by omega) _, (Boxed.other hok (by omega) _).set _⟩, (hB.setCell (p := ⟨w.heap.size, 0, none⟩) (Nat.le_refl _) _).setCell (p := ⟨w.heap.size + 1, 0, none⟩) (by simp) _⟩
    | true =>
      have cv := hv.cell
      have fv := hv.frozen
      unfold insC at hA
      have q0 := hA.cell (j := 0) rfl
      have q1 := hA.cell (j := 1) rfl
      have q2 := hA.cell (j := 2) rfl
      have q3 := hA.cell (j := 3) rfl
      obtain ⟨v', w1, hrun, hown', hgrow⟩ := append_ins (W.alloc (.cells #[.int .i64 ((evAt code x.1).1.off : Int), .int .i64 ((evAt code x.1).1.op : Int), .int .i64 ((evAt code x.1).1.opd : Int), .int .i64 0] 66)) w.heap.size v (come code pre) (evAt code x.1).1 (own_below hrow ((Below.refl _ _).alloc (Nat.le_refl _) _)) W.heap.size (Arr.new rfl rfl) (by simp [come]; omega) (by have := hB.size; simp; omega)
      rw [List.length_append, List.length_singleton] at hown'
      obtain ⟨g', cap', rfl⟩ := ownsRow_succ hown'
      obtain ⟨hv1, hv2, hr2, hk2, hb2⟩ := hv.appended (by decide) hrow hB.size (by omega) hown' hgrow
      have hc1 := hv1.cell
      have hf1 := hv1.frozen
      replace hrun := Lib.hid hrun
      gi_wp2_with (gi_at_builtin; refine wpListIn_append_known rfl _ _ _ _ rfl _ _ rfl rfl hrun.out ?_)
      have hkeep : ∀ {b t u}, Boxed W b t u → t ≠ 66 → b ≠ w.heap.size + 1 + 1 → Boxed (w1.setCell ⟨w.heap.size + 1 + 1, 0, none⟩ (.slice (some ⟨g', 0, none⟩) ((come code pre).length + 1) cap')) b t u := fun {b t u} h ht hne => Boxed.other ((h.alloc _).kept hgrow (h.not_row ht hrow)) hne _
      have hcm : come code (pre ++ [x]) = come code pre ++ [(evAt code x.1).1] := by simp [come]
      refine ⟨hk2.from _, ⟨(hkeep htxt (by decide) (by omega)).trans htxt.symm, hb2.block _ hg⟩, ⟨⟨_, hv2, ?_⟩, hkeep hres (by decide) (by omega), hkeep hok (by decide) (by omega), hkeep htxt (by decide) (by omega), ?_⟩, hB.trans hb2⟩
      · rw [hcm, List.length_append, List.length_singleton]
        exact hr2
      · intro y hy
        rcases List.mem_append.1 hy with hy | hy
        · exact hall y hy
        · rw [List.mem_singleton.1 hy]
          exact hx
  case done =>
    rintro D ys W hD rfl ⟨hPI, hB⟩ hKD
    obtain ⟨v, hv, hrow⟩ := hPI.row
    have hdec := done_dec code K hK hPI.all
    have hne0 : (come code (List.finRange K)).length ≠ 0 := by
      simp only [come, List.length_map, List.length_finRange]
      intro e
      rw [e] at hK
      have := evSeq_pos code h1
      omega
    have hK2 : (come code (List.finRange K)).length ≤ 1024 := by simp [come]; omega
    generalize come code (List.finRange K) = L at *
    obtain ⟨g, cap, cur, rfl, hbg, hgb, hnc, hcm, hcs, hct⟩ : ∃ g cap cur, v = .slice (some ⟨g, 0, none⟩) L.length cap ∧ w.heap.size ≤ g ∧ W.heap[g]? = some (.cells cur 66 (0, 0)) ∧ L.length ≤ cap ∧ cap ≤ maxLen ∧ cur.size = cap * 4 ∧ cur.toList.take (L.length * 4) = insL L := by
      rcases hrow.2 with ⟨_, h0⟩ | h
      · exact absurd h0 hne0
      · exact h
    have hR : InsRow W g 0 L (tosK L 0) := insRow_of_cur hgb hct
    have hLaid := dec_laid _ code (Nat.le_refl _) _ _ hdec
    have hres := hPI.res
    have hok := hPI.ok
    have hOW := hO.below hB hg
    have hgW := hOW.lt
    have cv := hv.cell
    clear hrow hPI hct hK
    gi_wp2
    refine wpIn_wide.2 ?_
    go_loopw [30] (fun i wr => ∃ k : Nat, k ≤ L.length ∧ i = .int .i64 (k : Int) ∧ Hid (PL w L g cap D k wr)) (fun i _ => L.length - (intOf i).toNat)
    case atStart => exact ⟨0, Nat.zero_le _, rfl, (show Hid _ from ⟨⟨cur, hgb⟩, hR, hKD, hres, hok, hv, hB, fun i hi => absurd hi (Nat.not_lt_zero _)⟩)⟩
    case round =>
      obtain ⟨k, hk, rfl, hPL⟩ := hrel
      clear hres hok hv cv hOW hR hgb hKD hB
      have hPL' := hPL.out
      have cR := hPL'.res.cell
      have fR := hPL'.res.frozen
      have cO := hPL'.ok.cell
      have fO := hPL'.ok.frozen
      have cL := hPL'.lst.cell
      by_cases hlt : k < L.length
      · have hd : decide ((k : Int) < (L.length : Int)) = true := by simpa using hlt
        obtain ⟨m0, m1, m2, m3⟩ := hPL'.row k hlt
        simp only [Nat.zero_add] at m0 m1 m2 m3
        rw [tosK, if_neg (Nat.lt_irrefl k)] at m3
        have hOr := hO.below hPL'.bel hg
        have ho12 := hLaid.ops k hlt
        have hled := hPL'.ledd
        obtain ⟨z, hz⟩ : ∃ z, z = L[k]! := ⟨_, rfl⟩
        rw [← hz] at m0 m1 m2 ho12
        have hkd := kind_any z.off z.op z.opd 0 wr ho12 hOr hOr.lt
        unfold insAgg opVals at hkd
        have hfd := fun W => field_lead (.string (str (opName z.op))) (.int .i64 (takesOp z.op : Nat)) (.int .i64 (putsOp z.op : Nat)) (.bool (longOp z.op)) (.bool (leadOp z.op)) W
        replace hz := Lib.hid hz
        replace hled := Lib.hid hled
        cases hl : leadOp z.op with
        | false =>
          rw [hl] at hkd hfd
          replace hkd := Lib.hid hkd
          replace hl := Lib.hid hl
          go_wp2_with fail
          refine hkd.out.mono ?_
          rintro e w2 ⟨rfl, hb2⟩
          have hPL2 := hPL'.below hb2
          go_wp2_with fail
          obtain ⟨p1, p2, p3, p4, p5, p6, p7, p8⟩ := hPL2
          refine ⟨⟨k + 1, by omega, by go_num, (show Hid _ from ⟨p1, insRow_skip p2 (by rw [← hz.out]; exact hl.out), p3, p4, p5, p6, p7, fun i hi hli => ?_⟩)⟩, by simp [intOf]; omega⟩
          by_cases e : i = k
          · subst e
            rw [← hz.out, hl.out] at hli
            cases hli
          · exact p8 i (by omega) hli
        | true =>
          rw [hl] at hkd hfd
          replace hkd := Lib.hid hkd
          replace hl := Lib.hid hl
          go_wp2_with fail
          refine hkd.out.mono ?_
          rintro e w2 ⟨rfl, hb2⟩
          have hPL2 := hPL'.below hb2
          obtain ⟨d0, d1, d2, d3⟩ := hPL2.row k hlt
          simp only [Nat.zero_add] at d0 d1 d2 d3
          rw [← hz.out] at d0 d1 d2
          have cL2 := hPL2.lst.cell
          obtain ⟨cur2, hcu2⟩ := hPL2.blk
          have hsr : Hid (∀ W : World, W.heap = w2.heap → _) := fun W hW => search_any g 0 cap L (tosK L k) z.opd W (by omega) hLaid (fun i hi => by have := (dec_bnd hdec hi).1; omega) (by have := (dec_bnd hdec hlt).2; rw [← hz.out] at this; omega) (by rw [hW]; exact (Array.getElem?_eq_some_iff.1 hcu2).1) (hPL2.row.keep (by rw [hW]))
          have hKc : Hid (∀ W : World, Below w2.heap.size w2 W → W.cell? ⟨w.heap.size + 1 + 1, 0, none⟩ = some (.slice (some ⟨g, 0, none⟩) L.length cap) ∧ W.cell? ⟨g, k * 4 + 2, none⟩ = some (.int .i64 (z.opd : Int))) := fun W hW => by
            have h := hPL2.below hW
            have h2 := (h.row k hlt).2.2.1
            rw [Nat.zero_add, ← hz.out] at h2
            exact ⟨h.lst.cell, h2⟩
          clear hkd m0 m1 m2 m3 cR fR cO fO cL
          go_wp2_with fail
          refine wp_norm ?_
          refine wp_region_held_drew (S := fun w' => w'.cell? ⟨w.heap.size + 1 + 1, 0, none⟩ = some (.slice (some ⟨g, 0, none⟩) L.length cap) ∧ w'.cell? ⟨g, k * 4 + 2, none⟩ = some (.int .i64 (z.opd : Int))) (by kernel_rfl) (by exact ⟨cL2, d2⟩) (fun hHeld => ?_)
          refine take_l (i := 0) (v := ?_) rfl (by kernel_rfl) (by kernel_rfl) (by kernel_rfl) (fun _ _ _ h => h) (Or.inl ⟨by kernel_rfl, ?_⟩) (by assumption) ?_
          rotate_left
          · intro w hSw; (try dsimp only at hSw); go_simp; (try with_reducible rfl)
          (try simp only [Act.put, List.setIfInBounds_toArray, List.set_cons_zero, List.set_cons_succ])
          refine take_l (i := 1) (v := ?_) rfl (by kernel_rfl) (by kernel_rfl) (by kernel_rfl) (fun _ _ _ h => h) (Or.inl ⟨by kernel_rfl, ?_⟩) (by assumption) ?_
          rotate_left
          · intro w hSw; (try dsimp only at hSw); go_simp; (try with_reducible rfl)
          (try simp only [Act.put, List.setIfInBounds_toArray, List.set_cons_zero, List.set_cons_succ])
          refine take_l (i := 2) (v := ?_) rfl (by kernel_rfl) (by kernel_rfl) (by kernel_rfl) (fun _ _ _ h => h) (Or.inl ⟨by kernel_rfl, ?_⟩) (by assumption) ?_
          rotate_left
          · intro w hSw; (try dsimp only at hSw); go_simp; (try with_reducible rfl)
          (try simp only [Act.put, List.setIfInBounds_toArray, List.set_cons_zero, List.set_cons_succ])
          refine take_l (i := 3) (v := ?_) rfl (by kernel_rfl) (by kernel_rfl) (by kernel_rfl) (fun _ _ _ h => h) (Or.inl ⟨by kernel_rfl, ?_⟩) (by assumption) ?_
          rotate_left
          · intro w hSw; (try dsimp only at hSw); go_simp; (try with_reducible rfl)
          (try simp only [Act.put, List.setIfInBounds_toArray, List.set_cons_zero, List.set_cons_succ])
          refine take_l (i := 4) (v := ?_) rfl (by kernel_rfl) (by kernel_rfl) (by kernel_rfl) (fun _ _ _ h => h) (Or.inl ⟨by kernel_rfl, ?_⟩) (by assumption) ?_
          rotate_left
          · intro w hSw; (try dsimp only at hSw); go_simp; (try with_reducible rfl)
          (try simp only [Act.put, List.setIfInBounds_toArray, List.set_cons_zero, List.set_cons_succ])
          refine wpAnyH_ready (rs := [5]) (by kernel_rfl) (by simp) ?_
          refine ready_l rfl (fun K hK => ?_) AllReadyH.nil
          go_simp
          (go_at_call 47; (with_reducible refine (hsr.out w2.drew rfl).mono ?_); rintro e vA ⟨j, rfl, hj, hbvA⟩; have hBvA : Below w2.heap.size w2 vA := Below.trans (by repeat first | with_reducible exact Below.refl _ _ | with_reducible assumption | with_reducible refine below_drewN ?_ _ | with_reducible refine Below.drew ?_ | with_reducible refine Below.setCell ?_ (by first | exact Nat.le_refl _ | (simp; done) | (simp; omega) | omega) _ | with_reducible refine Below.alloc ?_ (by first | exact Nat.le_refl _ | (simp; done) | (simp; omega) | omega) _ | exact Below.refl _ _ | assumption) (hbvA.mono (by first | exact Nat.le_refl _ | assumption | (simp; done) | (simp; omega) | omega)); have hzvA := hbvA.size; )
          refine hK.out _ _ (by exact hKc.out _ hBvA) (fun hHeld => ?_)
          clear hK K
          (try simp only [Act.put, List.setIfInBounds_toArray, List.set_cons_zero, List.set_cons_succ])
          refine take_l (i := 6) (v := ?_) rfl (by kernel_rfl) (by kernel_rfl) (by kernel_rfl) (fun _ _ _ h => h) (Or.inl ⟨by kernel_rfl, ?_⟩) (by assumption) ?_
          rotate_left
          · intro w hSw; (try dsimp only at hSw); go_simp; (try with_reducible rfl)
          (try simp only [Act.put, List.setIfInBounds_toArray, List.set_cons_zero, List.set_cons_succ])
          refine take_l (i := 7) (v := ?_) rfl (by kernel_rfl) (by kernel_rfl) (by kernel_rfl) (fun _ _ _ h => h) (Or.inl ⟨by kernel_rfl, ?_⟩) (by assumption) ?_
          rotate_left
          · intro w hSw; (try dsimp only at hSw); go_simp; (try with_reducible rfl)
          (try simp only [Act.put, List.setIfInBounds_toArray, List.set_cons_zero, List.set_cons_succ])
          refine take_l (i := 8) (v := ?_) rfl (by kernel_rfl) (by kernel_rfl) (by kernel_rfl) (fun _ _ _ h => h) (Or.inl ⟨by kernel_rfl, ?_⟩) (by assumption) ?_
          rotate_left
          · intro w hSw; (try dsimp only at hSw); go_simp; (try with_reducible rfl)
          (try simp only [Act.put, List.setIfInBounds_toArray, List.set_cons_zero, List.set_cons_succ])
          refine take_l (i := 9) (v := ?_) rfl (by kernel_rfl) (by kernel_rfl) (by kernel_rfl) (fun _ _ _ h => h) (Or.inl ⟨by kernel_rfl, ?_⟩) (by assumption) ?_
          rotate_left
          · intro w hSw; (try dsimp only at hSw); go_simp; (try with_reducible rfl)
          (try simp only [Act.put, List.setIfInBounds_toArray, List.set_cons_zero, List.set_cons_succ])
          refine take_l (i := 10) (v := ?_) rfl (by kernel_rfl) (by kernel_rfl) (by kernel_rfl) (fun _ _ _ h => h) (Or.inl ⟨by kernel_rfl, ?_⟩) (by assumption) ?_
          rotate_left
          · intro w hSw; (try dsimp only at hSw); go_simp; (try with_reducible rfl)
          (try simp only [Act.put, List.setIfInBounds_toArray, List.set_cons_zero, List.set_cons_succ])
          refine wpAnyH_done (by kernel_rfl) ?_ _
          dsimp only [onlyNormal]
          have hPLA := hPL2.below hBvA
          have aR := hPLA.res.cell
          have fR := hPLA.res.frozen
          have aO := hPLA.ok.cell
          have fO := hPLA.ok.frozen
          obtain ⟨a0, a1, a2, a3⟩ := hPLA.row k hlt
          simp only [Nat.zero_add] at a0 a1 a2 a3
          obtain ⟨curA, hcuA⟩ := hPLA.blk
          have fA := frozen_of_row vA g (k * 4 + 3) curA 66 hcuA
          have hll : leadOp L[k]!.op = true := by rw [← hz.out]; exact hl.out
          replace hll := Lib.hid hll
          cases hix : idxOf L z.opd with
          | none =>
            have hno := formed_nolead hdec hlt hll.out (by rw [← hz.out]; exact hix)
            replace hix := Lib.hid hix
            have r2 : Boxed ((vA.setCell ⟨w.heap.size, 0, none⟩ (.slice none 0 0)).setCell ⟨w.heap.size + 1, 0, none⟩ (.bool false)) w.heap.size 56 (.slice none 0 0) := Boxed.other (hPLA.res.set _) (by omega) _
            have o2 : Boxed ((vA.setCell ⟨w.heap.size, 0, none⟩ (.slice none 0 0)).setCell ⟨w.heap.size + 1, 0, none⟩ (.bool false)) (w.heap.size + 1) 4 (.bool false) := (Boxed.other hPLA.ok (by omega) _).set _
            have hb2 : Below w.heap.size w ((vA.setCell ⟨w.heap.size, 0, none⟩ (.slice none 0 0)).setCell ⟨w.heap.size + 1, 0, none⟩ (.bool false)) := (hPLA.bel.setCell (p := ⟨w.heap.size, 0, none⟩) (Nat.le_refl _) _).setCell (p := ⟨w.heap.size + 1, 0, none⟩) (by simp) _
            have hmk : ((vA.setCell ⟨w.heap.size, 0, none⟩ (.slice none 0 0)).setCell ⟨w.heap.size + 1, 0, none⟩ (.bool false)).heap[D]? = some (.deferred (some [])) := ((KeepsOthers.setCell _ _ _).trans (KeepsOthers.setCell _ _ _)).same D _ hPLA.mark rfl
            replace hno := Lib.hid hno
            go_wp2_with fail
            gi_wp2_with fail
            generalize (vA.setCell ⟨w.heap.size, 0, none⟩ (.slice none 0 0)).setCell ⟨w.heap.size + 1, 0, none⟩ (.bool false) = wz at *
            have hgr := grownBy_putObj' wz D (.deferred none)
            have hrK : ∀ {b t u}, Boxed wz b t u → (wz.putObj D (.deferred none)).cell? ⟨b, 0, none⟩ = some u := fun {b t u} h => (arr_kept' h hgr (fun r e => by cases e; exact ⟨_, hmk, rfl⟩)).cell
            have c0 := hrK r2
            have c1 := hrK o2
            refine ⟨by simp, .inl ⟨_, _, rfl, run_takeDeferred hmk, ?_⟩⟩
            have hpost : ProgPost code w (.returned (.tuple #[.slice none 0 0, .bool false])) (wz.putObj D (.deferred none)) := ⟨fun l h => (by rw [hno.out] at h; cases h), fun _ => rfl, hb2.trans (belowK_b (w := w) (Nat.le_refl _) wz D _ _ (by omega) hmk rfl rfl)⟩
            exact ⟨_, (by simp [results, Tryd.f34, go_sem, c0, c1]), hpost⟩
          | some j' =>
            obtain rfl := hj j' hix
            have hto : j = toOf L L[k]! := by rw [toOf, hll.out, if_pos rfl, ← hz.out, hix]; rfl
            have hsome : ∃ j, idxOf L L[k]!.opd = some j := ⟨j, by rw [← hz.out]; exact hix⟩
            replace hto := Lib.hid hto
            replace hsome := Lib.hid hsome
            replace hix := Lib.hid hix
            go_wp2_with fail
            have hne1 : ∀ {b t u}, Boxed vA b t u → t ≠ 66 → Boxed (vA.setCell ⟨g, k * 4 + 3, none⟩ (.int .i64 (j : Int))) b t u := fun {b t u} h ht =>
              (heap_setCell_other _ _ _ _ (by
                intro e
                simp only at e
                unfold Boxed at h
                rw [e, hcuA] at h
                injection h with h
                injection h with _ h _
                exact ht h.symm)).trans h
            have hmk : (vA.setCell ⟨g, k * 4 + 3, none⟩ (.int .i64 (j : Int))).heap[D]? = some (.deferred (some [])) := (KeepsOthers.setCell _ _ _).same D _ hPLA.mark rfl
            refine ⟨⟨k + 1, by omega, by go_num, (show Hid _ from ⟨⟨_, cell_setRow_ok hcuA _⟩, insRow_set hPLA.row hlt hto.out, hmk, hne1 hPLA.res (by decide), hne1 hPLA.ok (by decide), hne1 hPLA.lst (by decide), hPLA.bel.setCell (p := ⟨g, k * 4 + 3, none⟩) hbg _, fun i hi hli => ?_⟩)⟩, by simp [intOf]; omega⟩
            by_cases e : i = k
            · subst e
              exact hsome.out
            · exact hPLA.ledd i (by omega) hli
      · have hd : decide ((k : Int) < (L.length : Int)) = false := by simpa using hlt
        obtain rfl : k = L.length := by omega
        have hform := formed_mk h1 h2 hdec hPL'.ledd
        obtain ⟨hblk, hrow, hmark, hres, hok, hlst, hbel, _⟩ := hPL'
        obtain ⟨cur, hcu⟩ := hblk
        have r2 : Boxed ((wr.setCell ⟨w.heap.size, 0, none⟩ (.slice (some ⟨g, 0, none⟩) L.length cap)).setCell ⟨w.heap.size + 1, 0, none⟩ (.bool true)) w.heap.size 56 (.slice (some ⟨g, 0, none⟩) L.length cap) := Boxed.other (hres.set _) (by omega) _
        have o2 : Boxed ((wr.setCell ⟨w.heap.size, 0, none⟩ (.slice (some ⟨g, 0, none⟩) L.length cap)).setCell ⟨w.heap.size + 1, 0, none⟩ (.bool true)) (w.heap.size + 1) 4 (.bool true) := (Boxed.other hok (by omega) _).set _
        have hb2 : Below w.heap.size w ((wr.setCell ⟨w.heap.size, 0, none⟩ (.slice (some ⟨g, 0, none⟩) L.length cap)).setCell ⟨w.heap.size + 1, 0, none⟩ (.bool true)) := (hbel.setCell (p := ⟨w.heap.size, 0, none⟩) (Nat.le_refl _) _).setCell (p := ⟨w.heap.size + 1, 0, none⟩) (by simp) _
        replace hform := Lib.hid hform
        go_wp2_with fail
        gi_wp2_with fail
        have hmk : ((wr.setCell ⟨w.heap.size, 0, none⟩ (.slice (some ⟨g, 0, none⟩) L.length cap)).setCell ⟨w.heap.size + 1, 0, none⟩ (.bool true)).heap[D]? = some (.deferred (some [])) := ((KeepsOthers.setCell _ _ _).trans (KeepsOthers.setCell _ _ _)).same D _ hmark rfl
        have hgk : ((wr.setCell ⟨w.heap.size, 0, none⟩ (.slice (some ⟨g, 0, none⟩) L.length cap)).setCell ⟨w.heap.size + 1, 0, none⟩ (.bool true)).heap[g]? = wr.heap[g]? := by
          have e1 : g ≠ w.heap.size := fun e => by
            rw [e, show wr.heap[w.heap.size]? = _ from hres] at hcu
            injection hcu with hcu
            injection hcu with _ hcu _
            exact absurd hcu (by decide)
          have e2 : g ≠ w.heap.size + 1 := fun e => by
            rw [e, show wr.heap[w.heap.size + 1]? = _ from hok] at hcu
            injection hcu with hcu
            injection hcu with _ hcu _
            exact absurd hcu (by decide)
          rw [heap_setCell_other _ _ _ _ (by simpa using e2), heap_setCell_other _ _ _ _ (by simpa using e1)]
        have hrg := hrow.keep hgk
        generalize (wr.setCell ⟨w.heap.size, 0, none⟩ (.slice (some ⟨g, 0, none⟩) L.length cap)).setCell ⟨w.heap.size + 1, 0, none⟩ (.bool true) = wz at *
        have hgr := grownBy_putObj' wz D (.deferred none)
        have hrK : ∀ {b t u}, Boxed wz b t u → (wz.putObj D (.deferred none)).cell? ⟨b, 0, none⟩ = some u := fun {b t u} h => (arr_kept' h hgr (fun r e => by cases e; exact ⟨_, hmk, rfl⟩)).cell
        have c0 := hrK r2
        have c1 := hrK o2
        have hgD : g ≠ D := fun e => by
          rw [e, hmark] at hcu
          cases hcu
        refine ⟨by simp, .inl ⟨_, _, rfl, run_takeDeferred hmk, ?_⟩⟩
        have hpost : ProgPost code w (.returned (.tuple #[.slice (some ⟨g, 0, none⟩) L.length cap, .bool true])) (wz.putObj D (.deferred none)) := by
          refine ⟨fun l h => ?_, fun h => ?_, hb2.trans (belowK_b (w := w) (Nat.le_refl _) wz D _ _ (by omega) hmk rfl rfl)⟩
          · rw [hform.out] at h
            injection h with h
            subst h
            have hgz := hgk.trans hcu
            have hput := World.putObj_heap_other (w := wz) (o := .deferred none) hgD
            refine ⟨g, cap, rfl, hbg, (Array.getElem?_eq_some_iff.1 (hput.trans hgz)).1, hnc, hcm, ?_⟩
            have := hrg.keep hput
            intro i hi
            have := this i hi
            rw [tosK, if_pos hi] at this
            exact this
          · rw [hform.out] at h
            cases h
        exact ⟨_, (by simp [results, Tryd.f34, go_sem, c0, c1]), hpost⟩
  case stop =>
    rintro D c pre W hD _ ⟨⟨rfl, hPX⟩, hB⟩ hKD
    obtain ⟨⟨x, hx⟩, hres, hok⟩ := hPX
    have hno := formed_nodec (stop_dec code K hK x hx)
    gi_wp2
    have hgr := grownBy_putObj' W D (.deferred none)
    have hrK : ∀ {b t u}, Boxed W b t u → (W.putObj D (.deferred none)).cell? ⟨b, 0, none⟩ = some u := fun {b t u} h => (arr_kept' h hgr (fun r e => by cases e; exact ⟨_, hKD, rfl⟩)).cell
    have c0 := hrK hres
    have c1 := hrK hok
    refine ⟨by simp, .inl ⟨_, _, rfl, run_takeDeferred hKD, ?_⟩⟩
    have hpost : ProgPost code w (.returned (.tuple #[.slice none 0 0, .bool false])) (W.putObj D (.deferred none)) := ⟨fun l h => (by rw [hno] at h; cases h), fun _ => rfl, hB.trans (belowK_b (w := w) (Nat.le_refl _) W D _ _ (by omega) hKD rfl rfl)⟩
    exact ⟨_, by simp [results, Tryd.f34, go_sem, c0, c1], hpost⟩
set_option maxRecDepth 100000 in
set_option maxHeartbeats 2000000 in
theorem program_any (code : List UInt8) (w : World) (hc : code.length ≤ 1000000) (hO : OpsIs w) :
    Calls Tryd.prog 34 #[.string (str code)] w fun e w' => ProgPost code w e w' := by
  by_cases h1 : code = []
  · have hne : (str code).toList.isEmpty = true := by rw [ByteArray.toList_eq, str_list, h1]; rfl
    have hno : Hid (formed code = none) := by show _ = _; unfold formed; rw [if_pos (.inl h1)]
    replace h1 := Lib.hid h1
    generalize str code = P at *
    have hB : Below w.heap.size w w := Below.refl _ _
    go_enter Tryd.func34, Tryd.ntmps34
    go_wp2_with fail
    refine bodyPost_ret (v := .tuple #[.slice none 0 0, .bool false]) (by simp [results, Tryd.f34, go_sem]) rfl ?_
    exact ⟨fun l h => (by rw [hno.out] at h; cases h), fun _ => rfl, (hB.alloc (Nat.le_refl _) _).alloc (by simp) _⟩
  · by_cases h2 : code.length ≤ 1024
    · exact callsIn_wide.1 (program_in code w h1 h2 hO)
    · have hne : (str code).toList.isEmpty = false := by rw [ByteArray.toList_eq, str_list]; simpa using h1
      have hno : Hid (formed code = none) := by show _ = _; unfold formed; rw [if_pos (.inr (by omega))]
      have hps : (str code).size = code.length := str_size code
      have hd : decide ((code.length : Int) > 1024) = true := by simp; omega
      have hgt : 1024 < (code.length : Int) := by omega
      replace h1 := Lib.hid h1
      generalize str code = P at *
      have hB : Below w.heap.size w w := Below.refl _ _
      go_enter Tryd.func34, Tryd.ntmps34
      go_wp2_with fail
      refine bodyPost_ret (v := .tuple #[.slice none 0 0, .bool false]) (by simp [results, Tryd.f34, go_sem]) rfl ?_
      exact ⟨fun l h => (by rw [hno.out] at h; cases h), fun _ => rfl, (hB.alloc (Nat.le_refl _) _).alloc (by simp) _⟩
end Go.Proofs.YtainohbfcehpoaaDoor
