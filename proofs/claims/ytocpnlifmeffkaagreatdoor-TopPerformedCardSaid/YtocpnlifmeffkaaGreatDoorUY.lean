/-
  Package content: the values of the cells.
  Package content: Value.
-/
import Derived.Test.YtocpnlifmeffkaaGreatDoorUR
import Derived.Test.YtocpnlifmeffkaaGreatDoorUB
namespace Go.Proofs.YtocpnlifmeffkaaGreatDoor
open Go.RowKit Go.Shelf

attribute [local go_sem] Oper.semAt_some

theorem Tryz.info_int : (Tryz.prog.info? 3).map (fun i => (i.zero, i.size, i.bytes)) = some (some (.int .i64 0), 1, 8) := by kernel_rfl
def intsV (l : List Int) : List Value := l.map (Value.int .i64)
theorem intsV_snoc (l : List Int) (n : Int) : intsV (l ++ [n]) = intsV l ++ [.int .i64 n] := by simp [intsV]
theorem intsV_at {l : List Int} {j : Nat} (h : j < l.length) : (intsV l)[j]? = some (.int .i64 l[j]!) := by
  unfold intsV
  rw [List.getElem?_map, List.getElem?_eq_getElem h, getElem!_pos l j h]
  rfl
theorem celOk_val {c : Cel} (h : celOk c = true) : -1000000 ≤ c.val ∧ c.val ≤ 1000000 := by
  unfold celOk at h
  rw [Bool.and_eq_true, Bool.and_eq_true] at h
  have h3 := h.2
  split at h3
  · rw [Bool.and_eq_true, Bool.and_eq_true, beq_iff_eq] at h3
    omega
  · rw [Bool.and_eq_true, Bool.and_eq_true, decide_eq_true_eq] at h3
    exact h3.1.1
theorem inRect_iff (c e : Cel) : inRect c e = ((decide (c.top ≤ e.row) && decide (e.row ≤ c.row)) && (decide (c.left ≤ e.col) && decide (e.col ≤ c.col))) := by
  unfold inRect
  rw [Bool.eq_iff_iff]
  simp [and_assoc]
set_option maxRecDepth 100000 in
set_option maxHeartbeats 8000000 in
theorem values_any (al : Option Addr) (nl cl : Nat) (cv : Value) (wd : Int) (bs : List UInt8) (cs : List Cel) (w : World) (hc : cs.length ≤ 64) (hco : cs.all celOk = true) (hcv : SliceAt w w.heap.size cv cs.length (cellCells cs)) :
    Calls Tryz.prog 48 #[docV (.slice al nl cl) cv wd bs] w fun e w' => ∃ v, e = .returned v ∧ w'.ownsRow w.heap.size 3 1 v cs.length (intsV (valsD cs)) ∧ Below w.heap.size w w' := by
  obtain ⟨i0, hi, hz0, hz1, hz2⟩ := info_parts Tryz.info_int
  have hwi := Lib.hid cwithin_any
  obtain ⟨ac, cc, rfl, hc1, hc2, hcc⟩ := hcv
  unfold docV
  have hA : Arr (w.alloc (.cells #[.slice al nl cl, .slice ac cs.length cc, .int .i64 wd, .string (str bs)] 113)) w.heap.size 113 [.slice al nl cl, .slice ac cs.length cc, .int .i64 wd, .string (str bs)] := Arr.new rfl rfl
  have hB : Below w.heap.size w (w.alloc (.cells #[.slice al nl cl, .slice ac cs.length cc, .int .i64 wd, .string (str bs)] 113)) := (Below.refl _ w).alloc (Nat.le_refl _) _
  have hd1 := hA.cell (j := 1) rfl
  replace hcc := Lib.hid hcc
  replace hco := Lib.hid (List.all_eq_true.1 hco)
  go_enter Tryz.func48, Tryz.ntmps48
  go_wp2
  clear hd1
  go_loopw [13, 3] (fun iv ov wr => ∃ k : Nat, k ≤ cs.length ∧ iv = .int .i64 (k : Int) ∧ Hid (Below w.heap.size w wr ∧ Arr wr w.heap.size 113 [.slice al nl cl, .slice ac cs.length cc, .int .i64 wd, .string (str bs)] ∧ wr.ownsRow w.heap.size 3 1 ov k (intsV (valsK cs k)))) (fun iv _ _ => cs.length - (intOf iv).toNat)
  case atStart => exact ⟨0, Nat.zero_le _, rfl, Lib.hid ⟨hB, hA, World.ownsRow_nil _ _ _ _⟩⟩
  case round =>
    clear hA hB
    obtain ⟨k, hk, rfl, hh⟩ := hrel
    obtain ⟨hBr, hAr, hown⟩ := hh.out
    clear hh
    by_cases hlt : k < cs.length
    · have hd : decide ((k : Int) < (cs.length : Int)) = true := by simp; omega
      obtain ⟨b, o, rfl, hb, hx⟩ := hcc.out (by omega)
      have hcell : ∀ W : World, Below w.heap.size w W → ∀ j, j < cs.length → ∀ i v, (encCel cs[j]!)[i]? = some v → W.cell? ⟨b, o + j * 6 + i, none⟩ = some v := fun W hW j hj i v hv => by
        have hi : i < 6 := (List.getElem?_eq_some_iff.1 hv).1
        rw [hW.cell (p := ⟨b, o + j * 6 + i, none⟩) hb, Nat.add_assoc]
        exact hx _ v ((flat_at encCel 6 (fun _ => rfl) cs j i hj hi).trans hv)
      have hx1 := hcell wr hBr k hlt
      replace hcell := Lib.hid hcell
      have hxo := hco.out cs[k]! (by rw [getElem!_pos cs k hlt]; exact List.getElem_mem _)
      have hvb := celOk_val hxo
      have hsucc := Lib.hid (valsK_succ cs hlt)
      have hvl := valsK_len cs (Nat.le_of_lt hlt)
      generalize hxe : cs[k]! = x at *
      have x0 : wr.cell? ⟨b, o + k * 6, none⟩ = some (.int .i64 x.row) := hx1 0 _ rfl
      have x1 : wr.cell? ⟨b, o + k * 6 + 1, none⟩ = some (.int .i64 x.col) := hx1 1 _ rfl
      have x2 : wr.cell? ⟨b, o + k * 6 + 2, none⟩ = some (.bool x.sum) := hx1 2 _ rfl
      have x3 : wr.cell? ⟨b, o + k * 6 + 3, none⟩ = some (.int .i64 x.val) := hx1 3 _ rfl
      have x4 : wr.cell? ⟨b, o + k * 6 + 4, none⟩ = some (.int .i64 x.top) := hx1 4 _ rfl
      have x5 : wr.cell? ⟨b, o + k * 6 + 5, none⟩ = some (.int .i64 x.left) := hx1 5 _ rfl
      have i4 : (0 : Int) ≤ (k : Int) := by omega
      have i5 : (k : Int) < (cs.length : Int) := by omega
      have i6 : ((k : Int) + 1).toNat = k + 1 := by omega
      have i7 : IntKind.i64.wrap ((k : Int) + 1) = (k : Int) + 1 := IntWalk.i64_in _ (by omega)
      have hlt0 : w.heap.size < wr.heap.size := hAr.lt
      have hlt1 : b < wr.heap.size := Nat.lt_of_lt_of_le hb hBr.size
      have hd1 := hAr.cell (j := 1) rfl
      obtain ⟨W1, hW1⟩ : ∃ W1, W1 = wr.alloc (.cells #[.int .i64 x.row, .int .i64 x.col, .bool x.sum, .int .i64 x.val, .int .i64 x.top, .int .i64 x.left] 47) := ⟨_, rfl⟩
      have hB1r : Below wr.heap.size wr W1 := by rw [hW1]; exact (Below.refl _ _).alloc (Nat.le_refl _) _
      have hX1 : Arr W1 wr.heap.size 47 [.int .i64 x.row, .int .i64 x.col, .bool x.sum, .int .i64 x.val, .int .i64 x.top, .int .i64 x.left] := by rw [hW1]; exact Arr.new rfl rfl
      have hB1 := Lib.hid (hBr.trans (hB1r.mono hBr.size))
      have hA1 := Lib.hid (hAr.below hB1r)
      have hown1 := Lib.hid (own_below hown hB1r)
      have hfin : ∀ (n : Int) (W W3 : World) (v' : Value), Below W1.heap.size W1 W → clampV n = valC (cs.take k) (valsK cs k) x → (W.alloc (.cells #[.int .i64 (clampV n)] 3)).grownBy W3 u3.ownBlock → W3.ownsRow w.heap.size 3 1 v' (k + 1) (intsV (valsK cs k) ++ [.int .i64 (clampV n)]) → Below w.heap.size w W3 ∧ Arr W3 w.heap.size 113 [.slice al nl cl, .slice (some ⟨b, o, none⟩) cs.length cc, .int .i64 wd, .string (str bs)] ∧ W3.ownsRow w.heap.size 3 1 v' (k + 1) (intsV (valsK cs (k + 1))) := fun n W W3 v' hbW hn hg ho => by
        have hbA : Below W1.heap.size W1 (W.alloc (.cells #[.int .i64 (clampV n)] 3)) := hbW.alloc hbW.size _
        have hoA := own_below hown1.out hbA
        have hBA := hB1.out.trans (hbA.mono hB1.out.size)
        refine ⟨hBA.grown hg hBA.size (fun g hg => ?_), (hA1.out.below hbA).grown hoA (by decide) hg, ?_⟩
        · exact (hoA.lt g hg).1
        · rw [hsucc.out, intsV_snoc, ← hn]
          exact ho
      replace hfin := Lib.hid hfin
      clear hx1 hx hxo hxe hA1 hAr hBr
      cases hsum : x.sum with
      | false =>
        rw [hsum] at x2 hW1
        have hcl : clampV x.val = valC (cs.take k) (valsK cs k) x := (valC_val _ _ _ hsum).symm
        have hs1 : W1.heap.size = wr.heap.size + 1 := by rw [hW1]; simp
        have hownA : ((wr.alloc (.cells #[.int .i64 x.row, .int .i64 x.col, .bool false, .int .i64 x.val, .int .i64 x.top, .int .i64 x.left] 47)).alloc (.cells #[.int .i64 (min (max x.val (-1000000000000)) 1000000000000)] 3)).ownsRow w.heap.size 3 1 u3 k (intsV (valsK cs k)) := by rw [← hW1]; exact own_below hown1.out ((Below.refl _ _).alloc (Nat.le_refl _) _)
        have hnew : ∀ (j : Nat) u, [Value.int .i64 (min (max x.val (-1000000000000)) 1000000000000)][j]? = some u → ((wr.alloc (.cells #[.int .i64 x.row, .int .i64 x.col, .bool false, .int .i64 x.val, .int .i64 x.top, .int .i64 x.left] 47)).alloc (.cells #[.int .i64 (min (max x.val (-1000000000000)) 1000000000000)] 3)).cell? ((⟨wr.heap.size + 1, 0, none⟩ : Addr).add j) = some u := fun j u hu => by
          rw [← hW1, ← hs1]
          exact cells_new W1 [.int .i64 (min (max x.val (-1000000000000)) 1000000000000)] 3 j u hu
        have hBsz := hB1.out.size
        replace hownA := Lib.hid hownA
        replace hnew := Lib.hid hnew
        replace hs1 := Lib.hid hs1
        clear hown hX1 hsum
        go_wp2_with (at_builtin; refine wpList_append_own _ rfl _ _ 89 rfl w.heap.size 3 i0 (.int .i64 0) 1 8 Tryz.underlying89 hi hz0 hz1 hz2 rfl (by decide) _ _ _ rfl hownA.out ⟨wr.heap.size + 1, 0, none⟩ 1 1 [.int .i64 (min (max x.val (-1000000000000)) 1000000000000)] rfl rfl hnew.out (by simp [Value.oneCell']) ?qa ?qb ?qc ?_)
        case qa => unfold maxLen; omega
        case qb => omega
        case qc => have := hs1.out; simp only [World.size_alloc]; omega
        intro v' wn hown4 hgrow hnil
        have hend := Lib.hid (hfin.out x.val W1 wn v' (Below.refl _ _) hcl (by rw [hW1]; exact hgrow) hown4)
        clear hown4 hgrow hnil hnew hownA hfin hown1 hB1
        go_wp2_with fail
        exact ⟨⟨k + 1, by omega, rfl, hend⟩, by simp [intOf]; omega⟩
      | true =>
        obtain ⟨wo, hwo⟩ : ∃ wo, wo = wr := ⟨_, rfl⟩
        subst hwo
        rw [hsum] at x2 hW1
        have hl1 : (cs.take k).length = k := by rw [List.length_take]; omega
        have hbnd := fun j (hj : j ≤ k) => sumTo_in x (cs.take k) (valsK cs k) (by rw [hvl, hl1]) (valsK_in cs k) j (by rw [hl1]; exact hj)
        have hnx := fun j (hj : j < k) => sumTo_succ x (cs.take k) (valsK cs k) (k := j) (by rw [hl1]; exact hj) (by rw [hvl, hl1])
        have hcl := valC_sum x (cs.take k) (valsK cs k) (by rw [hvl, hl1]) hsum
        rw [hl1] at hcl
        have hzero := sumTo_zero x (cs.take k) (valsK cs k)
        have hX0 := hX1.cell (j := 0) rfl
        have i8 : (k : Int) ≤ (cc : Int) := by omega
        have hk64 : k ≤ 64 := by omega
        have hs1 : W1.heap.size = wo.heap.size + 1 := by rw [hW1]; simp
        have hbW1 : b < W1.heap.size := by omega
        replace hbnd := Lib.hid hbnd
        replace hnx := Lib.hid hnx
        replace hcl := Lib.hid hcl
        replace hX1 := Lib.hid hX1
        replace hs1 := Lib.hid hs1
        clear hown hX0
        go_wp2
        rw [← hW1]
        go_loopw [28, 6] (fun jv nv w2 => ∃ j : Nat, j ≤ k ∧ jv = .int .i64 (j : Int) ∧ nv = .int .i64 (sumTo x (cs.take k) (valsK cs k) j) ∧ Hid (Below W1.heap.size W1 w2)) (fun jv _ _ => k - (intOf jv).toNat)
        case atStart => exact ⟨0, Nat.zero_le _, rfl, by rw [hzero], Lib.hid (Below.refl _ _)⟩
        case round =>
          obtain ⟨j, hj, rfl, rfl, hh2⟩ := hrel
          have hb2 := hh2.out
          clear hh2
          by_cases hjk : j < k
          · have hdj : decide ((j : Int) < (k : Int)) = true := by simp; omega
            have hcj := hcell.out wr (hB1.out.trans (hb2.mono hB1.out.size)) j (by omega)
            have hnj := hnx.out j hjk
            have hbj := hbnd.out j (by omega)
            have hej : (cs.take k)[j]! = cs[j]! := by
              rw [getElem!_pos (cs.take k) j (by rw [hl1]; exact hjk), getElem!_pos cs j (by omega), List.getElem_take]
            rw [hej, inRect_iff] at hnj
            generalize cs[j]! = y at *
            have y0 : wr.cell? ⟨b, o + j * 6, none⟩ = some (.int .i64 y.row) := hcj 0 _ rfl
            have y1 : wr.cell? ⟨b, o + j * 6 + 1, none⟩ = some (.int .i64 y.col) := hcj 1 _ rfl
            have y2 : wr.cell? ⟨b, o + j * 6 + 2, none⟩ = some (.bool y.sum) := hcj 2 _ rfl
            have y3 : wr.cell? ⟨b, o + j * 6 + 3, none⟩ = some (.int .i64 y.val) := hcj 3 _ rfl
            have y4 : wr.cell? ⟨b, o + j * 6 + 4, none⟩ = some (.int .i64 y.top) := hcj 4 _ rfl
            have y5 : wr.cell? ⟨b, o + j * 6 + 5, none⟩ = some (.int .i64 y.left) := hcj 5 _ rfl
            have hX2 := hX1.out.below hb2
            have z0 : wr.cell? ⟨wo.heap.size, 0, none⟩ = some (.int .i64 x.row) := hX2.cell rfl
            have z1 : wr.cell? ⟨wo.heap.size, 1, none⟩ = some (.int .i64 x.col) := hX2.cell rfl
            have z4 : wr.cell? ⟨wo.heap.size, 4, none⟩ = some (.int .i64 x.top) := hX2.cell rfl
            have z5 : wr.cell? ⟨wo.heap.size, 5, none⟩ = some (.int .i64 x.left) := hX2.cell rfl
            have hlx : wo.heap.size < wr.heap.size := hX2.lt
            have hly : b < wr.heap.size := Nat.lt_of_lt_of_le hbW1 hb2.size
            have i9 : (0 : Int) ≤ (j : Int) := by omega
            have i10 : (j : Int) < (k : Int) := by omega
            have i11 : IntKind.i64.wrap ((j : Int) + 1) = (j : Int) + 1 := IntWalk.i64_in _ (by omega)
            have hbA : Below wr.heap.size wr (wr.alloc (.cells #[.int .i64 y.row, .int .i64 y.col, .bool y.sum, .int .i64 y.val, .int .i64 y.top, .int .i64 y.left] 47)) := (Below.refl _ _).alloc (Nat.le_refl _) _
            have hbB := hb2.trans (hbA.mono hb2.size)
            have hvj := valsK_in cs k (valsK cs k)[j]! (by rw [getElem!_pos _ j (by omega)]; exact List.getElem_mem _)
            obtain ⟨g, cap, rfl, hBg, hcg⟩ := own_cell (own_below hown1.out hb2) (intsV_at (l := valsK cs k) (j := j) (by omega))
            have hlg : g < wr.heap.size := (own_below hown1.out hb2).lt g rfl |>.2
            have hwr : IntKind.i64.wrap (sumTo x (cs.take k) (valsK cs k) j + (valsK cs k)[j]!) = sumTo x (cs.take k) (valsK cs k) j + (valsK cs k)[j]! := IntWalk.i64_in _ (by omega)
            replace hbB := Lib.hid hbB
            replace hnj := Lib.hid hnj
            clear hcj hX2 hfin hcell hbA hcl hbnd hnx
            generalize sumTo x (cs.take k) (valsK cs k) j = S at *
            generalize (valsK cs k)[j]! = vj at *
            cases q1 : (decide (x.top ≤ y.row) && decide (y.row ≤ x.row)) with
            | false =>
              have hS := hnj.out
              rw [q1, Bool.false_and, if_neg (by simp)] at hS
              go_wp2_with (go_at_call 87; refine (hwi.out _ _ _ _).mono ?_; rintro e w5 ⟨rfl, rfl⟩; simp only [q1])
              go_roundw
              case rel => exact ⟨j + 1, by omega, rfl, by rw [hS], hbB⟩
              case measure => simp [intOf]; omega
            | true =>
              cases q2 : (decide (x.left ≤ y.col) && decide (y.col ≤ x.col)) with
              | false =>
                have hS := hnj.out
                rw [q1, q2, Bool.and_false, if_neg (by simp)] at hS
                go_wp2_with (go_at_call 87; refine (hwi.out _ _ _ _).mono ?_; rintro e w5 ⟨rfl, rfl⟩; simp only [q1, q2])
                go_roundw
                case rel => exact ⟨j + 1, by omega, rfl, by rw [hS], hbB⟩
                case measure => simp [intOf]; omega
              | true =>
                have hS := hnj.out
                rw [q1, q2, Bool.and_true, if_pos rfl] at hS
                go_wp2_with (go_at_call 87; refine (hwi.out _ _ _ _).mono ?_; rintro e w5 ⟨rfl, rfl⟩; simp only [q1, q2])
                go_roundw
                case rel => exact ⟨j + 1, by omega, rfl, by rw [hS], hbB⟩
                case measure => simp [intOf]; omega
          · obtain rfl : j = k := by omega
            have hdj : decide ((j : Int) < (j : Int)) = false := by simp
            have hcl2 : clampV (sumTo x (cs.take j) (valsK cs j) j) = valC (cs.take j) (valsK cs j) x := hcl.out.symm
            have hownB := own_below hown1.out hb2
            have hbsz := hb2.size
            clear hbnd hnx hcell hX1 hown1 hcl hzero
            generalize sumTo x (cs.take j) (valsK cs j) j = S at *
            have hba : Below wr.heap.size wr (wr.alloc (.cells #[.int .i64 (min (max S (-1000000000000)) 1000000000000)] 3)) := (Below.refl _ _).alloc (Nat.le_refl _) _
            have hownA := Lib.hid (own_below hownB hba)
            have hnew : ∀ (j : Nat) u, [Value.int .i64 (min (max S (-1000000000000)) 1000000000000)][j]? = some u → (wr.alloc (.cells #[.int .i64 (min (max S (-1000000000000)) 1000000000000)] 3)).cell? ((⟨wr.heap.size, 0, none⟩ : Addr).add j) = some u := fun j u hu => cells_new wr [.int .i64 (min (max S (-1000000000000)) 1000000000000)] 3 j u hu
            have hBsz := hB1.out.size
            replace hnew := Lib.hid hnew
            clear hownB hba
            go_wp2_with (at_builtin; refine wpList_append_own _ rfl _ _ 89 rfl w.heap.size 3 i0 (.int .i64 0) 1 8 Tryz.underlying89 hi hz0 hz1 hz2 rfl (by decide) _ _ _ rfl hownA.out ⟨wr.heap.size, 0, none⟩ 1 1 [.int .i64 (min (max S (-1000000000000)) 1000000000000)] rfl rfl hnew.out (by simp [Value.oneCell']) ?qa ?qb ?qc ?_)
            case qa => unfold maxLen; omega
            case qb => omega
            case qc => simp only [World.size_alloc]; omega
            intro v' wn hown4 hgrow hnil
            have hend := Lib.hid (hfin.out S wr wn v' hb2 hcl2 hgrow hown4)
            clear hown4 hgrow hnil hnew hownA hfin hB1
            go_wp2_with fail
            exact ⟨⟨j + 1, by omega, rfl, hend⟩, by simp [intOf]; omega⟩
    · obtain rfl : k = cs.length := by omega
      have hd : decide ((cs.length : Int) < (cs.length : Int)) = false := by simp
      rw [valsK_all] at hown
      go_wp2
      go_ret
      exact ⟨_, rfl, hown, hBr⟩
end Go.Proofs.YtocpnlifmeffkaaGreatDoor
namespace Go.Proofs.YtocpnlifmeffkaaGreatDoor
open Go.RowKit Go.Shelf Go.Maps

attribute [local go_sem] Oper.semAt_some

set_option maxRecDepth 100000 in
set_option maxHeartbeats 4000000 in
theorem Value_any (lv cv : Value) (ls : List Lin) (cs : List Cel) (r k : Int) (i : Nat) (w : World) (hl : ls.length ≤ 64) (hc : cs.length ≤ 64) (hup : celsUp cs = true) (hlo : ls.all linOk = true) (hco : cs.all celOk = true) (hlv : SliceAt w w.heap.size lv ls.length (linCells ls)) (hcv : SliceAt w w.heap.size cv cs.length (cellCells cs))
    (hi : Lib.idxBy (fun _ y => y.row == r && y.col == k) cs default = (i : Int)) (hlt : i < cs.length) :
    Calls Tryz.prog 16 #[docV lv cv 0 [], .int .i64 r, .int .i64 k] w fun e w' => e = .returned (.tuple #[.int .i64 (valsD cs)[i]!, .bool true]) ∧ Below w.heap.size w w' := by
  have hmf : ∀ (fn : Fn) (first cap : Array Value) (w : World), (Instr.makeFunc fn first cap).run Tryz.prog w = .ok (.func fn first cap) w := fun _ _ _ _ => rfl
  have hV := Lib.hid fun W (h : Below w.heap.size w W) => Valid0_any lv cv ls cs W hl hc hup hlo hco (hlv.later h) (hcv.later h)
  have hS : ∃ al cl, lv = .slice al ls.length cl := by obtain ⟨a, c, e, _⟩ := hlv; exact ⟨a, c, e⟩
  obtain ⟨al, cl, rfl⟩ := hS
  have hVs := Lib.hid fun W (h : Below w.heap.size w W) => values_any al ls.length cl cv 0 [] cs W hc hco (hcv.later h)
  have hvl : (valsD cs).length = cs.length := by rw [← valsK_all]; exact valsK_len cs (Nat.le_refl _)
  obtain ⟨ac, cc, rfl, hc1, hc2, hcc⟩ := hcv
  obtain ⟨b, o, rfl, hb, hx⟩ := hcc (by omega)
  obtain ⟨W0, hW0⟩ : ∃ W0, W0 = ((w.alloc (.cells #[.slice al ls.length cl, .slice (some ⟨b, o, none⟩) cs.length cc, .int .i64 0, .string (str [])] 50)).alloc (.cells #[.int .i64 r] 3)).alloc (.cells #[.int .i64 k] 3) := ⟨_, rfl⟩
  have hB0 : Below w.heap.size w W0 := by rw [hW0]; exact (((Below.refl _ _).alloc (Nat.le_refl _) _).alloc (by simp) _).alloc (by simp; omega) _
  have hA0 : Arr W0 w.heap.size 50 [.slice al ls.length cl, .slice (some ⟨b, o, none⟩) cs.length cc, .int .i64 0, .string (str [])] := by rw [hW0]; exact ((Arr.new rfl rfl).alloc _).alloc _
  have hr0 : Arr W0 (w.heap.size + 1) 3 [.int .i64 r] := by rw [hW0]; exact (Arr.new rfl (by simp)).alloc _
  have hk0 : Arr W0 (w.heap.size + 1 + 1) 3 [.int .i64 k] := by rw [hW0]; exact Arr.new rfl (by simp)
  have hI := indexV_any (w.heap.size + 1) (w.heap.size + 1 + 1) b o cc r k cs W0 (hr0.cell rfl) (hk0.cell rfl) hr0.lt hk0.lt hc (Nat.lt_of_lt_of_le hb hB0.size) (fun j u hu => (hB0.cell (p := ⟨b, o + j, none⟩) hb).trans (hx j u hu))
  rw [hi, hW0] at hI
  have hAc : ∀ W, Arr W w.heap.size 50 [.slice al ls.length cl, .slice (some ⟨b, o, none⟩) cs.length cc, .int .i64 0, .string (str [])] → W.cell? ⟨w.heap.size, 0, none⟩ = some (.slice al ls.length cl) ∧ W.cell? ⟨w.heap.size, 1, none⟩ = some (.slice (some ⟨b, o, none⟩) cs.length cc) ∧ W.cell? ⟨w.heap.size, 2, none⟩ = some (.int .i64 0) ∧ W.cell? ⟨w.heap.size, 3, none⟩ = some (.string (str [])) := fun W h => ⟨h.cell rfl, h.cell rfl, h.cell rfl, h.cell rfl⟩
  have hdi : decide ((i : Int) < 0) = false := by simp
  have i1 : (0 : Int) ≤ (i : Int) := by omega
  have i2 : (i : Int) < (cs.length : Int) := by omega
  have hat := intsV_at (l := valsD cs) (j := i) (by omega)
  generalize (valsD cs)[i]! = X at *
  have hd1 := hA0.cell (j := 1) rfl
  rw [hW0] at hd1
  replace hAc := Lib.hid hAc
  replace hI := Lib.hid hI
  replace hA0 := Lib.hid hA0
  replace hB0 := Lib.hid hB0
  replace hat := Lib.hid hat
  clear hr0 hk0 hx hcc hlv hup hlo hco hi
  unfold docV at *
  go_enter Tryz.func16, Tryz.ntmps16
  go_wp2_with (first
    | (go_at_call 45; refine hI.out.mono ?_; rw [← hW0]; rintro e w1 ⟨rfl, hb1⟩; have hA1 := hA0.out.below hb1; have hB1 := hB0.out.trans (hb1.mono hB0.out.size); obtain ⟨a0, a1, a2, a3⟩ := hAc.out _ hA1)
    | (go_at_call 47; refine (hV.out _ hB1).mono ?_; rintro e w2 ⟨rfl, hb2⟩; have hA2 := hA1.below hb2; have hB2 := hB1.trans (hb2.mono hB1.size); obtain ⟨e0, e1, e2, e3⟩ := hAc.out _ hA2)
    | (go_at_call 48; refine (hVs.out _ hB2).mono ?_; rintro e w3 ⟨v, rfl, ho3, hb3⟩; obtain ⟨g, cap, rfl, hg, hcg⟩ := own_cell ho3 hat.out; have hB3 := hB2.trans (hb3.mono hB2.size)))
  go_ret2
  exact ⟨rfl, hB3⟩
end Go.Proofs.YtocpnlifmeffkaaGreatDoor
