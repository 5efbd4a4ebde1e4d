/-
  The contracts of strings.Builder's methods inside content's writer.
  Package content: the writer's numbers and text.
  Package content: the property of the texts.
-/
import Derived.Test.YtocpnlifmeffkaaGreatDoorUP
import Derived.Test.YtocpnlifmeffkaaGreatDoorUF
namespace Go.Proofs.YtocpnlifmeffkaaGreatDoor
open Go.RowKit Go.Shelf

theorem Tryz.liesWriter : liesAt Tryz.prog Tryz.prog.depth 121 (2 / Tryz.prog.cellsOf 121) 0 75 1 = true := by kernel_rfl
namespace Wr
set_option maxHeartbeats 1000000 in
set_option maxRecDepth 100000 in
theorem copyCheck_fresh (b : Nat) (w : World) (h0 : w.cell? ⟨b, 0, none⟩ = some (.pointer none)) (hsh : w.shape? b = some (121, 2)) (hfz : w.frozen? ⟨b, 0, none⟩ = false) :
    Calls Tryz.prog 65 #[.pointer (some ⟨b, 0, none⟩)] w fun e w' => e = .returned (.tuple #[]) ∧ w' = w.setCell ⟨b, 0, none⟩ (.pointer (some ⟨b, 0, none⟩)) := by
  obtain ⟨j, hj, hjs⟩ := Option.map_eq_some_iff.1 Tryz.sizeBuilder
  go_enter Tryz.func65, Tryz.ntmps65
  go_wp2
  rw [Lib.run_to_unsafe w ⟨b, 0, none⟩ Tryz.underlying73 Tryz.underlying192 hj (by rw [hjs]; decide) hsh (Nat.zero_lt_succ 1)]
  simp only [Result.andThen]
  rw [Oper.upon_value]
  go_wp2
  rw [run_callFunc_extern Tryz.func141 (by kernel_rfl) (by kernel_rfl) (by kernel_rfl) (e := Extern.AbiNoEscape.same) (by kernel_rfl)]
  rw [Lib.run_noEscape]
  simp only [Result.andThen]
  rw [Oper.upon_value]
  go_wp2
  rw [Lib.run_from_unsafe w ⟨b, 0, none⟩ Tryz.underlying192 Tryz.underlying73 hj hsh Tryz.liesWriter]
  simp only [Result.andThen]
  rw [Oper.upon_value]
  go_wp2
  go_end0
  exact ⟨rfl, rfl⟩

theorem copyCheck_any (B b : Nat) (bs : List Value) (w : World) (h : Lib.IsBuilder 121 5 B b bs w) :
    Calls Tryz.prog 65 #[.pointer (some ⟨b, 0, none⟩)] w fun e w' => e = .returned (.tuple #[]) ∧ (Lib.BuilderAt 121 5 B b (.pointer (some ⟨b, 0, none⟩)) bs w' ∧ Below B w w') ∧ KeepW b w w' := by
  rcases h with h | h
  · refine (copyCheck_fresh b w h.cell0 h.shape h.frozen0).mono ?_
    rintro e w' ⟨rfl, rfl⟩
    exact ⟨rfl, ⟨h.used _, (Below.refl B w).setCell (p := ⟨b, 0, none⟩) h.1 _⟩, (KeepW.of_below (Below.refl _ w)).setCell _ _⟩
  · refine (copyCheck_used b w h.cell0).mono ?_
    rintro e w' ⟨rfl, rfl⟩
    exact ⟨rfl, ⟨h, Below.refl B _⟩, KeepW.of_below (Below.refl _ _)⟩

set_option maxHeartbeats 2000000 in
set_option maxRecDepth 100000 in
theorem WriteString_any (B b : Nat) (bs : List Value) (s : ByteArray) (w : World) (h : Lib.IsBuilder 121 5 B b bs w) (hlen : bs.length + s.size ≤ 140737488355328) (hBw : B ≤ w.heap.size) :
    Calls Tryz.prog 26 #[.pointer (some ⟨b, 0, none⟩), .string s] w fun e w' => e = .returned (.tuple #[.int .i64 s.size, .nilIface]) ∧ (Lib.BuilderAt 121 5 B b (.pointer (some ⟨b, 0, none⟩)) (bs ++ Lib.strCells s) w' ∧ Below B w w') ∧ KeepW b w w' := by
  obtain ⟨i0, hi, hz0, hz1, hz2⟩ := info_parts Tryz.info_byte3
  go_enter Tryz.func26, Tryz.ntmps26
  go_wp2_with (go_at_call 65; refine (copyCheck_any B b bs _ h).mono ?_)
  rintro e w1 ⟨rfl, ⟨h1, hb1⟩, hk1⟩
  obtain ⟨hB, v, hbk, hown, hne⟩ := h1
  have c0 : w1.cell? ⟨b, 0, none⟩ = some (.pointer (some ⟨b, 0, none⟩)) := by rw [Lib.cell_of_heap hbk]; rfl
  have c1 : w1.cell? ⟨b, 1, none⟩ = some v := by rw [Lib.cell_of_heap hbk]; rfl
  go_wp2_with (at_builtin; refine Lib.wpList_append_own_string _ rfl _ _ 57 9 rfl B 5 i0 Tryz.underlying57 Tryz.underlying9 hi hz0 hz1 hz2 _ _ _ rfl hown s rfl ?c3 ?c4 ?c5 ?_)
  case c3 => unfold maxLen; omega
  case c4 => omega
  case c5 => have := hb1.size; omega
  intro v' w2 hown' hgrow _
  have hlt : b < w1.heap.size := by
    rcases Nat.lt_or_ge b w1.heap.size with h' | h'
    · exact h'
    · simp [Array.getElem?_eq_none h'] at hbk
  have hb2 : w2.heap[b]? = some (.cells #[.pointer (some ⟨b, 0, none⟩), v] 121 (0, 0)) := by
    rw [hgrow.block b hlt (fun e => hne e.symm)]
    exact hbk
  have d0 : w2.cell? ⟨b, 0, none⟩ = some (.pointer (some ⟨b, 0, none⟩)) := by rw [Lib.cell_of_heap hb2]; rfl
  have d1 : w2.cell? ⟨b, 1, none⟩ = some v := by rw [Lib.cell_of_heap hb2]; rfl
  have f1 : w2.frozen? ⟨b, 1, none⟩ = false := Lib.frozen_of_heap hb2 1
  obtain ⟨ao, n', cap, rfl⟩ : ∃ ao n' cap, v' = .slice ao n' cap := by
    rcases hown'.2 with ⟨hv, _⟩ | ⟨g, cap, cur, hv, _⟩
    · exact ⟨_, _, _, hv⟩
    · exact ⟨_, _, _, hv⟩
  have hk2 : KeepW b w w2 := hk1.trans ⟨hgrow.size, fun k o hk ho hn => by
    refine (hgrow.block k (Array.getElem?_eq_some_iff.1 ho).1 (fun e => ?_)).trans ho
    rcases hown.2 with ⟨hv, _⟩ | ⟨g, cap, cur, hv, _, hg, _⟩
    · rw [hv] at e; cases e
    · rw [hv] at e
      simp only [Value.ownBlock, Option.some.injEq] at e
      subst e
      rw [hg] at ho
      injection ho with ho
      exact hn _ ho.symm⟩
  replace hk2 := Lib.hid hk2
  go_wp2
  go_ret2
  refine ⟨rfl, ⟨?_, ?_⟩, hk2.out.setCell _ _⟩
  · exact Lib.BuilderAt.put (T := 121) (e := 5) hB hb2 (bs' := bs ++ Lib.strCells s) (by simpa [Lib.strCells_length] using hown') (by decide)
  · exact (hb1.grown hgrow (by have := hb1.size; omega) (fun k hk => (hown.lt k hk).1)).setCell (p := ⟨b, 1, none⟩) hB _

set_option maxHeartbeats 2000000 in
set_option maxRecDepth 100000 in
theorem String_nil (b : Nat) (p : Value) (w : World) (hbk : w.heap[b]? = some (.cells #[p, .slice none 0 0] 121 (0, 0))) :
    Calls Tryz.prog 28 #[.pointer (some ⟨b, 0, none⟩)] w fun e w' => e = .returned (.string (str [])) ∧ w' = w.drew := by
  have hUS : ∀ W : World, (Builtin.unsafeString_ #[152, 3] 9 #[.pointer none, .int .i64 0]).run Tryz.prog W = .ok (.string .empty) W := fun W => Lib.run_unsafeString_none W _ _ _ none
  have c1 : w.drew.cell? ⟨b, 1, none⟩ = some (.slice none 0 0) := by
    have : w.drew.heap[b]? = some (.cells #[p, .slice none 0 0] 121 (0, 0)) := hbk
    rw [Lib.cell_of_heap this]; rfl
  have hSD : (Builtin.unsafeSliceData_ #[57] 152 #[.slice none 0 0]).run Tryz.prog w.drew = .ok (.pointer none) w.drew := rfl
  go_enter Tryz.func28, Tryz.ntmps28
  go_wp2
  go_region
  all_goals (go_wp2; go_ret; exact ⟨rfl, rfl⟩)

set_option maxHeartbeats 2000000 in
set_option maxRecDepth 100000 in
theorem String_some (B b : Nat) (l : List UInt8) (w : World) (h : Lib.IsBuilder 121 5 B b (Lib.byteCells l) w) (h0 : l ≠ []) :
    Calls Tryz.prog 28 #[.pointer (some ⟨b, 0, none⟩)] w fun e w' => e = .returned (.string (str l)) ∧ KeepW b w w' ∧ Below B w w' := by
  obtain ⟨p, hB, v, hbk, hown, hne⟩ : ∃ p, Lib.BuilderAt 121 5 B b p (Lib.byteCells l) w := by
    rcases h with h | h
    · exact ⟨_, h⟩
    · exact ⟨_, h⟩
  have hl0 : l.length ≠ 0 := by simpa using h0
  rw [Lib.byteCells_length] at hown
  obtain ⟨g, cap, cur, rfl, hbg, hg, hnc, hcm, hcs, htake⟩ : ∃ g cap cur, v = .slice (some ⟨g, 0, none⟩) l.length cap ∧ B ≤ g ∧ w.heap[g]? = some (.cells cur 5 (0, 0)) ∧ l.length ≤ cap ∧ cap ≤ maxLen ∧ cur.size = cap * 1 ∧ cur.toList.take (l.length * 1) = Lib.byteCells l := by
    rcases hown.2 with ⟨_, hz⟩ | ⟨g, cap, cur, hv, r⟩
    · exact absurd hz hl0
    · exact ⟨g, cap, cur, hv, r⟩
  have c1 : w.drew.cell? ⟨b, 1, none⟩ = some (.slice (some ⟨g, 0, none⟩) l.length cap) := by
    have : w.drew.heap[b]? = some (.cells #[p, .slice (some ⟨g, 0, none⟩) l.length cap] 121 (0, 0)) := hbk
    rw [Lib.cell_of_heap this]; rfl
  have hSD : (Builtin.unsafeSliceData_ #[57] 152 #[.slice (some ⟨g, 0, none⟩) l.length cap]).run Tryz.prog w.drew = .ok (.pointer (some ⟨g, 0, none⟩)) w.drew :=
    Lib.run_unsafeSliceData_row _ _ _ _ _ _ (by omega)
  have hUS : (Builtin.unsafeString_ #[152, 3] 9 #[.pointer (some ⟨g, 0, none⟩), .int .i64 l.length]).run Tryz.prog w.drew = .ok (.string (str l)) (w.drew.freeze ⟨g, 0, none⟩ l.length) := by
    refine Lib.run_unsafeString_row w.drew 152 3 9 5 Tryz.underlying152 (by kernel_rfl) g cur.size (by have hg' : w.drew.heap[g]? = some (.cells cur 5 (0, 0)) := hg; simp [World.shape?, hg']) l h0 (by omega) (by unfold maxLen at hcm; omega) ?_
    intro j x hx
    have := hown.cells (g := g) rfl j (.int .u8 x.toNat) (by simp [Lib.byteCells, hx])
    exact this
  have hfz := keepW_freeze (b := b) (w := w.drew) hg l.length hbg
  replace hfz := Lib.hid hfz
  clear hown htake
  go_enter Tryz.func28, Tryz.ntmps28
  go_wp2
  go_region
  all_goals (go_wp2; go_ret; exact ⟨rfl, hfz.out.1.drew, (Below.drew (Below.refl B w)).trans hfz.out.2⟩)

end Wr
end Go.Proofs.YtocpnlifmeffkaaGreatDoor
namespace Go.Proofs.YtocpnlifmeffkaaGreatDoor
open Go.RowKit Go.Shelf

attribute [local go_sem] Oper.semAt_some

theorem strCells_list (l : List UInt8) : Lib.strCells (str l) = Lib.byteCells l := by simp [Lib.byteCells, Lib.strCells, str]
theorem byteCells_app (a b : List UInt8) : Lib.byteCells (a ++ b) = Lib.byteCells a ++ Lib.byteCells b := by simp [Lib.byteCells]
abbrev IsW (b : Nat) (l : List UInt8) (w : World) : Prop := Lib.IsBuilder 121 5 b b (Lib.byteCells l) w
theorem wwrite_any (b : Nat) (pre s : List UInt8) (w : World) (h : IsW b pre w) (hl : pre.length + s.length ≤ 10000000) :
    Calls Tryz.prog 26 #[.pointer (some ⟨b, 0, none⟩), .string (str s)] w fun e w' => (∃ n : Int, e = .returned (.tuple #[.int .i64 n, .nilIface])) ∧ IsW b (pre ++ s) w' ∧ Below b w w' ∧ KeepW b w w' := by
  obtain ⟨cs, hb⟩ := isBuilder_heap h
  have hlt := (Array.getElem?_eq_some_iff.1 hb).1
  have hsz : (str s).size = s.length := by simp [str, ByteArray.size]
  refine (Wr.WriteString_any b b (Lib.byteCells pre) (str s) w h (by rw [Lib.byteCells_length, hsz]; omega) (Nat.le_of_lt hlt)).mono ?_
  rintro e w' ⟨rfl, ⟨h1, h2⟩, h3⟩
  rw [strCells_list, ← byteCells_app] at h1
  exact ⟨⟨_, rfl⟩, .inr h1, h2, h3⟩
theorem isW_lt {b : Nat} {l : List UInt8} {w : World} (h : IsW b l w) : b < w.heap.size := by
  obtain ⟨cs, hb⟩ := isBuilder_heap h
  exact (Array.getElem?_eq_some_iff.1 hb).1
set_option maxHeartbeats 1000000 in
theorem text_any (b : Nat) (pre s : List UInt8) (w : World) (h : IsW b pre w) (hs : s.length ≤ 65536) (hl : pre.length ≤ 1000000) :
    Calls Tryz.prog 90 #[.pointer (some ⟨b, 0, none⟩), .string (str s)] w fun e w' => e = .returned (.tuple #[]) ∧ IsW b (pre ++ putSb s) w' ∧ Below b w w' ∧ KeepW b w w' := by
  have hP := Lib.hid fun W => PutString_any s W hs
  have hlt := isW_lt h
  have hlen : pre.length + (putSb s).length ≤ 10000000 := by
    have := putZ_len (s.length : Int)
    rw [putSb_len]
    omega
  go_enter Tryz.func90, Tryz.ntmps90
  go_wp2_with (first
    | (go_at_call 120; refine (hP.out _).mono ?_; rintro e w1 ⟨rfl, hb1⟩)
    | (go_at_call 26; refine (wwrite_any b pre (putSb s) _ (isBuilder_below h hb1) hlen).mono ?_; rintro e w2 ⟨⟨n, rfl⟩, hW, hb2, hk2⟩))
  go_end0
  exact ⟨rfl, hW, (hb1.mono (Nat.le_of_lt hlt)).trans hb2, (KeepW.of_below hb1).trans hk2⟩
set_option maxHeartbeats 2000000 in
theorem numbers_any (b g cap : Nat) (pre : List UInt8) (ns : List Int) (w : World) (h : IsW b pre w) (hA : Arr w g 3 (ns.map (Value.int .i64))) (hne : g ≠ b) (hn : ns.length ≤ 1000) (hl : pre.length ≤ 1000000) (hz : ∀ n ∈ ns, -(2 ^ 62 - 1) ≤ n ∧ n ≤ 2 ^ 62 - 1) :
    Calls Tryz.prog 89 #[.pointer (some ⟨b, 0, none⟩), .slice (some ⟨g, 0, none⟩) ns.length cap] w fun e w' => e = .returned (.tuple #[]) ∧ IsW b (pre ++ ns.flatMap putZ) w' ∧ Below b w w' ∧ KeepW b w w' := by
  have hlt := isW_lt h
  go_enter Tryz.func89, Tryz.ntmps89
  go_wp2
  go_loopw [10] (fun i wr => ∃ k : Nat, k ≤ ns.length ∧ i = .int .i64 k ∧ Hid (IsW b (pre ++ (ns.take k).flatMap putZ) wr ∧ Below b w wr ∧ KeepW b w wr)) (fun i _ => ns.length - (intOf i).toNat)
  case atStart => exact ⟨0, Nat.zero_le _, rfl, Lib.hid ⟨by simpa using h, Below.refl _ _, KeepW.of_below (Below.refl _ _)⟩⟩
  case round =>
    obtain ⟨k, hk, rfl, hh⟩ := hrel
    obtain ⟨hW, hBr, hKr⟩ := hh.out
    by_cases hlk : k < ns.length
    · have hd : decide ((k : Int) < (ns.length : Int)) = true := by simp; omega
      have hAr := hKr.arr hA hne (by decide)
      have hc : wr.cell? ⟨g, k, none⟩ = some (.int .i64 ns[k]!) := hAr.cell (by rw [List.getElem?_map, List.getElem?_eq_getElem hlk, getElem!_pos ns k hlk]; rfl)
      have hzk := hz ns[k]! (by rw [getElem!_pos ns k hlk]; exact List.getElem_mem _)
      have htk : (ns.take (k + 1)).flatMap putZ = (ns.take k).flatMap putZ ++ putZ ns[k]! := by
        rw [List.take_succ_eq_append_getElem hlk, List.flatMap_append, getElem!_pos ns k hlk]; simp
      have hfl : ∀ l : List Int, (l.flatMap putZ).length ≤ 9 * l.length := fun l => by
        induction l with
        | nil => simp
        | cons a l ih =>
          have := putZ_len a
          rw [List.flatMap_cons, List.length_append, List.length_cons]
          omega
      have hpl : (pre ++ (ns.take k).flatMap putZ).length + (putZ ns[k]!).length ≤ 10000000 := by
        have h1 := hfl (ns.take k)
        have h2 := putZ_len ns[k]!
        rw [List.length_take] at h1
        rw [List.length_append]
        omega
      clear hfl
      generalize ns[k]! = z at *
      have hP := Lib.hid fun W => PutInt_any z W hzk.1 hzk.2
      have i1 : (k : Int) < (ns.length : Int) := by omega
      clear hAr
      go_wp2_with (first
        | (go_at_call 33; refine (hP.out _).mono ?_; rintro e w1 ⟨rfl, hb1⟩)
        | (go_at_call 26; refine (wwrite_any b _ (putZ z) _ (isBuilder_below hW hb1) hpl).mono ?_; rintro e w2 ⟨⟨n, rfl⟩, hW2, hb2, hk2⟩))
      go_roundw
      case rel => exact ⟨k + 1, by omega, by simp, Lib.hid ⟨by rw [htk, ← List.append_assoc]; exact hW2, (hBr.trans (hb1.mono (Nat.le_of_lt (isW_lt hW)))).trans hb2, (hKr.trans (KeepW.of_below hb1)).trans hk2⟩⟩
      case measure => simp [intOf]; omega
    · have hd : decide ((k : Int) < (ns.length : Int)) = false := by simp; omega
      have htk : ns.take k = ns := List.take_of_length_le (by omega)
      rw [htk] at hW
      clear hh
      go_wp2
      go_end0
      exact ⟨rfl, hW, hBr, hKr⟩
end Go.Proofs.YtocpnlifmeffkaaGreatDoor
namespace Go.Proofs.YtocpnlifmeffkaaGreatDoor
open Go.RowKit Go.Shelf

attribute [local go_sem] Oper.semAt_some

theorem putSb_le (s : List UInt8) : (putSb s).length ≤ 9 + s.length := by
  have := putZ_len (s.length : Int)
  rw [putSb_len]
  omega
theorem texts_le (ls : List Lin) (hlo : ls.all linOk = true) : (ls.flatMap fun l => putSb l.text).length ≤ 89 * ls.length := by
  induction ls with
  | nil => simp
  | cons a l ih =>
    rw [List.all_cons, Bool.and_eq_true] at hlo
    have h1 := putSb_le a.text
    have h2 : a.text.length ≤ 80 := by
      have := hlo.1
      unfold linOk at this
      rw [Bool.and_eq_true, Bool.and_eq_true, decide_eq_true_eq] at this
      exact this.1.1
    have := ih hlo.2
    rw [List.flatMap_cons, List.length_append, List.length_cons]
    omega
set_option maxHeartbeats 4000000 in
theorem prop1_any (b : Nat) (lv cv : Value) (wd : Int) (bits : List UInt8) (ls : List Lin) (n2 : Nat) (a2 : Option Addr) (c2 : Nat) (w : World) (h : IsW b [] w) (hcv : cv = .slice a2 n2 c2) (hl : ls.length ≤ 64) (hlo : ls.all linOk = true) (hlv : SliceAt w b lv ls.length (linCells ls)) :
    Calls Tryz.prog 88 #[docV lv cv wd bits, .pointer (some ⟨b, 0, none⟩)] w fun e w' => e = .returned (.tuple #[]) ∧ IsW b (putZ ls.length ++ ls.flatMap fun l => putSb l.text) w' ∧ Below b w w' := by
  subst hcv
  obtain ⟨al, cl, rfl, _, _, hcc⟩ := hlv
  have hlt := isW_lt h
  unfold docV
  have hA : Arr (w.alloc (.cells #[.slice al ls.length cl, .slice a2 n2 c2, .int .i64 wd, .string (str bits)] 113)) w.heap.size 113 [.slice al ls.length cl, .slice a2 n2 c2, .int .i64 wd, .string (str bits)] := Arr.new rfl rfl
  have hB : Below w.heap.size w (w.alloc (.cells #[.slice al ls.length cl, .slice a2 n2 c2, .int .i64 wd, .string (str bits)] 113)) := (Below.refl _ w).alloc (Nat.le_refl _) _
  have hNum := Lib.hid fun W (hW : W = (w.alloc (.cells #[.slice al ls.length cl, .slice a2 n2 c2, .int .i64 wd, .string (str bits)] 113)).alloc (.cells #[.int .i64 (ls.length : Int)] 3)) => (show Calls Tryz.prog 89 #[.pointer (some ⟨b, 0, none⟩), .slice (some ⟨w.heap.size + 1, 0, none⟩) 1 1] W fun e w' => e = .returned (.tuple #[]) ∧ IsW b (putZ ls.length) w' ∧ Below b W w' ∧ KeepW b W w' from by
    subst hW
    have h1 := isBuilder_below h hB
    have h2 := isBuilder_below h1 ((Below.refl _ (w.alloc (.cells #[.slice al ls.length cl, .slice a2 n2 c2, .int .i64 wd, .string (str bits)] 113))).alloc (Nat.le_refl _) (.cells #[.int .i64 (ls.length : Int)] 3))
    have := numbers_any b (w.heap.size + 1) 1 [] [(ls.length : Int)] _ h2 (Arr.new rfl (by simp)) (by omega) (by simp) (by simp) (by simp; omega)
    simpa using this)
  replace hcc := Lib.hid hcc
  go_enter Tryz.func88, Tryz.ntmps88
  go_wp2_with (go_at_call 89; refine (hNum.out _ rfl).mono ?_; rintro e w2 ⟨rfl, hW2, hb2, hk2⟩; have hA2 := hk2.arr (hA.alloc _) (by omega) (by decide); have d0 : w2.cell? ⟨w.heap.size, 0, none⟩ = some (.slice al ls.length cl) := hA2.cell rfl)
  have hB2 : Below b w w2 := (((hB.mono (Nat.le_of_lt hlt)).alloc (by simp; omega) _)).trans hb2
  clear hNum hA hB hk2 hb2 h
  go_loopw [17] (fun i wr => ∃ k : Nat, k ≤ ls.length ∧ i = .int .i64 k ∧ Hid (IsW b (putZ ls.length ++ (ls.take k).flatMap fun l => putSb l.text) wr ∧ Below b w wr)) (fun i _ => ls.length - (intOf i).toNat)
  case atStart => exact ⟨0, Nat.zero_le _, rfl, Lib.hid ⟨by simpa using hW2, hB2⟩⟩
  case round =>
    obtain ⟨k, hk, rfl, hh⟩ := hrel
    obtain ⟨hW, hBr⟩ := hh.out
    by_cases hlk : k < ls.length
    · have hd : decide ((k : Int) < (ls.length : Int)) = true := by simp; omega
      obtain ⟨bb, o, rfl, hbb, hx⟩ := hcc.out (by omega)
      have hcell : ∀ i v, (encLin ls[k]!)[i]? = some v → wr.cell? ⟨bb, o + k * 2 + i, none⟩ = some v := fun i v hv => by
        have hi : i < 2 := (List.getElem?_eq_some_iff.1 hv).1
        rw [hBr.cell (p := ⟨bb, o + k * 2 + i, none⟩) hbb, Nat.add_assoc]
        exact hx _ v ((flat_at encLin 2 (fun _ => rfl) ls k i hlk hi).trans hv)
      have x0 : wr.cell? ⟨bb, o + k * 2, none⟩ = some (.string (str ls[k]!.text)) := hcell 0 _ rfl
      have x1 : wr.cell? ⟨bb, o + k * 2 + 1, none⟩ = some (.int .i64 ls[k]!.mark) := hcell 1 _ rfl
      have htk : (ls.take (k + 1)).flatMap (fun l => putSb l.text) = (ls.take k).flatMap (fun l => putSb l.text) ++ putSb ls[k]!.text := by
        rw [List.take_succ_eq_append_getElem hlk, List.flatMap_append, getElem!_pos ls k hlk]; simp
      have hpl : (putZ ls.length ++ (ls.take k).flatMap fun l => putSb l.text).length ≤ 1000000 := by
        have h1 := texts_le (ls.take k) (List.all_eq_true.2 fun x hx => List.all_eq_true.1 hlo x (List.mem_of_mem_take hx))
        have h2 := putZ_len (ls.length : Int)
        rw [List.length_take] at h1
        rw [List.length_append]
        omega
      have hts : ls[k]!.text.length ≤ 65536 := by
        have := List.all_eq_true.1 hlo ls[k]! (by rw [getElem!_pos ls k hlk]; exact List.getElem_mem _)
        unfold linOk at this
        rw [Bool.and_eq_true, Bool.and_eq_true, decide_eq_true_eq] at this
        omega
      clear hcell hx
      generalize ls[k]! = x at *
      have i1 : (k : Int) < (ls.length : Int) := by omega
      have hWa := isBuilder_below hW ((Below.refl _ wr).alloc (Nat.le_refl _) (.cells #[.string (str x.text), .int .i64 x.mark] 44))
      have hBa := hBr.alloc (Nat.le_of_lt (isW_lt hW)) (.cells #[.string (str x.text), .int .i64 x.mark] 44)
      have hT := Lib.hid (text_any b _ x.text _ hWa hts hpl)
      go_wp2_with (go_at_call 90; refine hT.out.mono ?_; rintro e w3 ⟨rfl, hW3, hb3, hk3⟩)
      go_roundw
      case rel => exact ⟨k + 1, by omega, by simp, Lib.hid ⟨by rw [htk, ← List.append_assoc]; exact hW3, hBa.trans hb3⟩⟩
      case measure => simp [intOf]; omega
    · have hd : decide ((k : Int) < (ls.length : Int)) = false := by simp; omega
      have htk : ls.take k = ls := List.take_of_length_le (by omega)
      rw [htk] at hW
      clear hh
      go_wp2
      go_end0
      exact ⟨rfl, hW, hBr⟩
end Go.Proofs.YtocpnlifmeffkaaGreatDoor
