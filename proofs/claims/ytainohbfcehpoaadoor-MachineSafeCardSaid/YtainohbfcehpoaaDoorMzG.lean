/-
  The reference's HasOperand and leads.
  The reference's Simple: the bytes of an instruction.
  The reference's find: the number of the instruction with an offset.
  The contract of machine.Run.
  The contract of machine.Verify.
  What chapter 8 asks of the library: Itoa, Atoi, Cut.
-/
import Derived.Test.YtainohbfcehpoaaDoorMzC
import Derived.Test.YtainohbfcehpoaaDoorMzB
import Derived.Laws.BytesArg
import Derived.Test.YtainohbfcehpoaaDoorMzF
import Derived.WalkMore
import Derived.Test.YtainohbfcehpoaaDoorMzD
import Derived.Test.YtainohbfcehpoaaDoorShelf
import Derived.Lib.AppendIntMem
namespace Go.Proofs.YtainohbfcehpoaaDoor
open Go.RowKit

set_option maxHeartbeats 1000000 in
theorem hasOperand_any (o : Nat) (w : World) (_ : o < 12) :
    Calls Tryd.prog 41 #[.int .i64 (o : Int)] w fun e w' => e = .returned (.bool (longOp o)) ∧ ∃ q, w' = w.drewN q := by
  go_enter Tryd.func41, Tryd.ntmps41
  go_wp2
  all_goals (go_ret; refine ⟨congrArg (fun z => Ending.returned (.bool z)) ?_, by first | exact ⟨0, rfl⟩ | exact ⟨_, rfl⟩⟩; rw [Bool.eq_iff_iff]; simp [longOp]; try omega)
set_option maxHeartbeats 1000000 in
theorem leads_any (o : Nat) (w : World) (_ : o < 12) :
    Calls Tryd.prog 39 #[.int .i64 (o : Int)] w fun e w' => e = .returned (.bool (leadOp o)) ∧ ∃ q, w' = w.drewN q := by
  go_enter Tryd.func39, Tryd.ntmps39
  go_wp2
  all_goals (go_ret; refine ⟨congrArg (fun z => Ending.returned (.bool z)) ?_, by first | exact ⟨0, rfl⟩ | exact ⟨_, rfl⟩⟩; rw [Bool.eq_iff_iff]; simp [leadOp]; try omega)
end Go.Proofs.YtainohbfcehpoaaDoor
namespace Go.Proofs.YtainohbfcehpoaaDoor
open Go.RowKit

theorem below_drewQ {B : Nat} {a w : World} (h : Below B a w) (n : Nat) : Below B a (w.drewN n) := ⟨h.os, h.tape, h.output, h.size, h.block⟩
theorem strOfNums_nats (l : List Nat) : strOfNums (l.map fun n : Nat => (n : Int)) = str (l.map UInt8.ofNat) := by
  simp [strOfNums, str, Function.comp_def]
set_option maxRecDepth 100000 in
set_option maxHeartbeats 2000000 in
theorem simple_any (o n : Nat) (w : World) (ho : o < 12) (hn : n < 65536) :
    Calls Tryd.prog 26 #[.int .i64 (o : Int), .int .i64 (n : Int)] w fun e w' => e = .returned (.string (str (simB o n))) ∧ Below w.heap.size w w' := by
  have hH := Lib.hid (hasOperand_any o w ho)
  have hw1 : IntKind.u8.wrap (o : Int) = (o : Int) := IntWalk.u8_in _ (by omega)
  have hw2 : IntKind.u8.wrap ((n : Int) / 256) = (n : Int) / 256 := IntWalk.u8_in _ (by omega)
  have hw3 : IntKind.u8.wrap ((n : Int) % 256) = (n : Int) % 256 := IntWalk.u8_in _ (by omega)
  cases hl : longOp o with
  | true =>
    rw [hl] at hH
    have hcv := fun W : World => run_convert_bytes_arg (P := Tryd.prog) (W.alloc (.cells #[.int .u8 (o : Int), .int .u8 ((n : Int) / 256), .int .u8 ((n : Int) % 256)] 5)) 46 5 Tryd.underlying46 Tryd.underlying5 W.heap.size 0 3 3 [(o : Int), (n : Int) / 256, (n : Int) % 256] rfl (fun i hi => by
      have hc := cells_new W [.int .u8 (o : Int), .int .u8 ((n : Int) / 256), .int .u8 ((n : Int) % 256)] 5 i (.int .u8 ([(o : Int), (n : Int) / 256, (n : Int) % 256].getD i 0)) (by rcases (show i = 0 ∨ i = 1 ∨ i = 2 by omega) with rfl | rfl | rfl <;> rfl)
      rwa [Addr.add_mid] at hc) 9 Tryd.underlying9
    have e : strOfNums [(o : Int), (n : Int) / 256, (n : Int) % 256] = str (simB o n) := by
      have h := strOfNums_nats [o, n / 256, n % 256]
      rw [simB, if_pos hl]
      exact h
    rw [e] at hcv
    replace hl := Lib.hid hl
    clear e
    go_enter Tryd.func26, Tryd.ntmps26
    go_wp2_with fail
    refine hH.out.mono ?_
    rintro e w1 ⟨rfl, q, rfl⟩
    have hb1 := below_drewQ (Below.refl w.heap.size w) q
    generalize w.drewN q = w1 at *
    have hcw := hcv w1
    clear hcv
    go_wp2_with fail
    go_ret
    exact ⟨rfl, hb1.alloc hb1.size _⟩
  | false =>
    rw [hl] at hH
    have hcv := fun W : World => run_convert_bytes_arg (P := Tryd.prog) (W.alloc (.cells #[.int .u8 (o : Int)] 5)) 46 5 Tryd.underlying46 Tryd.underlying5 W.heap.size 0 1 1 [(o : Int)] rfl (fun i hi => by
      obtain rfl : i = 0 := by omega
      have hc := cells_new W [.int .u8 (o : Int)] 5 0 (.int .u8 (o : Int)) rfl
      rwa [Addr.add_mid] at hc) 9 Tryd.underlying9
    have e : strOfNums [(o : Int)] = str (simB o n) := by
      have h := strOfNums_nats [o]
      rw [simB, if_neg (by rw [hl]; decide)]
      exact h
    rw [e] at hcv
    replace hl := Lib.hid hl
    clear e
    go_enter Tryd.func26, Tryd.ntmps26
    go_wp2_with fail
    refine hH.out.mono ?_
    rintro e w1 ⟨rfl, q, rfl⟩
    have hb1 := below_drewQ (Below.refl w.heap.size w) q
    generalize w.drewN q = w1 at *
    have hcw := hcv w1
    clear hcv
    go_wp2_with fail
    go_ret
    exact ⟨rfl, hb1.alloc hb1.size _⟩
end Go.Proofs.YtainohbfcehpoaaDoor
namespace Go.Proofs.YtainohbfcehpoaaDoor
open Go.RowKit

/-- A row of the reference's instructions (three cells each). -/
def RefRow (w : World) (b o : Nat) (l : List Ins) : Prop := ∀ i, i < l.length → w.cell? ⟨b, o + i * 3, none⟩ = some (.int .i64 ((l[i]!).off : Int)) ∧ w.cell? ⟨b, o + i * 3 + 1, none⟩ = some (.int .i64 ((l[i]!).op : Int)) ∧ w.cell? ⟨b, o + i * 3 + 2, none⟩ = some (.int .i64 ((l[i]!).opd : Int))
theorem idxOf_first {l : List Ins} {t x : Nat} (hx : x < l.length) (h : (l[x]!).off = t) (hn : ∀ k, k < x → (l[k]!).off ≠ t) : idxOf l t = some x := by
  unfold idxOf
  rw [List.findIdx?_eq_some_iff_getElem]
  refine ⟨hx, by rw [← getElem!_pos l x hx]; simpa using h, fun k hk => ?_⟩
  have := hn k hk
  rw [← getElem!_pos l k (by omega)]
  simpa using this
/-- What find returns. -/
def findZ (l : List Ins) (t : Nat) : Int := match idxOf l t with | some x => (x : Int) | none => -1
set_option maxRecDepth 100000 in
set_option maxHeartbeats 2000000 in
theorem find8_any (b o c : Nat) (l : List Ins) (t : Nat) (w : World) (hc : l.length ≤ 100000) (hR : RefRow w b o l) :
    Calls Tryd.prog 33 #[.slice (some ⟨b, o, none⟩) l.length c, .int .i64 (t : Int)] w fun e w' => e = .returned (.int .i64 (findZ l t)) ∧ w' = w := by
  go_enter Tryd.func33, Tryd.ntmps33
  go_wp2_with fail
  go_loopw [5] (fun i wr => ∃ x : Nat, x ≤ l.length ∧ i = .int .i64 (x : Int) ∧ Hid (∀ k, k < x → (l[k]!).off ≠ t) ∧ wr = w) (fun i _ => l.length - (intOf i).toNat)
  case atStart => exact ⟨0, Nat.zero_le _, rfl, (show Hid _ from fun k hk => by omega), rfl⟩
  case round =>
    obtain ⟨x, hx, rfl, hno, rfl⟩ := hrel
    by_cases hlt : x < l.length
    · have hd : decide ((x : Int) < (l.length : Int)) = true := by simpa using hlt
      obtain ⟨m0, m1, m2⟩ := hR x hlt
      have hf := fun h => idxOf_first (t := t) hlt h hno.out
      have hno2 : (l[x]!).off ≠ t → ∀ k, k < x + 1 → (l[k]!).off ≠ t := fun h k hk => by
        by_cases e : k = x
        · subst e; exact h
        · exact hno.out k (by omega)
      generalize l[x]! = z at *
      by_cases hz : z.off = t
      · have hq : ((z.off : Int) == (t : Int)) = true := by rw [beq_iff_eq]; omega
        have hv : Hid (findZ l t = (x : Int)) := by show _ = _; rw [findZ, hf hz]
        replace hz := Lib.hid hz
        clear hf hno2
        go_wp2_with fail
        go_ret
        exact ⟨by rw [hv.out]; rfl, rfl⟩
      · have hq : ((z.off : Int) == (t : Int)) = false := by rw [beq_eq_false_iff_ne]; omega
        have hn3 := Lib.hid (hno2 hz)
        clear hf hno2
        go_wp2_with fail
        exact ⟨⟨x + 1, by omega, by go_num, hn3, trivial⟩, by simp [intOf]; omega⟩
    · have hd : decide ((x : Int) < (l.length : Int)) = false := by simpa using hlt
      have hv : Hid (findZ l t = -1) := by
        show _ = _
        rw [findZ, idxOf_none fun k hk => hno.out k (by omega)]
      go_wp2_with fail
      go_ret
      exact ⟨by rw [hv.out]; rfl, rfl⟩
end Go.Proofs.YtainohbfcehpoaaDoor
namespace Go.Proofs.YtainohbfcehpoaaDoor
open Go.RowKit Go.Shelf

theorem u8_nums (l : List UInt8) : strOfNums (l.map fun b => (b.toNat : Int)) = str l := by
  have := strOfNums_nats (l.map (·.toNat))
  rw [List.map_map, List.map_map] at this
  rw [show (l.map fun b => (b.toNat : Int)) = l.map ((fun n : Nat => (n : Int)) ∘ fun x => x.toNat) from rfl, this]
  congr 1
  conv => rhs; rw [← List.map_id l]
  exact List.map_congr_left fun x _ => by simp
theorem conv_u8 {w : World} {B : Nat} {v : Value} {out : List UInt8} (h : w.ownsRow B 5 1 v out.length (u8C out)) :
    (convert 46 9 v).run Tryd.prog w = .ok (.string (str out)) w := by
  cases out with
  | nil =>
    rcases h.2 with ⟨rfl, _⟩ | ⟨g, cap, cur, rfl, _⟩
    · exact run_convert_bytes_nil (P := Tryd.prog) (w := w) 46 5 Tryd.underlying46 Tryd.underlying5 0 0 9 Tryd.underlying9
    · have := run_convert_bytes_arg (P := Tryd.prog) w 46 5 Tryd.underlying46 Tryd.underlying5 g 0 0 cap [] rfl (fun j hj => by omega) 9 Tryd.underlying9
      exact this
  | cons a r =>
    obtain ⟨g, cap, rfl, _, _, _, _, hc⟩ := own_cells h
    have := run_convert_bytes_arg (P := Tryd.prog) w 46 5 Tryd.underlying46 Tryd.underlying5 g 0 (a :: r).length cap ((a :: r).map fun b => (b.toNat : Int)) (by simp) (fun j hj => by
      rw [Nat.zero_add]
      refine (hc j _ ?_).1
      have e : ((a :: r).map fun b => (b.toNat : Int)).getD j 0 = ((a :: r)[j].toNat : Int) := by
        rw [List.getD_eq_getElem?_getD, List.getElem?_map, List.getElem?_eq_getElem hj]
        rfl
      rw [e]
      unfold u8C
      rw [List.getElem?_map, List.getElem?_eq_getElem hj]
      rfl) 9 Tryd.underlying9
    rw [u8_nums] at this
    exact this
theorem info_u8 : (Tryd.prog.info? 5).map (fun i => (i.zero, i.size, i.bytes)) = some (some (.int .u8 0), 1, 1) := by kernel_rfl
/-- The output grows by a byte. -/
theorem out_run (mB : Nat) (st : List Int) (inp out : List UInt8) (W : World) (b : UInt8) (h : MAt mB st inp out W) (hl : out.length ≤ 100000) (ov : Value) (hov : W.cell? ⟨mB, 2, none⟩ = some ov) :
    ∃ v' w', (Builtin.append_ #[46, 46] 46 #[ov, .slice (some ⟨W.heap.size, 0, none⟩) 1 1]).run Tryd.prog (W.alloc (.cells #[.int .u8 (b.toNat : Int)] 5)) = .ok v' w' ∧
      (∃ a c, v' = .slice a (out.length + 1) c) ∧ (∃ u, w'.cell? ⟨mB, 2, none⟩ = some u) ∧ w'.frozen? ⟨mB, 2, none⟩ = false ∧ MAt mB st inp (out ++ [b]) (w'.setCell ⟨mB, 2, none⟩ v') ∧ Below mB W (w'.setCell ⟨mB, 2, none⟩ v') := by
  obtain ⟨sv, ov', hA0, h20, h30⟩ := h.blk
  have e := (hA0.cell (j := 2) rfl).symm.trans hov
  injection e with e
  have e' : ov' = ov := e
  subst e'
  have hlt := hA0.lt
  have hal : Below W.heap.size W (W.alloc (.cells #[.int .u8 (b.toNat : Int)] 5)) := (Below.refl _ _).alloc (Nat.le_refl _) _
  have hb : Arr (W.alloc (.cells #[.int .u8 (b.toNat : Int)] 5)) W.heap.size 5 (u8C [b]) := Arr.new rfl rfl
  have hA := hA0.below hal
  have h2 := own_below h20 hal
  have h3 := own_below h30 hal
  have hsz : mB + 1 ≤ (W.alloc (.cells #[.int .u8 (b.toNat : Int)] 5)).heap.size := by simp; omega
  generalize W.alloc (.cells #[.int .u8 (b.toNat : Int)] 5) = Wa at *
  obtain ⟨i0, hi, hz0, hz1, hz2⟩ := info_parts info_u8
  obtain ⟨v', w', hrun, r1, r2, r3, _⟩ := run_append_own_at (P := Tryd.prog) Wa (mB + 1) 46 46 5 i0 (.int .u8 0) 1 1 Tryd.underlying46 hi hz0 hz1 hz2 rfl (by decide) ov' out.length (u8C out) h3 ⟨W.heap.size, 0, none⟩ 1 1 (u8C [b]) (by simp [u8C]) (fun j u hu => by rw [Addr.add_mid, Nat.zero_add]; exact hb.cell hu) (fun u hu => by
      obtain ⟨z, _, rfl⟩ := List.mem_map.1 hu
      rfl) (by unfold maxLen; omega) (by omega) (by omega)
  have hA' : Arr w' mB 63 [sv, .string (str inp), ov'] := (r2.block mB hA.lt (fun e => by have := (h3.lt mB e.symm).1; omega)).trans hA
  have h2' : w'.ownsRow (mB + 1) 3 1 sv st.length (intC st.reverse) := by
    refine h2.kept r2 ?_
    rcases h2.2 with ⟨rfl, _⟩ | ⟨g3, c3, cur3, rfl, _, hg3, _⟩
    · exact .inl rfl
    · refine .inr fun e => ?_
      rcases h3.2 with ⟨rfl, _⟩ | ⟨g2, c2, cur2, rfl, _, hg2, _⟩
      · cases e
      · injection e with e
        have e' : g3 = g2 := e
        rw [e', hg2] at hg3
        injection hg3 with hg3
        injection hg3 with _ hg3 _
        exact absurd hg3 (by decide)
  refine ⟨v', w', hrun, own_val r1, ⟨_, hA'.cell (j := 2) rfl⟩, hA'.free 2, ⟨sv, v', hA'.set 2 v', own_set h2' (by omega), ?_⟩, ?_⟩
  · have e : u8C (out ++ [b]) = u8C out ++ u8C [b] := by simp [u8C]
    rw [e, List.length_append, List.length_singleton]
    exact own_set r1 (by omega)
  · refine Below.setCell (B := mB) (p := ⟨mB, 2, none⟩) ((hal.mono (Nat.le_of_lt hlt)).trans ⟨r2.os, r2.tape, r2.output, r2.size, fun k hk => r2.block k (by omega) (fun e => by have := (h3.lt k e.symm).1; omega)⟩) (Nat.le_refl _) _
theorem reach_le {L : List Ins} (hg : Good L) {i d : Nat} (h : Reach L i d) : d ≤ 16 := by
  cases h with
  | zero => omega
  | next h _ _ _ => exact hg.room _ _ h
  | lead h _ _ _ => exact hg.room _ _ h
theorem step11 {L : List Ins} {pc : Nat} {st : List Int} {ip out : List UInt8} (h : L[pc]!.op = 11) : stepM L ⟨pc, st, ip, out⟩ = .halt := by unfold stepM; dsimp only; rw [h]; rfl
theorem step7 {L : List Ins} {pc : Nat} {st : List Int} {ip out : List UInt8} (h : L[pc]!.op = 7) : stepM L ⟨pc, st, ip, out⟩ = .go ⟨toOf L L[pc]!, st, ip, out⟩ := by unfold stepM; dsimp only; rw [h]; rfl
theorem step8 {L : List Ins} {pc : Nat} {a : Int} {st : List Int} {ip out : List UInt8} (h : L[pc]!.op = 8) : stepM L ⟨pc, a :: st, ip, out⟩ = .go ⟨if a = 0 then pc + 1 else toOf L L[pc]!, st, ip, out⟩ := by unfold stepM; dsimp only; rw [h]; rfl
theorem step9 {L : List Ins} {pc : Nat} {st : List Int} {ip out : List UInt8} (h : L[pc]!.op = 9) : stepM L ⟨pc, st, ip, out⟩ = .go ⟨pc + 1, headZ ip :: st, ip.tail, out⟩ := by
  unfold stepM
  dsimp only
  rw [h]
  cases ip <;> rfl
theorem step10 {L : List Ins} {pc : Nat} {a : Int} {st : List Int} {ip out : List UInt8} (h : L[pc]!.op = 10) : stepM L ⟨pc, a :: st, ip, out⟩ = if out.length = 65536 then .over else .go ⟨pc + 1, st, ip, out ++ [UInt8.ofNat (a % 256).toNat]⟩ := by unfold stepM; dsimp only; rw [h]; rfl
theorem stepc {L : List Ins} {pc : Nat} {st : List Int} {ip out : List UInt8} (h : L[pc]!.op < 7) : stepM L ⟨pc, st, ip, out⟩ = .go ⟨pc + 1, calcOp L[pc]!.op L[pc]!.opd st, ip, out⟩ := by
  unfold stepM
  dsimp only
  have h2 : L[pc]!.op = 0 ∨ L[pc]!.op = 1 ∨ L[pc]!.op = 2 ∨ L[pc]!.op = 3 ∨ L[pc]!.op = 4 ∨ L[pc]!.op = 5 ∨ L[pc]!.op = 6 := by omega
  rcases h2 with h2 | h2 | h2 | h2 | h2 | h2 | h2 <;> rw [h2] <;> rfl
theorem runM_go {L : List Ins} {f n : Nat} {c c' : Conf} {R : Option (List UInt8 × Nat)} (h : runM L (f + 1) n c = R) (hs : stepM L c = .go c') : runM L f (n + 1) c' = R := by
  rw [runM, hs] at h
  exact h
theorem runM_halt {L : List Ins} {f n : Nat} {c : Conf} {R : Option (List UInt8 × Nat)} (h : runM L (f + 1) n c = R) (hs : stepM L c = .halt) : R = some (c.out, n) := by
  rw [runM, hs] at h
  exact h.symm
theorem runM_over {L : List Ins} {f n : Nat} {c : Conf} {R : Option (List UInt8 × Nat)} (h : runM L (f + 1) n c = R) (hs : stepM L c = .over) : R = none := by
  rw [runM, hs] at h
  exact h.symm
/-- What lies while the machine runs. -/
structure RunAt (L : List Ins) (w1 : World) (mn : Nat) (R : Option (List UInt8 × Nat)) (c : Conf) (n : Nat) (W : World) : Prop where
  lo : 1 ≤ n
  hi : n ≤ mn + 1
  mat : MAt w1.heap.size c.st c.inp c.out W
  rch : Reach L c.pc c.st.length
  run : runM L (mn + 1 - n) n c = R
  bel : Below w1.heap.size w1 W
  ol : c.out.length ≤ 65536
  il : c.inp.length ≤ 1000000
def runE : Option (List UInt8 × Nat) → Ending
  | some (o, k) => .returned (.tuple #[.string (str o), .int .i64 (k : Int), .int .i64 0])
  | none => .returned (.tuple #[.string (str []), .int .i64 0, .int .i64 80])
/-- What Run returns. -/
def RunPost (code inp : List UInt8) (most : Int) (w : World) (e : Ending) (w' : World) : Prop :=
  ((∃ l, formed code = some l ∧ Good l ∧ 0 ≤ most ∧ most ≤ 1000000 ∧ e = runE (runOf l inp most.toNat)) ∨
   (((∀ l, formed code = some l → ¬ Good l) ∨ most < 0 ∨ 1000000 < most) ∧ e = runE none)) ∧ Below w.heap.size w w'
set_option maxRecDepth 100000 in
set_option maxHeartbeats 4000000 in
theorem Run_any (code inp : List UInt8) (most : Int) (w : World) (hc : code.length ≤ 1000000) (hi : inp.length ≤ 1000000) (hO : OpsIs w) (hI : I64 most) :
    Calls Tryd.prog 17 #[.string (str code), .string (str inp), .int .i64 most] w fun e w' => RunPost code inp most w e w' := by
  have hg := hO.lt
  have hP := Lib.hid (verified_any code w hc hO)
  have hmf : ∀ (fn : Fn) (first cap : Array Value) (w : World), (Instr.makeFunc fn first cap).run Tryd.prog w = .ok (.func fn first cap) w := fun _ _ _ _ => rfl
  go_enter Tryd.func17, Tryd.ntmps17
  go_wp2_with fail
  go_step3
  go_wp2_with fail
  refine hP.out.mono ?_
  rintro e w1 ⟨⟨L, m, g, cap, hf, hgood, hmost, rfl, hwg, hg1, hLc, hcm, hrow⟩ | ⟨hno, rfl⟩, hb1⟩
  · by_cases hm0 : most < 0
    · have hd0 : decide (most < 0) = true := by simpa using hm0
      have hfin : Hid (RunPost code inp most w (runE none) w1) := ⟨.inr ⟨.inr (.inl hm0), rfl⟩, hb1⟩
      clear hf hgood hmost hrow hm0
      go_wp2_with fail
      exact bodyPost_ret (v := .tuple #[.string (str []), .int .i64 0, .int .i64 80]) (by simp [results, Tryd.f17, go_sem, str]) rfl hfin.out
    · have hd0 : decide (most < 0) = false := by simpa using hm0
      by_cases hm1 : 1000000 < most
      · have hd1 : decide (most > 1000000) = true := by simpa using hm1
        have hfin : Hid (RunPost code inp most w (runE none) w1) := ⟨.inr ⟨.inr (.inr hm1), rfl⟩, hb1⟩
        clear hf hgood hmost hrow hm0
        go_wp2_with fail
        exact bodyPost_ret (v := .tuple #[.string (str []), .int .i64 0, .int .i64 80]) (by simp [results, Tryd.f17, go_sem, str]) rfl hfin.out
      · have hd1 : decide (most > 1000000) = false := by simpa using hm1
        obtain ⟨mn, rfl⟩ : ∃ mn : Nat, most = (mn : Int) := ⟨most.toNat, by omega⟩
        have hmn : mn ≤ 1000000 := by omega
        have hForm := (formed_parts hf).2.2.2.2
        have hL1 : L.length ≤ 1024 := by
          obtain ⟨_, hlen, hdec, _, _⟩ := formed_parts hf
          have h1 := (evSeq_dec _ code (Nat.le_refl _) 0).1 L hdec
          have h2 := evSeq_len _ code (Nat.le_refl _) 0
          rw [h1, List.length_map] at h2
          omega
        go_wp2_with fail
        go_step3
        go_wp2_with fail
        obtain ⟨R, hR0⟩ : ∃ R, R = runOf L inp mn := ⟨_, rfl⟩
        have hfinR : Hid (∀ W : World, Below w1.heap.size w1 W → RunPost code inp (mn : Int) w (runE R) W) := fun W hW => ⟨.inl ⟨L, hf, hgood, by omega, by omega, by rw [Int.toNat_natCast, hR0]⟩, hb1.trans (hW.mono hb1.size)⟩
        have hM0 : MAt w1.heap.size [] inp [] (w1.alloc (.cells #[.slice none 0 0, .string (str inp), .slice none 0 0] 63)) := ⟨.slice none 0 0, .slice none 0 0, Arr.new rfl rfl, World.ownsRow_nil _ _ _ _, World.ownsRow_nil _ _ _ _⟩
        have hB0 : Below w1.heap.size w1 (w1.alloc (.cells #[.slice none 0 0, .string (str inp), .slice none 0 0] 63)) := (Below.refl _ _).alloc (Nat.le_refl _) _
        have hrun0 : runM L (mn + 1 - 1) 1 ⟨0, [], inp, []⟩ = R := by rw [hR0]; rfl
        replace hR0 := Lib.hid hR0
        clear hm0 hm1 hd0 hd1 hP
        go_loopw [14, 15] (fun i s wr => ∃ pc st ip out n, i = .int .i64 ((pc : Nat) : Int) ∧ s = .int .i64 ((n : Nat) : Int) ∧ Hid (RunAt L w1 mn R ⟨pc, st, ip, out⟩ n wr)) (fun _ s _ => mn + 1 - (intOf s).toNat)
        case atStart => exact ⟨0, [], inp, [], 1, rfl, rfl, (show Hid _ from ⟨Nat.le_refl _, by omega, hM0, .zero, hrun0, hB0, Nat.zero_le _, hi⟩)⟩
        case round =>
          obtain ⟨pc, st, ip, out, n, rfl, rfl, hall⟩ := hrel
          obtain ⟨hlo, hhi, hM, hR, hrun, hB, hol, hil⟩ := hall.out
          clear hall hM0 hB0 hrun0
          dsimp only at hM hR hrun hol hil
          by_cases hlt : n ≤ mn
          · have hd : decide ((n : Int) ≤ (mn : Int)) = true := by simpa using hlt
            obtain ⟨f, hf2⟩ : ∃ f, mn + 1 - n = f + 1 := ⟨mn - n, by omega⟩
            rw [hf2] at hrun
            have hpc := hgood.inside _ _ hR
            have htk := hgood.takes _ _ hR
            have hd16 : st.length ≤ 16 := reach_le hgood hR
            have hrow1 := hrow.keep (hB.block g hg1)
            obtain ⟨n0, n1, n2, n3⟩ := hrow1 pc hpc
            simp only [Nat.zero_add] at n0 n1 n2 n3
            have ho12 := hForm.ops pc hpc
            have hto := hForm.to hpc
            have hsr := fun c' (hs : stepM L ⟨pc, st, ip, out⟩ = .go c') => step_reach hForm hgood hR hs
            replace hsr := Lib.hid hsr
            obtain ⟨x, hx⟩ : ∃ x, x = L[pc]! := ⟨_, rfl⟩
            rw [← hx] at n0 n1 n2 n3 ho12 htk
            obtain ⟨tz, htz⟩ : ∃ tz, tz = toOf L L[pc]! := ⟨_, rfl⟩
            rw [← hx] at htz
            rw [← htz] at n3
            replace htz := Lib.hid htz
            replace hx := Lib.hid hx
            clear hto
            have i1 : (pc : Int) < (L.length : Int) := by omega
            have hop : x.op = 11 ∨ x.op = 7 ∨ x.op = 8 ∨ x.op = 9 ∨ x.op = 10 ∨ x.op < 7 := by omega
--RUN
            have hw1 : IntKind.i64.wrap ((pc : Int) + 1) = ((pc + 1 : Nat) : Int) := by rw [Int.natCast_succ]; exact IntWalk.i64_in _ (by omega)
            have hw2 : IntKind.i64.wrap ((n : Int) + 1) = ((n + 1 : Nat) : Int) := by rw [Int.natCast_succ]; exact IntWalk.i64_in _ (by omega)
            obtain ⟨Wa, hWa⟩ : ∃ Wa, Wa = wr.alloc (.cells #[.int .i64 (x.off : Int), .int .i64 (x.op : Int), .int .i64 (x.opd : Int), .int .i64 (tz : Int)] 66) := ⟨_, rfl⟩
            have hba : Below wr.heap.size wr Wa := by rw [hWa]; exact (Below.refl _ _).alloc (Nat.le_refl _) _
            have hAx : Arr Wa wr.heap.size 66 [.int .i64 (x.off : Int), .int .i64 (x.op : Int), .int .i64 (x.opd : Int), .int .i64 (tz : Int)] := by rw [hWa]; exact Arr.new rfl rfl
            have hMa := hM.below hba
            have hBa := hB.trans (hba.mono hB.size)
            have hwrs : w1.heap.size < wr.heap.size := hM.lt
            have hn1 : mn + 1 - (n + 1) = f := by omega
            rcases hop with ho | ho | ho | ho | ho | ho
            · have hRe := runM_halt hrun (step11 (hx.out ▸ ho))
              have e11 : ((x.op : Int) == 11) = true := by rw [ho]; rfl
              obtain ⟨sv, ov, hA, h2, h3⟩ := hMa.blk
              have hcv := conv_u8 h3
              have c2 := hA.cell (j := 2) rfl
              have hfin := Lib.hid (hfinR.out _ hBa)
              rw [hRe] at hfin
              rw [hWa] at hcv c2 hfin
              replace ho := Lib.hid ho
              clear hM hR hrun hB hMa hA h2 h3 hAx hba hBa hsr hf hgood hmost hrow hrow1 hForm hRe hWa
              go_wp2_with fail
              exact bodyPost_ret (v := .tuple #[.string (str out), .int .i64 (n : Int), .int .i64 0]) (by simp [results, Tryd.f17, go_sem]) rfl hfin.out
            · have hs : stepM L ⟨pc, st, ip, out⟩ = .go ⟨tz, st, ip, out⟩ := by rw [htz.out, hx.out]; exact step7 (hx.out ▸ ho)
              have e11 : ((x.op : Int) == 11) = false := by rw [ho]; rfl
              have e7 : ((x.op : Int) == 7) = true := by rw [ho]; rfl
              have hfin2 : RunAt L w1 mn R ⟨tz, st, ip, out⟩ (n + 1) Wa := ⟨by omega, by omega, hMa, hsr.out _ hs, (by rw [hn1]; exact runM_go hrun hs), hBa, hol, hil⟩
              replace hfin2 := Lib.hid hfin2
              rw [hWa] at hfin2
              replace ho := Lib.hid ho
              clear hM hR hrun hB hMa hAx hba hBa hsr hf hgood hmost hrow hrow1 hForm hWa hs
              go_wp2_with fail
              refine ⟨⟨_, _, _, _, _, by first | rfl | go_num, by first | rfl | go_num, (show Hid _ from hfin2.out)⟩, by simp [intOf]; omega⟩
            · cases st with
              | nil => rw [ho] at htk; simp [takesOp] at htk
              | cons a r =>
                have hs : stepM L ⟨pc, a :: r, ip, out⟩ = .go ⟨if a = 0 then pc + 1 else tz, r, ip, out⟩ := by rw [htz.out, hx.out]; exact step8 (hx.out ▸ ho)
                have hpop := Lib.hid (pop_any w1.heap.size a r ip out Wa hMa (by simp at hd16; omega))
                have e11 : ((x.op : Int) == 11) = false := by rw [ho]; rfl
                have e7 : ((x.op : Int) == 7) = false := by rw [ho]; rfl
                have e8 : ((x.op : Int) == 8) = true := by rw [ho]; rfl
                replace ho := Lib.hid ho
                replace hd16 := Lib.hid hd16
                go_wp2_with fail
                rw [← hWa]
                refine hpop.out.mono ?_
                rintro e W5 ⟨rfl, hM5, hbb, _⟩
                have hAx5 := hbb.arr hAx (by omega)
                have hB5 := hBa.trans (hbb.below (Nat.le_refl _) (Nat.le_of_lt hMa.lt))
                have q3 := hAx5.cell (j := 3) rfl
                clear hWa hAx hpop
                by_cases ha : a = 0
                · rw [if_pos ha] at hs
                  have hfin2 : RunAt L w1 mn R ⟨pc + 1, r, ip, out⟩ (n + 1) W5 := ⟨by omega, by omega, hM5, hsr.out _ hs, (by rw [hn1]; exact runM_go hrun hs), hB5, hol, hil⟩
                  replace hfin2 := Lib.hid hfin2
                  have hq : (a != 0) = false := by simp [ha]
                  clear hM hR hrun hB hMa hba hBa hsr hf hgood hmost hrow hrow1 hForm hs
                  go_wp2_with fail
                  refine ⟨⟨_, _, _, _, _, by first | rfl | go_num, by first | rfl | go_num, (show Hid _ from hfin2.out)⟩, by simp [intOf]; omega⟩
                · rw [if_neg ha] at hs
                  have hfin2 : RunAt L w1 mn R ⟨tz, r, ip, out⟩ (n + 1) W5 := ⟨by omega, by omega, hM5, hsr.out _ hs, (by rw [hn1]; exact runM_go hrun hs), hB5, hol, hil⟩
                  replace hfin2 := Lib.hid hfin2
                  have hq : (a != 0) = true := by simp [ha]
                  clear hM hR hrun hB hMa hba hBa hsr hf hgood hmost hrow hrow1 hForm hs
                  go_wp2_with fail
                  refine ⟨⟨_, _, _, _, _, by first | rfl | go_num, by first | rfl | go_num, (show Hid _ from hfin2.out)⟩, by simp [intOf]; omega⟩
            · have hs : stepM L ⟨pc, st, ip, out⟩ = .go ⟨pc + 1, headZ ip :: st, ip.tail, out⟩ := step9 (hx.out ▸ ho)
              have hnx := Lib.hid (next_any w1.heap.size st ip out Wa hMa (by omega))
              have e11 : ((x.op : Int) == 11) = false := by rw [ho]; rfl
              have e7 : ((x.op : Int) == 7) = false := by rw [ho]; rfl
              have e8 : ((x.op : Int) == 8) = false := by rw [ho]; rfl
              have e9 : ((x.op : Int) == 9) = true := by rw [ho]; rfl
              replace ho := Lib.hid ho
              go_wp2_with fail
              rw [← hWa]
              refine hnx.out.mono ?_
              rintro e W5 ⟨rfl, hM5, hbb⟩
              have hB5 := hBa.trans (hbb.below (Nat.le_refl _) (Nat.le_of_lt hMa.lt))
              have hA5 : Arr (W5.alloc (.cells #[.int .i64 (headZ ip)] 3)) W5.heap.size 3 (intC [headZ ip]) := Arr.new rfl rfl
              have hps := Lib.hid (push_any w1.heap.size st [headZ ip] ip.tail out (W5.alloc (.cells #[.int .i64 (headZ ip)] 3)) W5.heap.size 1 rfl (hM5.below ((Below.refl _ _).alloc (Nat.le_refl _) _)) hA5 (by omega) (by simp))
              have hB6 := hB5.alloc hB5.size (.cells #[.int .i64 (headZ ip)] 3)
              clear hWa hAx hnx
              go_wp2_with fail
              refine hps.out.mono ?_
              rintro e W6 ⟨rfl, hM6, hbp⟩
              have hB7 := hB6.trans hbp
              have hil2 : ip.tail.length ≤ 1000000 := by rw [List.length_tail]; omega
              have hfin2 : RunAt L w1 mn R ⟨pc + 1, headZ ip :: st, ip.tail, out⟩ (n + 1) W6 := ⟨by omega, by omega, hM6, hsr.out _ hs, (by rw [hn1]; exact runM_go hrun hs), hB7, hol, hil2⟩
              replace hfin2 := Lib.hid hfin2
              clear hM hR hrun hB hMa hba hBa hsr hf hgood hmost hrow hrow1 hForm hs hps hA5 hil2
              go_wp2_with fail
              refine ⟨⟨_, _, _, _, _, by first | rfl | go_num, by first | rfl | go_num, (show Hid _ from hfin2.out)⟩, by simp [intOf]; omega⟩
            · cases st with
              | nil => rw [ho] at htk; simp [takesOp] at htk
              | cons a r =>
                have hs0 := step10 (a := a) (st := r) (ip := ip) (out := out) (hx.out ▸ ho : L[pc]!.op = 10)
                have e11 : ((x.op : Int) == 11) = false := by rw [ho]; rfl
                have e7 : ((x.op : Int) == 7) = false := by rw [ho]; rfl
                have e8 : ((x.op : Int) == 8) = false := by rw [ho]; rfl
                have e9 : ((x.op : Int) == 9) = false := by rw [ho]; rfl
                have e10 : ((x.op : Int) == 10) = true := by rw [ho]; rfl
                obtain ⟨sv, ov, hA, h2, h3⟩ := hMa.blk
                have c2 := hA.cell (j := 2) rfl
                by_cases hfull : out.length = 65536
                · rw [if_pos hfull] at hs0
                  have hRe := runM_over hrun hs0
                  have hfin := Lib.hid (hfinR.out _ hBa)
                  rw [hRe] at hfin
                  obtain ⟨oo, oc, rfl⟩ := own_val h3
                  rw [hWa] at c2 hfin
                  have hq : ((out.length : Int) == 65536) = true := by rw [hfull]; rfl
                  replace ho := Lib.hid ho
                  clear hM hR hrun hB hMa hA h2 h3 hAx hba hBa hsr hf hgood hmost hrow hrow1 hForm hRe hWa hs0
                  go_wp2_with fail
                  (try rw [Exit.noGoto_ret])
                  exact bodyPost_ret (v := .tuple #[.string (str []), .int .i64 0, .int .i64 80]) (by simp [results, Tryd.f17, go_sem, str]) rfl hfin.out
                · rw [if_neg hfull] at hs0
                  obtain ⟨b, hb⟩ : ∃ b, b = UInt8.ofNat (a % 256).toNat := ⟨_, rfl⟩
                  rw [← hb] at hs0
                  have hs : stepM L ⟨pc, a :: r, ip, out⟩ = .go ⟨pc + 1, r, ip, out ++ [b]⟩ := hs0
                  have hq : ((out.length : Int) == 65536) = false := by rw [beq_eq_false_iff_ne]; omega
                  have hbn : ((b.toNat : Nat) : Int) = a % 256 := by rw [hb, UInt8.toNat_ofNat']; omega
                  have hw8 : IntKind.u8.wrap a = ((b.toNat : Nat) : Int) := by rw [hbn]; simp [IntKind.wrap, IntKind.bits, IntKind.signed]
                  have hw9 : a % 256 = ((b.toNat : Nat) : Int) := hbn.symm
                  have hpop := Lib.hid (pop_any w1.heap.size a r ip out Wa.drew (hMa.below (Below.refl Wa.heap.size Wa).drew) (by simp at hd16; omega))
                  obtain ⟨oo, oc, rfl⟩ := own_val h3
                  replace ho := Lib.hid ho
                  replace hd16 := Lib.hid hd16
                  replace hb := Lib.hid hb
                  replace hbn := Lib.hid hbn
                  have c2w : (wr.alloc (.cells #[.int .i64 (x.off : Int), .int .i64 (x.op : Int), .int .i64 (x.opd : Int), .int .i64 (tz : Int)] 66)).cell? ⟨w1.heap.size, 2, none⟩ = some (.slice oo out.length oc) := by rw [← hWa]; exact c2
                  clear hA h2 h3 hs0
                  go_wp2_with fail
                  rw [← hWa]
                  clear hWa hAx c2w
                  refine wp_norm ?_
                  refine wp_region_held_drew (S := fun w' => True) (by kernel_rfl) (by exact trivial) (fun hHeld => ?_)
                  refine take_l (i := 0) (v := ?_) rfl (by kernel_rfl) (by kernel_rfl) (by kernel_rfl) (fun _ _ _ h => h) (Or.inl ⟨by kernel_rfl, ?_⟩) (by assumption) ?_
                  rotate_left
                  · intro w hSw; (try dsimp only at hSw); go_simp; (try with_reducible rfl)
                  (try simp only [Act.put, List.setIfInBounds_toArray, List.set_cons_zero, List.set_cons_succ])
                  refine take_l (i := 1) (v := ?_) rfl (by kernel_rfl) (by kernel_rfl) (by kernel_rfl) (fun _ _ _ h => h) (Or.inl ⟨by kernel_rfl, ?_⟩) (by assumption) ?_
                  rotate_left
                  · intro w hSw; (try dsimp only at hSw); go_simp; (try with_reducible rfl)
                  (try simp only [Act.put, List.setIfInBounds_toArray, List.set_cons_zero, List.set_cons_succ])
                  refine take_l (i := 2) (v := ?_) rfl (by kernel_rfl) (by kernel_rfl) (by kernel_rfl) (fun _ _ _ h => h) (Or.inl ⟨by kernel_rfl, ?_⟩) (by assumption) ?_
                  rotate_left
                  · intro w hSw; (try dsimp only at hSw); go_simp; (try with_reducible rfl)
                  (try simp only [Act.put, List.setIfInBounds_toArray, List.set_cons_zero, List.set_cons_succ])
                  refine take_l (i := 3) (v := ?_) rfl (by kernel_rfl) (by kernel_rfl) (by kernel_rfl) (fun _ _ _ h => h) (Or.inl ⟨by kernel_rfl, ?_⟩) (by assumption) ?_
                  rotate_left
                  · intro w hSw; (try dsimp only at hSw); go_simp; (try with_reducible rfl)
                  (try simp only [Act.put, List.setIfInBounds_toArray, List.set_cons_zero, List.set_cons_succ])
                  refine take_l (i := 5) (v := ?_) rfl (by kernel_rfl) (by kernel_rfl) (by kernel_rfl) (fun _ _ _ h => h) (Or.inl ⟨by kernel_rfl, ?_⟩) (by assumption) ?_
                  rotate_left
                  · intro w hSw; (try dsimp only at hSw); go_simp; (try with_reducible rfl)
                  (try simp only [Act.put, List.setIfInBounds_toArray, List.set_cons_zero, List.set_cons_succ])
                  refine wpAnyH_ready (rs := [4, 6]) (by kernel_rfl) (by simp) ?_
                  refine ready_l rfl (fun K hK => ?_) (ready_l rfl (fun K hK => ?_) AllReadyH.nil)
                  · go_simp
                    refine hK.out _ _ (by exact trivial) (fun hHeld => ?_)
                    clear hK K
                    (try simp only [Act.put, List.setIfInBounds_toArray, List.set_cons_zero, List.set_cons_succ])
                    refine wpAnyH_ready (rs := [6]) (by kernel_rfl) (by simp) ?_
                    refine ready_l rfl (fun K hK => ?_) AllReadyH.nil
                    go_simp
                    refine hpop.out.mono ?_
                    rintro e W5 ⟨rfl, hM5, hbb, h25⟩
                    have hov := h25.trans c2
                    have hov2 : (W5.alloc (.cells #[.int .u8 (b.toNat : Int)] 5)).cell? ⟨w1.heap.size, 2, none⟩ = some (.slice oo out.length oc) := (World.cell?_of_block (a := ⟨w1.heap.size, 2, none⟩) (Below.heap_alloc W5 _ _ hM5.lt)).trans hov
                    obtain ⟨v9, w9, hrun9, ⟨va, vc, rfl⟩, ⟨u9, hu9⟩, hf9, hM6, hb56⟩ := out_run w1.heap.size r ip out W5 b hM5 (by omega) _ hov
                    have hB9 := (hBa.drew.trans (hbb.below (Nat.le_refl _) (Nat.le_of_lt hMa.lt))).trans hb56
                    have hol9 : (out ++ [b]).length ≤ 65536 := by rw [List.length_append, List.length_singleton]; omega
                    have hfin2 : RunAt L w1 mn R ⟨pc + 1, r, ip, out ++ [b]⟩ (n + 1) (w9.setCell ⟨w1.heap.size, 2, none⟩ (.slice va (out.length + 1) vc)) := ⟨by omega, by omega, hM6, hsr.out _ hs, (by rw [hn1]; exact runM_go hrun hs), hB9, hol9, hil⟩
                    replace hfin2 := Lib.hid hfin2
                    replace hrun9 := Lib.hid hrun9
                    clear h25 hM6 hb56 hB9 hol9
                    refine hK.out _ _ (by exact trivial) (fun hHeld => ?_)
                    clear hK K
                    (try simp only [Act.put, List.setIfInBounds_toArray, List.set_cons_zero, List.set_cons_succ])
                    refine take_l (i := 7) (v := ?_) rfl (by kernel_rfl) (by kernel_rfl) (by kernel_rfl) (fun _ _ _ h => h) (Or.inl ⟨by kernel_rfl, ?_⟩) (by assumption) ?_
                    rotate_left
                    · intro w hSw; (try dsimp only at hSw); go_simp; (try with_reducible rfl)
                    (try simp only [Act.put, List.setIfInBounds_toArray, List.set_cons_zero, List.set_cons_succ])
                    refine wpAnyH_ready (rs := [8]) (by kernel_rfl) (by simp) ?_
                    refine ready_l rfl (fun K hK => ?_) AllReadyH.nil
                    go_simp
                    refine hK.out _ _ (by exact trivial) (fun hHeld => ?_)
                    clear hK K
                    (try simp only [Act.put, List.setIfInBounds_toArray, List.set_cons_zero, List.set_cons_succ])
                    refine wpAnyH_ready (rs := [9]) (by kernel_rfl) (by simp) ?_
                    refine ready_l rfl (fun K hK => ?_) AllReadyH.nil
                    refine step_append_known rfl _ _ _ _ rfl _ _ rfl rfl hrun9.out ?_
                    (try simp only [Act.put, List.setIfInBounds_toArray, List.set_cons_zero, List.set_cons_succ])
                    refine hK.out _ _ (by exact trivial) (fun hHeld => ?_)
                    clear hK K
                    (try simp only [Act.put, List.setIfInBounds_toArray, List.set_cons_zero, List.set_cons_succ])
                    refine take_l (i := 10) (v := ?_) rfl (by kernel_rfl) (by kernel_rfl) (by kernel_rfl) (fun _ _ _ h => h) (Or.inl ⟨by kernel_rfl, ?_⟩) (by assumption) ?_
                    rotate_left
                    · intro w hSw; (try dsimp only at hSw); go_simp; (try with_reducible rfl)
                    (try simp only [Act.put, List.setIfInBounds_toArray, List.set_cons_zero, List.set_cons_succ])
                    refine take_l (i := 11) (v := ?_) rfl (by kernel_rfl) (by kernel_rfl) (by kernel_rfl) (fun _ _ _ h => h) (Or.inl ⟨by kernel_rfl, ?_⟩) (by assumption) ?_
                    rotate_left
                    · intro w hSw; (try dsimp only at hSw); go_simp; (try with_reducible rfl)
                    (try simp only [Act.put, List.setIfInBounds_toArray, List.set_cons_zero, List.set_cons_succ])
                    refine wpAnyH_ready (rs := [12]) (by kernel_rfl) (by simp) ?_
                    refine ready_l rfl (fun K hK => ?_) AllReadyH.nil
                    go_simp
                    refine hK.out _ _ (by exact trivial) (fun hHeld => ?_)
                    clear hK K
                    (try simp only [Act.put, List.setIfInBounds_toArray, List.set_cons_zero, List.set_cons_succ])
                    refine wpAnyH_done (by kernel_rfl) ?_ _
                    dsimp only [onlyNormal]; go_wp2_with fail; refine ⟨⟨_, _, _, _, _, by first | rfl | go_num, by first | rfl | go_num, (show Hid _ from hfin2.out)⟩, by simp [intOf]; omega⟩
                  · go_simp
                    refine hpop.out.mono ?_
                    rintro e W5 ⟨rfl, hM5, hbb, h25⟩
                    have hov := h25.trans c2
                    have hov2 : (W5.alloc (.cells #[.int .u8 (b.toNat : Int)] 5)).cell? ⟨w1.heap.size, 2, none⟩ = some (.slice oo out.length oc) := (World.cell?_of_block (a := ⟨w1.heap.size, 2, none⟩) (Below.heap_alloc W5 _ _ hM5.lt)).trans hov
                    obtain ⟨v9, w9, hrun9, ⟨va, vc, rfl⟩, ⟨u9, hu9⟩, hf9, hM6, hb56⟩ := out_run w1.heap.size r ip out W5 b hM5 (by omega) _ hov
                    have hB9 := (hBa.drew.trans (hbb.below (Nat.le_refl _) (Nat.le_of_lt hMa.lt))).trans hb56
                    have hol9 : (out ++ [b]).length ≤ 65536 := by rw [List.length_append, List.length_singleton]; omega
                    have hfin2 : RunAt L w1 mn R ⟨pc + 1, r, ip, out ++ [b]⟩ (n + 1) (w9.setCell ⟨w1.heap.size, 2, none⟩ (.slice va (out.length + 1) vc)) := ⟨by omega, by omega, hM6, hsr.out _ hs, (by rw [hn1]; exact runM_go hrun hs), hB9, hol9, hil⟩
                    replace hfin2 := Lib.hid hfin2
                    replace hrun9 := Lib.hid hrun9
                    clear h25 hM6 hb56 hB9 hol9
                    refine hK.out _ _ (by exact trivial) (fun hHeld => ?_)
                    clear hK K
                    (try simp only [Act.put, List.setIfInBounds_toArray, List.set_cons_zero, List.set_cons_succ])
                    refine take_l (i := 7) (v := ?_) rfl (by kernel_rfl) (by kernel_rfl) (by kernel_rfl) (fun _ _ _ h => h) (Or.inl ⟨by kernel_rfl, ?_⟩) (by assumption) ?_
                    rotate_left
                    · intro w hSw; (try dsimp only at hSw); go_simp; (try with_reducible rfl)
                    (try simp only [Act.put, List.setIfInBounds_toArray, List.set_cons_zero, List.set_cons_succ])
                    refine wpAnyH_ready (rs := [4, 8]) (by kernel_rfl) (by simp) ?_
                    refine ready_l rfl (fun K hK => ?_) (ready_l rfl (fun K hK => ?_) AllReadyH.nil)
                    · go_simp
                      refine hK.out _ _ (by exact trivial) (fun hHeld => ?_)
                      clear hK K
                      (try simp only [Act.put, List.setIfInBounds_toArray, List.set_cons_zero, List.set_cons_succ])
                      refine wpAnyH_ready (rs := [8]) (by kernel_rfl) (by simp) ?_
                      refine ready_l rfl (fun K hK => ?_) AllReadyH.nil
                      go_simp
                      refine hK.out _ _ (by exact trivial) (fun hHeld => ?_)
                      clear hK K
                      (try simp only [Act.put, List.setIfInBounds_toArray, List.set_cons_zero, List.set_cons_succ])
                      refine wpAnyH_ready (rs := [9]) (by kernel_rfl) (by simp) ?_
                      refine ready_l rfl (fun K hK => ?_) AllReadyH.nil
                      refine step_append_known rfl _ _ _ _ rfl _ _ rfl rfl hrun9.out ?_
                      (try simp only [Act.put, List.setIfInBounds_toArray, List.set_cons_zero, List.set_cons_succ])
                      refine hK.out _ _ (by exact trivial) (fun hHeld => ?_)
                      clear hK K
                      (try simp only [Act.put, List.setIfInBounds_toArray, List.set_cons_zero, List.set_cons_succ])
                      refine take_l (i := 10) (v := ?_) rfl (by kernel_rfl) (by kernel_rfl) (by kernel_rfl) (fun _ _ _ h => h) (Or.inl ⟨by kernel_rfl, ?_⟩) (by assumption) ?_
                      rotate_left
                      · intro w hSw; (try dsimp only at hSw); go_simp; (try with_reducible rfl)
                      (try simp only [Act.put, List.setIfInBounds_toArray, List.set_cons_zero, List.set_cons_succ])
                      refine take_l (i := 11) (v := ?_) rfl (by kernel_rfl) (by kernel_rfl) (by kernel_rfl) (fun _ _ _ h => h) (Or.inl ⟨by kernel_rfl, ?_⟩) (by assumption) ?_
                      rotate_left
                      · intro w hSw; (try dsimp only at hSw); go_simp; (try with_reducible rfl)
                      (try simp only [Act.put, List.setIfInBounds_toArray, List.set_cons_zero, List.set_cons_succ])
                      refine wpAnyH_ready (rs := [12]) (by kernel_rfl) (by simp) ?_
                      refine ready_l rfl (fun K hK => ?_) AllReadyH.nil
                      go_simp
                      refine hK.out _ _ (by exact trivial) (fun hHeld => ?_)
                      clear hK K
                      (try simp only [Act.put, List.setIfInBounds_toArray, List.set_cons_zero, List.set_cons_succ])
                      refine wpAnyH_done (by kernel_rfl) ?_ _
                      dsimp only [onlyNormal]; go_wp2_with fail; refine ⟨⟨_, _, _, _, _, by first | rfl | go_num, by first | rfl | go_num, (show Hid _ from hfin2.out)⟩, by simp [intOf]; omega⟩
                    · go_simp
                      refine hK.out _ _ (by exact trivial) (fun hHeld => ?_)
                      clear hK K
                      (try simp only [Act.put, List.setIfInBounds_toArray, List.set_cons_zero, List.set_cons_succ])
                      refine wpAnyH_ready (rs := [4]) (by kernel_rfl) (by simp) ?_
                      refine ready_l rfl (fun K hK => ?_) AllReadyH.nil
                      go_simp
                      refine hK.out _ _ (by exact trivial) (fun hHeld => ?_)
                      clear hK K
                      (try simp only [Act.put, List.setIfInBounds_toArray, List.set_cons_zero, List.set_cons_succ])
                      refine wpAnyH_ready (rs := [9]) (by kernel_rfl) (by simp) ?_
                      refine ready_l rfl (fun K hK => ?_) AllReadyH.nil
                      refine step_append_known rfl _ _ _ _ rfl _ _ rfl rfl hrun9.out ?_
                      (try simp only [Act.put, List.setIfInBounds_toArray, List.set_cons_zero, List.set_cons_succ])
                      refine hK.out _ _ (by exact trivial) (fun hHeld => ?_)
                      clear hK K
                      (try simp only [Act.put, List.setIfInBounds_toArray, List.set_cons_zero, List.set_cons_succ])
                      refine take_l (i := 10) (v := ?_) rfl (by kernel_rfl) (by kernel_rfl) (by kernel_rfl) (fun _ _ _ h => h) (Or.inl ⟨by kernel_rfl, ?_⟩) (by assumption) ?_
                      rotate_left
                      · intro w hSw; (try dsimp only at hSw); go_simp; (try with_reducible rfl)
                      (try simp only [Act.put, List.setIfInBounds_toArray, List.set_cons_zero, List.set_cons_succ])
                      refine take_l (i := 11) (v := ?_) rfl (by kernel_rfl) (by kernel_rfl) (by kernel_rfl) (fun _ _ _ h => h) (Or.inl ⟨by kernel_rfl, ?_⟩) (by assumption) ?_
                      rotate_left
                      · intro w hSw; (try dsimp only at hSw); go_simp; (try with_reducible rfl)
                      (try simp only [Act.put, List.setIfInBounds_toArray, List.set_cons_zero, List.set_cons_succ])
                      refine wpAnyH_ready (rs := [12]) (by kernel_rfl) (by simp) ?_
                      refine ready_l rfl (fun K hK => ?_) AllReadyH.nil
                      go_simp
                      refine hK.out _ _ (by exact trivial) (fun hHeld => ?_)
                      clear hK K
                      (try simp only [Act.put, List.setIfInBounds_toArray, List.set_cons_zero, List.set_cons_succ])
                      refine wpAnyH_done (by kernel_rfl) ?_ _
                      dsimp only [onlyNormal]; go_wp2_with fail; refine ⟨⟨_, _, _, _, _, by first | rfl | go_num, by first | rfl | go_num, (show Hid _ from hfin2.out)⟩, by simp [intOf]; omega⟩
            · have hs : stepM L ⟨pc, st, ip, out⟩ = .go ⟨pc + 1, calcOp x.op x.opd st, ip, out⟩ := by rw [hx.out]; exact stepc (hx.out ▸ ho)
              have e11 : ((x.op : Int) == 11) = false := by rw [beq_eq_false_iff_ne]; omega
              have e7 : ((x.op : Int) == 7) = false := by rw [beq_eq_false_iff_ne]; omega
              have e8 : ((x.op : Int) == 8) = false := by rw [beq_eq_false_iff_ne]; omega
              have e9 : ((x.op : Int) == 9) = false := by rw [beq_eq_false_iff_ne]; omega
              have e10 : ((x.op : Int) == 10) = false := by rw [beq_eq_false_iff_ne]; omega
              have hcl := Lib.hid (calculate_any w1.heap.size x.off x.op x.opd tz st ip out Wa hMa (by omega) ho htk)
              unfold insAgg at hcl
              replace ho := Lib.hid ho
              go_wp2_with fail
              rw [← hWa]
              refine hcl.out.mono ?_
              rintro e W5 ⟨rfl, hM5, hbb⟩
              have hB5 := hBa.trans hbb
              clear hWa hAx hcl
              have hfin2 : RunAt L w1 mn R ⟨pc + 1, calcOp x.op x.opd st, ip, out⟩ (n + 1) W5 := ⟨by omega, by omega, hM5, hsr.out _ hs, (by rw [hn1]; exact runM_go hrun hs), hB5, hol, hil⟩
              replace hfin2 := Lib.hid hfin2
              clear hM hR hrun hB hMa hba hBa hsr hf hgood hmost hrow hrow1 hForm hs
              go_wp2_with fail
              refine ⟨⟨_, _, _, _, _, by first | rfl | go_num, by first | rfl | go_num, (show Hid _ from hfin2.out)⟩, by simp [intOf]; omega⟩
--NUR
          · have hd : decide ((n : Int) ≤ (mn : Int)) = false := by simpa using hlt
            have hz : mn + 1 - n = 0 := by omega
            rw [hz] at hrun
            have hRn : R = none := hrun.symm
            subst hRn
            have hfin := Lib.hid (hfinR.out _ hB)
            clear hrun hfinR hM hR hrow hf hgood hmost
            go_wp2_with fail
            rw [Exit.noGoto_ret]
            exact bodyPost_ret (v := .tuple #[.string (str []), .int .i64 0, .int .i64 80]) (by simp [results, Tryd.f17, go_sem, str]) rfl hfin.out
  · have hfin : Hid (RunPost code inp most w (runE none) w1) := ⟨.inr ⟨.inl hno, rfl⟩, hb1⟩
    clear hno
    go_wp2_with fail
    exact bodyPost_ret (v := .tuple #[.string (str []), .int .i64 0, .int .i64 80]) (by simp [results, Tryd.f17, go_sem, str]) rfl hfin.out
end Go.Proofs.YtainohbfcehpoaaDoor
namespace Go.Proofs.YtainohbfcehpoaaDoor
open Go.RowKit Go.Shelf

/-- What Verify returns. -/
def VfyPost (code : List UInt8) (e : Ending) : Prop :=
  (∃ l m, formed code = some l ∧ Good l ∧ MostOf l m ∧ e = .returned (.tuple #[.int .i64 (m : Int), .int .i64 0])) ∨
  ((∀ l, formed code = some l → ¬ Good l) ∧ e = .returned (.tuple #[.int .i64 0, .int .i64 80]))
set_option maxRecDepth 100000 in
set_option maxHeartbeats 2000000 in
theorem Verify_any (code : List UInt8) (w : World) (hc : code.length ≤ 1000000) (hO : OpsIs w) :
    Calls Tryd.prog 14 #[.string (str code)] w fun e w' => VfyPost code e ∧ Below w.heap.size w w' := by
  have hP := Lib.hid (verified_any code w hc hO)
  go_enter Tryd.func14, Tryd.ntmps14
  go_wp2_with fail
  refine hP.out.mono ?_
  rintro e w1 ⟨⟨L, m, g, cap, hf, hgood, hmost, rfl, hwg, hg1, hLc, hcm, hrow⟩ | ⟨hno, rfl⟩, hb1⟩
  · have hfin : Hid (VfyPost code (.returned (.tuple #[.int .i64 (m : Int), .int .i64 0]))) := .inl ⟨L, m, hf, hgood, hmost, rfl⟩
    clear hf hgood hmost hrow
    go_wp2_with fail
    go_ret2
    exact ⟨hfin.out, hb1⟩
  · have hfin : Hid (VfyPost code (.returned (.tuple #[.int .i64 0, .int .i64 80]))) := .inr ⟨hno, rfl⟩
    clear hno
    go_wp2_with fail
    go_ret2
    exact ⟨hfin.out, hb1⟩
end Go.Proofs.YtainohbfcehpoaaDoor
namespace Go.Proofs.YtainohbfcehpoaaDoor
open Go.RowKit Go.Shelf

/-- The variables that are read. -/
structure Env (w : World) : Prop where
  ops : OpsIs w
  tab : Lib.TabIs Tryd.prog w "internal/strconv.uint64pow10" .u64 Lib.pow10Tab
  max : ∃ m, w.cell? ⟨4, 0, none⟩ = some (.int .i64 m)
  syn : ∃ tp p, w.cell? ⟨6, 0, none⟩ = some (.iface tp p)
  rng : ∃ tp p, w.cell? ⟨7, 0, none⟩ = some (.iface tp p)
theorem tab_below {P : Program} {w w' : World} {name : String} {k : IntKind} {zs : List Int} (h : Lib.TabIs P w name k zs) (hb : Below w.heap.size w w') : Lib.TabIs P w' name k zs := by
  unfold Lib.TabIs World.var? at *
  cases hg : P.globalNamed name with
  | none => simp [hg] at h
  | some g =>
    simp only [hg, Option.bind_some] at h ⊢
    have hlt : g < w.heap.size := by
      rcases Nat.lt_or_ge g w.heap.size with h' | h'
      · exact h'
      · rw [Array.getElem?_eq_none h'] at h; simp at h
    rw [hb.block g hlt]
    exact h
theorem cell_below {w w' : World} {a : Addr} {v : Value} (h : w.cell? a = some v) (hb : Below w.heap.size w w') : w'.cell? a = some v := by
  have hl := World.block_lt_of_cell? w a h
  exact (hb.cell hl).trans h
theorem Env.below {w w' : World} (h : Env w) (hb : Below w.heap.size w w') : Env w' :=
  ⟨h.ops.below hb h.ops.lt, tab_below h.tab hb, by obtain ⟨m, hm⟩ := h.max; exact ⟨m, cell_below hm hb⟩, by obtain ⟨t, p, hm⟩ := h.syn; exact ⟨t, p, cell_below hm hb⟩, by obtain ⟨t, p, hm⟩ := h.rng; exact ⟨t, p, cell_below hm hb⟩⟩
theorem str_append (a b : List UInt8) : str a ++ str b = str (a ++ b) := by
  apply ByteArray.ext
  simp [str, ByteArray.data_append]
theorem str_inj {a b : List UInt8} (h : str a = str b) : a = b := by
  have := congrArg (fun s => s.data.toList) h
  simpa [str] using this
theorem add_str (a b : List UInt8) (h : a.length + b.length ≤ 9223372036854775807) (w : World) : (Op.stringOp .add (str a) (str b)).run Tryd.prog w = .ok (.string (str (a ++ b))) w := by
  rw [run_string_add_sum (P := Tryd.prog) w _ _ (by simpa [str, ByteArray.size] using h), str_append]
theorem itoa_any (n : Int) (w : World) (hn : I64 n) (hE : Env w) :
    Calls Tryd.prog 37 #[.int .i64 n] w fun e w' => e = .returned (.string (str (Lib.itoa n))) ∧ Below w.heap.size w w' :=
  Calls.mono (Any.strconv_Itoa Tryd.laysM171 n hn.lo hn.hi w hE.tab) fun _ _ ⟨he, k, os, hw⟩ => ⟨he, by rw [hw]; exact Lib.below_grow _ _ (Nat.le_refl _) _ _⟩
/-- How Atoi ends. -/
def AtoiPost (l : List UInt8) (e : Ending) : Prop :=
  (∃ v, numv l = some v ∧ I64 v ∧ e = .returned (.tuple #[.int .i64 v, .nilIface])) ∨ (numv l = none ∧ ∃ v a, I64 v ∧ (l = [] → v = 0) ∧ e = .returned (.tuple #[.int .i64 v, .iface 121 (.pointer (some a))]))
theorem atoi_any (l : List UInt8) (w : World) (hs : l.length ≤ 1000000000) (hE : Env w) :
    Calls Tryd.prog 54 #[.string (str l)] w fun e w' => AtoiPost l e ∧ Below w.heap.size w w' := by
  obtain ⟨ts, ps, hsyn⟩ := hE.syn
  obtain ⟨tr, pr, hrng⟩ := hE.rng
  have hsz : (str l).size ≤ 1000000000 := by rw [str_size]; exact hs
  cases h : Lib.atoiAll l
  · rename_i v
    have hv := Lib.atoiAll_bounds h
    refine Calls.mono (Any.strconv_Atoi_ok Tryd.laysC172 (str l) (by omega) v h w) fun _ _ ⟨he, hw⟩ => ⟨.inl ⟨v, by unfold numv; rw [h], ⟨hv.1, hv.2⟩, he⟩, ?_⟩
    rcases hw with rfl | ⟨t, rfl⟩
    · exact Below.refl _ _
    · exact Lib.bytesWorld_below _ _ _
  · refine Calls.mono (Any.strconv_Atoi_syntax Tryd.laysC172 (str l) (by omega) h _ w hsyn (.inr ⟨_, _, rfl⟩)) fun _ _ ⟨N, he, _, _, hb⟩ => ⟨.inr ⟨by unfold numv; rw [h], 0, _, ⟨by omega, by omega⟩, fun _ => rfl, he⟩, hb⟩
  · have hv := Lib.atoiSat_bounds l
    refine Calls.mono (Any.strconv_Atoi_range Tryd.laysC172 (str l) (by omega) h _ w hrng (.inr ⟨_, _, rfl⟩)) fun _ _ ⟨N, he, _, _, hb⟩ => ⟨.inr ⟨by unfold numv; rw [h], _, _, ⟨hv.1, hv.2⟩, fun e => ?_, he⟩, hb⟩
    subst e
    cases h
theorem cut_any (k : UInt8) (l : List UInt8) (w : World) (hs : l.length ≤ 1000000000) (hE : Env w) :
    Calls Tryd.prog 42 #[.string (str l), .string (str [k])] w fun e w' => e = .returned (.tuple #[.string (str (Lib.cut l [k]).1), .string (str (Lib.cut l [k]).2.1), .bool (Lib.cut l [k]).2.2]) ∧ ∃ n, w' = w.drewN n := by
  obtain ⟨m, hm⟩ := hE.max
  exact Calls.mono (Any.strings_Cut Tryd.lays145 (str l) (str [k]) m w (by rw [str_size]; omega) hm) fun _ _ h => h
end Go.Proofs.YtainohbfcehpoaaDoor
