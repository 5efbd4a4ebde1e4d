/-
  Formats of chapter 4: the reference's least lengths.
  Formats of chapter 4: the reference's least lengths, walked.
  Formats of chapter 4: the reference's number.
  Formats of chapter 4: what the reference's fits answers, plain.
  Formats of chapter 4: the reference's fits, walked.
  Formats of chapter 4: the reference's begins and Valid, walked.
  Formats of chapter 4: the reference's Valid, walked.
-/
import Derived.Test.YtcpfmlaipejfpaaGreatDoorK9
import Derived.Deep.Cut
import Derived.Deep.CutRange
import Derived.Deep.CutBlock
namespace Go.Proofs.YtcpfmlaipejfpaaGreatDoor
open Go.RowKit Go.Shelf Go.Maps

attribute [local go_sem] Oper.semAt_some

def inR (id : Int) (n : Int) (z : List (Fmt × Int)) : Int := z.foldl (fun n z => if z.1.id = id then w64i (n + z.2) else n) n
def stepR (prev : List Fmt) (out : List Int) (n : Int) (f : Fld) : Int :=
  if f.kind = 1 then w64i (n + (f.text.length : Int))
  else if f.kind = 2 ∨ f.kind = 6 ∨ f.kind = 3 then w64i (n + f.n)
  else if f.kind = 5 then inR f.n n (prev.zip out)
  else n
def fmtR (prev : List Fmt) (out : List Int) (fs : List Fld) : Int := fs.foldl (stepR prev out) 0
def leastsTo (l : List Fmt) : Nat → List Int
  | 0 => []
  | i + 1 => leastsTo l i ++ [fmtR (l.take i) (leastsTo l i) l[i]!.flds]
def leastsR (l : List Fmt) : List Int := leastsTo l l.length
theorem leastsTo_len (l : List Fmt) : ∀ i, (leastsTo l i).length = i
  | 0 => rfl
  | i + 1 => by rw [leastsTo, List.length_append, leastsTo_len l i]; rfl
theorem fmtR_snoc (prev : List Fmt) (out : List Int) (fs : List Fld) (k : Nat) (h : k < fs.length) : fmtR prev out (fs.take (k + 1)) = stepR prev out (fmtR prev out (fs.take k)) fs[k]! := by
  rw [List.take_succ_eq_append_getElem h, fmtR, List.foldl_append, getElem!_pos fs k h]
  rfl
theorem inR_snoc (id n : Int) (prev : List Fmt) (out : List Int) (j : Nat) (h : j < prev.length) (h2 : prev.length = out.length) : inR id n ((prev.zip out).take (j + 1)) = if prev[j]!.id = id then w64i (inR id n ((prev.zip out).take j) + out[j]!) else inR id n ((prev.zip out).take j) := by
  have hz : j < (prev.zip out).length := by simp; omega
  rw [List.take_succ_eq_append_getElem hz, inR, List.foldl_append, List.getElem_zip, getElem!_pos prev j h, getElem!_pos out j (by omega)]
  rfl
def intC (l : List Int) : List Value := l.map (.int .i64)
theorem info_int : (Tryz.prog.info? 3).map (fun i => (i.zero, i.size, i.bytes)) = some (some (.int .i64 0), 1, 8) := by kernel_rfl
theorem append_int (ws : World) (base : Nat) (v : Value) (out : List Int) (u : Int) (hown : ws.ownsRow base 3 1 v out.length (intC out)) (hl : out.length ≤ 1000000) (hb : base ≤ ws.heap.size) :
    ∃ v' w', (Builtin.append_ #[31, 31] 31 #[v, .slice (some ⟨ws.heap.size, 0, none⟩) 1 1]).run Tryz.prog (ws.alloc (.cells #[.int .i64 u] 3)) = .ok v' w' ∧
      w'.ownsRow base 3 1 v' (out ++ [u]).length (intC (out ++ [u])) ∧ (∀ B x, B ≤ base → Below B x ws → Below B x w') := by
  obtain ⟨i0, hi, hz0, hz1, hz2⟩ := info_parts info_int
  have hown2 := own_below hown ((Below.refl ws.heap.size ws).alloc (Nat.le_refl _) (.cells #[.int .i64 u] 3))
  have hnew : Arr (ws.alloc (.cells #[.int .i64 u] 3)) ws.heap.size 3 [.int .i64 u] := Arr.new rfl rfl
  obtain ⟨v', w', hrun, r1, r2, r3, r4⟩ := run_append_own_at (P := Tryz.prog) (ws.alloc (.cells #[.int .i64 u] 3)) base 31 31 3 i0 (.int .i64 0) 1 8 Tryz.underlying31 hi hz0 hz1 hz2 rfl (by decide) v out.length (intC out) hown2 ⟨ws.heap.size, 0, none⟩ 1 1 [.int .i64 u] rfl (fun j x hx => by rw [Addr.add_mid, Nat.zero_add]; exact hnew.cell hx)
    (by intro x hx; simp at hx; subst hx; rfl) (by unfold maxLen; omega) (by omega) (by simp; omega)
  have e : intC out ++ [Value.int .i64 u] = intC (out ++ [u]) := by simp [intC]
  refine ⟨v', w', hrun, by rw [← e, List.length_append]; exact r1, fun B x hB hx => ?_⟩
  exact (hx.alloc (by omega) _).grown r2 (by simp; omega) (fun j ej => Nat.le_trans hB (hown2.lt j ej).1)
/-- A slice of formats, with what is asked of it. -/
structure Fmts (w : World) (v : Value) (l : List Fmt) : Prop where
  at_ : FmtsAt w w.heap.size v l
  in_ : FmtIn l
theorem Fmts.later {w w' : World} {v : Value} {l : List Fmt} (h : Fmts w v l) (hb : Below w.heap.size w w') : Fmts w' v l := ⟨h.at_.later hb (Nat.le_refl _), h.in_⟩
/-- The i-th format's cells, and its fields' cells. -/
theorem Fmts.at {w : World} {v : Value} {l : List Fmt} (h : Fmts w v l) {i : Nat} (hi : i < l.length) : ∃ fb fo cap fa fcap, v = .slice (some ⟨fb, fo, none⟩) l.length cap ∧ w.cell? ⟨fb, fo + i * 2, none⟩ = some (.int .i64 l[i]!.id) ∧ w.cell? ⟨fb, fo + i * 2 + 1, none⟩ = some (.slice fa l[i]!.flds.length fcap) ∧ I64 l[i]!.id ∧ l[i]!.flds.length ≤ 1000000 ∧
    ∀ k, k < l[i]!.flds.length → ∃ gb go, fa = some ⟨gb, go, none⟩ ∧ w.cell? ⟨gb, go + k * 4, none⟩ = some (.int .i64 l[i]!.flds[k]!.kind) ∧ w.cell? ⟨gb, go + k * 4 + 1, none⟩ = some (.int .i64 l[i]!.flds[k]!.n) ∧ w.cell? ⟨gb, go + k * 4 + 2, none⟩ = some (.int .i64 l[i]!.flds[k]!.frm) ∧ w.cell? ⟨gb, go + k * 4 + 3, none⟩ = some (.string (str l[i]!.flds[k]!.text)) ∧ FldOk l[i]!.flds[k]! := by
  obtain ⟨⟨fvs, hfl, ⟨a, cap, rfl, hcp, hcm, hat⟩, hfs⟩, hin⟩ := h
  obtain ⟨fb, fo, rfl, hfb, hcell⟩ := hat (by omega)
  obtain ⟨p1, p2⟩ := fmtC_at l fvs hfl i hi
  obtain ⟨fa, fcap, hfv, _, _, hfc⟩ := hfs i hi
  have hm : l[i]! ∈ l := by rw [getElem!_pos l i hi]; exact List.getElem_mem hi
  refine ⟨fb, fo, cap, fa, fcap, rfl, hcell _ _ p1, by rw [← hfv]; exact hcell _ _ p2, hin.id _ hm, hin.flen _ hm, fun k hk => ?_⟩
  obtain ⟨gb, go, rfl, hgb, hgc⟩ := hfc (by omega)
  obtain ⟨z0, z1, z2, z3⟩ := fldCells hgc hk
  exact ⟨gb, go, rfl, z0, z1, z2, z3, hin.ok _ hm _ (by rw [getElem!_pos _ k hk]; exact List.getElem_mem hk)⟩
theorem Fmts.val {w : World} {v : Value} {l : List Fmt} (h : Fmts w v l) : ∃ a cap, v = .slice a l.length cap ∧ l.length ≤ cap ∧ cap ≤ maxLen := by
  obtain ⟨⟨fvs, hfl, ⟨a, cap, rfl, hcp, hcm, hat⟩, hfs⟩, hin⟩ := h
  exact ⟨a, cap, rfl, hcp, hcm⟩
end Go.Proofs.YtcpfmlaipejfpaaGreatDoor
namespace Go.Proofs.YtcpfmlaipejfpaaGreatDoor
open Go.RowKit Go.Shelf Go.Maps

attribute [local go_sem] Oper.semAt_some

theorem own_at1 {w : World} {B n : Nat} {e : TypeId} {v : Value} {xs : List Value} (h : w.ownsRow B e 1 v n xs) {j : Nat} {u : Value} (hj : xs[j]? = some u) (hn : 0 < n) : ∃ g c, v = .slice (some ⟨g, 0, none⟩) n c ∧ w.cell? ⟨g, j, none⟩ = some u := by
  obtain ⟨g, c, rfl⟩ := own_slice h hn
  have := h.cells rfl j u hj
  rw [Addr.add_mid, Nat.zero_add] at this
  exact ⟨g, c, rfl, this⟩
/-- What lies while the loops run. -/
structure LtAt (w : World) (l : List Fmt) (i : Nat) (v : Value) (wr : World) : Prop where
  below : Below w.heap.size w wr
  own : wr.ownsRow w.heap.size 3 1 v i (intC (leastsTo l i))
theorem LtAt.later {w wr wx : World} {l : List Fmt} {i : Nat} {v : Value} (h : LtAt w l i v wr) (hb : Below wr.heap.size wr wx) : LtAt w l i v wx := ⟨h.below.trans (hb.mono h.below.size), own_below h.own hb⟩
theorem w64i_eq (n : Int) : w64i n = wrap64 n := IntWalk.i64_left n
theorem i64_w64 (n : Int) : I64 (w64i n) := by
  unfold w64i
  rw [IntKind.wrap_i64]
  exact ⟨by omega, by omega⟩
set_option maxRecDepth 100000 in
set_option maxHeartbeats 8000000 in
theorem leasts_any (v : Value) (l : List Fmt) (w : World) (h : Fmts w v l) :
    Calls Tryz.prog 35 #[v] w fun e w' => ∃ v', e = .returned v' ∧ w'.ownsRow w.heap.size 3 1 v' l.length (intC (leastsR l)) ∧ Below w.heap.size w w' := by
  have hlm := h.in_.len
  have hh := Lib.hid h
  obtain ⟨a0, cap0, rfl, hcp, hcm⟩ := h.val
  have hsl0 : Hid (LtAt w l 0 (.slice none 0 0) w) := (show LtAt _ _ _ _ _ from ⟨Below.refl _ _, World.ownsRow_nil _ _ _ _⟩)
  clear h
  go_enter Tryz.func35, Tryz.ntmps35
  go_wp2_with fail
  go_loopw [4, 3] (fun iv ov wr => ∃ i : Nat, i ≤ l.length ∧ iv = .int .i64 (i : Int) ∧ Hid (LtAt w l i ov wr)) (fun iv _ _ => l.length - (intOf iv).toNat)
  case atStart => exact ⟨0, Nat.zero_le _, rfl, hsl0⟩
  case round =>
    obtain ⟨i, hi, rfl, hI⟩ := hrel
    clear hsl0
    obtain ⟨oa, oc, rfl⟩ := own_val hI.out.own
    by_cases hlt : i < l.length
    · have hd : decide ((i : Int) < (l.length : Int)) = true := by simpa using hlt
      have i0 : (0 : Int) ≤ (i : Int) := by omega
      have i1 : (i : Int) < (l.length : Int) := by omega
      have htl : (l.take i).length = i := by rw [List.length_take]; omega
      have hzl := leastsTo_len l i
      obtain ⟨fb, fo, cap, fa, fcap, hv, _, _, _, hfn, _⟩ := hh.out.at hlt
      injection hv with hv1 hv2 hv3
      subst hv1 hv3
      clear hv2
      have hAt := Lib.hid fun (W : World) (hb : Below w.heap.size w W) => (hh.out.later hb).at hlt
      have hst : Hid (leastsTo l (i + 1) = leastsTo l i ++ [fmtR (l.take i) (leastsTo l i) l[i]!.flds]) := rfl
      have hfs := fun k (hk : k < l[i]!.flds.length) => fmtR_snoc (l.take i) (leastsTo l i) l[i]!.flds k hk
      have hin := fun id n j (hj : j < i) => inR_snoc id n (l.take i) (leastsTo l i) j (by omega) (by omega)
      have htk : ∀ j, j < i → (l.take i)[j]! = l[j]! := fun j hj => by rw [getElem!_pos _ j (by omega), getElem!_pos l j (by omega), List.getElem_take]
      have hAtj := Lib.hid fun (W : World) (hb : Below w.heap.size w W) j (hj : j < i) => (hh.out.later hb).at (show j < l.length by omega)
      generalize hL : leastsTo l i = out at *
      generalize l[i]!.flds = fs at *
      replace hst := Lib.hid hst.out
      obtain ⟨wA, hwA⟩ : ∃ wA, wA = wr := ⟨_, rfl⟩
      subst hwA
      have hw1i : IntKind.i64.wrap ((i : Int) + 1) = ((i + 1 : Nat) : Int) := by rw [Int.natCast_succ]; exact IntWalk.i64_in _ (by omega)
      have hI0 : Hid (fmtR (l.take i) out (fs.take 0) = 0) := rfl
      replace hL := Lib.hid hL
      replace hzl := Lib.hid hzl
      replace htl := Lib.hid htl
      replace hfs := Lib.hid hfs
      replace hin := Lib.hid hin
      replace htk := Lib.hid htk
      go_wp2_with fail
      go_loopw [6, 5] (fun kv nv wr => ∃ k : Nat, k ≤ fs.length ∧ kv = .int .i64 (k : Int) ∧ nv = .int .i64 (fmtR (l.take i) out (fs.take k)) ∧ Hid (LtAt w l i (.slice oa i oc) wr)) (fun kv _ _ => fs.length - (intOf kv).toNat)
      case atStart => exact ⟨0, Nat.zero_le _, rfl, by rw [hI0.out], hI⟩
      case round =>
        obtain ⟨k, hk, rfl, rfl, hI2⟩ := hrel
        clear hI hI0
        obtain ⟨fb2, fo2, cap2, fa2, fcap2, hv, _, x1, _, _, hflds⟩ := hAt.out wr hI2.out.below
        injection hv with hv1 hv2 hv3
        injection hv1 with hv1
        injection hv1 with hv4 hv5
        subst hv4 hv5 hv3
        clear hv2
        by_cases hlk : k < fs.length
        · have hdk : decide ((k : Int) < (fs.length : Int)) = true := by simpa using hlk
          obtain ⟨gb, go, rfl, z0, z1, z2, z3, hok⟩ := hflds k hlk
          have hsn := Lib.hid (hfs.out k hlk)
          have k0 : (0 : Int) ≤ (k : Int) := by omega
          have k1 : (k : Int) < (fs.length : Int) := by omega
          have hwk : IntKind.i64.wrap ((k : Int) + 1) = ((k + 1 : Nat) : Int) := by rw [Int.natCast_succ]; exact IntWalk.i64_in _ (by omega)
          generalize fs[k]! = f at *
          obtain ⟨kd, n, fr, t⟩ := f
          dsimp only at z0 z1 z2 z3
          obtain ⟨N, hN⟩ : ∃ N, N = fmtR (l.take i) out (fs.take k) := ⟨_, rfl⟩
          rw [← hN] at hsn ⊢
          replace hN := Lib.hid hN
          have hps := str_size t
          have htl2 := hok.t
          dsimp only at htl2
          have hwt : IntKind.i64.wrap (t.length : Int) = (t.length : Int) := IntWalk.i64_in _ (by omega)
          obtain ⟨Wf, hWf⟩ : ∃ Wf, Wf = wr.alloc (.cells #[.int .i64 kd, .int .i64 n, .int .i64 fr, .string (str t)] 55) := ⟨_, rfl⟩
          have hbf : Below wr.heap.size wr Wf := by rw [hWf]; exact (Below.refl _ _).alloc (Nat.le_refl _) _
          have hAf : Arr Wf wr.heap.size 55 [.int .i64 kd, .int .i64 n, .int .i64 fr, .string (str t)] := by rw [hWf]; exact Arr.new rfl rfl
          have hIf : Hid (LtAt w l i (.slice oa i oc) Wf) := hI2.out.later hbf
          rw [hWf] at hIf
          have hkc : kd = 1 ∨ kd = 2 ∨ kd = 3 ∨ kd = 6 ∨ kd = 5 ∨ (kd ≠ 1 ∧ kd ≠ 2 ∧ kd ≠ 3 ∧ kd ≠ 6 ∧ kd ≠ 5) := by omega
          rcases hkc with hk1 | hk1 | hk1 | hk1 | hk1 | hk1
          · have q1 : (kd == 1) = true := by rw [hk1]; rfl
            have hstep : Hid (stepR (l.take i) out N ⟨kd, n, fr, t⟩ = w64i (N + (t.length : Int))) := by show _ = _; unfold stepR; dsimp only; rw [if_pos hk1]
            replace hk1 := Lib.hid hk1
            go_wp2_with fail
            exact ⟨⟨k + 1, by omega, by first | rfl | go_num, by rw [hsn.out, hstep.out]; try rw [w64i_eq], hIf⟩, by simp [intOf]; omega⟩
          · have q1 : (kd == 1) = false := by rw [beq_eq_false_iff_ne]; omega
            have q2 : (kd == 2) = true := by rw [hk1]; rfl
            have hstep : Hid (stepR (l.take i) out N ⟨kd, n, fr, t⟩ = w64i (N + n)) := by show _ = _; unfold stepR; dsimp only; rw [if_neg (by omega), if_pos (.inl hk1)]
            replace hk1 := Lib.hid hk1
            go_wp2_with fail
            exact ⟨⟨k + 1, by omega, by first | rfl | go_num, by rw [hsn.out, hstep.out]; try rw [w64i_eq], hIf⟩, by simp [intOf]; omega⟩
          · have q1 : (kd == 1) = false := by rw [beq_eq_false_iff_ne]; omega
            have q2 : (kd == 2) = false := by rw [beq_eq_false_iff_ne]; omega
            have q6 : (kd == 6) = false := by rw [beq_eq_false_iff_ne]; omega
            have q3 : (kd == 3) = true := by rw [hk1]; rfl
            have hstep : Hid (stepR (l.take i) out N ⟨kd, n, fr, t⟩ = w64i (N + n)) := by show _ = _; unfold stepR; dsimp only; rw [if_neg (by omega), if_pos (.inr (.inr hk1))]
            replace hk1 := Lib.hid hk1
            go_wp2_with fail
            exact ⟨⟨k + 1, by omega, by first | rfl | go_num, by rw [hsn.out, hstep.out]; try rw [w64i_eq], hIf⟩, by simp [intOf]; omega⟩
          · have q1 : (kd == 1) = false := by rw [beq_eq_false_iff_ne]; omega
            have q2 : (kd == 2) = false := by rw [beq_eq_false_iff_ne]; omega
            have q6 : (kd == 6) = true := by rw [hk1]; rfl
            have hstep : Hid (stepR (l.take i) out N ⟨kd, n, fr, t⟩ = w64i (N + n)) := by show _ = _; unfold stepR; dsimp only; rw [if_neg (by omega), if_pos (.inr (.inl hk1))]
            replace hk1 := Lib.hid hk1
            go_wp2_with fail
            exact ⟨⟨k + 1, by omega, by first | rfl | go_num, by rw [hsn.out, hstep.out]; try rw [w64i_eq], hIf⟩, by simp [intOf]; omega⟩
          · have q1 : (kd == 1) = false := by rw [beq_eq_false_iff_ne]; omega
            have q2 : (kd == 2) = false := by rw [beq_eq_false_iff_ne]; omega
            have q6 : (kd == 6) = false := by rw [beq_eq_false_iff_ne]; omega
            have q3 : (kd == 3) = false := by rw [beq_eq_false_iff_ne]; omega
            have q5 : (kd == 5) = true := by rw [hk1]; rfl
            have hstep : Hid (stepR (l.take i) out N ⟨kd, n, fr, t⟩ = inR n N ((l.take i).zip out)) := by show _ = _; unfold stepR; dsimp only; rw [if_neg (by omega), if_neg (by omega), if_pos hk1]
            replace hk1 := Lib.hid hk1
            have s1 := hAf.cell (j := 1) rfl
            have hIq : Hid (LtAt w l i (.slice oa i oc) Wf ∧ Wf.cell? ⟨wr.heap.size, 1, none⟩ = some (.int .i64 n) ∧ wr.heap.size < Wf.heap.size) := ⟨hI2.out.later hbf, s1, hAf.lt⟩
            have hN0 : Hid (inR n N (((l.take i).zip out).take 0) = N) := rfl
            rw [hWf] at hIq
            obtain ⟨wB, hwB⟩ : ∃ wB, wB = wr := ⟨_, rfl⟩
            subst hwB
            go_wp2_with fail
            go_loopw [8, 5] (fun jv nv wr => ∃ j : Nat, j ≤ i ∧ jv = .int .i64 (j : Int) ∧ nv = .int .i64 (inR n N (((l.take i).zip out).take j)) ∧ Hid (LtAt w l i (.slice oa i oc) wr ∧ wr.cell? ⟨wB.heap.size, 1, none⟩ = some (.int .i64 n) ∧ wB.heap.size < wr.heap.size)) (fun jv _ _ => i - (intOf jv).toNat)
            case atStart => exact ⟨0, Nat.zero_le _, rfl, by rw [hN0.out], hIq⟩
            case round =>
              obtain ⟨j, hj, rfl, rfl, hI3⟩ := hrel
              clear hI2 hIf hIq hN0
              obtain ⟨hI4, c1, hlt5⟩ := hI3.out
              by_cases hlj : j < i
              · have hdj : decide ((j : Int) < (i : Int)) = true := by simpa using hlj
                obtain ⟨fb3, fo3, cap3, fa3, fcap3, hv, y0, _, _, _, _⟩ := hAtj.out wr hI4.below j hlj
                injection hv with hv1 hv2 hv3
                injection hv1 with hv1
                injection hv1 with hv4 hv5
                subst hv4 hv5 hv3
                clear hv2
                have hsj := hin.out n N j hlj
                rw [htk.out j hlj] at hsj
                generalize l[j]!.id = idj at *
                obtain ⟨og, oc3, hvo, yo⟩ := own_at1 (j := j) (u := .int .i64 out[j]!) hI4.own (by rw [hL.out]; unfold intC; rw [List.getElem?_map, List.getElem?_eq_getElem (by rw [hzl.out]; exact hlj), getElem!_pos out j (by rw [hzl.out]; exact hlj)]; rfl) (by omega)
                injection hvo with hvo1 _ hvo3
                subst hvo1 hvo3
                generalize out[j]! = oj at *
                have j0 : (0 : Int) ≤ (j : Int) := by omega
                have j1 : (j : Int) < (i : Int) := by omega
                have j2 : (j : Int) < (l.length : Int) := by omega
                have hwj : IntKind.i64.wrap ((j : Int) + 1) = ((j + 1 : Nat) : Int) := by rw [Int.natCast_succ]; exact IntWalk.i64_in _ (by omega)
                generalize hM : inR n N (((l.take i).zip out).take j) = M at *
                replace hM := Lib.hid hM
                by_cases hid : idj = n
                · have hqi : (idj == n) = true := by simpa using hid
                  rw [if_pos hid] at hsj
                  replace hsj := Lib.hid hsj
                  replace hid := Lib.hid hid
                  have hdq : ∀ q, Hid (LtAt w l i (.slice (some ⟨og, 0, none⟩) i oc) (wr.drewN q) ∧ (wr.drewN q).cell? ⟨wB.heap.size, 1, none⟩ = some (.int .i64 n) ∧ wB.heap.size < (wr.drewN q).heap.size) := fun q => ⟨hI4.later (below_drewN (Below.refl _ _) q), c1, hlt5⟩
                  go_wp2_with fail
                  go_quiet (fail)
                  go_wp2_with fail
                  exact ⟨⟨j + 1, by omega, by first | rfl | go_num, by rw [hsj.out, w64i_eq], hdq _⟩, by simp [intOf]; omega⟩
                · have hqi : (idj == n) = false := by simpa using hid
                  rw [if_neg hid] at hsj
                  replace hsj := Lib.hid hsj
                  replace hid := Lib.hid hid
                  have hdq : ∀ q, Hid (LtAt w l i (.slice (some ⟨og, 0, none⟩) i oc) (wr.drewN q) ∧ (wr.drewN q).cell? ⟨wB.heap.size, 1, none⟩ = some (.int .i64 n) ∧ wB.heap.size < (wr.drewN q).heap.size) := fun q => ⟨hI4.later (below_drewN (Below.refl _ _) q), c1, hlt5⟩
                  go_wp2_with fail
                  go_quiet (fail)
                  go_wp2_with fail
                  exact ⟨⟨j + 1, by omega, by first | rfl | go_num, by rw [hsj.out], hdq _⟩, by simp [intOf]; omega⟩
              · have hdj : decide ((j : Int) < (i : Int)) = false := by simpa using hlj
                have hjj : Hid (inR n N (((l.take i).zip out).take j) = inR n N ((l.take i).zip out)) := by show _ = _; rw [List.take_of_length_le (by rw [List.length_zip, htl.out, hzl.out]; omega)]
                have hIf : Hid (LtAt w l i (.slice oa i oc) wr) := hI4
                go_wp2_with fail
                exact ⟨⟨k + 1, by omega, by first | rfl | go_num, by rw [hsn.out, hstep.out, hjj.out], hIf⟩, by simp [intOf]; omega⟩
          · have q1 : (kd == 1) = false := by rw [beq_eq_false_iff_ne]; omega
            have q2 : (kd == 2) = false := by rw [beq_eq_false_iff_ne]; omega
            have q6 : (kd == 6) = false := by rw [beq_eq_false_iff_ne]; omega
            have q3 : (kd == 3) = false := by rw [beq_eq_false_iff_ne]; omega
            have q5 : (kd == 5) = false := by rw [beq_eq_false_iff_ne]; omega
            have hstep : Hid (stepR (l.take i) out N ⟨kd, n, fr, t⟩ = N) := by show _ = _; unfold stepR; dsimp only; rw [if_neg (by omega), if_neg (by omega), if_neg (by omega)]
            replace hk1 := Lib.hid hk1
            go_wp2_with fail
            exact ⟨⟨k + 1, by omega, by first | rfl | go_num, by rw [hsn.out, hstep.out]; try rw [w64i_eq], hIf⟩, by simp [intOf]; omega⟩
        · have hdk : decide ((k : Int) < (fs.length : Int)) = false := by simpa using hlk
          have hkk : Hid (fmtR (l.take i) out (fs.take k) = fmtR (l.take i) out fs) := by show _ = _; rw [List.take_of_length_le (l := fs) (by omega)]
          rw [hkk.out]
          obtain ⟨v', w', hrun, r1, r3⟩ := append_int wr w.heap.size _ out (fmtR (l.take i) out fs) (by have := hI2.out.own; rw [hL.out] at this; rw [hzl.out]; exact this) (by rw [hzl.out]; omega) hI2.out.below.size
          rw [← hst.out] at r1
          have hIn : Hid (LtAt w l (i + 1) v' w') := (show LtAt _ _ _ _ _ from ⟨r3 _ _ (Nat.le_refl _) hI2.out.below, by rw [leastsTo_len] at r1; exact r1⟩)
          obtain ⟨oa2, oc2, rfl⟩ := own_val r1
          replace hrun := Lib.hid hrun
          replace hIn := Lib.hid hIn.out
          clear r1 r3
          go_wp2_with (at_builtin; go_loud (refine wpList_append_known rfl _ _ _ _ rfl _ _ rfl rfl hrun.out ?_))
          exact ⟨⟨i + 1, by omega, by first | rfl | go_num, hIn⟩, by simp [intOf]; omega⟩
    · have hd : decide ((i : Int) < (l.length : Int)) = false := by simpa using hlt
      obtain rfl : i = l.length := by omega
      go_wp2_with fail
      go_ret
      exact ⟨_, rfl, hI.out.own, hI.out.below⟩
end Go.Proofs.YtcpfmlaipejfpaaGreatDoor
namespace Go.Proofs.YtcpfmlaipejfpaaGreatDoor
open Go.RowKit Go.Shelf Go.Maps

attribute [local go_sem] Oper.semAt_some

structure Flds (w : World) (v : Value) (fs : List Fld) : Prop where
  at_ : FldsAt w w.heap.size v fs
  len : fs.length ≤ 1000000
  ok : ∀ f ∈ fs, FldOk f
theorem Flds.later {w w' : World} {v : Value} {fs : List Fld} (h : Flds w v fs) (hb : Below w.heap.size w w') : Flds w' v fs := ⟨SliceAt.later h.at_ hb, h.len, h.ok⟩
theorem Flds.val {w : World} {v : Value} {fs : List Fld} (h : Flds w v fs) : ∃ a c, v = .slice a fs.length c := by
  obtain ⟨a, c, rfl, _⟩ := h.at_
  exact ⟨a, c, rfl⟩
theorem Flds.at {w : World} {v : Value} {fs : List Fld} (h : Flds w v fs) {k : Nat} (hk : k < fs.length) : ∃ gb go c, v = .slice (some ⟨gb, go, none⟩) fs.length c ∧ w.cell? ⟨gb, go + k * 4, none⟩ = some (.int .i64 fs[k]!.kind) ∧ w.cell? ⟨gb, go + k * 4 + 1, none⟩ = some (.int .i64 fs[k]!.n) ∧ w.cell? ⟨gb, go + k * 4 + 2, none⟩ = some (.int .i64 fs[k]!.frm) ∧ w.cell? ⟨gb, go + k * 4 + 3, none⟩ = some (.string (str fs[k]!.text)) ∧ FldOk fs[k]! := by
  obtain ⟨a, c, rfl, _, _, hc⟩ := h.at_
  obtain ⟨gb, go, rfl, _, hcell⟩ := hc (by omega)
  obtain ⟨z0, z1, z2, z3⟩ := fldCells hcell hk
  exact ⟨gb, go, c, rfl, z0, z1, z2, z3, h.ok _ (by rw [getElem!_pos fs k hk]; exact List.getElem_mem hk)⟩
def numberR (fs : List Fld) (k : Nat) : Bool :=
  let m := fs[k]!.frm
  if m < 0 ∨ (k : Int) ≤ m then false else (fs[m.toNat]!.kind == 2) && !(fs.take k).any (fun g => g.frm == m)
theorem any_take (fs : List Fld) (m : Int) (i : Nat) (h : i < fs.length) : (fs.take (i + 1)).any (fun g => g.frm == m) = ((fs.take i).any (fun g => g.frm == m) || (fs[i]!.frm == m)) := by
  rw [List.take_succ_eq_append_getElem h, List.any_append, getElem!_pos fs i h]
  simp
set_option maxRecDepth 100000 in
set_option maxHeartbeats 4000000 in
theorem numberR_any (v : Value) (fs : List Fld) (k : Nat) (w : World) (h : Flds w v fs) (hk : k < fs.length) :
    Calls Tryz.prog 85 #[v, .int .i64 (k : Int)] w fun e w' => e = .returned (.bool (numberR fs k)) ∧ Below w.heap.size w w' := by
  have hlen := h.len
  have hh := Lib.hid h
  obtain ⟨gb, go, c, rfl, _, _, x2, _, hok⟩ := h.at hk
  have hm := hok.m
  have hdef : Hid (numberR fs k = if fs[k]!.frm < 0 ∨ (k : Int) ≤ fs[k]!.frm then false else (fs[fs[k]!.frm.toNat]!.kind == 2) && !(fs.take k).any (fun g => g.frm == fs[k]!.frm)) := rfl
  clear h hok
  have k0 : (0 : Int) ≤ (k : Int) := by omega
  have k1 : (k : Int) < (fs.length : Int) := by omega
  generalize fs[k]!.frm = m at *
  by_cases h0 : m < 0
  · have hd0 : decide (m < 0) = true := by simpa using h0
    have hr : Hid (numberR fs k = false) := by show _ = _; rw [hdef.out, if_pos (.inl h0)]
    go_enter Tryz.func85, Tryz.ntmps85
    go_wp2_with fail
    go_ret
    exact ⟨by rw [hr.out]; rfl, Below.refl _ _⟩
  · have hd0 : decide (m < 0) = false := by simpa using h0
    by_cases h1 : (k : Int) ≤ m
    · have hd1 : decide (m ≥ (k : Int)) = true := by simpa using h1
      have hd2 : decide ((k : Int) ≤ m) = true := by simpa using h1
      have hr : Hid (numberR fs k = false) := by show _ = _; rw [hdef.out, if_pos (.inr h1)]
      go_enter Tryz.func85, Tryz.ntmps85
      go_wp2_with fail
      go_ret
      exact ⟨by rw [hr.out]; rfl, Below.refl _ _⟩
    · have hd1 : decide (m ≥ (k : Int)) = false := by simpa using h1
      have hd2 : decide ((k : Int) ≤ m) = false := by simpa using h1
      obtain ⟨μ, rfl⟩ : ∃ μ : Nat, m = (μ : Int) := ⟨m.toNat, by omega⟩
      have hμ : μ < fs.length := by omega
      obtain ⟨gb2, go2, c2, hv, y0, _, _, _, _⟩ := hh.out.at hμ
      injection hv with hv1 _ hv3
      injection hv1 with hv1
      injection hv1 with hv4 hv5
      subst hv4 hv5 hv3
      have m1 : (μ : Int) < (fs.length : Int) := by omega
      rw [Int.toNat_natCast] at hdef
      generalize fs[μ]!.kind = kd at *
      by_cases hkd : kd = 2
      · have q2 : (kd == 2) = true := by simpa using hkd
        have q2n : (kd != 2) = false := by rw [bne, q2]; rfl
        have hr : Hid (numberR fs k = !(fs.take k).any (fun g => g.frm == (μ : Int))) := by show _ = _; rw [hdef.out, if_neg (by omega), q2]; rfl
        replace hkd := Lib.hid hkd
        replace hdef := Lib.hid hdef
        have hst := Lib.hid fun i (hi : i < fs.length) => any_take fs (μ : Int) i hi
        have hs0 : Hid ((fs.take 0).any (fun g => g.frm == (μ : Int)) = false) := rfl
        go_enter Tryz.func85, Tryz.ntmps85
        go_wp2_with fail
        go_loopw [6] (fun iv wr => ∃ i : Nat, i ≤ k ∧ iv = .int .i64 (i : Int) ∧ Hid ((fs.take i).any (fun g => g.frm == (μ : Int)) = false ∧ Below w.heap.size w wr)) (fun iv _ => k - (intOf iv).toNat)
        case atStart => exact ⟨0, Nat.zero_le _, rfl, (show Hid _ from ⟨hs0.out, Below.refl _ _⟩)⟩
        case round =>
          obtain ⟨i, hi, rfl, hI⟩ := hrel
          by_cases hlt : i < k
          · have hd : decide ((i : Int) < (k : Int)) = true := by simpa using hlt
            have hif : i < fs.length := by omega
            obtain ⟨gb3, go3, c3, hv, _, _, u2, _, _⟩ := (hh.out.later hI.out.2).at hif
            injection hv with hv1 _ hv3
            injection hv1 with hv1
            injection hv1 with hv4 hv5
            subst hv4 hv5 hv3
            have hst2 := hst.out i hif
            generalize fs[i]!.frm = fi at *
            have i0 : (0 : Int) ≤ (i : Int) := by omega
            have i1 : (i : Int) < (fs.length : Int) := by omega
            have hw1 : IntKind.i64.wrap ((i : Int) + 1) = ((i + 1 : Nat) : Int) := by rw [Int.natCast_succ]; exact IntWalk.i64_in _ (by omega)
            rw [hI.out.1, Bool.false_or] at hst2
            cases hq : (fi == (μ : Int)) with
            | true =>
              have hf : Hid (numberR fs k = false) := by
                show _ = _
                have hm : (fs.take k).any (fun g => g.frm == (μ : Int)) = true := by
                  rw [hq] at hst2
                  obtain ⟨g, hg, hgq⟩ := List.any_eq_true.1 hst2
                  exact List.any_eq_true.2 ⟨g, List.take_subset_take_left fs (show i + 1 ≤ k by omega) hg, hgq⟩
                rw [hr.out, hm]
                rfl
              replace hst2 := Lib.hid hst2
              have hB := hI.out.2
              go_wp2_with fail
              go_ret
              exact ⟨by rw [hf.out]; rfl, hB⟩
            | false =>
              have hIn : Hid ((fs.take (i + 1)).any (fun g => g.frm == (μ : Int)) = false ∧ Below w.heap.size w wr) := ⟨by rw [hst2, hq], hI.out.2⟩
              replace hst2 := Lib.hid hst2
              go_wp2_with fail
              exact ⟨⟨i + 1, by omega, by first | rfl | go_num, hIn⟩, by simp [intOf]; omega⟩
          · have hd : decide ((i : Int) < (k : Int)) = false := by simpa using hlt
            obtain rfl : i = k := by omega
            have hf : Hid (numberR fs i = true) := by show _ = _; rw [hr.out, hI.out.1]; rfl
            have hB := hI.out.2
            go_wp2_with fail
            go_ret
            exact ⟨by rw [hf.out]; rfl, hB⟩
      · have q2 : (kd == 2) = false := by simpa using hkd
        have q2n : (kd != 2) = true := by rw [bne, q2]; rfl
        have hr : Hid (numberR fs k = false) := by show _ = _; rw [hdef.out, if_neg (by omega), q2]; rfl
        replace hkd := Lib.hid hkd
        go_enter Tryz.func85, Tryz.ntmps85
        go_wp2_with fail
        go_ret
        exact ⟨by rw [hr.out]; rfl, Below.refl _ _⟩
end Go.Proofs.YtcpfmlaipejfpaaGreatDoor
namespace Go.Proofs.YtcpfmlaipejfpaaGreatDoor
open Go.RowKit Go.Shelf Go.Maps

/-- The last index of an ID. -/
def idxTo (l : List Fmt) (n : Int) : Nat → Int
  | 0 => -1
  | i + 1 => if l[i]!.id = n then (i : Int) else idxTo l n i
theorem idxTo_range (l : List Fmt) (n : Int) : ∀ i, -1 ≤ idxTo l n i ∧ idxTo l n i < (i : Int)
  | 0 => by simp [idxTo]
  | i + 1 => by
    have ih := idxTo_range l n i
    rw [idxTo]
    split <;> omega
/-- P4.1: what fits answers for the k-th field of the format behind others. -/
def fitsR (prev : List Fmt) (fs : List Fld) (k : Nat) : Bool :=
  let f := fs[k]!
  let id := idxTo prev f.n prev.length
  let frm := f.text.isEmpty && (f.frm != -1) && numberR fs k
  if f.kind = 1 then (f.n == 0) && (f.frm == -1) && withinZ (f.text.length : Int) 1 16
  else if f.kind = 2 ∨ f.kind = 6 then aloneF f && withinZ f.n 1 3
  else if f.kind = 3 then (aloneF f && withinZ f.n 0 4096) || (frm && (f.n == 0))
  else if f.kind = 4 then frm && decide (0 ≤ id)
  else if f.kind = 5 then (frm && decide (0 ≤ id)) && decide ((leastsR prev)[id.toNat]! < 256 ^ fs[f.frm.toNat]!.n.toNat)
  else false
theorem Fmts.take {w : World} {b o c : Nat} {l : List Fmt} (h : Fmts w (.slice (some ⟨b, o, none⟩) l.length c) l) (i : Nat) (hi : i ≤ l.length) : Fmts w (.slice (some ⟨b, o, none⟩) i c) (l.take i) := by
  obtain ⟨⟨fvs, hfl, ⟨a, cap, hv, hcp, hcm, hat⟩, hfs⟩, hin⟩ := h
  injection hv with hv1 _ hv3
  subst hv1 hv3
  have htl : (l.take i).length = i := by rw [List.length_take]; omega
  refine ⟨⟨fvs.take i, by rw [List.length_take, List.length_take, hfl], ⟨_, c, by rw [htl], by omega, hcm, fun hn => ?_⟩, fun j hj => ?_⟩, ⟨by rw [htl]; have := hin.len; omega, fun f hf => hin.id f (List.take_subset _ _ hf), fun f hf => hin.flen f (List.take_subset _ _ hf), fun f hf => hin.ok f (List.take_subset _ _ hf)⟩⟩
  · obtain ⟨b', o', e, hlt, hcell⟩ := hat (by omega)
    refine ⟨b', o', e, hlt, fun j u hu => hcell j u ?_⟩
    have hjl : j < i * 2 := by
      have := (List.getElem?_eq_some_iff.1 hu).1
      rw [fmtC_len _ _ (by rw [List.length_take, List.length_take, hfl]), htl] at this
      exact this
    have hgen : ∀ (l : List Fmt) (vs : List Value) (i j : Nat), vs.length = l.length → j < i * 2 → i ≤ l.length → (fmtC (l.take i) (vs.take i))[j]? = (fmtC l vs)[j]? := by
      intro l
      induction l with
      | nil => intro vs i j hv hj hi; simp at hi; omega
      | cons f r ih =>
        intro vs i j hv hj hi
        cases vs with
        | nil => simp at hv
        | cons v vs =>
          cases i with
          | zero => omega
          | succ i =>
            match j with
            | 0 => rfl
            | 1 => rfl
            | j + 2 =>
              have := ih vs i j (by simpa using hv) (by omega) (by simpa using hi)
              simpa [fmtC] using this
    rw [← hgen l fvs i j hfl hjl hi]
    exact hu
  · rw [htl] at hj
    have h1 : (fvs.take i)[j]! = fvs[j]! := by rw [getElem!_pos _ j (by rw [List.length_take]; omega), getElem!_pos fvs j (by omega), List.getElem_take]
    have h2 : (l.take i)[j]! = l[j]! := by rw [getElem!_pos _ j (by omega), getElem!_pos l j (by omega), List.getElem_take]
    rw [h1, h2]
    exact hfs j (by omega)
/-- A format's fields. -/
theorem Fmts.flds {w : World} {v : Value} {l : List Fmt} (h : Fmts w v l) {i : Nat} (hi : i < l.length) {a : Option Addr} {fb fo cap fc : Nat} (hv : v = .slice (some ⟨fb, fo, none⟩) l.length cap) (hx : w.cell? ⟨fb, fo + i * 2 + 1, none⟩ = some (.slice a l[i]!.flds.length fc)) : Flds w (.slice a l[i]!.flds.length fc) l[i]!.flds := by
  obtain ⟨⟨fvs, hfl, ⟨a0, cap0, hv0, hcp, hcm, hat⟩, hfs⟩, hin⟩ := h
  rw [hv] at hv0
  injection hv0 with hv1 _ hv3
  subst hv1 hv3
  obtain ⟨b', o', e, hlt, hcell⟩ := hat (by omega)
  injection e with e
  injection e with e1 e2
  subst e1 e2
  have h2 := hcell _ _ (fmtC_at l fvs hfl i hi).2
  rw [← Nat.add_assoc] at h2
  rw [hx] at h2
  injection h2 with h2
  have hm : l[i]! ∈ l := by rw [getElem!_pos l i hi]; exact List.getElem_mem hi
  exact ⟨by rw [h2]; exact hfs i hi, hin.flen _ hm, hin.ok _ hm⟩
end Go.Proofs.YtcpfmlaipejfpaaGreatDoor
namespace Go.Proofs.YtcpfmlaipejfpaaGreatDoor
open Go.RowKit Go.Shelf Go.Maps

attribute [local go_sem] Oper.semAt_some

theorem withinR_b (a b c : Int) (w : World) : Calls Tryz.prog 56 #[.int .i64 a, .int .i64 b, .int .i64 c] w fun e w' => e = .returned (.bool (withinZ a b c)) ∧ Below w.heap.size w w' :=
  (withinR_any a b c w).mono fun e w' h => ⟨h.1, by rw [h.2]; exact Below.refl _ _⟩
theorem pow_step (p : Nat) (h : p < 3) : IntKind.i64.wrap (256 * 256 ^ p) = 256 ^ (p + 1) := by
  have h3 : p = 0 ∨ p = 1 ∨ p = 2 := by omega
  rcases h3 with rfl | rfl | rfl <;> decide
set_option maxRecDepth 100000 in
set_option maxHeartbeats 16000000 in
theorem fits_any (v : Value) (l : List Fmt) (p k : Nat) (w : World) (h : Fmts w v l) (hp : l.length = p + 1) (hk : k < l[p]!.flds.length) (hpo : PrevOk (l[p]!.flds.take k)) :
    Calls Tryz.prog 57 #[v, .int .i64 (k : Int)] w fun e w' => e = .returned (.bool (fitsR (l.take p) l[p]!.flds k)) ∧ Below w.heap.size w w' := by
  have hlm := h.in_.len
  have hh := Lib.hid h
  have hpl : p < l.length := by omega
  obtain ⟨fb, fo, cap, fa, fcap, rfl, _, x1, _, hfn, hfl⟩ := h.at hpl
  have hF := h.flds hpl rfl x1
  have hcapp : (p : Int) ≤ (cap : Int) := by
    obtain ⟨_, _, e, h1, _⟩ := h.val
    injection e with _ _ e
    omega
  obtain ⟨gb, go, rfl, z0, z1, z2, z3, hok⟩ := hfl k hk
  have hAtj := Lib.hid fun (W : World) (hb : Below w.heap.size w W) j (hj : j < p) => (hh.out.later hb).at (show j < l.length by omega)
  have hTk := Lib.hid fun (W : World) (hb : Below w.heap.size w W) => by have := (hh.out.later hb).take p (by omega); exact this
  have hNum := Lib.hid fun (W : World) (hb : Below w.heap.size w W) => numberR_any _ _ k W (hF.later hb) hk
  have hFl := Lib.hid hF
  have htp : (l.take p).length = p := by rw [List.length_take]; omega
  have htk : Hid (∀ j, j < p → (l.take p)[j]! = l[j]!) := fun j hj => by rw [getElem!_pos _ j (by omega), getElem!_pos l j (by omega), List.getElem_take]
  have hxl := Lib.hid fun W (hb : Below w.heap.size w W) => cell_below x1 hb
  have hdef : Hid (fitsR (l.take p) l[p]!.flds k = fitsR (l.take p) l[p]!.flds k) := rfl
  obtain ⟨prev, hprev⟩ : ∃ q, q = l.take p := ⟨_, rfl⟩
  rw [← hprev] at hTk htp htk hdef ⊢
  generalize hfs : l[p]!.flds = fs at *
  have hdef2 : Hid (fitsR prev fs k = (
    if fs[k]!.kind = 1 then (fs[k]!.n == 0) && (fs[k]!.frm == -1) && withinZ (fs[k]!.text.length : Int) 1 16
    else if fs[k]!.kind = 2 ∨ fs[k]!.kind = 6 then aloneF fs[k]! && withinZ fs[k]!.n 1 3
    else if fs[k]!.kind = 3 then (aloneF fs[k]! && withinZ fs[k]!.n 0 4096) || ((fs[k]!.text.isEmpty && (fs[k]!.frm != -1) && numberR fs k) && (fs[k]!.n == 0))
    else if fs[k]!.kind = 4 then (fs[k]!.text.isEmpty && (fs[k]!.frm != -1) && numberR fs k) && decide (0 ≤ idxTo prev fs[k]!.n prev.length)
    else if fs[k]!.kind = 5 then ((fs[k]!.text.isEmpty && (fs[k]!.frm != -1) && numberR fs k) && decide (0 ≤ idxTo prev fs[k]!.n prev.length)) && decide ((leastsR prev)[(idxTo prev fs[k]!.n prev.length).toNat]! < 256 ^ fs[fs[k]!.frm.toNat]!.n.toNat)
    else false)) := rfl
  have hnumd : Hid (numberR fs k = true → 0 ≤ fs[k]!.frm ∧ fs[k]!.frm < (k : Int) ∧ fs[fs[k]!.frm.toNat]!.kind = 2) := fun hq => by
    unfold numberR at hq
    dsimp only at hq
    split at hq
    · cases hq
    · rename_i hneg
      simp only [Bool.and_eq_true, beq_iff_eq] at hq
      exact ⟨by omega, by omega, hq.1⟩
  rw [htp] at hdef2
  replace hprev := Lib.hid hprev
  replace htp := Lib.hid htp
  replace hfs := Lib.hid hfs
  rw [hp]
  have hwp : IntKind.i64.wrap ((p : Int) + 1 - 1) = (p : Int) := by rw [show (p : Int) + 1 - 1 = (p : Int) by omega]; exact IntWalk.i64_in _ (by omega)
  have p0 : (0 : Int) ≤ (p : Int) := by omega
  have p1 : (p : Int) < (p : Int) + 1 := by omega
  have k0 : (0 : Int) ≤ (k : Int) := by omega
  have k1 : (k : Int) < (fs.length : Int) := by omega
  replace hp := Lib.hid hp
  generalize hfk : fs[k]! = f at *
  replace hfk := Lib.hid hfk
  clear h hF hfl hdef
  obtain ⟨kd, n, fr, t⟩ := f
  dsimp only at z0 z1 z2 z3 hdef2 hnumd
  have hte := str_empty t
  have hps := str_size t
  have htl2 := hok.t
  dsimp only at htl2
  have hwt : IntKind.i64.wrap (t.length : Int) = (t.length : Int) := IntWalk.i64_in _ (by omega)
  have hal : Hid (aloneF ⟨kd, n, fr, t⟩ = ((fr == -1) && t.isEmpty)) := rfl
  rw [hal.out] at hdef2
  obtain ⟨Wf, hWf⟩ : ∃ Wf, Wf = w.alloc (.cells #[.int .i64 kd, .int .i64 n, .int .i64 fr, .string (str t)] 55) := ⟨_, rfl⟩
  have hbf : Below w.heap.size w Wf := by rw [hWf]; exact (Below.refl _ _).alloc (Nat.le_refl _) _
  have hAf : Arr Wf w.heap.size 55 [.int .i64 kd, .int .i64 n, .int .i64 fr, .string (str t)] := by rw [hWf]; exact Arr.new rfl rfl
  have hI0 : Hid (Below w.heap.size w Wf ∧ Arr Wf w.heap.size 55 [.int .i64 kd, .int .i64 n, .int .i64 fr, .string (str t)]) := ⟨hbf, hAf⟩
  rw [hWf] at hI0
  clear hWf hbf hAf
  go_enter Tryz.func57, Tryz.ntmps57
  go_wp2_with fail
  go_loopw [8, 7] (fun iv xv wr => ∃ i : Nat, i ≤ p ∧ iv = .int .i64 (i : Int) ∧ xv = .int .i64 (idxTo prev n i) ∧ Hid (Below w.heap.size w wr ∧ Arr wr w.heap.size 55 [.int .i64 kd, .int .i64 n, .int .i64 fr, .string (str t)])) (fun iv _ _ => p - (intOf iv).toNat)
  case atStart => exact ⟨0, Nat.zero_le _, rfl, rfl, hI0⟩
  case round =>
    obtain ⟨i, hi, rfl, rfl, hI⟩ := hrel
    clear hI0
    have s0 := hI.out.2.cell (j := 0) rfl
    have s1 := hI.out.2.cell (j := 1) rfl
    have s2 := hI.out.2.cell (j := 2) rfl
    have s3 := hI.out.2.cell (j := 3) rfl
    by_cases hlt : i < p
    · have hd : decide ((i : Int) < (p : Int)) = true := by simpa using hlt
      obtain ⟨fb3, fo3, cap3, fa3, fcap3, hv, y0, _, _, _, _⟩ := hAtj.out wr hI.out.1 i hlt
      rw [hp.out] at hv
      injection hv with hv1 hv2 hv3
      injection hv1 with hv1
      injection hv1 with hv4 hv5
      subst hv4 hv5 hv3
      clear hv2
      have hst : Hid (idxTo prev n (i + 1) = if l[i]!.id = n then (i : Int) else idxTo prev n i) := by show _ = _; rw [idxTo, htk.out i hlt]
      generalize l[i]!.id = idi at *
      have i0 : (0 : Int) ≤ (i : Int) := by omega
      have i1 : (i : Int) < (p : Int) + 1 := by omega
      have hwi : IntKind.i64.wrap ((i : Int) + 1) = ((i + 1 : Nat) : Int) := by rw [Int.natCast_succ]; exact IntWalk.i64_in _ (by omega)
      have hdq : ∀ q, Hid (Below w.heap.size w (wr.drewN q) ∧ Arr (wr.drewN q) w.heap.size 55 [.int .i64 kd, .int .i64 n, .int .i64 fr, .string (str t)]) := fun q => ⟨below_drewN hI.out.1 q, hI.out.2.drewN q⟩
      by_cases hid : idi = n
      · have hqi : (idi == n) = true := by simpa using hid
        have hst2 : Hid (idxTo prev n (i + 1) = (i : Int)) := by show _ = _; rw [hst.out, if_pos hid]
        replace hid := Lib.hid hid
        go_wp2_with fail
        go_quiet (fail)
        go_wp2_with fail
        exact ⟨⟨i + 1, by omega, by first | rfl | go_num, by rw [hst2.out], hdq _⟩, by simp [intOf]; omega⟩
      · have hqi : (idi == n) = false := by simpa using hid
        have hst2 : Hid (idxTo prev n (i + 1) = idxTo prev n i) := by show _ = _; rw [hst.out, if_neg hid]
        replace hid := Lib.hid hid
        go_wp2_with fail
        go_quiet (fail)
        go_wp2_with fail
        exact ⟨⟨i + 1, by omega, by first | rfl | go_num, by rw [hst2.out], hdq _⟩, by simp [intOf]; omega⟩
    · obtain rfl : i = p := by omega
      have hd : decide ((i : Int) < (i : Int)) = false := by simp
      have hB := hI.out.1
      obtain ⟨X, hX⟩ : ∃ X, X = idxTo prev n i := ⟨_, rfl⟩
      rw [← hX] at hdef2 ⊢
      have hXr := idxTo_range prev n i
      rw [← hX] at hXr
      replace hX := Lib.hid hX
      generalize hnr : numberR fs k = NR at *
      have hnrh := Lib.hid hnr
      clear hnr
      go_upto_region 9 with fail
      go_cut [9] from 38 to 45 (fun b wx => b = .bool ((fr == -1) && t.isEmpty) ∧ wx = wr)
      case first =>
        cases hq : (fr == -1) with
        | true =>
          go_wp2_with fail
          go_meet
          exact ⟨by rw [hq]; rfl, rfl⟩
        | false =>
          go_wp2_with fail
          go_meet
          exact ⟨by rw [hq]; rfl, rfl⟩
      case rest =>
        obtain ⟨rfl, rfl⟩ := hcut
        obtain ⟨PL, hPL⟩ : ∃ PL, PL = ((fr == -1) && t.isEmpty) := ⟨_, rfl⟩
        rw [← hPL] at hdef2 ⊢
        replace hPL := Lib.hid hPL
        go_upto_region 10 with fail
        go_cut [10] from 46 to 62 (fun b wx => b = .bool (t.isEmpty && (fr != -1) && NR) ∧ Hid (Below wc.heap.size wc wx))
        case first =>
          cases hq1 : t.isEmpty with
          | false =>
            rw [hq1] at hte
            go_wp2_with fail
            go_meet
            exact ⟨by rw [hq1]; rfl, (show Hid _ from Below.refl _ _)⟩
          | true =>
            rw [hq1] at hte
            cases hq2 : (fr != -1) with
            | false =>
              go_wp2_with fail
              go_meet
              exact ⟨by rw [hq1, hq2]; rfl, (show Hid _ from Below.refl _ _)⟩
            | true =>
              have hxx := hxl.out wc hB
              have hnn := Lib.hid (hNum.out wc hB)
              go_wp2_with fail
              refine hnn.out.mono ?_
              rintro e w2 ⟨rfl, hb2⟩
              go_wp2_with fail
              go_meet
              exact ⟨by rw [hq1, hq2]; rfl, (show Hid _ from hb2)⟩
        case rest =>
          obtain ⟨rfl, hBc⟩ := hcut
          obtain ⟨FR, hFR⟩ : ∃ FR, FR = (t.isEmpty && (fr != -1) && NR) := ⟨_, rfl⟩
          rw [← hFR] at hdef2 ⊢
          have hfin : Hid (FR = true → 0 ≤ fr ∧ fr < (k : Int) ∧ fs[fr.toNat]!.kind = 2) := fun hq => by
            rw [hFR] at hq
            simp only [Bool.and_eq_true] at hq
            exact hnumd.out hq.2
          have hA2 := (hI.out.2.below hBc.out)
          have hB2 := hB.trans (hBc.out.mono hB.size)
          rename_i wOld _ _
          generalize wc = wd at *
          have t0 := hA2.cell (j := 0) rfl
          have t1 := hA2.cell (j := 1) rfl
          have t2 := hA2.cell (j := 2) rfl
          have t3 := hA2.cell (j := 3) rfl
          have hkc : kd = 1 ∨ kd = 2 ∨ kd = 6 ∨ kd = 3 ∨ kd = 4 ∨ kd = 5 ∨ (kd ≠ 1 ∧ kd ≠ 2 ∧ kd ≠ 3 ∧ kd ≠ 4 ∧ kd ≠ 6 ∧ kd ≠ 5) := by omega
          replace hFR := Lib.hid hFR
          rcases hkc with hk1 | hk1 | hk1 | hk1 | hk1 | hk1 | hk1
          · have q1 : (kd == 1) = true := by rw [hk1]; rfl
            have hres : Hid (fitsR prev fs k = ((n == 0) && (fr == -1) && withinZ (t.length : Int) 1 16)) := by show _ = _; rw [hdef2.out, if_pos hk1]
            replace hk1 := Lib.hid hk1
            have hwi := Lib.hid (withinR_any (t.length : Int) 1 16 wd)
            generalize withinZ (t.length : Int) 1 16 = WV at *
            cases hn0 : (n == 0) with
            | false =>
              go_wp2_with fail
              go_ret
              exact ⟨by rw [hres.out, hn0]; rfl, hB2⟩
            | true =>
              cases hf1 : (fr == -1) with
              | false =>
                go_wp2_with fail
                go_ret
                exact ⟨by rw [hres.out, hn0, hf1]; rfl, hB2⟩
              | true =>
                go_wp2_with fail
                refine hwi.out.mono ?_
                rintro e w3 ⟨rfl, hw3⟩
                subst w3
                go_wp2_with fail
                go_ret
                exact ⟨by rw [hres.out, hn0, hf1]; rfl, hB2⟩
          · have q1 : (kd == 1) = false := by rw [beq_eq_false_iff_ne]; omega
            have q2 : (kd == 2) = true := by rw [hk1]; rfl
            have hres : Hid (fitsR prev fs k = (PL && withinZ n 1 3)) := by show _ = _; rw [hdef2.out, if_neg (by omega), if_pos (by omega)]
            replace hk1 := Lib.hid hk1
            have hwi := Lib.hid (withinR_any n 1 3 wd)
            generalize withinZ n 1 3 = WV at *
            cases hpl2 : PL with
            | false =>
              go_wp2_with fail
              go_ret
              exact ⟨by rw [hres.out, hpl2]; rfl, hB2⟩
            | true =>
              go_wp2_with fail
              refine hwi.out.mono ?_
              rintro e w3 ⟨rfl, hw3⟩
              subst w3
              go_wp2_with fail
              go_ret
              exact ⟨by rw [hres.out, hpl2]; rfl, hB2⟩
          · have q1 : (kd == 1) = false := by rw [beq_eq_false_iff_ne]; omega
            have q2 : (kd == 2) = false := by rw [beq_eq_false_iff_ne]; omega
            have q6 : (kd == 6) = true := by rw [hk1]; rfl
            have hres : Hid (fitsR prev fs k = (PL && withinZ n 1 3)) := by show _ = _; rw [hdef2.out, if_neg (by omega), if_pos (by omega)]
            replace hk1 := Lib.hid hk1
            have hwi := Lib.hid (withinR_any n 1 3 wd)
            generalize withinZ n 1 3 = WV at *
            cases hpl2 : PL with
            | false =>
              go_wp2_with fail
              go_ret
              exact ⟨by rw [hres.out, hpl2]; rfl, hB2⟩
            | true =>
              go_wp2_with fail
              refine hwi.out.mono ?_
              rintro e w3 ⟨rfl, hw3⟩
              subst w3
              go_wp2_with fail
              go_ret
              exact ⟨by rw [hres.out, hpl2]; rfl, hB2⟩
          · have q1 : (kd == 1) = false := by rw [beq_eq_false_iff_ne]; omega
            have q2 : (kd == 2) = false := by rw [beq_eq_false_iff_ne]; omega
            have q6 : (kd == 6) = false := by rw [beq_eq_false_iff_ne]; omega
            have q3 : (kd == 3) = true := by rw [hk1]; rfl
            have hres : Hid (fitsR prev fs k = ((PL && withinZ n 0 4096) || (FR && (n == 0)))) := by show _ = _; rw [hdef2.out, if_neg (by omega), if_neg (by omega), if_pos hk1]
            replace hk1 := Lib.hid hk1
            have hwi := Lib.hid (withinR_any n 0 4096 wd)
            generalize withinZ n 0 4096 = WV at *
            cases hpl2 : PL with
            | false =>
              cases hfr2 : FR with
              | false =>
                go_wp2_with fail
                go_ret
                exact ⟨by rw [hres.out, hpl2, hfr2]; rfl, hB2⟩
              | true =>
                go_wp2_with fail
                go_ret
                exact ⟨by rw [hres.out, hpl2, hfr2]; rfl, hB2⟩
            | true =>
              cases hwv : WV with
              | true =>
                rw [hwv] at hwi
                go_wp2_with fail
                refine hwi.out.mono ?_
                rintro e w3 ⟨rfl, hw3⟩
                subst w3
                go_wp2_with fail
                go_ret
                exact ⟨by rw [hres.out, hpl2, hwv]; rfl, hB2⟩
              | false =>
                rw [hwv] at hwi
                cases hfr2 : FR with
                | false =>
                  go_wp2_with fail
                  refine hwi.out.mono ?_
                  rintro e w3 ⟨rfl, hw3⟩
                  subst w3
                  go_wp2_with fail
                  go_ret
                  exact ⟨by rw [hres.out, hpl2, hwv, hfr2]; rfl, hB2⟩
                | true =>
                  go_wp2_with fail
                  refine hwi.out.mono ?_
                  rintro e w3 ⟨rfl, hw3⟩
                  subst w3
                  go_wp2_with fail
                  go_ret
                  exact ⟨by rw [hres.out, hpl2, hwv, hfr2]; rfl, hB2⟩
          · have q1 : (kd == 1) = false := by rw [beq_eq_false_iff_ne]; omega
            have q2 : (kd == 2) = false := by rw [beq_eq_false_iff_ne]; omega
            have q6 : (kd == 6) = false := by rw [beq_eq_false_iff_ne]; omega
            have q3 : (kd == 3) = false := by rw [beq_eq_false_iff_ne]; omega
            have q4 : (kd == 4) = true := by rw [hk1]; rfl
            have hres : Hid (fitsR prev fs k = (FR && decide (0 ≤ X))) := by show _ = _; rw [hdef2.out, if_neg (by omega), if_neg (by omega), if_neg (by omega), if_pos hk1]
            replace hk1 := Lib.hid hk1
            cases hfr2 : FR with
            | false =>
              go_wp2_with fail
              go_ret
              exact ⟨by rw [hres.out, hfr2]; rfl, hB2⟩
            | true =>
              go_wp2_with fail
              go_ret
              exact ⟨by rw [hres.out, hfr2]; rfl, hB2⟩
          · have q1 : (kd == 1) = false := by rw [beq_eq_false_iff_ne]; omega
            have q2 : (kd == 2) = false := by rw [beq_eq_false_iff_ne]; omega
            have q6 : (kd == 6) = false := by rw [beq_eq_false_iff_ne]; omega
            have q3 : (kd == 3) = false := by rw [beq_eq_false_iff_ne]; omega
            have q4 : (kd == 4) = false := by rw [beq_eq_false_iff_ne]; omega
            have q5 : (kd == 5) = true := by rw [hk1]; rfl
            have hres : Hid (fitsR prev fs k = ((FR && decide (0 ≤ X)) && decide ((leastsR prev)[X.toNat]! < 256 ^ fs[fr.toNat]!.n.toNat))) := by show _ = _; rw [hdef2.out, if_neg (by omega), if_neg (by omega), if_neg (by omega), if_neg (by omega), if_pos hk1]
            replace hk1 := Lib.hid hk1
            cases hfr2 : FR with
            | false =>
              go_wp2_with fail
              go_ret
              exact ⟨by rw [hres.out, hfr2]; rfl, hB2⟩
            | true =>
              by_cases hx0 : X < 0
              · have hdx : decide (X < 0) = true := by simpa using hx0
                have hdx2 : decide (0 ≤ X) = false := by simp; omega
                go_wp2_with fail
                go_ret
                exact ⟨by rw [hres.out, hfr2, hdx2]; rfl, hB2⟩
              · have hdx : decide (X < 0) = false := by simpa using hx0
                have hdx2 : decide (0 ≤ X) = true := by simp; omega
                obtain ⟨hf0, hf1, hf2⟩ := hfin.out hfr2
                obtain ⟨φ, rfl⟩ : ∃ φ : Nat, fr = (φ : Int) := ⟨fr.toNat, by omega⟩
                obtain ⟨χ, rfl⟩ : ∃ χ : Nat, X = (χ : Int) := ⟨X.toNat, by omega⟩
                rw [Int.toNat_natCast] at hf2
                have hφ : φ < fs.length := by omega
                have hφk : φ < k := by omega
                have hφ1 : (φ : Int) < (fs.length : Int) := by omega
                have hχi : χ < i := by omega
                have hmem : fs[φ]! ∈ fs.take k := by
                  have e : (fs.take k)[φ]! = fs[φ]! := by rw [getElem!_pos _ φ (by rw [List.length_take]; omega), getElem!_pos fs φ hφ, List.getElem_take]
                  rw [← e, getElem!_pos _ φ (by rw [List.length_take]; omega)]
                  exact List.getElem_mem _
                have hp13 := hpo _ hmem hf2
                have hres2 : Hid (fitsR prev fs k = decide ((leastsR prev)[χ]! < 256 ^ fs[φ]!.n.toNat)) := by
                  show _ = _
                  rw [hres.out, hfr2, hdx2, Int.toNat_natCast, Int.toNat_natCast]
                  rfl
                replace hf2 := Lib.hid hf2
                replace hmem := Lib.hid hmem
                have hcf := Lib.hid fun (W : World) (hb : Below w.heap.size w W) => (hFl.out.later hb).at hφ
                generalize fs[φ]!.n = NN at *
                obtain ⟨ν, rfl⟩ : ∃ ν : Nat, NN = (ν : Int) := ⟨NN.toNat, by omega⟩
                rw [Int.toNat_natCast] at hres2
                have hν : ν ≤ 3 := by omega
                have hI5 : Hid (Below w.heap.size w wd ∧ Arr wd w.heap.size 55 [.int .i64 kd, .int .i64 n, .int .i64 (φ : Int), .string (str t)]) := ⟨hB2, hA2⟩
                have hp0 : Hid ((1 : Int) = ((256 ^ 0 : Nat) : Int)) := rfl
                clear hp13 hI hB hBc
                go_wp2_with fail
                go_loopw [12, 11] (fun iv mv wr => ∃ j : Nat, j ≤ ν ∧ iv = .int .i64 (j : Int) ∧ mv = .int .i64 ((256 ^ j : Nat) : Int) ∧ Hid (Below w.heap.size w wr ∧ Arr wr w.heap.size 55 [.int .i64 kd, .int .i64 n, .int .i64 (φ : Int), .string (str t)])) (fun iv _ _ => ν - (intOf iv).toNat)
                case atStart => exact ⟨0, Nat.zero_le _, rfl, rfl, hI5⟩
                case round =>
                  obtain ⟨j, hj, rfl, rfl, hI6⟩ := hrel
                  have u2 := hI6.out.2.cell (j := 2) rfl
                  have hx6 := hxl.out wr hI6.out.1
                  obtain ⟨gb7, go7, c7, hv, _, y1, _, _, _⟩ := hcf.out wr hI6.out.1
                  injection hv with hv1 hv2 hv3
                  injection hv1 with hv1
                  injection hv1 with hv4 hv5
                  subst hv4 hv5 hv3
                  clear hv2
                  have hdq : ∀ q, Hid (Below w.heap.size w (wr.drewN q) ∧ Arr (wr.drewN q) w.heap.size 55 [.int .i64 kd, .int .i64 n, .int .i64 (φ : Int), .string (str t)]) := fun q => ⟨below_drewN hI6.out.1 q, hI6.out.2.drewN q⟩
                  by_cases hlj : j < ν
                  · have hdj : decide ((j : Int) < (ν : Int)) = true := by simpa using hlj
                    have hps : IntKind.i64.wrap (256 * ((256 ^ j : Nat) : Int)) = ((256 ^ (j + 1) : Nat) : Int) := by
                      have := pow_step j (by omega)
                      simpa using this
                    have hwj : IntKind.i64.wrap ((j : Int) + 1) = ((j + 1 : Nat) : Int) := by rw [Int.natCast_succ]; exact IntWalk.i64_in _ (by omega)
                    obtain ⟨P1, hP1⟩ : ∃ P, P = 256 ^ (j + 1) := ⟨_, rfl⟩
                    rw [← hP1] at hps
                    replace hP1 := Lib.hid hP1
                    generalize 256 ^ j = P0 at *
                    go_wp2_with fail
                    go_quiet (fail)
                    go_wp2_with fail
                    exact ⟨⟨j + 1, by omega, by first | rfl | go_num, by rw [hP1.out], hdq _⟩, by simp [intOf]; omega⟩
                  · obtain rfl : j = ν := by omega
                    have hdj : decide ((j : Int) < (j : Int)) = false := by simp
                    have hle := Lib.hid fun q => leasts_any _ prev (wr.drewN q) (hTk.out _ (below_drewN hI6.out.1 q))
                    have hχ2 : χ < (leastsR prev).length := by
                      have e : (leastsR prev).length = prev.length := leastsTo_len prev prev.length
                      rw [e, htp.out]
                      exact hχi
                    have hcell : (intC (leastsR prev))[χ]? = some (.int .i64 (leastsR prev)[χ]!) := by unfold intC; rw [List.getElem?_map, List.getElem?_eq_getElem hχ2, getElem!_pos _ χ hχ2]; rfl
                    have hχ0 : (0 : Int) ≤ (χ : Int) := by omega
                    have hχ1 : (χ : Int) < (prev.length : Int) := by rw [htp.out]; omega
                    have hpp : 0 < prev.length := by omega
                    generalize (leastsR prev)[χ]! = LV at *
                    rw [show ((256 : Int) ^ j) = ((256 ^ j : Nat) : Int) by simp] at hres2
                    obtain ⟨P0, hP0⟩ : ∃ P : Nat, P = 256 ^ j := ⟨_, rfl⟩
                    rw [← hP0] at hres2 ⊢
                    replace hP0 := Lib.hid hP0
                    replace hcell := Lib.hid hcell
                    replace hχ2 := Lib.hid hχ2
                    have hBq := Lib.hid fun q => below_drewN hI6.out.1 q
                    go_wp2_with fail
                    go_quiet (fail)
                    go_wp2_with fail
                    refine (hle.out nq).mono ?_
                    rintro e w8 ⟨v8, rfl, hown8, hb8⟩
                    obtain ⟨g8, c8, rfl, hx8⟩ := own_at1 hown8 hcell.out hpp
                    have hB8 := (hBq.out nq).trans (hb8.mono (hBq.out nq).size)
                    clear hown8 hb8 hle
                    go_wp2_with fail
                    go_ret
                    exact ⟨by rw [hres2.out]; rfl, hB8⟩
          · have q1 : (kd == 1) = false := by rw [beq_eq_false_iff_ne]; omega
            have q2 : (kd == 2) = false := by rw [beq_eq_false_iff_ne]; omega
            have q6 : (kd == 6) = false := by rw [beq_eq_false_iff_ne]; omega
            have q3 : (kd == 3) = false := by rw [beq_eq_false_iff_ne]; omega
            have q4 : (kd == 4) = false := by rw [beq_eq_false_iff_ne]; omega
            have q5 : (kd == 5) = false := by rw [beq_eq_false_iff_ne]; omega
            have hres : Hid (fitsR prev fs k = false) := by show _ = _; rw [hdef2.out, if_neg (by omega), if_neg (by omega), if_neg (by omega), if_neg (by omega), if_neg (by omega)]
            replace hk1 := Lib.hid hk1
            go_wp2_with fail
            go_ret
            exact ⟨by rw [hres.out]; rfl, hB2⟩
end Go.Proofs.YtcpfmlaipejfpaaGreatDoor
namespace Go.Proofs.YtcpfmlaipejfpaaGreatDoor
open Go.RowKit Go.Shelf Go.Maps

attribute [local go_sem] Oper.semAt_some

/-- A format's head is as it should be. -/
def headR (l : List Fmt) (i : Nat) : Bool :=
  withinZ l[i]!.id 1 1000000 && (decide (i = 0) || decide (l[i - 1]!.id < l[i]!.id)) && decide (l[i]!.flds.length ≤ 16) && (decide (0 < l[i]!.flds.length) || decide (i + 1 = l.length))
def fieldsR (l : List Fmt) (i : Nat) : Bool := (List.range l[i]!.flds.length).all fun k => fitsR (l.take i) l[i]!.flds k
def formR (l : List Fmt) (i : Nat) : Bool := headR l i && fieldsR l i && decide ((leastsR (l.take (i + 1)))[i]! ≤ 65536)
def beginsR (l : List Fmt) : Bool := decide (l.length ≤ 60) && (List.range l.length).all (formR l)
def validR (l : List Fmt) : Bool := beginsR l && (decide (l.length = 0) || decide (0 < l[l.length - 1]!.flds.length))
theorem fitsR_num {prev : List Fmt} {fs : List Fld} {k : Nat} (h : fitsR prev fs k = true) (hk : fs[k]!.kind = 2) : 1 ≤ fs[k]!.n ∧ fs[k]!.n ≤ 3 := by
  unfold fitsR at h
  dsimp only at h
  rw [if_neg (by omega), if_pos (.inl hk), Bool.and_eq_true] at h
  exact withinZ_iff.1 h.2
theorem prevOk_take {prev : List Fmt} {fs : List Fld} {k : Nat} (hk : k ≤ fs.length) (h : ∀ j, j < k → fitsR prev fs j = true) : PrevOk (fs.take k) := by
  intro g hg hk2
  obtain ⟨j, hj, rfl⟩ := List.getElem_of_mem hg
  rw [List.length_take] at hj
  rw [List.getElem_take] at hk2 ⊢
  have e : fs[j]! = fs[j]'(by omega) := getElem!_pos fs j (by omega)
  have := fitsR_num (h j (by omega)) (by rw [e]; exact hk2)
  rw [e] at this
  exact this
theorem range_all {n : Nat} {p : Nat → Bool} : (List.range n).all p = true ↔ ∀ j, j < n → p j = true := by
  rw [List.all_eq_true]
  exact ⟨fun h j hj => h j (List.mem_range.2 hj), fun h j hj => h j (List.mem_range.1 hj)⟩
theorem range_not {n j : Nat} {p : Nat → Bool} (hj : j < n) (h : p j = false) : (List.range n).all p = false := by
  cases hh : (List.range n).all p with
  | false => rfl
  | true => rw [range_all.1 hh j hj] at h; cases h
set_option maxRecDepth 100000 in
set_option maxHeartbeats 16000000 in
theorem begins_any (v : Value) (l : List Fmt) (w : World) (h : Fmts w v l) :
    Calls Tryz.prog 36 #[v] w fun e w' => e = .returned (.bool (beginsR l)) ∧ Below w.heap.size w w' := by
  have hlm := h.in_.len
  obtain ⟨a0, cap0, rfl, hcp, hcm⟩ := h.val
  have hh := Lib.hid h
  clear h
  by_cases h60 : l.length ≤ 60
  · have hd60 : decide ((l.length : Int) > 60) = false := decide_eq_false (by omega)
    have hd60' : decide (60 < (l.length : Int)) = false := decide_eq_false (by omega)
    have hr0 : Hid (beginsR l = (List.range l.length).all (formR l)) := by show _ = _; unfold beginsR; rw [show decide (l.length ≤ 60) = true by simpa using h60]; rfl
    go_enter Tryz.func36, Tryz.ntmps36
    go_wp2_with fail
    go_loopw [3] (fun iv wr => ∃ i : Nat, i ≤ l.length ∧ iv = .int .i64 (i : Int) ∧ Hid ((∀ j, j < i → formR l j = true) ∧ Below w.heap.size w wr)) (fun iv _ => l.length - (intOf iv).toNat)
    case atStart => exact ⟨0, Nat.zero_le _, rfl, (show Hid _ from ⟨fun j hj => absurd hj (Nat.not_lt_zero _), Below.refl _ _⟩)⟩
    case round =>
      obtain ⟨i, hi, rfl, hI⟩ := hrel
      by_cases hlt : i < l.length
      · have hd : decide ((i : Int) < (l.length : Int)) = true := by simpa using hlt
        have i0 : (0 : Int) ≤ (i : Int) := by omega
        have i1 : (i : Int) < (l.length : Int) := by omega
        have hbad : Hid (formR l i = false → beginsR l = false) := fun hf => by rw [hr0.out]; exact range_not hlt hf
        obtain ⟨fb, fo, cap, fa, fcap, hv, x0, x1, hid, hfn, hfl⟩ := (hh.out.later hI.out.2).at hlt
        injection hv with hv1 hv2 hv3
        subst hv1 hv3
        clear hv2
        have hx1 := Lib.hid fun W (hb : Below wr.heap.size wr W) => cell_below x1 hb
        have hfits := Lib.hid fun (W : World) (hb : Below w.heap.size w W) k (hk : k < l[i]!.flds.length) (hpo : PrevOk (l[i]!.flds.take k)) => by
          have h1 := (hh.out.later hb).take (i + 1) (by omega)
          have e1 : (l.take (i + 1))[i]! = l[i]! := by rw [getElem!_pos _ i (by rw [List.length_take]; omega), getElem!_pos l i hlt, List.getElem_take]
          have e2 : (l.take (i + 1)).take i = l.take i := by rw [List.take_take]; congr 1; omega
          have := fits_any _ (l.take (i + 1)) i k W h1 (by rw [List.length_take]; omega) (by rw [e1]; exact hk) (by rw [e1]; exact hpo)
          rw [e1, e2] at this
          exact this
        have hleast := Lib.hid fun (W : World) (hb : Below w.heap.size w W) => leasts_any _ (l.take (i + 1)) W ((hh.out.later hb).take (i + 1) (by omega))
        have hform : Hid (formR l i = (headR l i && fieldsR l i && decide ((leastsR (l.take (i + 1)))[i]! ≤ 65536))) := rfl
        have hhd : Hid (headR l i = (withinZ l[i]!.id 1 1000000 && (decide (i = 0) || decide (l[i - 1]!.id < l[i]!.id)) && decide (l[i]!.flds.length ≤ 16) && (decide (0 < l[i]!.flds.length) || decide (i + 1 = l.length)))) := rfl
        have hprev : Hid (0 < i → wr.cell? ⟨fb, fo + (i - 1) * 2, none⟩ = some (.int .i64 l[i - 1]!.id)) := fun hi0 => by
          obtain ⟨fb2, fo2, cap2, fa2, fcap2, hv2, y0, _⟩ := (hh.out.later hI.out.2).at (show i - 1 < l.length by omega)
          injection hv2 with hv1 hv2 hv3
          injection hv1 with hv1
          injection hv1 with hv4 hv5
          subst hv4 hv5
          exact y0
        have hfd : Hid (fieldsR l i = (List.range l[i]!.flds.length).all fun k => fitsR (l.take i) l[i]!.flds k) := rfl
        obtain ⟨fs, hfs⟩ : ∃ fs, fs = l[i]!.flds := ⟨_, rfl⟩
        have hfse : Hid (l[i]!.flds = fs) := hfs.symm
        rw [← hfs] at hfits hhd hfd x1 hfn hfl
        replace hfs := Lib.hid hfs
        obtain ⟨id, hide⟩ : ∃ id, id = l[i]!.id := ⟨_, rfl⟩
        rw [← hide] at hhd x0 hid
        replace hide := Lib.hid hide
        generalize hHD : headR l i = HD at *
        replace hHD := Lib.hid hHD
        replace hfl := Lib.hid hfl
        go_upto_region 6 with fail
        go_cut [64] from 9 to 91 (fun b wx => b = .bool (!HD) ∧ Hid (∃ q, wx = wr.drewN q))
        case first =>
          cases hA : withinZ id 1 1000000 with
          | false =>
            have hv : Hid (HD = false) := by show _ = _; rw [hhd.out, hA]; rfl
            go_quiet ((with_reducible refine Calls.quiet_of_same (withinR_any _ _ _ _)))
            go_wp2
            go_meet
            exact ⟨by rw [hv.out]; rfl, (show Hid _ from ⟨_, rfl⟩)⟩
          | true =>
            by_cases hi0 : i = 0
            · have ei : decide (i = 0) = true := by simpa using hi0
              have ei' : decide ((i : Int) > 0) = false := decide_eq_false (by omega)
              have ei'' : decide (0 < (i : Int)) = false := decide_eq_false (by omega)
              have ei3 : decide (0 < i) = false := decide_eq_false (by omega)
              replace hi0 := Lib.hid hi0
              by_cases h16 : fs.length ≤ 16
              · have e16 : decide (fs.length ≤ 16) = true := by simpa using h16
                have e16' : decide ((fs.length : Int) > 16) = false := decide_eq_false (by omega)
                have e16'' : decide (16 < (fs.length : Int)) = false := decide_eq_false (by omega)
                have e163 : decide (16 < fs.length) = false := decide_eq_false (by omega)
                by_cases h00 : fs.length = 0
                · have e00 : decide (0 < fs.length) = false := decide_eq_false (by omega)
                  have e00' : ((fs.length : Int) == 0) = true := by rw [beq_iff_eq]; omega
                  have e003 : (fs.length == 0) = true := by rw [beq_iff_eq]; omega
                  have e004 : fs.isEmpty = true := by rw [List.isEmpty_iff_length_eq_zero]; exact h00
                  replace h00 := Lib.hid h00
                  by_cases hla : i + 1 = l.length
                  · have ela : decide (i + 1 = l.length) = true := by simpa using hla
                    have ela' : decide ((i : Int) < (l.length : Int) - 1) = false := decide_eq_false (by omega)
                    have hwl : IntKind.i64.wrap ((l.length : Int) - 1) = (l.length : Int) - 1 := IntWalk.i64_in _ (by omega)
                    replace hla := Lib.hid hla
                    have hv : Hid (HD = true) := by show _ = _; rw [hhd.out, hA, ei, e16, e00, ela]; rfl
                    go_quiet ((with_reducible refine Calls.quiet_of_same (withinR_any _ _ _ _)))
                    go_wp2
                    go_meet
                    exact ⟨by rw [hv.out]; rfl, (show Hid _ from ⟨_, rfl⟩)⟩
                  · have ela : decide (i + 1 = l.length) = false := by simpa using hla
                    have ela' : decide ((i : Int) < (l.length : Int) - 1) = true := decide_eq_true (by omega)
                    have hwl : IntKind.i64.wrap ((l.length : Int) - 1) = (l.length : Int) - 1 := IntWalk.i64_in _ (by omega)
                    have hv : Hid (HD = false) := by show _ = _; rw [hhd.out, hA, ei, e16, e00, ela]; rfl
                    go_quiet ((with_reducible refine Calls.quiet_of_same (withinR_any _ _ _ _)))
                    go_wp2
                    go_meet
                    exact ⟨by rw [hv.out]; rfl, (show Hid _ from ⟨_, rfl⟩)⟩
                · have e00 : decide (0 < fs.length) = true := decide_eq_true (by omega)
                  have e00' : ((fs.length : Int) == 0) = false := by rw [beq_eq_false_iff_ne]; omega
                  have e003 : (fs.length == 0) = false := by rw [beq_eq_false_iff_ne]; omega
                  have hv : Hid (HD = true) := by show _ = _; rw [hhd.out, hA, ei, e16, e00]; rfl
                  go_quiet ((with_reducible refine Calls.quiet_of_same (withinR_any _ _ _ _)))
                  go_wp2
                  go_meet
                  exact ⟨by rw [hv.out]; rfl, (show Hid _ from ⟨_, rfl⟩)⟩
              · have e16 : decide (fs.length ≤ 16) = false := by simpa using h16
                have e16' : decide ((fs.length : Int) > 16) = true := decide_eq_true (by omega)
                have e16'' : decide (16 < (fs.length : Int)) = true := decide_eq_true (by omega)
                have e163 : decide (16 < fs.length) = true := decide_eq_true (by omega)
                have hv : Hid (HD = false) := by show _ = _; rw [hhd.out, hA, ei, e16]; rfl
                go_quiet ((with_reducible refine Calls.quiet_of_same (withinR_any _ _ _ _)))
                go_wp2
                go_meet
                exact ⟨by rw [hv.out]; rfl, (show Hid _ from ⟨_, rfl⟩)⟩
            · have ei : decide (i = 0) = false := by simpa using hi0
              have ei' : decide ((i : Int) > 0) = true := decide_eq_true (by omega)
              have ei'' : decide (0 < (i : Int)) = true := decide_eq_true (by omega)
              have ei3 : decide (0 < i) = true := decide_eq_true (by omega)
              have hpc := hprev.out (by omega)
              obtain ⟨m, rfl⟩ : ∃ m, i = m + 1 := ⟨i - 1, by omega⟩
              have hwm : IntKind.i64.wrap (((m + 1 : Nat) : Int) - 1) = (m : Int) := by rw [show ((m + 1 : Nat) : Int) - 1 = (m : Int) by omega]; exact IntWalk.i64_in _ (by omega)
              have hwm2 : IntKind.i64.wrap ((m : Int) + 1 - 1) = (m : Int) := by rw [show (m : Int) + 1 - 1 = (m : Int) by omega]; exact IntWalk.i64_in _ (by omega)
              have m0 : (0 : Int) ≤ (m : Int) := by omega
              have m1 : (m : Int) < (l.length : Int) := by omega
              rw [Nat.add_sub_cancel] at hpc hhd
              generalize l[m]!.id = idp at *
              by_cases hlt2 : idp < id
              · have el : decide (idp < id) = true := by simpa using hlt2
                have el' : decide (idp ≥ id) = false := decide_eq_false (by omega)
                have el'' : decide (id ≤ idp) = false := decide_eq_false (by omega)
                by_cases h16 : fs.length ≤ 16
                · have e16 : decide (fs.length ≤ 16) = true := by simpa using h16
                  have e16' : decide ((fs.length : Int) > 16) = false := decide_eq_false (by omega)
                  have e16'' : decide (16 < (fs.length : Int)) = false := decide_eq_false (by omega)
                  have e163 : decide (16 < fs.length) = false := decide_eq_false (by omega)
                  by_cases h00 : fs.length = 0
                  · have e00 : decide (0 < fs.length) = false := decide_eq_false (by omega)
                    have e00' : ((fs.length : Int) == 0) = true := by rw [beq_iff_eq]; omega
                    have e003 : (fs.length == 0) = true := by rw [beq_iff_eq]; omega
                    have e004 : fs.isEmpty = true := by rw [List.isEmpty_iff_length_eq_zero]; exact h00
                    replace h00 := Lib.hid h00
                    by_cases hla : m + 1 + 1 = l.length
                    · have ela : decide (m + 1 + 1 = l.length) = true := by simpa using hla
                      have ela' : decide (((m : Int) + 1) < (l.length : Int) - 1) = false := decide_eq_false (by omega)
                      have hwl : IntKind.i64.wrap ((l.length : Int) - 1) = (l.length : Int) - 1 := IntWalk.i64_in _ (by omega)
                      replace hla := Lib.hid hla
                      have hv : Hid (HD = true) := by show _ = _; rw [hhd.out, hA, ei, el, e16, e00, ela]; rfl
                      go_quiet ((with_reducible refine Calls.quiet_of_same (withinR_any _ _ _ _)))
                      go_wp2
                      go_meet
                      exact ⟨by rw [hv.out]; rfl, (show Hid _ from ⟨_, rfl⟩)⟩
                    · have ela : decide (m + 1 + 1 = l.length) = false := by simpa using hla
                      have ela' : decide (((m : Int) + 1) < (l.length : Int) - 1) = true := decide_eq_true (by omega)
                      have hwl : IntKind.i64.wrap ((l.length : Int) - 1) = (l.length : Int) - 1 := IntWalk.i64_in _ (by omega)
                      have hv : Hid (HD = false) := by show _ = _; rw [hhd.out, hA, ei, el, e16, e00, ela]; rfl
                      go_quiet ((with_reducible refine Calls.quiet_of_same (withinR_any _ _ _ _)))
                      go_wp2
                      go_meet
                      exact ⟨by rw [hv.out]; rfl, (show Hid _ from ⟨_, rfl⟩)⟩
                  · have e00 : decide (0 < fs.length) = true := decide_eq_true (by omega)
                    have e00' : ((fs.length : Int) == 0) = false := by rw [beq_eq_false_iff_ne]; omega
                    have e003 : (fs.length == 0) = false := by rw [beq_eq_false_iff_ne]; omega
                    have hv : Hid (HD = true) := by show _ = _; rw [hhd.out, hA, ei, el, e16, e00]; rfl
                    go_quiet ((with_reducible refine Calls.quiet_of_same (withinR_any _ _ _ _)))
                    go_wp2
                    go_meet
                    exact ⟨by rw [hv.out]; rfl, (show Hid _ from ⟨_, rfl⟩)⟩
                · have e16 : decide (fs.length ≤ 16) = false := by simpa using h16
                  have e16' : decide ((fs.length : Int) > 16) = true := decide_eq_true (by omega)
                  have e16'' : decide (16 < (fs.length : Int)) = true := decide_eq_true (by omega)
                  have e163 : decide (16 < fs.length) = true := decide_eq_true (by omega)
                  have hv : Hid (HD = false) := by show _ = _; rw [hhd.out, hA, ei, el, e16]; rfl
                  go_quiet ((with_reducible refine Calls.quiet_of_same (withinR_any _ _ _ _)))
                  go_wp2
                  go_meet
                  exact ⟨by rw [hv.out]; rfl, (show Hid _ from ⟨_, rfl⟩)⟩
              · have el : decide (idp < id) = false := by simpa using hlt2
                have el' : decide (idp ≥ id) = true := decide_eq_true (by omega)
                have el'' : decide (id ≤ idp) = true := decide_eq_true (by omega)
                have hv : Hid (HD = false) := by show _ = _; rw [hhd.out, hA, ei, el]; rfl
                go_quiet ((with_reducible refine Calls.quiet_of_same (withinR_any _ _ _ _)))
                go_wp2
                go_meet
                exact ⟨by rw [hv.out]; rfl, (show Hid _ from ⟨_, rfl⟩)⟩
        case rest =>
          obtain ⟨rfl, hq⟩ := hcut
          obtain ⟨q, rfl⟩ := hq.out
          have hBq : Below w.heap.size w (wr.drewN q) := below_drewN hI.out.2 q
          have hIj := Lib.hid hI.out.1
          clear hI hx1 hprev hfl
          generalize wr.drewN q = Wq at *
          have hcap1 : ((i : Int) + 1) ≤ (cap0 : Int) := by omega
          have hwi1 : IntKind.i64.wrap ((i : Int) + 1) = (i : Int) + 1 := IntWalk.i64_in _ (by omega)
          have i2 : (0 : Int) ≤ (i : Int) + 1 := by omega
          have hxq := Lib.hid fun (W : World) (hb : Below w.heap.size w W) => (hh.out.later hb).at hlt
          cases HD with
          | false =>
            have hr : Hid (beginsR l = false) := hbad.out (by rw [hform.out]; rfl)
            go_wp2_with fail
            go_ret
            exact ⟨by rw [hr.out]; rfl, hBq⟩
          | true =>
            have hI0 : Hid ((∀ j, j < 0 → fitsR (l.take i) fs j = true) ∧ Below w.heap.size w Wq) := ⟨fun j hj => absurd hj (Nat.not_lt_zero _), hBq⟩
            go_wp2_with fail
            go_loopw [4] (fun kv wr => ∃ k : Nat, k ≤ fs.length ∧ kv = .int .i64 (k : Int) ∧ Hid ((∀ j, j < k → fitsR (l.take i) fs j = true) ∧ Below w.heap.size w wr)) (fun kv _ => fs.length - (intOf kv).toNat)
            case atStart => exact ⟨0, Nat.zero_le _, rfl, hI0⟩
            case round =>
              obtain ⟨k, hk, rfl, hI2⟩ := hrel
              clear hI0
              obtain ⟨fb3, fo3, cap3, fa3, fc3, hv, _, y1, _, _, _⟩ := hxq.out wr hI2.out.2
              injection hv with hv1 hv2 hv3
              injection hv1 with hv1
              injection hv1 with hv4 hv5
              subst hv4 hv5 hv3
              clear hv2
              rw [hfse.out] at y1
              by_cases hlk : k < fs.length
              · have hdk : decide ((k : Int) < (fs.length : Int)) = true := decide_eq_true (by omega)
                have hft := Lib.hid (hfits.out wr hI2.out.2 k hlk (prevOk_take hk hI2.out.1))
                have hwk : IntKind.i64.wrap ((k : Int) + 1) = ((k + 1 : Nat) : Int) := by rw [Int.natCast_succ]; exact IntWalk.i64_in _ (by omega)
                cases hfk : fitsR (l.take i) fs k with
                | false =>
                  rw [hfk] at hft
                  have hr : Hid (beginsR l = false) := hbad.out (by rw [hform.out, hfd.out, range_not hlk hfk]; rfl)
                  replace hfk := Lib.hid hfk
                  go_wp2_with fail
                  refine hft.out.mono ?_
                  rintro e w5 ⟨rfl, hb5⟩
                  have hB5 := hI2.out.2.trans (hb5.mono hI2.out.2.size)
                  go_wp2_with fail
                  go_ret
                  exact ⟨by rw [hr.out]; rfl, hB5⟩
                | true =>
                  rw [hfk] at hft
                  have hall : Hid (∀ j, j < k + 1 → fitsR (l.take i) fs j = true) := fun j hj => by
                    rcases Nat.lt_succ_iff_lt_or_eq.1 hj with h | rfl
                    · exact hI2.out.1 j h
                    · exact hfk
                  replace hfk := Lib.hid hfk
                  go_wp2_with fail
                  refine hft.out.mono ?_
                  rintro e w5 ⟨rfl, hb5⟩
                  have hB5 := hI2.out.2.trans (hb5.mono hI2.out.2.size)
                  go_wp2_with fail
                  go_roundw
                  case rel => (repeat apply Exists.intro); exact ⟨⟨k + 1, by omega, by first | rfl | go_num, (show Hid _ from ⟨hall.out, hB5⟩)⟩, rfl⟩
                  case measure => simp [intOf]; omega
              · have hdk : decide ((k : Int) < (fs.length : Int)) = false := decide_eq_false (by omega)
                obtain rfl : k = fs.length := by omega
                have hfR : Hid (fieldsR l i = true) := by show _ = _; rw [hfd.out]; exact range_all.2 hI2.out.1
                have hle := Lib.hid (hleast.out wr hI2.out.2)
                have hsl : (leastsR (l.take (i + 1))).length = i + 1 := by rw [leastsR, leastsTo_len, List.length_take]; omega
                have hlen2 : (l.take (i + 1)).length = i + 1 := by rw [List.length_take]; omega
                have hcell : Hid ((intC (leastsR (l.take (i + 1))))[i]? = some (.int .i64 (leastsR (l.take (i + 1)))[i]!)) := by show _ = _; unfold intC; rw [List.getElem?_map, List.getElem?_eq_getElem (by omega), getElem!_pos _ i (by omega)]; rfl
                rw [hlen2] at hle
                generalize (leastsR (l.take (i + 1)))[i]! = LV at *
                replace hsl := Lib.hid hsl
                replace hlen2 := Lib.hid hlen2
                have i3 : (i : Int) < (i : Int) + 1 := by omega
                go_wp2_with fail
                refine hle.out.mono ?_
                rintro e w8 ⟨v8, rfl, hown8, hb8⟩
                obtain ⟨g8, c8, rfl, hx8⟩ := own_at1 hown8 hcell.out (by omega)
                have hB8 := hI2.out.2.trans (hb8.mono hI2.out.2.size)
                clear hown8 hb8
                by_cases hbig : LV ≤ 65536
                · have hz1 : decide (LV > 65536) = false := decide_eq_false (by omega)
                  have hz2 : decide (65536 < LV) = false := decide_eq_false (by omega)
                  have hok : Hid (∀ j, j < i + 1 → formR l j = true) := fun j hj => by
                    rcases Nat.lt_succ_iff_lt_or_eq.1 hj with h | rfl
                    · exact hIj.out j h
                    · rw [hform.out, hfR.out, decide_eq_true hbig]; rfl
                  replace hbig := Lib.hid hbig
                  go_wp2_with fail
                  exact ⟨⟨i + 1, by omega, by first | rfl | go_num, (show Hid _ from ⟨hok.out, hB8⟩)⟩, by simp [intOf]; omega⟩
                · have hz1 : decide (LV > 65536) = true := decide_eq_true (by omega)
                  have hz2 : decide (65536 < LV) = true := decide_eq_true (by omega)
                  have hr : Hid (beginsR l = false) := hbad.out (by rw [hform.out, decide_eq_false hbig, Bool.and_false])
                  replace hbig := Lib.hid hbig
                  go_wp2_with fail
                  go_ret
                  exact ⟨by rw [hr.out]; rfl, hB8⟩
      · have hd : decide ((i : Int) < (l.length : Int)) = false := by simpa using hlt
        obtain rfl : i = l.length := by omega
        have hr : Hid (beginsR l = true) := by show _ = _; rw [hr0.out]; exact range_all.2 hI.out.1
        have hB := hI.out.2
        go_wp2_with fail
        go_ret
        exact ⟨by rw [hr.out]; rfl, hB⟩
  · have hd60 : decide ((l.length : Int) > 60) = true := decide_eq_true (by omega)
    have hd60' : decide (60 < (l.length : Int)) = true := decide_eq_true (by omega)
    have hr0 : Hid (beginsR l = false) := by show _ = _; unfold beginsR; rw [show decide (l.length ≤ 60) = false by simpa using h60]; rfl
    go_enter Tryz.func36, Tryz.ntmps36
    go_wp2_with fail
    go_ret
    exact ⟨by rw [hr0.out]; rfl, Below.refl _ _⟩
end Go.Proofs.YtcpfmlaipejfpaaGreatDoor
namespace Go.Proofs.YtcpfmlaipejfpaaGreatDoor
open Go.RowKit Go.Shelf Go.Maps

attribute [local go_sem] Oper.semAt_some

set_option maxRecDepth 100000 in
set_option maxHeartbeats 4000000 in
theorem validR_any (v : Value) (l : List Fmt) (w : World) (h : Fmts w v l) :
    Calls Tryz.prog 21 #[v] w fun e w' => e = .returned (.bool (validR l)) ∧ Below w.heap.size w w' := by
  have hlm := h.in_.len
  have hb := Lib.hid (begins_any v l w h)
  obtain ⟨a0, cap0, rfl, hcp, hcm⟩ := h.val
  have hh := Lib.hid h
  have hdef : Hid (validR l = (beginsR l && (decide (l.length = 0) || decide (0 < l[l.length - 1]!.flds.length)))) := rfl
  clear h
  cases hB : beginsR l with
  | false =>
    rw [hB] at hb
    replace hB := Lib.hid hB
    go_enter Tryz.func21, Tryz.ntmps21
    go_wp2_with fail
    refine hb.out.mono ?_
    rintro e w1 ⟨rfl, hb1⟩
    go_wp2_with fail
    go_ret
    exact ⟨by rw [hdef.out, hB.out]; rfl, hb1⟩
  | true =>
    rw [hB] at hb
    replace hB := Lib.hid hB
    by_cases h0 : l.length = 0
    · have e0 : ((l.length : Int) == 0) = true := by rw [beq_iff_eq]; omega
      have e1 : (l.length == 0) = true := by rw [beq_iff_eq]; omega
      have e2 : l.isEmpty = true := by rw [List.isEmpty_iff_length_eq_zero]; exact h0
      have hr : Hid (validR l = true) := by show _ = _; rw [hdef.out, hB.out, decide_eq_true h0]; rfl
      replace h0 := Lib.hid h0
      go_enter Tryz.func21, Tryz.ntmps21
      go_wp2_with fail
      refine hb.out.mono ?_
      rintro e w1 ⟨rfl, hb1⟩
      go_wp2_with fail
      go_ret
      exact ⟨by rw [hr.out]; rfl, hb1⟩
    · obtain ⟨m, hm⟩ : ∃ m, l.length = m + 1 := ⟨l.length - 1, by omega⟩
      rw [hm, Nat.add_sub_cancel] at hdef
      have hat := Lib.hid fun (W : World) (hb : Below w.heap.size w W) => (hh.out.later hb).at (show m < l.length by omega)
      have hr : Hid (validR l = decide (0 < l[m]!.flds.length)) := by show _ = _; rw [hdef.out, hB.out, decide_eq_false (by omega)]; rfl
      have e0 : (((m + 1 : Nat) : Int) == 0) = false := by rw [beq_eq_false_iff_ne]; omega
      have e01 : (((m : Int) + 1) == 0) = false := by rw [beq_eq_false_iff_ne]; omega
      have e1 : (m + 1 == 0) = false := by rw [beq_eq_false_iff_ne]; omega
      have hwm : IntKind.i64.wrap ((m : Int) + 1 - 1) = (m : Int) := by rw [show (m : Int) + 1 - 1 = (m : Int) by omega]; exact IntWalk.i64_in _ (by omega)
      have hmb : m ≤ 999999 := by omega
      have m0 : (0 : Int) ≤ (m : Int) := by omega
      have m1 : (m : Int) < (m : Int) + 1 := by omega
      rw [hm] at hb ⊢
      replace hm := Lib.hid hm
      generalize l[m]!.flds = fs at *
      go_enter Tryz.func21, Tryz.ntmps21
      go_wp2_with fail
      refine hb.out.mono ?_
      rintro e w1 ⟨rfl, hb1⟩
      obtain ⟨fb, fo, cap, fa, fc, hv, _, x1, _, hfn, _⟩ := hat.out w1 hb1
      rw [hm.out] at hv
      injection hv with hv1 hv2 hv3
      subst hv1 hv3
      clear hv2
      by_cases hpos : 0 < fs.length
      · have d1 : decide ((fs.length : Int) > 0) = true := decide_eq_true (by omega)
        have d2 : decide (0 < (fs.length : Int)) = true := decide_eq_true (by omega)
        have d3 : decide (0 < fs.length) = true := decide_eq_true hpos
        go_wp2_with fail
        go_ret
        exact ⟨by rw [hr.out, d3]; rfl, hb1⟩
      · have d1 : decide ((fs.length : Int) > 0) = false := decide_eq_false (by omega)
        have d2 : decide (0 < (fs.length : Int)) = false := decide_eq_false (by omega)
        have d3 : decide (0 < fs.length) = false := decide_eq_false hpos
        go_wp2_with fail
        go_ret
        exact ⟨by rw [hr.out, d3]; rfl, hb1⟩
end Go.Proofs.YtcpfmlaipejfpaaGreatDoor
