/-
  The arguments of chapter 4's laws, opened: tables of formats, five integers, bytes.
-/
import Derived.Test.YtcpfmlaipejfpaaGreatDoorKF
import Derived.Test.YtcpfmlaipejfpaaGreatDoorKM
namespace Go.Proofs.YtcpfmlaipejfpaaGreatDoor
open Go.ChangeShapes Go.WideShapes Go.ChangeAt Go.RowKit

theorem u8_byte {a : Int} (h : (Lit.int .u8 a).wf = true) : ∃ c : UInt8, a = (c.toNat : Int) := by
  have := h
  simp [Lit.wf, IntKind.min, IntKind.max, IntKind.signed, IntKind.bits] at this
  refine ⟨UInt8.ofNat a.toNat, ?_⟩
  rw [UInt8.toNat_ofNat', Nat.mod_eq_of_lt (by omega)]
  omega
section
variable {H : Type} {enc : TypeId × Value → H} {w : World}
/-- A slice's elements, each row of k cells opened. -/
theorem open_rows {P : Program} {α : Type} {t e : TypeId} {k : Nat} (ht : P.underlying t = some (.slice e)) (hc : P.cellsOf e = k) (hk : 0 < k) (encA : α → List Value) (okA : α → Prop) (hlen : ∀ y, (encA y).length = k)
    (hrow : ∀ (fuel : Nat) (cs : List Value) (x : DataW H × List MemPlace), cs.length = k → DataW.trod enc P w 0 (fun _ => true) true fuel e cs = some x → ∃ y, cs = encA y ∧ okA y)
    {fuel : Nat} {cs : List Value} {x : DataW H × List MemPlace} (hf : DataW.trod enc P w 0 (fun _ => true) true fuel t cs = some x) :
    ∃ (v : Value) (ys : List α), cs = [v] ∧ (∀ y ∈ ys, okA y) ∧ SliceAt w w.heap.size v ys.length (ys.flatMap encA) := by
  rcases DataW.trod_slice ht hf with ⟨h0, _⟩ | ⟨a, len, cap, elems, rest, n, _, hcs, _, _, hl, hm, hlen2, hel, _, _⟩
  · exact ⟨_, [], h0, by simp, none, 0, rfl, Nat.le_refl _, Nat.zero_le _, fun h => absurd h (Nat.lt_irrefl 0)⟩
  · subst hcs
    have piece : ∀ i, i < len → ∃ y : α, okA y ∧ ∀ j, j < k → w.cell? ((a.add (i * k)).add j) = (encA y)[j]? := fun i hi => by
      have h1 := hel i hi
      rw [hc, List.getElem?_eq_getElem (by omega), Option.bind_eq_some_iff] at h1
      obtain ⟨cs', hcc, hy⟩ := h1
      obtain ⟨_, h2, h3⟩ := World.cells?_some hcc
      obtain ⟨y, rfl, hI⟩ := hrow _ _ _ h2 hy
      exact ⟨y, hI, h3⟩
    rcases Nat.eq_zero_or_pos len with h0 | h0
    · subst h0
      exact ⟨_, [], rfl, by simp, some a, cap, rfl, hl, hm, fun h => absurd h (Nat.lt_irrefl 0)⟩
    · obtain ⟨b, off, spot⟩ := a
      have hspot : spot = none := by
        obtain ⟨y, _, h3⟩ := piece 0 h0
        have := h3 0 hk
        rw [List.getElem?_eq_getElem (by rw [hlen]; exact hk)] at this
        simpa [Addr.add] using World.cell?_spot this
      subst hspot
      have hall : ∀ m, m ≤ len → ∃ ys : List α, ys.length = m ∧ (∀ y ∈ ys, okA y) ∧ (ys.flatMap encA).length = m * k ∧ ∀ j u, (ys.flatMap encA)[j]? = some u → w.cell? ⟨b, off + j, none⟩ = some u := by
        intro m
        induction m with
        | zero => exact fun _ => ⟨[], rfl, by simp, by simp, by simp⟩
        | succ m ih =>
          intro hm'
          obtain ⟨ys, h1, h2, h2b, h3⟩ := ih (by omega)
          obtain ⟨y, g2, g3⟩ := piece m (by omega)
          have ef : (ys ++ [y]).flatMap encA = ys.flatMap encA ++ encA y := by rw [List.flatMap_append, List.flatMap_cons, List.flatMap_nil, List.append_nil]
          refine ⟨ys ++ [y], by rw [List.length_append, List.length_singleton, h1], fun z hz => ?_, by rw [ef, List.length_append, h2b, hlen, Nat.succ_mul], fun j u hu => ?_⟩
          · rcases List.mem_append.1 hz with hz | hz
            · exact h2 z hz
            · rw [List.mem_singleton.1 hz]; exact g2
          · rw [ef] at hu
            by_cases hj : j < m * k
            · rw [List.getElem?_append_left (by omega)] at hu
              exact h3 j u hu
            · have hj2 : j < m * k + k := by
                have := (List.getElem?_eq_some_iff.1 hu).1
                rw [List.length_append, h2b, hlen] at this
                omega
              rw [List.getElem?_append_right (by omega), h2b] at hu
              have := g3 (j - m * k) (by omega)
              rw [Addr.add_mid, Addr.add_mid, show off + m * k + (j - m * k) = off + j from by omega] at this
              rw [this]
              exact hu
      obtain ⟨ys, h1, h2, h2b, h3⟩ := hall len (Nat.le_refl _)
      subst h1
      refine ⟨_, ys, rfl, h2, some ⟨b, off, none⟩, cap, rfl, hl, hm, fun _ => ⟨b, off, rfl, ?_, h3⟩⟩
      have hpos : 0 < (ys.flatMap encA).length := by rw [h2b]; exact Nat.mul_pos h0 hk
      exact World.block_lt_of_cell? w _ (h3 0 _ (List.getElem?_eq_getElem hpos))
theorem four_of {l : List Value} (h : l.length = 4) : ∃ a b c d, l = [a, b, c, d] := by
  match l, h with
  | [a, b, c, d], _ => exact ⟨a, b, c, d, rfl⟩
theorem five_of {l : List Value} (h : l.length = 5) : ∃ a b c d e, l = [a, b, c, d, e] := by
  match l, h with
  | [a, b, c, d, e], _ => exact ⟨a, b, c, d, e, rfl⟩
theorem two_of {l : List Value} (h : l.length = 2) : ∃ a b, l = [a, b] := by
  match l, h with
  | [a, b], _ => exact ⟨a, b, rfl⟩
set_option maxRecDepth 100000 in
theorem field_row (fuel : Nat) (cs : List Value) (x : DataW H × List MemPlace) (hl : cs.length = 4) (h : DataW.trod enc Tryz.prog w 0 (fun _ => true) true fuel 55 cs = some x) : ∃ f : Fld, cs = fldC f ∧ FldAny f := by
  obtain ⟨a, b, c, d, rfl⟩ := four_of hl
  obtain ⟨xs, m, _, _, _, hx, hel⟩ := DataW.trod_struct Tryz.underlying55 h
  have h0 : DataW.trod enc Tryz.prog w 0 (fun _ => true) true m 3 (([a, b, c, d].drop 0).take (Tryz.prog.cellsOf 3)) = xs[0]? := hel 0 _ rfl
  have h1 : DataW.trod enc Tryz.prog w 0 (fun _ => true) true m 3 (([a, b, c, d].drop 1).take (Tryz.prog.cellsOf 3)) = xs[1]? := hel 1 _ rfl
  have h2 : DataW.trod enc Tryz.prog w 0 (fun _ => true) true m 3 (([a, b, c, d].drop 2).take (Tryz.prog.cellsOf 3)) = xs[2]? := hel 2 _ rfl
  have h3 : DataW.trod enc Tryz.prog w 0 (fun _ => true) true m 9 (([a, b, c, d].drop 3).take (Tryz.prog.cellsOf 9)) = xs[3]? := hel 3 _ rfl
  have hx4 : xs.length = 4 := hx
  rw [show Tryz.prog.cellsOf 3 = 1 from by kernel_rfl, List.getElem?_eq_getElem (by omega)] at h0 h1 h2
  rw [show Tryz.prog.cellsOf 9 = 1 from by kernel_rfl, List.getElem?_eq_getElem (by omega)] at h3
  obtain ⟨z0, e0, _, w0⟩ := DataW.trod_int Tryz.underlying3 h0
  obtain ⟨z1, e1, _, w1⟩ := DataW.trod_int Tryz.underlying3 h1
  obtain ⟨z2, e2, _, w2⟩ := DataW.trod_int Tryz.underlying3 h2
  obtain ⟨s, e3, _, w3⟩ := DataW.trod_string Tryz.underlying9 h3
  simp at e0 e1 e2 e3
  subst e0 e1 e2 e3
  refine ⟨⟨z0, z1, z2, s.data.toList⟩, rfl, I64.of_wf w0, I64.of_wf w1, I64.of_wf w2, ?_⟩
  have : s.data.toList.length = s.size := by simp
  dsimp only
  unfold maxLen at w3
  omega
/-- A format's row: its number, its fields' slice. -/
def FmtRow (w : World) (y : Fmt × Value) : Prop := I64 y.1.id ∧ (∀ x ∈ y.1.flds, FldAny x) ∧ FldsAt w w.heap.size y.2 y.1.flds
set_option maxRecDepth 100000 in
theorem format_row (fuel : Nat) (cs : List Value) (x : DataW H × List MemPlace) (hl : cs.length = 2) (h : DataW.trod enc Tryz.prog w 0 (fun _ => true) true fuel 34 cs = some x) : ∃ y : Fmt × Value, cs = encF y ∧ FmtRow w y := by
  obtain ⟨a, b, rfl⟩ := two_of hl
  obtain ⟨xs, m, _, _, _, hx, hel⟩ := DataW.trod_struct Tryz.underlying34 h
  have h0 : DataW.trod enc Tryz.prog w 0 (fun _ => true) true m 3 (([a, b].drop 0).take (Tryz.prog.cellsOf 3)) = xs[0]? := hel 0 _ rfl
  have h1 : DataW.trod enc Tryz.prog w 0 (fun _ => true) true m 32 (([a, b].drop 1).take (Tryz.prog.cellsOf 32)) = xs[1]? := hel 1 _ rfl
  have hx2 : xs.length = 2 := hx
  rw [show Tryz.prog.cellsOf 3 = 1 from by kernel_rfl, List.getElem?_eq_getElem (by omega)] at h0
  rw [show Tryz.prog.cellsOf 32 = 1 from by kernel_rfl, List.getElem?_eq_getElem (by omega)] at h1
  obtain ⟨z0, e0, _, w0⟩ := DataW.trod_int Tryz.underlying3 h0
  obtain ⟨v, fs, e1, hok, hat⟩ := open_rows Tryz.underlying32 (k := 4) (by kernel_rfl) (Nat.zero_lt_succ _) fldC FldAny (fun _ => rfl) field_row h1
  simp at e0 e1
  subst e0 e1
  exact ⟨(⟨z0, fs⟩, b), rfl, I64.of_wf w0, hok, hat⟩
theorem encF_fmtC : ∀ ys : List (Fmt × Value), ys.flatMap encF = fmtC (ys.map (·.1)) (ys.map (·.2))
  | [] => rfl
  | y :: r => by
    rw [List.flatMap_cons, encF_fmtC r]
    rfl
set_option maxRecDepth 100000 in
theorem open_formats {r : Reach} {b0 : Nat} {v : Value} {d : DataW H} {ps : List MemPlace} (hval : Value.okWide Tryz.prog w r b0 22 v) (hd : DataW.Trod enc Tryz.prog w 0 (fun _ => true) true 22 v d ps) : ∃ l : List Fmt, FmtsAt w w.heap.size v l ∧ FmtAny l := by
  obtain ⟨a, len, cap, rfl⟩ := okWide_slice Tryz.underlying22 hval
  obtain ⟨fuel, hf⟩ := hd
  obtain ⟨v, ys, e, hok, hat⟩ := open_rows Tryz.underlying22 (k := 2) (by kernel_rfl) (Nat.zero_lt_succ _) encF (FmtRow w) (fun _ => rfl) format_row hf
  have e' : [Value.slice a len cap] = [v] := e
  injection e' with e1 _
  subst e1
  rw [encF_fmtC] at hat
  have hg : ∀ i, i < ys.length → (ys.map (·.1))[i]! = ys[i]!.1 ∧ (ys.map (·.2))[i]! = ys[i]!.2 := fun i hi => by
    rw [getElem!_pos (ys.map (·.1)) i (by rw [List.length_map]; exact hi), getElem!_pos (ys.map (·.2)) i (by rw [List.length_map]; exact hi), getElem!_pos ys i hi, List.getElem_map, List.getElem_map]
    exact ⟨rfl, rfl⟩
  refine ⟨ys.map (·.1), ⟨ys.map (·.2), by rw [List.length_map, List.length_map], by rw [List.length_map]; exact hat, fun i hi => ?_⟩, ⟨fun f hf => ?_, fun f hf x hx => ?_⟩⟩
  · rw [List.length_map] at hi
    obtain ⟨g1, g2⟩ := hg i hi
    rw [g1, g2]
    exact (hok _ (by rw [getElem!_pos ys i hi]; exact List.getElem_mem hi)).2.2
  · obtain ⟨y, hy, rfl⟩ := List.mem_map.1 hf
    exact (hok y hy).1
  · obtain ⟨y, hy, rfl⟩ := List.mem_map.1 hf
    exact (hok y hy).2.1 x hx
theorem okWide_array5 {P : Program} {r : Reach} {base : Nat} {t : TypeId} {v : Value} {n : Nat} {e : TypeId} (ht : P.underlying t = some (.array n e)) (h : Value.okWide P w r base t v) : ∃ cs, v = .agg cs ∧ cs.size = P.cellsOf t := by
  simp only [Value.okWide, ht] at h
  obtain ⟨cs, h1, h2, _⟩ := h
  exact ⟨cs, h1, h2⟩
set_option maxRecDepth 100000 in
theorem open_five {r : Reach} {b0 : Nat} {v : Value} {d : DataW H} {ps : List MemPlace} (hval : Value.okWide Tryz.prog w r b0 24 v) (hd : DataW.Trod enc Tryz.prog w 0 (fun _ => true) true 24 v d ps) : ∃ h0 h1 h2 h3 h4 : Int, v = .agg #[.int .i64 h0, .int .i64 h1, .int .i64 h2, .int .i64 h3, .int .i64 h4] ∧ I64 h0 ∧ I64 h1 ∧ I64 h2 ∧ I64 h3 ∧ I64 h4 := by
  obtain ⟨cs, rfl, hsz⟩ := okWide_array5 Tryz.underlying24 hval
  rw [show Tryz.prog.cellsOf 24 = 5 from by kernel_rfl] at hsz
  obtain ⟨fuel, hf⟩ := hd
  obtain ⟨zs, hz, hI⟩ := array_row Tryz.underlying24 Tryz.underlying3 (by kernel_rfl) fuel _ _ (by simpa [Value.cells] using hsz) hf
  have hz' : cs.toList = zs.map (Value.int .i64) := hz
  have hl : (zs.map (Value.int .i64)).length = 5 := by rw [← hz']; simpa using hsz
  rw [List.length_map] at hl
  match zs, hl with
  | [a, b, c, d, e], _ =>
    refine ⟨a, b, c, d, e, ?_, hI a (by simp), hI b (by simp), hI c (by simp), hI d (by simp), hI e (by simp)⟩
    congr 1
    exact Array.toList_inj.1 hz'
end
end Go.Proofs.YtcpfmlaipejfpaaGreatDoor
