/-
  (Stay over Gen2, for seats other than chapter 12's.) For rows whose arguments are only read, whatever their types; slices whose elements are rows of integers.
-/
import Derived.Test.YtainohbfcehpoaaDoorLaidQ
import Derived.Test.YtainohbfcehpoaaDoorGen2
import Derived.ChangeStays
import Derived.ChangeOld
import Derived.ReadAgain
namespace Go.Proofs.YtainohbfcehpoaaDoor
open Go.ChangeShapes Go.WideShapes Go.ChangeAt Go.RowKit

section
variable {H : Type} {enc : TypeId × Value → H} {P : Program} {w w' : World}
theorem sameAt_below (hb : Below w.heap.size w w') {p : MemPlace} (hp : p.block < w.heap.size) : w.sameAt w' p := by
  cases p with
  | cell b off => exact hb.cell (p := ⟨b, off, none⟩) hp
  | map b => exact hb.block b hp
theorem trodAll_stay {T : TypeId → Prop} (K : Kids P T) (hsz : ∀ t e, T t → P.underlying t = some (.slice e) → 0 < P.cellsOf e) {sp' : Nat → Bool} :
    ∀ {ts : List TypeId} {vs : List Value} {ds : List (DataW H)} {ps : List MemPlace}, (∀ t ∈ ts, T t) → DataW.TrodAll enc P w 0 (fun _ => true) true ts vs ds ps → (∀ p ∈ ps, w.sameAt w' p) → (∀ p ∈ ps, sp' p.block = true) → DataW.TrodAll enc P w' 0 sp' true ts vs ds ps
  | [], [], [], _, _, h, _, _ => h
  | _ :: _, _ :: _, _ :: _, _, hT, ⟨p, q, ⟨n, h1⟩, h2, e⟩, hs, hsp =>
    ⟨p, q, ⟨n, DataW.trod_stays K (fun ht hu => hsz _ _ ht hu) (fun h => by cases h) (hT _ (List.mem_cons.2 (Or.inl rfl))) h1 (fun x hx => hs x (by rw [e]; exact List.mem_append_left _ hx)) (fun x hx => hsp x (by rw [e]; exact List.mem_append_left _ hx))⟩,
      trodAll_stay K hsz (fun t ht => hT t (List.mem_cons.2 (Or.inr ht))) h2 (fun x hx => hs x (by rw [e]; exact List.mem_append_right _ hx)) (fun x hx => hsp x (by rw [e]; exact List.mem_append_right _ hx)), e⟩

def intVal : Value → Int | .int _ z => z | _ => 0
theorem row_of_cells {cs : List Value} (h : ∀ i, i < cs.length → ∃ z, cs[i]? = some (.int .i64 z) ∧ I64 z) : ∃ zs : List Int, cs = zs.map (Value.int .i64) ∧ ∀ z ∈ zs, I64 z := by
  refine ⟨cs.map intVal, ?_, ?_⟩
  · refine List.ext_getElem (by simp) (fun i h1 h2 => ?_)
    obtain ⟨z, hz, _⟩ := h i h1
    rw [List.getElem?_eq_getElem h1] at hz
    injection hz with hz
    simp [hz, intVal]
  · intro z hz
    obtain ⟨v, hv, rfl⟩ := List.mem_map.1 hz
    obtain ⟨i, hi, rfl⟩ := List.mem_iff_getElem.1 hv
    obtain ⟨y, hy, hI⟩ := h i hi
    rw [List.getElem?_eq_getElem hi] at hy
    injection hy with hy
    rw [hy]
    exact hI
theorem int_piece {t : TypeId} {fuel i : Nat} {cs : List Value} {x : DataW H × List MemPlace} (ht : P.underlying t = some (.int .i64))
    (h : DataW.trod enc P w 0 (fun _ => true) true fuel t ((cs.drop i).take 1) = some x) : ∃ z, cs[i]? = some (.int .i64 z) ∧ I64 z := by
  obtain ⟨z, e, _, hw⟩ := DataW.trod_int ht h
  refine ⟨z, ?_, I64.of_wf hw⟩
  have := congrArg (fun l => l[0]?) e
  simpa [List.getElem?_take, List.getElem?_drop] using this
theorem array_row {t e : TypeId} {n : Nat} (ht : P.underlying t = some (.array n e)) (he : P.underlying e = some (.int .i64)) (hc : P.cellsOf e = 1) (fuel : Nat) (cs : List Value) (x : DataW H × List MemPlace)
    (hl : cs.length = n) (h : DataW.trod enc P w 0 (fun _ => true) true fuel t cs = some x) : ∃ zs : List Int, cs = zs.map (Value.int .i64) ∧ ∀ z ∈ zs, I64 z := by
  obtain ⟨xs, m, _, _, _, hx, hel⟩ := DataW.trod_array ht h
  refine row_of_cells fun i hi => ?_
  have hi' : i < n := by omega
  have := hel i hi'
  rw [hc, Nat.mul_one, List.getElem?_eq_getElem (by omega)] at this
  exact int_piece he this
theorem struct_row {t e : TypeId} {fs : Array Field} (ht : P.underlying t = some (.struct fs)) (he : P.underlying e = some (.int .i64)) (hc : P.cellsOf e = 1) (hf : ∀ (i : Nat) (f : Field), fs[i]? = some f → f.type = e ∧ f.offset = i) (fuel : Nat) (cs : List Value) (x : DataW H × List MemPlace)
    (hl : cs.length = fs.size) (h : DataW.trod enc P w 0 (fun _ => true) true fuel t cs = some x) : ∃ zs : List Int, cs = zs.map (Value.int .i64) ∧ ∀ z ∈ zs, I64 z := by
  obtain ⟨xs, m, _, _, _, hx, hel⟩ := DataW.trod_struct ht h
  refine row_of_cells fun i hi => ?_
  have hi' : i < fs.size := by omega
  obtain ⟨f, hff⟩ : ∃ f, fs[i]? = some f := ⟨_, Array.getElem?_eq_getElem hi'⟩
  have := hel i f hff
  obtain ⟨h1, h2⟩ := hf i f hff
  rw [h1, h2, hc, List.getElem?_eq_getElem (by omega)] at this
  exact int_piece he this

theorem open_introws {t e : TypeId} {k : Nat} (ht : P.underlying t = some (.slice e)) (hc : P.cellsOf e = k)
    (hrow : ∀ (fuel : Nat) (cs : List Value) (x : DataW H × List MemPlace), cs.length = k → DataW.trod enc P w 0 (fun _ => true) true fuel e cs = some x → ∃ zs : List Int, cs = zs.map (Value.int .i64) ∧ ∀ z ∈ zs, I64 z)
    (hk : 0 < k) {r : Reach} {b0 : Nat} {v : Value} {d : DataW H} {ps : List MemPlace} (hval : Value.okWide P w r b0 t v) (hd : DataW.Trod enc P w 0 (fun _ => true) true t v d ps) :
    ∃ (n : Nat) (zs : List Int), zs.length = n * k ∧ (∀ z ∈ zs, I64 z) ∧ SliceAt w w.heap.size v n (zs.map (Value.int .i64)) := by
  obtain ⟨a, len, cap, rfl⟩ := okWide_slice ht hval
  obtain ⟨fuel, hf⟩ := hd
  rcases DataW.trod_slice ht hf with ⟨h0, _⟩ | ⟨a', len', cap', elems, rest, n, _, hcs, _, _, hl, hm, hlen, hel, _, _⟩
  · have h0' : [Value.slice a len cap] = [.slice none 0 0] := h0
    injection h0' with h0' _
    injection h0' with e1 e2 e3
    subst e1 e2 e3
    exact ⟨0, [], by simp, by simp, none, 0, rfl, Nat.le_refl _, Nat.zero_le _, fun h => absurd h (Nat.lt_irrefl 0)⟩
  · have hcs' : [Value.slice a len cap] = [.slice (some a') len' cap'] := hcs
    injection hcs' with hcs' _
    injection hcs' with e1 e2 e3
    subst e1 e2 e3
    have piece : ∀ i, i < len → ∃ zs : List Int, zs.length = k ∧ (∀ z ∈ zs, I64 z) ∧ ∀ j, j < k → w.cell? ((a'.add (i * k)).add j) = (zs.map (Value.int .i64))[j]? := fun i hi => by
      have h1 := hel i hi
      rw [hc, List.getElem?_eq_getElem (by omega), Option.bind_eq_some_iff] at h1
      obtain ⟨cs', hcc, hy⟩ := h1
      obtain ⟨_, h2, h3⟩ := World.cells?_some hcc
      obtain ⟨zs, rfl, hI⟩ := hrow _ _ _ h2 hy
      exact ⟨zs, by simpa using h2, hI, h3⟩
    rcases Nat.eq_zero_or_pos len with h0 | h0
    · subst h0
      exact ⟨0, [], by simp, by simp, some a', cap, rfl, hl, hm, fun h => absurd h (Nat.lt_irrefl 0)⟩
    · obtain ⟨b, off, spot⟩ := a'
      have hspot : spot = none := by
        obtain ⟨zs, hz, _, h3⟩ := piece 0 h0
        have := h3 0 hk
        rw [List.getElem?_eq_getElem (by simp; omega)] at this
        simpa [Addr.add] using World.cell?_spot this
      subst hspot
      have hall : ∀ m, m ≤ len → ∃ zs : List Int, zs.length = m * k ∧ (∀ z ∈ zs, I64 z) ∧ ∀ j u, (zs.map (Value.int .i64))[j]? = some u → w.cell? ⟨b, off + j, none⟩ = some u := by
        intro m
        induction m with
        | zero => exact fun _ => ⟨[], by simp, by simp, by simp⟩
        | succ m ih =>
          intro hm'
          obtain ⟨zs, h1, h2, h3⟩ := ih (by omega)
          obtain ⟨ys, g1, g2, g3⟩ := piece m (by omega)
          refine ⟨zs ++ ys, by rw [List.length_append, h1, g1, Nat.succ_mul], fun z hz => ?_, fun j u hu => ?_⟩
          · rcases List.mem_append.1 hz with hz | hz
            · exact h2 z hz
            · exact g2 z hz
          · rw [List.map_append] at hu
            by_cases hj : j < m * k
            · rw [List.getElem?_append_left (by simp; omega)] at hu
              exact h3 j u hu
            · have hj2 : j < m * k + k := by
                have := (List.getElem?_eq_some_iff.1 hu).1
                simp at this
                omega
              rw [List.getElem?_append_right (by simp; omega)] at hu
              have := g3 (j - m * k) (by omega)
              rw [Addr.add_mid, Addr.add_mid, show off + m * k + (j - m * k) = off + j from by omega] at this
              rw [this]
              simpa [h1] using hu
      obtain ⟨zs, h1, h2, h3⟩ := hall len (Nat.le_refl _)
      refine ⟨len, zs, h1, h2, some ⟨b, off, none⟩, cap, rfl, hl, hm, fun _ => ⟨b, off, rfl, ?_, h3⟩⟩
      have h00 : (zs.map (Value.int .i64))[0]? = some (Value.int .i64 (zs.getD 0 0)) := by
        have : 0 < zs.length := by rw [h1]; exact Nat.mul_pos h0 hk
        rw [List.getElem?_map, List.getD_eq_getElem?_getD, List.getElem?_eq_getElem this]
        rfl
      exact World.block_lt_of_cell? w _ (h3 0 _ h00)
end
end Go.Proofs.YtainohbfcehpoaaDoor
