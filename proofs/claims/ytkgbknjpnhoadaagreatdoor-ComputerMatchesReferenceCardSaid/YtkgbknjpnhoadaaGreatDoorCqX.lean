/-
  The contracts of evergreenref12.Typed and Code: keys that are in order, a program of pairs of bytes.
-/
import Derived.Test.YtkgbknjpnhoadaaGreatDoorCqN
import Derived.Test.YtkgbknjpnhoadaaGreatDoorCqW
namespace Go.Proofs.YtkgbknjpnhoadaaGreatDoor
open Go.RowKit Go.Shelf

theorem rowCells {w : World} {B m n : Nat} {v : Value} {zs : List Int} (h : SliceAt w B v n (zs.map (Value.int .i64))) (hl : zs.length = n * m) (hz : ∀ z ∈ zs, I64 z) :
    ∃ a c, v = .slice a n c ∧ n ≤ c ∧ c ≤ maxLen ∧ ∀ k, k < n → ∃ b o, a = some ⟨b, o, none⟩ ∧ b < B ∧ (∀ j, j < m → I64 (zs.getD (k * m + j) 0)) ∧ ∀ (wr : World), wr.heap[b]? = w.heap[b]? → ∀ j, j < m → wr.cell? ⟨b, o + k * m + j, none⟩ = some (.int .i64 (zs.getD (k * m + j) 0)) := by
  obtain ⟨a, c, rfl, h1, h2, hc⟩ := h
  refine ⟨a, c, rfl, h1, h2, fun k hk => ?_⟩
  obtain ⟨b, o, ha, hb, hx⟩ := hc (by omega)
  have hin : ∀ j, j < m → k * m + j < zs.length := fun j hj => by
    rw [hl]
    have : k * m + m ≤ n * m := by rw [← Nat.succ_mul]; exact Nat.mul_le_mul_right m hk
    omega
  refine ⟨b, o, ha, hb, fun j hj => ?_, fun wr hw j hj => ?_⟩
  · rw [List.getD_eq_getElem?_getD, List.getElem?_eq_getElem (hin j hj)]
    exact hz _ (List.getElem_mem _)
  · rw [World.cell?_of_block (w' := wr) (w := w) (a := ⟨b, o + k * m + j, none⟩) hw, Nat.add_assoc]
    refine hx _ _ ?_
    rw [List.getElem?_map, List.getD_eq_getElem?_getD, List.getElem?_eq_getElem (hin j hj)]
    rfl
theorem inOrder_snoc (l : List Ev) (e : Ev) (h : inOrder l = true) (he : ∀ k ∈ l, k.t ≤ e.t) : inOrder (l ++ [e]) = true := by
  rw [inOrder_iff] at h ⊢
  intro j hj
  simp only [List.length_append, List.length_singleton] at hj
  by_cases hlt : j + 1 < l.length
  · have := h j hlt
    rw [getElem!_pos _ _ (by omega), getElem!_pos _ _ (by omega)] at this
    rw [getElem!_pos _ _ (by simp; omega), getElem!_pos _ _ (by simp; omega), List.getElem_append_left (by omega), List.getElem_append_left (by omega)]
    exact this
  · rw [getElem!_pos _ _ (by simp; omega), getElem!_pos _ _ (by simp; omega), List.getElem_append_left (by omega), List.getElem_append_right (by omega)]
    have hx : l[j] ∈ l := List.getElem_mem _
    simpa using he _ hx
/-- Keys as Typed makes them. -/
structure TypedOk (ks : List Ev) (tt : Nat) : Prop where
  len : ks.length ≤ 20
  all : ∀ k ∈ ks, keyOk k = true ∧ k.t ≤ (tt : Int)
  ord : inOrder ks = true
theorem TypedOk.snoc {ks : List Ev} {tt : Nat} (h : TypedOk ks tt) (hl : ks.length < 20) (d : Nat) (p : Nat) (hd : tt + d ≤ 1180) (hp : p < 255) : TypedOk (ks ++ [⟨((tt + d : Nat) : Int), 5, ((1 + p : Nat) : Int), 0⟩]) (tt + d) := by
  refine ⟨by simp; omega, fun k hk => ?_, inOrder_snoc _ _ h.ord (fun k hk => by have := (h.all k hk).2; show k.t ≤ ((tt + d : Nat) : Int); omega)⟩
  rcases List.mem_append.1 hk with hk | hk
  · have := h.all k hk
    exact ⟨this.1, by omega⟩
  · obtain rfl := List.mem_singleton.1 hk
    refine ⟨?_, Int.le_refl _⟩
    simp [keyOk]
    omega
theorem TypedOk.keys {ks : List Ev} {tt : Nat} (h : TypedOk ks tt) : keysOk ks = true := by
  simp only [keysOk, Bool.and_eq_true, decide_eq_true_eq, List.all_eq_true]
  exact ⟨⟨by have := h.len; omega, fun k hk => (h.all k hk).1⟩, h.ord⟩
def TypI (w wr : World) (ks : List Ev) (v : Value) (tt : Nat) : Prop := Below w.heap.size w wr ∧ wr.ownsRow w.heap.size 39 4 v ks.length (evCells ks) ∧ TypedOk ks tt

set_option maxRecDepth 100000 in
set_option maxHeartbeats 4000000 in
theorem Typed_any (xv : Value) (n : Nat) (zs : List Int) (w : World) (hx : SliceAt w w.heap.size xv n (zs.map (Value.int .i64))) (hxl : zs.length = n * 2) (hz : ∀ z ∈ zs, I64 z) :
    Calls Tryz.prog 18 #[xv] w fun e w' => ∃ v ks, e = .returned v ∧ w'.ownsRow w.heap.size 39 4 v ks.length (evCells ks) ∧ TypedOk ks 1180 ∧ Below w.heap.size w w' := by
  obtain ⟨i0, hi, hz0, hz1, hz2⟩ := info_parts Tryz.info_ev
  obtain ⟨a, c, rfl, h1, h2, hc⟩ := rowCells hx hxl hz
  unfold maxLen at h2
  have hB : Below w.heap.size w w := Below.refl _ _
  replace hc := Lib.hid hc
  clear hx hxl hz
  go_enter Tryz.func18, Tryz.ntmps18
  go_wp2_with fail
  go_loopw [5, 4, 3] (fun i t v wr => ∃ (k tt : Nat) (ks : List Ev), k ≤ n ∧ k ≤ 20 ∧ i = .int .i64 k ∧ t = .int .i64 tt ∧ tt ≤ 59 * k ∧ ks.length = k ∧ Hid (TypI w wr ks v tt)) (fun i _ _ _ => n - (intOf i).toNat)
  case atStart => exact ⟨0, 0, [], Nat.zero_le _, Nat.zero_le _, rfl, rfl, Nat.zero_le _, rfl, (show TypI _ _ _ _ _ from ⟨hB, World.ownsRow_nil _ _ _ _, ⟨by simp, by simp, rfl⟩⟩)⟩
  case round =>
    obtain ⟨k, tt, ks, hk, hk20, rfl, rfl, htt, hks, hI⟩ := hrel
    clear hB
    obtain ⟨ao, vc, rfl⟩ := own_val hI.out.2.1
    by_cases hlt : k < n ∧ k < 20
    · obtain ⟨hlt, hlt2⟩ := hlt
      have hd : decide ((k : Int) < (n : Int)) = true := by simpa using hlt
      have hd2 : decide ((k : Int) < 20) = true := by simp; omega
      obtain ⟨b, o, rfl, hb, hI64, hcell⟩ := hc.out k hlt
      have hbw := hI.out.1.block b hb
      have l0 : wr.cell? ⟨b, o + k * 2, none⟩ = some (.int .i64 (zs.getD (k * 2) 0)) := hcell wr hbw 0 (by omega)
      have l1 : wr.cell? ⟨b, o + k * 2 + 1, none⟩ = some (.int .i64 (zs.getD (k * 2 + 1) 0)) := hcell wr hbw 1 (by omega)
      have g0 : I64 (zs.getD (k * 2) 0) := hI64 0 (by omega)
      have g1 : I64 (zs.getD (k * 2 + 1) 0) := hI64 1 (by omega)
      generalize zs.getD (k * 2) 0 = x0 at *
      generalize zs.getD (k * 2 + 1) 0 = x1 at *
      have hP0 := pickR_any x0 60 wr g0 (by omega) (by omega)
      have hP1 := pickR_any x1 255 wr g1 (by omega) (by omega)
      have hd0 := pickv_lt x0 60 (by omega)
      have hd1 := pickv_lt x1 255 (by omega)
      generalize pickv x0 60 = d at *
      generalize pickv x1 255 = p at *
      have hor := hI.out.2.1
      have hBw := hI.out.1
      have hT := hI.out.2.2.snoc (by omega) d p (by omega) hd1
      have hadd : IntKind.i64.wrap ((tt : Int) + (d : Int)) = (tt : Int) + (d : Int) := IntWalk.i64_in _ (by omega)
      have hadd1 : IntKind.i64.wrap (1 + (p : Int)) = 1 + (p : Int) := IntWalk.i64_in _ (by omega)
      obtain ⟨ev, hev⟩ : ∃ ev : Ev, ev = ⟨((tt + d : Nat) : Int), 5, ((1 + p : Nat) : Int), 0⟩ := ⟨_, rfl⟩
      have hevc : evCells [ev] = [.int .i64 ((tt : Int) + (d : Int)), .int .i64 5, .int .i64 (1 + (p : Int)), .int .i64 0] := by rw [hev]; rfl
      rw [← hev] at hT
      have hor3 := own_below hor ((Below.refl wr.heap.size wr).alloc (Nat.le_refl _) (.cells #[.int .i64 ((tt : Int) + (d : Int)), .int .i64 5, .int .i64 (1 + (p : Int)), .int .i64 0] 39))
      have hnew : Arr (wr.alloc (.cells #[.int .i64 ((tt : Int) + (d : Int)), .int .i64 5, .int .i64 (1 + (p : Int)), .int .i64 0] 39)) wr.heap.size 39 [.int .i64 ((tt : Int) + (d : Int)), .int .i64 5, .int .i64 (1 + (p : Int)), .int .i64 0] := Arr.new rfl rfl
      have hnc : ∀ j u, [Value.int .i64 ((tt : Int) + (d : Int)), .int .i64 5, .int .i64 (1 + (p : Int)), .int .i64 0][j]? = some u → (wr.alloc (.cells #[.int .i64 ((tt : Int) + (d : Int)), .int .i64 5, .int .i64 (1 + (p : Int)), .int .i64 0] 39)).cell? ((⟨wr.heap.size, 0, none⟩ : Addr).add j) = some u := fun j u hu => by rw [Addr.add_mid, Nat.zero_add]; exact hnew.cell hu
      replace hor3 := Lib.hid hor3
      replace hnc := Lib.hid hnc
      replace hP0 := Lib.hid hP0
      replace hP1 := Lib.hid hP1
      replace hevc := Lib.hid hevc
      replace hks := Lib.hid hks
      have hksl : ks.length ≤ 20 := hI.out.2.2.len
      clear hnew hor hcell hI64 hc hev hI g0 g1 hbw
      go_wp2_with fail
      refine hP0.out.mono ?_
      rintro e w2 ⟨rfl, hw2⟩
      rw [hw2]
      clear hw2 w2
      go_wp2_with fail
      refine hP1.out.mono ?_
      rintro e w2 ⟨rfl, hw2⟩
      rw [hw2]
      clear hw2 w2
      go_wp2_with (at_builtin; go_loud (refine wpList_append_own _ rfl _ _ 33 rfl w.heap.size 39 i0 (.agg #[.int .i64 0, .int .i64 0, .int .i64 0, .int .i64 0]) 4 32 Tryz.underlying33 hi hz0 hz1 hz2 rfl (by decide) (.slice ao ks.length vc) ks.length (evCells ks) rfl hor3.out _ 1 1 [.int .i64 ((tt : Int) + (d : Int)), .int .i64 5, .int .i64 (1 + (p : Int)), .int .i64 0] rfl rfl hnc.out (by simp [Value.oneCell']) (by unfold maxLen; omega) (by omega) (by have := hBw.size; simp; omega) ?_; intro v' w4 hown' hgrow hnil))
      have hB4 : Below w.heap.size w w4 := (hBw.alloc hBw.size _).grown hgrow (by have := hBw.size; simp; omega) (fun j e => (hor3.out.lt j e).1)
      rw [← hevc.out, ← evCells_app] at hown'
      have hI4 : TypI w w4 (ks ++ [ev]) v' (tt + d) := ⟨hB4, by rw [List.length_append]; exact hown', hT⟩
      exact ⟨⟨k + 1, tt + d, ks ++ [ev], by omega, by omega, by go_num, by go_num, by omega, by rw [List.length_append, hks.out]; rfl, hI4⟩, by simp [intOf]; omega⟩
    · have hT : TypedOk ks 1180 := ⟨hI.out.2.2.len, fun q hq => ⟨(hI.out.2.2.all q hq).1, by have := (hI.out.2.2.all q hq).2; omega⟩, hI.out.2.2.ord⟩
      clear hc
      by_cases hlt1 : k < n
      · have hd : decide ((k : Int) < (n : Int)) = true := by simpa using hlt1
        have hd2 : decide ((k : Int) < 20) = false := by simp; omega
        replace hks := Lib.hid hks
        go_wp2_with fail
        go_ret
        exact ⟨_, ks, rfl, hI.out.2.1, hT, hI.out.1⟩
      · have hd : decide ((k : Int) < (n : Int)) = false := by simpa using hlt1
        replace hks := Lib.hid hks
        go_wp2_with fail
        go_ret
        exact ⟨_, ks, rfl, hI.out.2.1, hT, hI.out.1⟩
end Go.Proofs.YtkgbknjpnhoadaaGreatDoor
