/-
  The contract of digest.schedule.
-/
import Derived.Test.YtllofogjojlamaaDoorSha1
import Derived.Test.YtllofogjojlamaaDoorOwn
import Derived.BigRegion
import Derived.Deep.RegionHeld3
namespace Go.Proofs.YtllofogjojlamaaDoor
open Go.RowKit

theorem mixed_two (x : Int) (a b : Nat) (a' b' : Int) (B : Nat) (w : World) (hx : Hid (W32 x)) (ha : a ∈ rots) (hb : b ∈ rots) (ea : a' = a) (eb : b' = b)
    (h0 : w.cell? ⟨B, 0, none⟩ = some (.int .i64 a')) (h1 : w.cell? ⟨B, 1, none⟩ = some (.int .i64 b')) :
    Calls Tryd.prog 45 #[.int .u32 x, .slice (some ⟨B, 0, none⟩) 2 2] w fun e w' => e = .returned (.int .u32 (mixd x [a, b])) ∧ w' = w := by
  subst ea eb
  exact mixed_any x [a, b] B 0 2 w hx (by simp [ha, hb]) (by simp) (fun i hi => match i, hi with | 0, _ => h0 | 1, _ => h1)
theorem mixed_three (x : Int) (a b c : Nat) (a' b' c' : Int) (B : Nat) (w : World) (hx : Hid (W32 x)) (ha : a ∈ rots) (hb : b ∈ rots) (hc : c ∈ rots) (ea : a' = a) (eb : b' = b) (ec : c' = c)
    (h0 : w.cell? ⟨B, 0, none⟩ = some (.int .i64 a')) (h1 : w.cell? ⟨B, 1, none⟩ = some (.int .i64 b')) (h2 : w.cell? ⟨B, 2, none⟩ = some (.int .i64 c')) :
    Calls Tryd.prog 45 #[.int .u32 x, .slice (some ⟨B, 0, none⟩) 3 3] w fun e w' => e = .returned (.int .u32 (mixd x [a, b, c])) ∧ w' = w := by
  subst ea eb ec
  exact mixed_any x [a, b, c] B 0 3 w hx (by simp [ha, hb, hc]) (by simp) (fun i hi => match i, hi with | 0, _ => h0 | 1, _ => h1 | 2, _ => h2)

/-- Bytes as cells. -/
def u8s (l : List Int) : List Value := l.map (.int .u8)
/-- Words as cells. -/
def u32s (l : List Int) : List Value := l.map (.int .u32)
def U8 (x : Int) : Prop := 0 ≤ x ∧ x < 256

/-- A word of four bytes. -/
def word4 (a b c d : Int) : Int := bits .or .u32 (bits .or .u32 (bits .or .u32 (a % 4294967296 * 16777216 % 4294967296) (b % 4294967296 * 65536 % 4294967296)) (c % 4294967296 * 256 % 4294967296)) (d % 4294967296)
/-- A further word. -/
def schE (x y p q : Int) : Int := IntKind.u32.wrap (IntKind.u32.wrap (IntKind.u32.wrap (p + bits .xor .u32 (mixd x [7, 18]) (x / 8)) + q) + bits .xor .u32 (mixd y [17, 19]) (y / 1024))
/-- The words of a block, so far. -/
def schTo (bs : List Int) : Nat → List Int
  | 0 => []
  | i + 1 => schTo bs i ++ [if i < 16 then word4 (bs.getD (4 * i) 0) (bs.getD (4 * i + 1) 0) (bs.getD (4 * i + 2) 0) (bs.getD (4 * i + 3) 0)
      else schE ((schTo bs i).getD (i - 15) 0) ((schTo bs i).getD (i - 2) 0) ((schTo bs i).getD (i - 16) 0) ((schTo bs i).getD (i - 7) 0)]
theorem schTo_len (bs : List Int) (i : Nat) : (schTo bs i).length = i := by
  induction i with
  | zero => rfl
  | succ i ih => simp [schTo, ih]
theorem word4_w32 (a b c d : Int) : W32 (word4 a b c d) := bits_w32 _ _ _
theorem wrap_w32 (n : Int) : W32 (IntKind.u32.wrap n) := by simp [W32, IntKind.wrap, IntKind.bits, IntKind.signed]; omega
theorem schE_w32 (x y p q : Int) : W32 (schE x y p q) := wrap_w32 _
theorem schTo_w32 (bs : List Int) (i : Nat) : ∀ x, x ∈ schTo bs i → W32 x := by
  induction i with
  | zero => intro x hx; simp [schTo] at hx
  | succ i ih =>
    intro x hx
    simp only [schTo, List.mem_append, List.mem_singleton] at hx
    rcases hx with hx | rfl
    · exact ih x hx
    · split
      · exact word4_w32 _ _ _ _
      · exact schE_w32 _ _ _ _
theorem getD_mem {α : Type} {l : List α} {j : Nat} {d : α} (h : j < l.length) : l.getD j d ∈ l := by
  rw [List.getD_eq_getElem?_getD]; simp [h]
/-- The row of words, of which the first k are there. -/
def schRow (bs : List Int) (k : Nat) : List Value := u32s (schTo bs k ++ List.replicate (64 - k) 0)
theorem schRow_at (bs : List Int) (k j : Nat) (hj : j < k) : (schRow bs k)[j]? = some (.int .u32 ((schTo bs k).getD j 0)) := by
  have := schTo_len bs k
  simp [schRow, u32s, List.getElem?_append, List.getD_eq_getElem?_getD, this, hj]
theorem schRow_new (bs : List Int) (k : Nat) (hk : k < 64) : (schRow bs k)[k]? = some (.int .u32 0) := by
  have := schTo_len bs k
  rw [schRow, u32s, List.getElem?_map, List.getElem?_append_right (by omega), this, Nat.sub_self, List.getElem?_replicate, if_pos (by omega)]
  rfl
theorem schRow_set (bs : List Int) (k : Nat) (v : Int) (hk : k < 64) (hv : schTo bs (k + 1) = schTo bs k ++ [v]) : (schRow bs k).set k (.int .u32 v) = schRow bs (k + 1) := by
  have := schTo_len bs k
  unfold schRow u32s
  rw [hv, ← List.map_set]
  congr 1
  rw [List.set_append_right _ _ (by omega), this, Nat.sub_self]
  obtain ⟨d, hd⟩ : ∃ d, 64 - k = d + 1 := ⟨63 - k, by omega⟩
  rw [hd, List.replicate_succ, List.set_cons_zero, show 64 - (k + 1) = d from by omega]
  simp
theorem schRow_full (bs : List Int) : schRow bs 64 = u32s (schTo bs 64) := by simp [schRow]

set_option maxRecDepth 100000 in
set_option maxHeartbeats 4000000 in
theorem schedule_any (bs : List Int) (b off cap : Nat) (w : World) (hlen : bs.length = 64)
    (hcs : ∀ i, i < 64 → w.cell? ⟨b, off + i, none⟩ = some (.int .u8 (bs.getD i 0))) :
    Calls Tryd.prog 44 #[.slice (some ⟨b, off, none⟩) bs.length cap] w fun e w' => e = .returned (.agg (u32s (schTo bs 64)).toArray) ∧ Below w.heap.size w w' := by
  have hB : Below w.heap.size w w := Below.refl _ _
  rw [hlen]
  go_enter Tryd.func44, Tryd.ntmps44
  go_wp2
  refine name_wp ?_
  intro w1 hw1
  have ha : Arr w1 w.heap.size 79 (u32s (List.replicate 64 0)) := by rw [hw1]; exact Arr.new rfl rfl
  replace hB : Below w.heap.size w w1 := by rw [hw1]; exact (by repeat first | with_reducible exact Below.refl _ _ | with_reducible assumption | with_reducible refine below_drewN ?_ _ | with_reducible refine Below.drew ?_ | with_reducible refine Below.setCell ?_ (by first | exact Nat.le_refl _ | (simp; done) | (simp; omega) | omega) _ | with_reducible refine Below.alloc ?_ (by first | exact Nat.le_refl _ | (simp; done) | (simp; omega) | omega) _ | exact Below.refl _ _ | assumption)
  clear hw1
  go_loopw [7] (fun i wr => ∃ k : Nat, k ≤ 16 ∧ i = .int .i64 k ∧ Below w.heap.size w wr ∧ Arr wr w.heap.size 79 (schRow bs k)) (fun i _ => 16 - (intOf i).toNat)
  case atStart => exact ⟨0, by omega, rfl, hB, ha⟩
  case round =>
    obtain ⟨k, hk, rfl, hBr, hA⟩ := hrel
    by_cases hlt : k < 16
    · have hd : decide ((k : Int) < 16) = true := by simp; omega
      have hbw : b < w.heap.size := World.block_lt_of_cell? w _ (hcs 0 (by omega))
      have q : ∀ i, i < 64 → wr.cell? ⟨b, off + i, none⟩ = some (.int .u8 (bs.getD i 0)) := fun i hi => (hBr.cell (p := ⟨b, off + i, none⟩) hbw).trans (hcs i hi)
      have c0 := q (4 * k) (by omega)
      have c1 := q (4 * k + 1) (by omega)
      have c2 := q (4 * k + 2) (by omega)
      have c3 := q (4 * k + 3) (by omega)
      have ck := hA.cell (schRow_new bs k (by omega))
      have fk := hA.free k
      have hs := hA.set k (.int .u32 (word4 (bs.getD (4 * k) 0) (bs.getD (4 * k + 1) 0) (bs.getD (4 * k + 2) 0) (bs.getD (4 * k + 3) 0)))
      rw [schRow_set bs k _ (by omega) (by rw [schTo, if_pos hlt])] at hs
      clear hcs q
      generalize bs.getD (4 * k) 0 = x0 at *
      generalize bs.getD (4 * k + 1) 0 = x1 at *
      generalize bs.getD (4 * k + 2) 0 = x2 at *
      generalize bs.getD (4 * k + 3) 0 = x3 at *
      replace hs := Lib.hid hs
      go_wp2
      go_region
      go_wp2
      go_roundw
      case rel => exact ⟨k + 1, by omega, by go_num, (by repeat first | with_reducible exact Below.refl _ _ | with_reducible assumption | with_reducible refine below_drewN ?_ _ | with_reducible refine Below.drew ?_ | with_reducible refine Below.setCell ?_ (by first | exact Nat.le_refl _ | (simp; done) | (simp; omega) | omega) _ | with_reducible refine Below.alloc ?_ (by first | exact Nat.le_refl _ | (simp; done) | (simp; omega) | omega) _ | exact Below.refl _ _ | assumption), hs.out.drew⟩
      case measure => simp [intOf]; omega
    · have hd : decide ((k : Int) < 16) = false := by simp; omega
      obtain rfl : k = 16 := by omega
      rw [show ((16 : Nat) : Int) = 16 from rfl]
      go_wp2
      go_loopw [4] (fun i wr => ∃ k : Nat, 16 ≤ k ∧ k ≤ 64 ∧ i = .int .i64 k ∧ Below w.heap.size w wr ∧ Arr wr w.heap.size 79 (schRow bs k)) (fun i _ => 64 - (intOf i).toNat)
      case atStart => exact ⟨16, by omega, by omega, rfl, hBr, hA⟩
      case round =>
        obtain ⟨k, hk1, hk2, rfl, hBr2, hA2⟩ := hrel
        by_cases hlt : k < 64
        · have hd2 : decide ((k : Int) < 64) = true := by simp; omega
          have wx := schTo_w32 bs k ((schTo bs k).getD (k - 15) 0) (getD_mem (by rw [schTo_len]; omega))
          have wy := schTo_w32 bs k ((schTo bs k).getD (k - 2) 0) (getD_mem (by rw [schTo_len]; omega))
          have m2 := hA2.mine (schRow_at bs k (k - 16) (by omega))
          have m3 := hA2.mine (schRow_at bs k (k - 7) (by omega))
          have c0 := hA2.cell (schRow_at bs k (k - 15) (by omega))
          have c1 := hA2.cell (schRow_at bs k (k - 2) (by omega))
          have c2 := hA2.cell (schRow_at bs k (k - 16) (by omega))
          have c3 := hA2.cell (schRow_at bs k (k - 7) (by omega))
          have ck := hA2.cell (schRow_new bs k (by omega))
          have fk := hA2.free k
          have hs : ∀ (q : Nat) (A B : Obj), Arr ((((wr.drewN q).alloc A).setCell ⟨w.heap.size, k, none⟩ (.int .u32 (schE ((schTo bs k).getD (k - 15) 0) ((schTo bs k).getD (k - 2) 0) ((schTo bs k).getD (k - 16) 0) ((schTo bs k).getD (k - 7) 0)))).alloc B) w.heap.size 79 (schRow bs (k + 1)) := fun q A B => by
            have h1 := (((hA2.drewN q).alloc A).set k (.int .u32 (schE ((schTo bs k).getD (k - 15) 0) ((schTo bs k).getD (k - 2) 0) ((schTo bs k).getD (k - 16) 0) ((schTo bs k).getD (k - 7) 0)))).alloc B
            rw [schRow_set bs k _ (by omega) (by rw [schTo, if_neg (by omega)])] at h1
            exact h1
          generalize (schTo bs k).getD (k - 15) 0 = x at *
          generalize (schTo bs k).getD (k - 2) 0 = y at *
          generalize (schTo bs k).getD (k - 16) 0 = x2 at *
          generalize (schTo bs k).getD (k - 7) 0 = x3 at *
          replace wx := Lib.hid wx
          replace wy := Lib.hid wy
          replace hs := Lib.hid hs
          have hlb := hA2.lt
          have mk := hA2.mine (schRow_new bs k (by omega))
          have ck2 : ∀ (q : Nat) (A B : Obj), (((wr.drewN q).alloc A).alloc B).cell? ⟨w.heap.size, k, none⟩ = some (.int .u32 0) := fun q A B => (((mk.drewN q).alloc A).alloc B).cell
          have fk2 : ∀ (q : Nat) (A B : Obj), (((wr.drewN q).alloc A).alloc B).frozen? ⟨w.heap.size, k, none⟩ = false := fun q A B => (((mk.drewN q).alloc A).alloc B).free
          have hne1 : ¬ wr.heap.size = w.heap.size := by omega
          have hne2 : ¬ wr.heap.size + 1 = w.heap.size := by omega
          have hlb2 : w.heap.size < wr.heap.size + 1 := by omega
          have hlb3 : w.heap.size ≤ wr.heap.size := by omega
          go_wp2
          go_quiet (fail)
          go_wp2
          have s1 : IntKind.i64.wrap ((k : Int) - 16) = k - 16 := IntWalk.i64_in _ (by omega)
          have s2 : (0 : Int) ≤ (k : Int) - 16 := by omega
          have s3 : (k : Int) - 16 < 64 := by omega
          have s4 : ((k : Int) - 16).toNat = k - 16 := by omega
          have s5 : IntKind.i64.wrap ((k : Int) - 7) = k - 7 := IntWalk.i64_in _ (by omega)
          have s6 : (0 : Int) ≤ (k : Int) - 7 := by omega
          have s7 : (k : Int) - 7 < 64 := by omega
          have s8 : ((k : Int) - 7).toNat = k - 7 := by omega
          have s9 : (k : Int) < 64 := by omega
          have s11 : (16 : Int) ≤ k := by omega
          have s12 : (7 : Int) ≤ k := by omega
          have s13 : (k : Int) < 64 + 16 := by omega
          have s14 : (k : Int) < 64 + 7 := by omega
          have s15 : (k : Int) < 80 := by omega
          have s16 : (k : Int) < 71 := by omega
          have s10 : (0 : Int) ≤ (k : Int) := by omega
          go_region_held3 (fun w' => w'.cell? ⟨w.heap.size, k - 16, none⟩ = some (.int .u32 x2) ∧ w'.cell? ⟨w.heap.size, k - 7, none⟩ = some (.int .u32 x3)) ((refine ⟨Mine.cell ?_, Mine.cell ?_⟩) <;> (repeat first | with_reducible assumption | with_reducible refine Mine.drew ?_ | with_reducible refine Mine.drewN ?_ _ | ((with_reducible refine Mine.new ?_); rfl) | ((with_reducible refine Mine.newAt ?_ ?_) <;> first | rfl | (simp; done) | (simp only [World.size_alloc]; rfl)) | ((with_reducible refine Mine.set ?_ _); repeat first | exact Mine.slot (by with_reducible assumption) | with_reducible refine MineS.drew ?_ | with_reducible refine MineS.drewN ?_ _ | ((with_reducible refine MineS.new ?_); decide) | ((with_reducible refine MineS.newAt ?_ ?_) <;> first | decide | (simp; done)) | with_reducible refine MineS.set ?_ _ _ _ | with_reducible refine MineS.alloc ?_ _) | with_reducible refine Mine.other ?_ _ (by first | (left; omega) | (right; omega) | (simp; done) | (simp; omega)) | with_reducible refine Mine.alloc ?_ _))
            (first
              | (go_at_call 45; (with_reducible refine (mixed_two x 7 18 7 18 _ _ wx (by decide) (by decide) (by decide) (by decide) ?_ ?_).mono ?_); (refine Mine.cell ?_; (repeat first | with_reducible assumption | with_reducible refine Mine.drew ?_ | with_reducible refine Mine.drewN ?_ _ | ((with_reducible refine Mine.new ?_); rfl) | ((with_reducible refine Mine.newAt ?_ ?_) <;> first | rfl | (simp; done) | (simp only [World.size_alloc]; rfl)) | ((with_reducible refine Mine.set ?_ _); repeat first | exact Mine.slot (by with_reducible assumption) | with_reducible refine MineS.drew ?_ | with_reducible refine MineS.drewN ?_ _ | ((with_reducible refine MineS.new ?_); decide) | ((with_reducible refine MineS.newAt ?_ ?_) <;> first | decide | (simp; done)) | with_reducible refine MineS.set ?_ _ _ _ | with_reducible refine MineS.alloc ?_ _) | with_reducible refine Mine.other ?_ _ (by first | (left; omega) | (right; omega) | (simp; done) | (simp; omega)) | with_reducible refine Mine.alloc ?_ _)); (refine Mine.cell ?_; (repeat first | with_reducible assumption | with_reducible refine Mine.drew ?_ | with_reducible refine Mine.drewN ?_ _ | ((with_reducible refine Mine.new ?_); rfl) | ((with_reducible refine Mine.newAt ?_ ?_) <;> first | rfl | (simp; done) | (simp only [World.size_alloc]; rfl)) | ((with_reducible refine Mine.set ?_ _); repeat first | exact Mine.slot (by with_reducible assumption) | with_reducible refine MineS.drew ?_ | with_reducible refine MineS.drewN ?_ _ | ((with_reducible refine MineS.new ?_); decide) | ((with_reducible refine MineS.newAt ?_ ?_) <;> first | decide | (simp; done)) | with_reducible refine MineS.set ?_ _ _ _ | with_reducible refine MineS.alloc ?_ _) | with_reducible refine Mine.other ?_ _ (by first | (left; omega) | (right; omega) | (simp; done) | (simp; omega)) | with_reducible refine Mine.alloc ?_ _)); rintro e w3 ⟨rfl, rfl⟩)
              | (go_at_call 45; (with_reducible refine (mixed_two y 17 19 17 19 _ _ wy (by decide) (by decide) (by decide) (by decide) ?_ ?_).mono ?_); (refine Mine.cell ?_; (repeat first | with_reducible assumption | with_reducible refine Mine.drew ?_ | with_reducible refine Mine.drewN ?_ _ | ((with_reducible refine Mine.new ?_); rfl) | ((with_reducible refine Mine.newAt ?_ ?_) <;> first | rfl | (simp; done) | (simp only [World.size_alloc]; rfl)) | ((with_reducible refine Mine.set ?_ _); repeat first | exact Mine.slot (by with_reducible assumption) | with_reducible refine MineS.drew ?_ | with_reducible refine MineS.drewN ?_ _ | ((with_reducible refine MineS.new ?_); decide) | ((with_reducible refine MineS.newAt ?_ ?_) <;> first | decide | (simp; done)) | with_reducible refine MineS.set ?_ _ _ _ | with_reducible refine MineS.alloc ?_ _) | with_reducible refine Mine.other ?_ _ (by first | (left; omega) | (right; omega) | (simp; done) | (simp; omega)) | with_reducible refine Mine.alloc ?_ _)); (refine Mine.cell ?_; (repeat first | with_reducible assumption | with_reducible refine Mine.drew ?_ | with_reducible refine Mine.drewN ?_ _ | ((with_reducible refine Mine.new ?_); rfl) | ((with_reducible refine Mine.newAt ?_ ?_) <;> first | rfl | (simp; done) | (simp only [World.size_alloc]; rfl)) | ((with_reducible refine Mine.set ?_ _); repeat first | exact Mine.slot (by with_reducible assumption) | with_reducible refine MineS.drew ?_ | with_reducible refine MineS.drewN ?_ _ | ((with_reducible refine MineS.new ?_); decide) | ((with_reducible refine MineS.newAt ?_ ?_) <;> first | decide | (simp; done)) | with_reducible refine MineS.set ?_ _ _ _ | with_reducible refine MineS.alloc ?_ _) | with_reducible refine Mine.other ?_ _ (by first | (left; omega) | (right; omega) | (simp; done) | (simp; omega)) | with_reducible refine Mine.alloc ?_ _)); rintro e w3 ⟨rfl, rfl⟩))
          all_goals go_wp2
          all_goals go_roundw
          all_goals first
            | (case rel => exact ⟨k + 1, by omega, by omega, by go_num, (by repeat first | with_reducible exact Below.refl _ _ | with_reducible assumption | with_reducible refine below_drewN ?_ _ | with_reducible refine Below.drew ?_ | with_reducible refine Below.setCell ?_ (by first | exact Nat.le_refl _ | (simp; done) | (simp; omega) | omega) _ | with_reducible refine Below.alloc ?_ (by first | exact Nat.le_refl _ | (simp; done) | (simp; omega) | omega) _ | exact Below.refl _ _ | assumption), hs.out _ _ _⟩)
            | (case measure => simp [intOf]; omega)
        · have hd2 : decide ((k : Int) < 64) = false := by simp; omega
          obtain rfl : k = 64 := by omega
          rw [schRow_full] at hA2
          have hL : (u32s (schTo bs 64)).length = 64 := by simp [u32s, schTo_len]
          have h1c : (u32s (schTo bs 64)).all (·.oneCell') = true := by simp [u32s, Value.oneCell']
          replace hA2 := Lib.hid hA2
          generalize hLe : u32s (schTo bs 64) = L at *
          replace hLe := Lib.hid hLe
          replace hL := Lib.hid hL
          replace h1c := Lib.hid h1c
          go_wp2_with (first
            | (refine arr_load rfl 79 _ rfl w.heap.size rfl hA2.out Tryd.underlying79 rfl (n := 64) (by kernel_rfl) hL.out ?_)
            | (refine arr_store rfl 79 _ _ rfl w.heap.size rfl rfl hA2.out (n := 64) (by kernel_rfl) hL.out hL.out h1c.out ?_))
          have hA3 := Arr.setAll hA2.out (vs := L) (Eq.refl _)
          have hB3 : Below w.heap.size w (wr.setCells w.heap.size 0 L) := Below.setCells _ _ _ _ hBr2 (Nat.le_refl _)
          generalize wr.setCells w.heap.size 0 L = w9 at *
          refine bodyPost_ret (v := .agg L.toArray) ?_ rfl ⟨by rw [hLe.out], hB3⟩
          exact arr_result (fn := Tryd.f44) (p := 2) (ty := 79) Tryd.results44 _ hA3 (by simp [Act.put]) Tryd.underlying79 rfl (n := 64) (by kernel_rfl) hL.out
end Go.Proofs.YtllofogjojlamaaDoor
