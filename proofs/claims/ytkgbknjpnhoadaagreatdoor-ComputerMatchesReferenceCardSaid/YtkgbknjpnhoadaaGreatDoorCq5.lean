/-
  The contracts of taking a key, of operation 11, of the functions that quiet makes.
-/
import Derived.Test.YtkgbknjpnhoadaaGreatDoorCq4
namespace Go.Proofs.YtkgbknjpnhoadaaGreatDoor
open Go.RowKit

def Cpu.takeV (x : Cpu) : Nat := match x.keys with
  | [] => 0
  | k :: _ => if (x.time : Int) < k.t then 0 else k.a.toNat
def Cpu.takeR (x : Cpu) : List Ev := match x.keys with
  | [] => []
  | k :: r => if (x.time : Int) < k.t then k :: r else r
theorem take_eq (x : Cpu) : x.take = { x with a := x.takeV, keys := x.takeR } := by
  obtain ⟨m, d, a, c, t, l⟩ := x
  cases l with
  | nil => rfl
  | cons k r =>
    simp only [Cpu.take, Cpu.takeV, Cpu.takeR]
    split <;> rfl
theorem cpuCells_keys (kv : Value) (x : Cpu) (l : List Ev) : cpuCells kv { x with keys := l } = cpuCells kv x := rfl
theorem takeV_lt {x : Cpu} (h : x.WF) : x.takeV < 256 := by
  unfold Cpu.takeV
  cases hk : x.keys with
  | nil => simp
  | cons k r =>
    dsimp only
    have h1 := keyOk_parts (h.keys k (by simp [hk]))
    split <;> omega

set_option maxHeartbeats 2000000 in
theorem take_any (w : World) (B : Nat) (x : Cpu) (h : CpuAt w B x) :
    Calls Tryz.prog 92 #[.pointer (some ⟨B, 0, none⟩), .int .i64 (x.time : Int)] w fun e w' => e = .returned (.int .u8 (x.takeV : Int)) ∧ CpuAt w' B { x with keys := x.takeR } ∧ BelowBut w.heap.size B w w' := by
  have f0 := h.free 0
  obtain ⟨hwf, kv, hA, a, cap, rfl, hc1, hc2, hK⟩ := h
  have c0 := hA.cell (j := 0) (v := .slice a x.keys.length cap) rfl
  have hNew : ∀ (v : Value) (l : List Ev), (∀ k, k ∈ l → keyOk k = true) → SliceAt (w.setCell ⟨B, 0, none⟩ v) B v l.length (evCells l) → CpuAt (w.setCell ⟨B, 0, none⟩ v) B { x with keys := l } := fun v l hl hs =>
    ⟨⟨hwf.mem, hwf.disk, hwf.memB, hwf.diskB, hwf.a, hwf.c, hl⟩, v, hA.set 0 v, hs⟩
  have hSame : CpuAt w B x := ⟨hwf, _, hA, a, cap, rfl, hc1, hc2, hK⟩
  unfold Cpu.takeV Cpu.takeR
  cases hk : x.keys with
  | nil =>
    rw [hk] at c0
    have hE : x = { x with keys := [] } := by rw [← hk]
    rw [hE] at hSame
    have hSame' : CpuAt w B { x with keys := [] } := hSame
    clear hNew hK hA hSame hE hk
    go_enter Tryz.func92, Tryz.ntmps92
    go_wp2
    go_ret
    exact ⟨rfl, hSame', BelowBut.refl _ _ _⟩
  | cons k r =>
    rw [hk] at c0 hK hc1
    have h1 := keyOk_parts (hwf.keys k (by simp [hk]))
    obtain ⟨p1, p2, p3, p4, p5, p6⟩ := h1
    obtain ⟨b, o, rfl, hbB, hcell⟩ := hK (by simp)
    have e0 := hcell 0 _ rfl
    rw [Nat.add_zero] at e0
    have e2 := hcell 2 _ rfl
    have hlen : (((k :: r).length : Nat) : Int) = (r.length : Int) + 1 := by simp
    have hl0 : (((r.length : Int) + 1) == 0) = false := by rw [beq_eq_false_iff_ne]; omega
    by_cases ht : (x.time : Int) < k.t
    · dsimp only
      rw [if_pos ht, if_pos ht]
      have hE : x = { x with keys := k :: r } := by rw [← hk]
      rw [hE] at hSame
      have hSame' : CpuAt w B { x with keys := k :: r } := hSame
      clear hNew hK hA hSame hE hk hcell p1 p6
      go_enter Tryz.func92, Tryz.ntmps92
      go_wp2
      go_ret
      exact ⟨rfl, hSame', BelowBut.refl _ _ _⟩
    · dsimp only
      rw [if_neg ht, if_neg ht]
      have hkl : ∀ q, q ∈ r → keyOk q = true := fun q hq => hwf.keys q (by simp [hk]; exact .inr hq)
      have hxs : ∀ j u, (evCells r)[j]? = some u → w.cell? ⟨b, o + 4 + j, none⟩ = some u := fun j u hu => by
        have := hcell (4 + j) u (by rw [evCells_cons, List.getElem?_append_right (by simp)]; simpa using hu)
        rw [Nat.add_assoc]; exact this
      have hv : Hid (((k.a.toNat : Nat) : Int) = k.a) := by show _ = _; omega
      rw [List.length_cons] at hc1 c0
      have hS : ∀ A : Option Addr, (0 < r.length → A = some ⟨b, o + 4, none⟩) → SliceAt (w.setCell ⟨B, 0, none⟩ (.slice A r.length (cap - 1))) B (.slice A r.length (cap - 1)) r.length (evCells r) := fun A hAd =>
        ⟨A, cap - 1, rfl, by omega, by omega, fun hn => ⟨b, o + 4, hAd hn, hbB, fun j u hu => by
          rw [World.cell?_setCell_other _ _ _ _ (by intro e; injection e with e; omega)]
          exact hxs j u hu⟩⟩
      have hFin : ∀ A : Option Addr, (0 < r.length → A = some ⟨b, o + 4, none⟩) → CpuAt (w.setCell ⟨B, 0, none⟩ (.slice A r.length (cap - 1))) B { x with keys := r } := fun A hAd => hNew _ r hkl (hS A hAd)
      clear hNew hS hK hA hSame hk hcell hxs hkl p1 p6 hlen
      replace hFin := Lib.hid hFin
      rw [hv.out]
      have hc3 : 1 ≤ cap := by omega
      unfold maxLen at hc2
      by_cases hcap : cap = 1
      · subst hcap
        have hr : r.length = 0 := by omega
        obtain rfl : r = [] := List.eq_nil_of_length_eq_zero hr
        have hF := hFin.out (some ⟨b, o, none⟩) (fun h => absurd h (by simp))
        replace hF := Lib.hid hF
        clear hFin hr hc1
        go_enter Tryz.func92, Tryz.ntmps92
        go_wp2
        go_ret
        exact ⟨rfl, hF.out, (BelowBut.refl _ _ _).setCell _ _⟩
      · have hF := hFin.out (some ⟨b, o + 4, none⟩) (fun _ => rfl)
        replace hF := Lib.hid hF
        clear hFin
        go_enter Tryz.func92, Tryz.ntmps92
        go_wp2
        go_ret
        exact ⟨rfl, hF.out, (BelowBut.refl _ _ _).setCell _ _⟩

set_option maxRecDepth 100000 in
set_option maxHeartbeats 2000000 in
theorem do11 : OpDo 91 11 := by
  intro w B x n m h hn hm
  have cT := h.time
  have hv := takeV_lt h.wf
  have hT := take_any w.drew B x h.drew
  have hcon : (x.op 11 n m).1 = { x with a := x.takeV, keys := x.takeR } := take_eq x
  rw [hcon]
  clear hcon
  generalize x.takeV = v at *
  generalize x.takeR = r at *
  replace hT := Lib.hid hT
  go_enter Tryz.func91, Tryz.ntmps91
  go_wp2
  refine wp_region_held_drew (S := fun w' => w'.cell? ⟨B, 515, none⟩ = some (.int .i64 (x.time : Int))) (by kernel_rfl) (by first | (dsimp only; go_keep) | go_keep) (fun hHeld => ?_)
  refine take_l (i := 0) (v := ?_) rfl (by kernel_rfl) (by kernel_rfl) (by kernel_rfl) (fun _ _ _ h => h) (Or.inl ⟨by kernel_rfl, ?_⟩) (by assumption) ?_
  rotate_left
  · intro w hSw; (try dsimp only at hSw); go_simp; (try with_reducible rfl)
  (try dsimp only [Act.put, List.setIfInBounds_toArray, List.set_cons_zero, List.set_cons_succ])
  refine take_l (i := 1) (v := ?_) rfl (by kernel_rfl) (by kernel_rfl) (by kernel_rfl) (fun _ _ _ h => h) (Or.inl ⟨by kernel_rfl, ?_⟩) (by assumption) ?_
  rotate_left
  · intro w hSw; (try dsimp only at hSw); go_simp; (try with_reducible rfl)
  (try dsimp only [Act.put, List.setIfInBounds_toArray, List.set_cons_zero, List.set_cons_succ])
  refine take_l (i := 2) (v := ?_) rfl (by kernel_rfl) (by kernel_rfl) (by kernel_rfl) (fun _ _ _ h => h) (Or.inl ⟨by kernel_rfl, ?_⟩) (by assumption) ?_
  rotate_left
  · intro w hSw; (try dsimp only at hSw); go_simp; (try with_reducible rfl)
  (try dsimp only [Act.put, List.setIfInBounds_toArray, List.set_cons_zero, List.set_cons_succ])
  refine take_l (i := 3) (v := ?_) rfl (by kernel_rfl) (by kernel_rfl) (by kernel_rfl) (fun _ _ _ h => h) (Or.inl ⟨by kernel_rfl, ?_⟩) (by assumption) ?_
  rotate_left
  · intro w hSw; (try dsimp only at hSw); go_simp; (try with_reducible rfl)
  (try dsimp only [Act.put, List.setIfInBounds_toArray, List.set_cons_zero, List.set_cons_succ])
  refine take_l (i := 4) (v := ?_) rfl (by kernel_rfl) (by kernel_rfl) (by kernel_rfl) (fun _ _ _ h => h) (Or.inl ⟨by kernel_rfl, ?_⟩) (by assumption) ?_
  rotate_left
  · intro w hSw; (try dsimp only at hSw); go_simp; (try with_reducible rfl)
  (try dsimp only [Act.put, List.setIfInBounds_toArray, List.set_cons_zero, List.set_cons_succ])
  refine take_l (i := 5) (v := ?_) rfl (by kernel_rfl) (by kernel_rfl) (by kernel_rfl) (fun _ _ _ h => h) (Or.inl ⟨by kernel_rfl, ?_⟩) (by assumption) ?_
  rotate_left
  · intro w hSw; (try dsimp only at hSw); go_simp; (try with_reducible rfl)
  (try dsimp only [Act.put, List.setIfInBounds_toArray, List.set_cons_zero, List.set_cons_succ])
  refine take_l (i := 6) (v := ?_) rfl (by kernel_rfl) (by kernel_rfl) (by kernel_rfl) (fun _ _ _ h => h) (Or.inl ⟨by kernel_rfl, ?_⟩) (by assumption) ?_
  rotate_left
  · intro w hSw; (try dsimp only at hSw); go_simp; (try with_reducible rfl)
  (try dsimp only [Act.put, List.setIfInBounds_toArray, List.set_cons_zero, List.set_cons_succ])
  refine take_l (i := 7) (v := ?_) rfl (by kernel_rfl) (by kernel_rfl) (by kernel_rfl) (fun _ _ _ h => h) (Or.inl ⟨by kernel_rfl, ?_⟩) (by assumption) ?_
  rotate_left
  · intro w hSw; (try dsimp only at hSw); go_simp; (try with_reducible rfl)
  (try dsimp only [Act.put, List.setIfInBounds_toArray, List.set_cons_zero, List.set_cons_succ])
  refine wpAnyH_ready (rs := [8]) (by kernel_rfl) (by simp) ?_
  refine ready_l rfl (fun K hK => ?_) AllReadyH.nil
  go_simp
  go_at_call 92
  refine hT.out.mono ?_
  rintro e w1 ⟨rfl, hC1, hb1⟩
  have cT1 := hC1.time
  have cA1 := hC1.a
  have fA1 := hC1.free 513
  have hs := Lib.hid (hC1.setA hv)
  (try dsimp only [Act.put, List.setIfInBounds_toArray, List.set_cons_zero, List.set_cons_succ])
  refine hK.out _ _ (by exact cT1) (fun hHeld => ?_)
  clear hK K
  (try dsimp only [Act.put, List.setIfInBounds_toArray, List.set_cons_zero, List.set_cons_succ])
  refine take_l (i := 9) (v := ?_) rfl (by kernel_rfl) (by kernel_rfl) (by kernel_rfl) (fun _ _ _ h => h) (Or.inl ⟨by kernel_rfl, ?_⟩) (by assumption) ?_
  rotate_left
  · intro w hSw; (try dsimp only at hSw); go_simp; (try with_reducible rfl)
  (try dsimp only [Act.put, List.setIfInBounds_toArray, List.set_cons_zero, List.set_cons_succ])
  refine take_l (i := 10) (v := ?_) rfl (by kernel_rfl) (by kernel_rfl) (by kernel_rfl) (fun _ _ _ h => h) (Or.inl ⟨by kernel_rfl, ?_⟩) (by assumption) ?_
  rotate_left
  · intro w hSw; (try dsimp only at hSw); go_simp; (try with_reducible rfl)
  (try dsimp only [Act.put, List.setIfInBounds_toArray, List.set_cons_zero, List.set_cons_succ])
  refine wpAnyH_ready (rs := [11]) (by kernel_rfl) (by simp) ?_
  refine ready_l rfl (fun K hK => ?_) AllReadyH.nil
  go_simp
  refine hK.out _ _ (by first | (exact hs.out.time) | (dsimp only; go_keep) | go_keep) (fun hHeld => ?_)
  clear hK K
  (try dsimp only [Act.put, List.setIfInBounds_toArray, List.set_cons_zero, List.set_cons_succ])
  refine wpAnyH_done (by kernel_rfl) ?_ _
  go_wp2
  go_end0
  exact ⟨rfl, hs.out, (BelowBut.trans ((BelowBut.refl w.heap.size B w).drew) hb1 (Nat.le_refl _)).setCell _ _⟩
set_option maxHeartbeats 1000000 in
theorem quiet1_any (g : FuncId) (eg : ∀ (args : Array Value) (w : World), (callFunc g args).run Tryz.prog w = .ok (.enter g args) w) (R : World → World → Prop)
    (w : World) (B : Nat) (n m b : Nat) (hb : w.cell? ⟨b, 0, none⟩ = some (.func (.func g) #[] #[]))
    (hdo : Calls Tryz.prog g #[.pointer (some ⟨B, 0, none⟩), .int .u8 (n : Int), .int .u8 (m : Int)] w fun e w' => e = .returned (.tuple #[]) ∧ R w w') :
    Calls Tryz.prog 111 #[.pointer (some ⟨B, 0, none⟩), .int .u8 (n : Int), .int .u8 (m : Int), .pointer (some ⟨b, 0, none⟩)] w fun e w' => e = .returned (.pointer none) ∧ R w w' := by
  replace hdo := Lib.hid hdo
  go_enter Tryz.func111, Tryz.ntmps111
  go_wp2_with fail
  refine hdo.out.mono ?_
  rintro e w1 ⟨rfl, hR⟩
  go_wp2
  go_ret
  exact ⟨rfl, hR⟩
theorem quiet1_cap (g : FuncId) (v : Value) (eg : ∀ (args : Array Value) (w : World), (callFunc g args).run Tryz.prog w = .ok (.enter g args) w) (R : World → World → Prop)
    (w : World) (B : Nat) (n m b : Nat) (hb : w.cell? ⟨b, 0, none⟩ = some (.func (.func g) #[] #[v]))
    (hdo : Calls Tryz.prog g #[.pointer (some ⟨B, 0, none⟩), .int .u8 (n : Int), .int .u8 (m : Int), v] w fun e w' => e = .returned (.tuple #[]) ∧ R w w') :
    Calls Tryz.prog 111 #[.pointer (some ⟨B, 0, none⟩), .int .u8 (n : Int), .int .u8 (m : Int), .pointer (some ⟨b, 0, none⟩)] w fun e w' => e = .returned (.pointer none) ∧ R w w' := by
  replace hdo := Lib.hid hdo
  go_enter Tryz.func111, Tryz.ntmps111
  go_wp2_with fail
  refine hdo.out.mono ?_
  rintro e w1 ⟨rfl, hR⟩
  go_wp2
  go_ret
  exact ⟨rfl, hR⟩
end Go.Proofs.YtkgbknjpnhoadaaGreatDoor
