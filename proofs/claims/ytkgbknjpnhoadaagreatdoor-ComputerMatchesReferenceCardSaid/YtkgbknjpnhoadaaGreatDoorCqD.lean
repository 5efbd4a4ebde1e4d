/-
  The contract of computer.Perform.
-/
import Derived.Test.YtkgbknjpnhoadaaGreatDoorCqC
namespace Go.Proofs.YtkgbknjpnhoadaaGreatDoor
open Go.RowKit Go.Shelf

theorem below_drewN {B : Nat} {a w : World} (h : Below B a w) (n : Nat) : Below B a (w.drewN n) := ⟨h.os, h.tape, h.output, h.size, h.block⟩
def cpu0 (keys : List Ev) : Cpu := ⟨List.replicate 256 0, List.replicate 256 0, 0, 0, 0, keys⟩
theorem build77 (a : Option Addr) (n c : Nat) (keys : List Ev) (w : World) :
    (Instr.build 77 #[(0, .slice a n c)]).run Tryz.prog w = .ok (.agg (cpuCells (.slice a n c) (cpu0 keys)).toArray) w := by kernel_rfl

theorem nums_app (l r : List Nat) : nums (l ++ r) = nums l ++ nums r := by simp [nums]
theorem nums_bytes (s : List UInt8) : (s.map fun x => Value.int .u8 (x.toNat : Int)) = nums (s.map (·.toNat)) := by rw [nums, List.map_map]; rfl
theorem nums_drop (N k : Nat) : (nums (List.replicate N 0)).drop k = nums (List.replicate (N - k) 0) := by rw [nums, nums, ← List.map_drop, List.drop_replicate]
theorem splice_mem (kv : Value) (s : List UInt8) (d : List Nat) (keys : List Ev) (hs : s.length ≤ 256) :
    (cpuCells kv ⟨List.replicate 256 0, d, 0, 0, 0, keys⟩).take 1 ++ nums (s.map (·.toNat)) ++ (cpuCells kv ⟨List.replicate 256 0, d, 0, 0, 0, keys⟩).drop (1 + (nums (s.map (·.toNat))).length) = cpuCells kv ⟨loaded s, d, 0, 0, 0, keys⟩ := by
  unfold cpuCells loaded
  dsimp only
  rw [nums_app, nums_len, List.length_map, List.take_succ_cons, List.take_zero, Nat.add_comm 1, List.drop_succ_cons, List.drop_append_of_le_length (by rw [nums_len, List.length_replicate]; exact hs)]
  rw [nums_drop]
  simp only [List.append_assoc, List.cons_append, List.nil_append]
theorem splice_disk (kv : Value) (m : List Nat) (s : List UInt8) (keys : List Ev) (hm : m.length = 256) (hs : s.length ≤ 256) :
    (cpuCells kv ⟨m, List.replicate 256 0, 0, 0, 0, keys⟩).take 257 ++ nums (s.map (·.toNat)) ++ (cpuCells kv ⟨m, List.replicate 256 0, 0, 0, 0, keys⟩).drop (257 + (nums (s.map (·.toNat))).length) = cpuCells kv ⟨m, loaded s, 0, 0, 0, keys⟩ := by
  have h1 : (nums m).length = 256 := by rw [nums_len, hm]
  unfold cpuCells loaded
  dsimp only
  rw [nums_app, nums_len, List.length_map, show 257 + s.length = 256 + s.length + 1 from by omega, List.take_succ_cons, List.drop_succ_cons, List.take_append_of_le_length (by omega), List.take_of_length_le (by omega), List.drop_append, List.drop_of_length_le (by omega), h1, show 256 + s.length - 256 = s.length from by omega, List.drop_append_of_le_length (by rw [nums_len, List.length_replicate]; exact hs)]
  rw [nums_drop]
  simp only [List.append_assoc, List.cons_append, List.nil_append]

theorem zero77 (a : Option Addr) (n c : Nat) (keys : List Ev) : Tryz.zeroCells77.setIfInBounds 0 (.slice a n c) = (cpuCells (.slice a n c) (cpu0 keys)).toArray := by kernel_rfl
theorem copy_at (W : World) (B o : Nat) (L L' : List Value) (s : ByteArray) (hA : Arr W B 77 L) (hs : s.size ≤ 256) (ho : o + 256 ≤ L.length)
    (hL : L.take o ++ nums (s.data.toList.map (·.toNat)) ++ L.drop (o + (nums (s.data.toList.map (·.toNat))).length) = L') :
    ∃ W', (Builtin.copy_ #[41, 9] 3 #[.slice (some ⟨B, o, none⟩) 256 256, .string s]).run Tryz.prog W = .ok (goInt s.size) W' ∧ Arr W' B 77 L' ∧ ∀ (n : Nat) (a : World), Below n a W → n ≤ B → Below n a W' := by
  have hl : s.data.toList.length = s.size := by simp
  refine ⟨_, run_copy_string (P := Tryz.prog) W _ _ _ _ B o 256 256 s Tryz.underlying41 Tryz.sizeOf5 hs (fun j hj => ?_) (fun j _ => hA.free _), ?_, fun n a h hn => below_setCells hn _ _ _ h⟩
  · obtain ⟨v, hv⟩ : ∃ v, L[o + j]? = some v := ⟨_, List.getElem?_eq_getElem (by omega)⟩
    rw [hA.cell hv]
    rfl
  · rw [nums_bytes, ← hL]
    exact Arr.splice _ _ _ _ hA (by rw [nums_len, List.length_map, hl]; omega)
theorem cpuCells_len (kv : Value) (x : Cpu) : (cpuCells kv x).length = x.mem.length + x.disk.length + 4 := by
  simp [cpuCells, nums_len]; omega

theorem own_mono {w : World} {B C n s : Nat} {e : TypeId} {v : Value} {xs : List Value} (h : w.ownsRow C e s v n xs) (hle : B ≤ C) : w.ownsRow B e s v n xs :=
  ⟨h.1, h.2.imp id fun ⟨g, cap, cur, hv, hB, r⟩ => ⟨g, cap, cur, hv, Nat.le_trans hle hB, r⟩⟩
def perfL (p d : ByteArray) (keys : List Ev) (most : Int) : List Ev := if perfOk p.data.toList d.data.toList keys most then perf p.data.toList d.data.toList keys most.toNat else []
def perfE (p d : ByteArray) (keys : List Ev) (most : Int) : Int := if perfOk p.data.toList d.data.toList keys most then 0 else 120

set_option maxRecDepth 100000 in
set_option maxHeartbeats 4000000 in
theorem Perform_any (p d : ByteArray) (kv : Value) (keys : List Ev) (most : Int) (w : World) (hk : SliceAt w w.heap.size kv keys.length (evCells keys)) :
    Calls Tryz.prog 19 #[.string p, .string d, kv, .int .i64 most] w fun e w' => ∃ v, e = .returned (.tuple #[v, .int .i64 (perfE p d keys most)]) ∧
      w'.ownsRow w.heap.size 39 4 v (perfL p d keys most).length (evCells (perfL p d keys most)) ∧ Below w.heap.size w w' := by
  have hV := Valid_any p d
  have hkw : ∀ w1, Below w.heap.size w w1 → SliceAt w1 w1.heap.size kv keys.length (evCells keys) := fun w1 hb1 => by
    obtain ⟨a', c', hv', k1, k2, hc'⟩ := hk.below hb1 (Nat.le_refl _)
    exact ⟨a', c', hv', k1, k2, fun h => by
      obtain ⟨b, o, ha, hb, hx⟩ := hc' h
      exact ⟨b, o, ha, Nat.lt_of_lt_of_le hb hb1.size, hx⟩⟩
  have hK : ∀ w1, Below w.heap.size w w1 → _ := fun w1 hb1 => areKeys_any kv keys w1 (hkw w1 hb1)
  cases hq1 : progOk p.data.toList d.data.toList with
  | false =>
    have h0 : perfOk p.data.toList d.data.toList keys most = false := by simp [perfOk, hq1]
    rw [perfE, perfL, h0]
    rw [hq1] at hV
    replace hV := Lib.hid hV
    clear hK hk hkw
    go_enter Tryz.func19, Tryz.ntmps19
    go_wp2_with (go_at_call 26; refine (hV.out _).mono ?_; rintro e w1 ⟨rfl, q1, rfl⟩)
    go_ret2
    exact ⟨_, rfl, World.ownsRow_nil _ _ _ _, by repeat first | exact Below.refl _ _ | refine below_drewN ?_ _ | refine Below.drew ?_⟩
  | true =>
    rw [hq1] at hV
    replace hV := Lib.hid hV
    cases hq2 : keysOk keys with
    | false =>
      have h0 : perfOk p.data.toList d.data.toList keys most = false := by simp [perfOk, hq2]
      rw [perfE, perfL, h0]
      simp only [hq2] at hK
      replace hK := Lib.hid hK
      clear hk hkw
      go_enter Tryz.func19, Tryz.ntmps19
      go_wp2_with (first
        | (go_at_call 26; refine (hV.out _).mono ?_; rintro e w1 ⟨rfl, q1, rfl⟩; have hb1 := below_drewN (Below.refl w.heap.size w) q1)
        | (go_at_call 37; refine (hK.out _ hb1).mono ?_; rintro e w2 ⟨rfl, hb2⟩))
      go_ret2
      exact ⟨_, rfl, World.ownsRow_nil _ _ _ _, hb1.trans (hb2.mono hb1.size)⟩
    | true =>
      simp only [hq2] at hK
      replace hK := Lib.hid hK
      by_cases hm : 0 ≤ most ∧ most ≤ 20000
      · obtain ⟨hm0, hm1⟩ := hm
        obtain ⟨most, rfl⟩ : ∃ n : Nat, most = (n : Int) := ⟨most.toNat, by omega⟩
        have h0 : perfOk p.data.toList d.data.toList keys most = true := by
          simp only [perfOk, hq1, hq2, Bool.true_and, Bool.and_eq_true, decide_eq_true_eq]
          omega
        rw [perfE, perfL, h0]
        have hpd : p.size ≤ 256 ∧ d.size ≤ 256 := by
          simp only [progOk, Bool.and_eq_true, decide_eq_true_eq, Array.length_toList] at hq1
          exact ⟨hq1.1.1, hq1.2⟩
        obtain ⟨hps, hds⟩ := hpd
        have hpl : p.data.toList.length ≤ 256 := by simpa using hps
        have hdl : d.data.toList.length ≤ 256 := by simpa using hds
        have hd : decide ((most : Int) < 0) = false := by simp
        have hd2 : decide (20000 < (most : Int)) = false := by simp; omega
        have hC : ∀ w1, Below w.heap.size w w1 → _ := fun w1 hb1 => CloneE_any kv keys w1 (by simp only [keysOk, Bool.and_eq_true, decide_eq_true_eq] at hq2; omega) (hkw w1 hb1)
        replace hC := Lib.hid hC
        clear hk hkw
        go_enter Tryz.func19, Tryz.ntmps19
        go_wp2_with (first
          | (go_at_call 26; refine (hV.out _).mono ?_; rintro e w1 ⟨rfl, q1, rfl⟩; have hb1 := below_drewN (Below.refl w.heap.size w) q1)
          | (go_at_call 37; refine (hK.out _ hb1).mono ?_; rintro e w2 ⟨rfl, hb2⟩; have hb3 := hb1.trans (hb2.mono hb1.size)))
        refine (hC.out _ hb3).mono ?_
        rintro e w3 ⟨v', rfl, hs3, hb4⟩
        obtain ⟨a3, c3, rfl, hs4⟩ := hs3
        obtain ⟨W1, hW1⟩ : ∃ W1, W1 = w3.alloc (.cells (Tryz.zeroCells77.setIfInBounds 0 (.slice a3 keys.length c3)) 77) := ⟨_, rfl⟩
        have hA1 : Arr W1 w3.heap.size 77 (cpuCells (.slice a3 keys.length c3) (cpu0 keys)) := by (rw [hW1]; exact Arr.new (zero77 a3 keys.length c3 keys) rfl)
        have hB1 : Below w3.heap.size w3 W1 := by (rw [hW1]; exact (Below.refl _ _).alloc (Nat.le_refl _) _)
        obtain ⟨W2, hcp1, hA2, hB2⟩ := copy_at W1 w3.heap.size 1 _ _ p hA1 hps (by rw [cpuCells_len]; simp only [cpu0, List.length_replicate]; omega) (splice_mem _ p.data.toList _ keys hpl)
        obtain ⟨W3, hcp2, hA3, hB3⟩ := copy_at W2 w3.heap.size 257 _ _ d hA2 hds (by rw [cpuCells_len]; simp only [List.length_replicate, loaded_len hpl]; omega) (splice_disk _ _ d.data.toList keys (loaded_len hpl) hdl)
        rw [hW1] at hcp1
        have hb5 := hb3.trans (hb4.mono hb3.size)
        have hb6 := hB3 _ _ (hB2 _ _ hB1 (Nat.le_refl _)) (Nat.le_refl _)
        clear hb1 hb2 hb3 hb4 hA1 hA2 hB1 hB2 hB3 hW1
        go_wp2_with (fail)
        have hwf : (⟨loaded p.data.toList, loaded d.data.toList, 0, 0, 0, keys⟩ : Cpu).WF := ⟨loaded_len hpl, loaded_len hdl, loaded_lt _, loaded_lt _, Nat.zero_lt_succ _, Nat.zero_lt_succ _, fun k hk => by
          simp only [keysOk, Bool.and_eq_true, List.all_eq_true] at hq2
          exact hq2.1.2 k hk⟩
        have hCpu : CpuAt W3 w3.heap.size ⟨loaded p.data.toList, loaded d.data.toList, 0, 0, 0, keys⟩ := ⟨hwf, _, hA3, SliceAt.below (C := w3.heap.size) ⟨a3, c3, rfl, hs4⟩ hb6 (Nat.le_refl _)⟩
        have hb7 := hb5.trans (hb6.mono hb5.size)
        have hsz := hb5.size
        replace hsz := Lib.hid hsz
        clear hcp1 hcp2 hA3 hs4 hwf hb5 hb6
        refine (run_any w3.heap.size (most : Int) W3).mono ?_
        rintro e w5 ⟨rfl, r1, r2, hb8⟩
        go_wp2_with (fail)
        refine (CollectE_any w3.heap.size W3.heap.size (W3.heap.size + 1) most _ w5 (by omega) rfl (hCpu.below hb8) r1 r2).mono ?_
        rintro e w6 ⟨v6, rfl, ho, hbb⟩
        have hb9 := hb7.trans (hb8.mono hb7.size)
        go_wp2_with (fail)
        go_ret2
        refine ⟨v6, rfl, own_mono ho hb9.size, hb9.trans (BelowBut.below hbb hsz.out hb9.size)⟩
      · have h0 : perfOk p.data.toList d.data.toList keys most = false := by
          simp only [perfOk, hq1, hq2, Bool.true_and, Bool.and_eq_false_iff, decide_eq_false_iff_not]
          omega
        rw [perfE, perfL, h0]
        clear hk hkw
        by_cases hm0 : most < 0
        · have hd : decide (most < 0) = true := by simpa using hm0
          go_enter Tryz.func19, Tryz.ntmps19
          go_wp2_with (first
            | (go_at_call 26; refine (hV.out _).mono ?_; rintro e w1 ⟨rfl, q1, rfl⟩; have hb1 := below_drewN (Below.refl w.heap.size w) q1)
            | (go_at_call 37; refine (hK.out _ hb1).mono ?_; rintro e w2 ⟨rfl, hb2⟩))
          go_ret2
          exact ⟨_, rfl, World.ownsRow_nil _ _ _ _, hb1.trans (hb2.mono hb1.size)⟩
        · have hd : decide (most < 0) = false := by simpa using hm0
          have hd2 : decide (20000 < most) = true := by simp; omega
          go_enter Tryz.func19, Tryz.ntmps19
          go_wp2_with (first
            | (go_at_call 26; refine (hV.out _).mono ?_; rintro e w1 ⟨rfl, q1, rfl⟩; have hb1 := below_drewN (Below.refl w.heap.size w) q1)
            | (go_at_call 37; refine (hK.out _ hb1).mono ?_; rintro e w2 ⟨rfl, hb2⟩))
          go_ret2
          exact ⟨_, rfl, World.ownsRow_nil _ _ _ _, hb1.trans (hb2.mono hb1.size)⟩
end Go.Proofs.YtkgbknjpnhoadaaGreatDoor
