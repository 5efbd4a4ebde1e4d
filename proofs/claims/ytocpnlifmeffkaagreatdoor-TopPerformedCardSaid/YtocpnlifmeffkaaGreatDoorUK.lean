/-
  The contract of slices' symMerge at what is in order: nothing is written.
  The contract of slices.SortStableFunc at what is in order: nothing is written.
  Groups of events by class: keys, maps.
-/
import Derived.Test.YtocpnlifmeffkaaGreatDoorUJ
import Derived.Maps.OwnRows
import Derived.Maps.Views
import Derived.Maps.RangeWalk
import Derived.Maps.GroupsBeside
import Derived.DeepKeys4
namespace Go.Proofs.YtocpnlifmeffkaaGreatDoor
open Go.RowKit Go.Shelf

attribute [local go_sem] Oper.semAt_some

/-- Places that are in order of time, and what is asked to compare them. -/
structure SrtOk (w : World) (bx g cap : Nat) (zs : List Nat) (m : List Ev) : Prop where
  cells : ∀ j, j < zs.length → w.cell? ⟨g, j, none⟩ = some (.int .i64 ((zs[j]! : Nat) : Int))
  inM : ∀ j, j < zs.length → zs[j]! < m.length
  ord : ∀ i j, i ≤ j → j < zs.length → m[zs[i]!]!.t ≤ m[zs[j]!]!.t
  evs : ∀ n, EvsAt (w.drewN n) bx m
  cap1 : zs.length ≤ cap
  cap2 : cap ≤ 9223372036854775807
  len : zs.length ≤ 1000
theorem SrtOk.drewN {w : World} {bx g cap : Nat} {zs : List Nat} {m : List Ev} (h : SrtOk w bx g cap zs m) (q : Nat) : SrtOk (w.drewN q) bx g cap zs m :=
  ⟨h.cells, h.inM, h.ord, fun n => by rw [World.drewN_drewN]; exact h.evs _, h.cap1, h.cap2, h.len⟩
theorem SrtOk.cmp {w : World} {bx g cap : Nat} {zs : List Nat} {m : List Ev} (h : SrtOk w bx g cap zs m) {i j : Nat} (hi : i < zs.length) (hj : j < zs.length) (n : Nat) :
    Calls Tryz.prog 80 #[.int .i64 ((zs[i]! : Nat) : Int), .int .i64 ((zs[j]! : Nat) : Int), .pointer (some ⟨bx, 0, none⟩)] (w.drewN n) fun e w' => e = .returned (.int .i64 (cmpI m[zs[i]!]!.t m[zs[j]!]!.t)) ∧ ∃ q, w' = (w.drewN n).drewN q :=
  byClass1_any bx m _ _ _ (h.inM i hi) (h.inM j hj) (h.evs n)
theorem SrtOk.not {w : World} {bx g cap : Nat} {zs : List Nat} {m : List Ev} (h : SrtOk w bx g cap zs m) {i j : Nat} (hij : j ≤ i) (hi : i < zs.length) : decide (cmpI m[zs[i]!]!.t m[zs[j]!]!.t < 0) = false := by
  have := h.ord j i hij hi
  unfold cmpI
  simp only [decide_eq_false_iff_not]
  split
  · omega
  · split <;> omega
def symA (bx g cap : Nat) (zs : List Nat) (a m b : Nat) : Array Value := #[.slice (some ⟨g, 0, none⟩) zs.length cap, .int .i64 (a : Int), .int .i64 (m : Int), .int .i64 (b : Int), .func (.func 80) #[] #[.pointer (some ⟨bx, 0, none⟩)]]
set_option maxRecDepth 100000 in
set_option maxHeartbeats 8000000 in
theorem sym1_any (bx g cap a b : Nat) (zs : List Nat) (l : List Ev) (w : World) (hb : a + 1 < b) (hbn : b ≤ zs.length) (hS : SrtOk w bx g cap zs l) :
    Calls Tryz.prog 198 (symA bx g cap zs a (a + 1) b) w fun e w' => (∃ r, e = .returned r) ∧ ∃ q, w' = w.drewN q := by
  have hN := hS.len
  have hc1 := hS.cap1
  have hc2 := hS.cap2
  have hS' := Lib.hid hS
  clear hS
  unfold symA
  rw [show ((a + 1 : Nat) : Int) = (a : Int) + 1 from rfl]
  have hone : (a : Int) + 1 - (a : Int) = 1 := by omega
  go_enter Tryz.func198, Tryz.ntmps198
  go_wp2_with fail
  go_loopw [10, 11] (fun ii jj wr => ∃ j q : Nat, a + 1 ≤ j ∧ j ≤ b ∧ ii = .int .i64 ((a : Int) + 1) ∧ jj = .int .i64 (j : Int) ∧ wr = w.drewN q) (fun _ jj _ => (intOf jj).toNat)
  case atStart => exact ⟨b, 0, by omega, Nat.le_refl _, rfl, rfl, rfl⟩
  case round =>
    obtain ⟨j, q, hj0, hj1, rfl, rfl, rfl⟩ := hrel
    by_cases hlt : a + 1 < j
    · have hd : decide ((a : Int) + 1 < (j : Int)) = true := by simp; omega
      obtain ⟨h, hh⟩ : ∃ h, h = (a + 1 + j) / 2 := ⟨_, rfl⟩
      have hhi : ((a : Int) + 1 + (j : Int)) / 2 = (h : Int) := by omega
      have hh0 : a + 1 ≤ h := by omega
      have hh1 : h < j := by omega
      obtain ⟨W, hW⟩ : ∃ W, W = w.drewN q := ⟨_, rfl⟩
      have hSW : SrtOk W bx g cap zs l := by rw [hW]; exact hS'.out.drewN q
      rw [← hW]
      have hcm := Lib.hid fun n => hSW.cmp (i := h) (j := a) (by omega) (by omega) n
      have z1 := hSW.cells h (by omega)
      have z2 := hSW.cells a (by omega)
      have hnot := hSW.not (i := h) (j := a) (by omega) (by omega)
      have i1 : (h : Int) < (zs.length : Int) := by omega
      have i2 : (a : Int) < (zs.length : Int) := by omega
      generalize zs[h]! = x at *
      generalize zs[a]! = y at *
      generalize l[x]!.t = tx at *
      generalize l[y]!.t = ty at *
      replace hh := Lib.hid hh
      replace hW := Lib.hid hW
      clear hSW
      go_wp2_with fail
      go_quiet (first | (with_reducible refine Calls.quiet_of (hcm.out _)))
      go_wp2_with fail
      exact ⟨⟨h, _, hh0, by omega, rfl, rfl, by rw [hW.out, World.drewN_drewN]⟩, by simp [intOf]; omega⟩
    · obtain rfl : j = a + 1 := by omega
      have hd : decide ((a : Int) + 1 < ((a + 1 : Nat) : Int)) = false := by simp
      go_wp2_with fail
      go_loopw [13] (fun kk wr => kk = .int .i64 (a : Int) ∧ wr = w.drewN q) (fun _ _ => 0)
      case atStart => exact ⟨rfl, rfl⟩
      case round =>
        obtain ⟨rfl, rfl⟩ := hrel
        have hd2 : decide ((a : Int) < (a : Int)) = false := by simp
        go_wp2_with fail
        refine bodyPost_ret (results_none rfl _ _ _) rfl ?_
        exact ⟨⟨_, rfl⟩, ⟨_, rfl⟩⟩
set_option maxRecDepth 100000 in
set_option maxHeartbeats 8000000 in
theorem sym2_any (bx g cap a m : Nat) (zs : List Nat) (l : List Ev) (w : World) (ham : a + 1 < m) (hbn : m + 1 ≤ zs.length) (hS : SrtOk w bx g cap zs l) :
    Calls Tryz.prog 198 (symA bx g cap zs a m (m + 1)) w fun e w' => (∃ r, e = .returned r) ∧ ∃ q, w' = w.drewN q := by
  have hN := hS.len
  have hc1 := hS.cap1
  have hc2 := hS.cap2
  have hS' := Lib.hid hS
  clear hS
  unfold symA
  rw [show ((m + 1 : Nat) : Int) = (m : Int) + 1 from rfl]
  have hno : ((m : Int) - (a : Int) == 1) = false := by rw [beq_eq_false_iff_ne]; omega
  have hone : (m : Int) + 1 - (m : Int) = 1 := by omega
  go_enter Tryz.func198, Tryz.ntmps198
  go_wp2_with fail
  go_loopw [14, 15] (fun ii jj wr => ∃ i q : Nat, a ≤ i ∧ i ≤ m ∧ ii = .int .i64 (i : Int) ∧ jj = .int .i64 (m : Int) ∧ wr = w.drewN q) (fun ii _ _ => m - (intOf ii).toNat)
  case atStart => exact ⟨a, 0, Nat.le_refl _, by omega, rfl, rfl, rfl⟩
  case round =>
    obtain ⟨i, q, hi0, hi1, rfl, rfl, rfl⟩ := hrel
    by_cases hlt : i < m
    · have hd : decide ((i : Int) < (m : Int)) = true := by simp; omega
      obtain ⟨h, hh⟩ : ∃ h, h = (i + m) / 2 := ⟨_, rfl⟩
      have hhi : ((i : Int) + (m : Int)) / 2 = (h : Int) := by omega
      have hh0 : i ≤ h := by omega
      have hh1 : h < m := by omega
      obtain ⟨W, hW⟩ : ∃ W, W = w.drewN q := ⟨_, rfl⟩
      have hSW : SrtOk W bx g cap zs l := by rw [hW]; exact hS'.out.drewN q
      rw [← hW]
      have hcm := Lib.hid fun n => hSW.cmp (i := m) (j := h) (by omega) (by omega) n
      have z1 := hSW.cells m (by omega)
      have z2 := hSW.cells h (by omega)
      have hnot := hSW.not (i := m) (j := h) (by omega) (by omega)
      have i1 : (h : Int) < (zs.length : Int) := by omega
      have i2 : (m : Int) < (zs.length : Int) := by omega
      generalize zs[m]! = x at *
      generalize zs[h]! = y at *
      generalize l[x]!.t = tx at *
      generalize l[y]!.t = ty at *
      replace hh := Lib.hid hh
      replace hW := Lib.hid hW
      clear hSW
      go_wp2_with fail
      go_quiet (first | (with_reducible refine Calls.quiet_of (hcm.out _)))
      go_wp2_with fail
      exact ⟨⟨h + 1, _, by omega, by omega, rfl, rfl, by rw [hW.out, World.drewN_drewN]⟩, by simp [intOf]; omega⟩
    · obtain rfl : i = m := by omega
      have hd : decide ((i : Int) < (i : Int)) = false := by simp
      go_wp2_with fail
      go_loopw [17] (fun kk wr => kk = .int .i64 (i : Int) ∧ wr = w.drewN q) (fun _ _ => 0)
      case atStart => exact ⟨rfl, rfl⟩
      case round =>
        obtain ⟨rfl, rfl⟩ := hrel
        go_wp2_with fail
        refine bodyPost_ret (results_none rfl _ _ _) rfl ?_
        exact ⟨⟨_, rfl⟩, ⟨_, rfl⟩⟩
set_option maxRecDepth 100000 in
set_option maxHeartbeats 8000000 in
theorem sym3a_any (bx g cap a m b : Nat) (zs : List Nat) (l : List Ev) (w : World) (ham : a + 1 < m) (hmb : m + 1 < b) (hbn : b ≤ zs.length) (hS : SrtOk w bx g cap zs l) (mid : Nat) (hmid : mid = (a + b) / 2) (hcase : mid < m)
    (hIH : ∀ q, Calls Tryz.prog 198 (symA bx g cap zs mid m b) (w.drewN q) fun e w' => (∃ r, e = .returned r) ∧ ∃ q2, w' = (w.drewN q).drewN q2) :
    Calls Tryz.prog 198 (symA bx g cap zs a m b) w fun e w' => (∃ r, e = .returned r) ∧ ∃ q, w' = w.drewN q := by
  have hN := hS.len
  have hc1 := hS.cap1
  have hc2 := hS.cap2
  have hS' := Lib.hid hS
  have hIH' := Lib.hid hIH
  clear hS hIH
  unfold symA at *
  have hno : ((m : Int) - (a : Int) == 1) = false := by rw [beq_eq_false_iff_ne]; omega
  have hno2 : ((b : Int) - (m : Int) == 1) = false := by rw [beq_eq_false_iff_ne]; omega
  have hmi : ((a : Int) + (b : Int)) / 2 = (mid : Int) := by omega
  have hm0 : a < mid := by omega
  have hm1 : mid < b := by omega
  replace hmid := Lib.hid hmid
  have hgt : decide ((m : Int) > (mid : Int)) = true := by simp; omega
  have hgt2 : decide ((mid : Int) < (m : Int)) = true := by simp; omega
  have hgt3 : decide (mid < m) = true := by simp; omega
  go_enter Tryz.func198, Tryz.ntmps198
  go_wp2_with fail
  go_loopw [20, 21] (fun ii jj wr => ∃ i q : Nat, mid + m - b ≤ i ∧ i ≤ mid ∧ ii = .int .i64 (i : Int) ∧ jj = .int .i64 (mid : Int) ∧ wr = w.drewN q) (fun ii _ _ => mid - (intOf ii).toNat)
  case atStart => exact ⟨mid + m - b, 0, Nat.le_refl _, by omega, by first | rfl | (congr 1; omega), rfl, rfl⟩
  case round =>
    obtain ⟨i, q, hi0, hi1, rfl, rfl, rfl⟩ := hrel
    by_cases hlt : i < mid
    · have hd : decide ((i : Int) < (mid : Int)) = true := by simp; omega
      obtain ⟨h, hh⟩ : ∃ h, h = (i + mid) / 2 := ⟨_, rfl⟩
      have hhi : ((i : Int) + (mid : Int)) / 2 = (h : Int) := by omega
      have hh0 : i ≤ h := by omega
      have hh1 : h < mid := by omega
      obtain ⟨c, hc⟩ : ∃ c, c = mid + m - 1 - h := ⟨_, rfl⟩
      have hci : (mid : Int) + (m : Int) - 1 - (h : Int) = (c : Int) := by omega
      have hc3 : c < zs.length := by omega
      have hch : h ≤ c := by omega
      obtain ⟨W, hW⟩ : ∃ W, W = w.drewN q := ⟨_, rfl⟩
      have hSW : SrtOk W bx g cap zs l := by rw [hW]; exact hS'.out.drewN q
      rw [← hW]
      have hcm := Lib.hid fun n => hSW.cmp (i := c) (j := h) hc3 (by omega) n
      have z1 := hSW.cells c hc3
      have z2 := hSW.cells h (by omega)
      have hnot := hSW.not (i := c) (j := h) hch hc3
      have i1 : (h : Int) < (zs.length : Int) := by omega
      have i2 : (c : Int) < (zs.length : Int) := by omega
      generalize zs[c]! = x at *
      generalize zs[h]! = y at *
      generalize l[x]!.t = tx at *
      generalize l[y]!.t = ty at *
      replace hh := Lib.hid hh
      replace hc := Lib.hid hc
      replace hW := Lib.hid hW
      clear hSW hgt hgt2 hgt3 hno hno2
      go_wp2_with fail
      go_quiet (first | (with_reducible refine Calls.quiet_of (hcm.out _)))
      go_wp2_with fail
      exact ⟨⟨h + 1, _, by omega, by omega, rfl, rfl, by rw [hW.out, World.drewN_drewN]⟩, by simp [intOf]; omega⟩
    · obtain rfl : i = mid := by omega
      have hd : decide ((i : Int) < (i : Int)) = false := by simp
      have hend : (i : Int) + (m : Int) - (i : Int) = (m : Int) := by omega
      have d1 : decide ((i : Int) < (m : Int)) = true := by simp; omega
      have d2 : decide ((a : Int) < (i : Int)) = true := by simp; omega
      have d3 : decide ((m : Int) < (b : Int)) = true := by simp; omega
      go_wp2_with (go_at_call 198; refine (hIH'.out q).mono ?_; rintro e w3 ⟨⟨r, rfl⟩, q2, rfl⟩)
      go_end0
      exact ⟨⟨_, rfl⟩, ⟨_, rfl⟩⟩
set_option maxRecDepth 100000 in
set_option maxHeartbeats 8000000 in
theorem sym3b_any (bx g cap a m b : Nat) (zs : List Nat) (l : List Ev) (w : World) (ham : a + 1 < m) (hmb : m + 1 < b) (hbn : b ≤ zs.length) (hS : SrtOk w bx g cap zs l) (mid : Nat) (hmid : mid = (a + b) / 2) (hcase : m ≤ mid)
    (hIH : ∀ q, m < mid → Calls Tryz.prog 198 (symA bx g cap zs a m mid) (w.drewN q) fun e w' => (∃ r, e = .returned r) ∧ ∃ q2, w' = (w.drewN q).drewN q2) :
    Calls Tryz.prog 198 (symA bx g cap zs a m b) w fun e w' => (∃ r, e = .returned r) ∧ ∃ q, w' = w.drewN q := by
  have hN := hS.len
  have hc1 := hS.cap1
  have hc2 := hS.cap2
  have hS' := Lib.hid hS
  have hIH' := Lib.hid hIH
  clear hS hIH
  unfold symA at *
  have hno : ((m : Int) - (a : Int) == 1) = false := by rw [beq_eq_false_iff_ne]; omega
  have hno2 : ((b : Int) - (m : Int) == 1) = false := by rw [beq_eq_false_iff_ne]; omega
  have hmi : ((a : Int) + (b : Int)) / 2 = (mid : Int) := by omega
  have hm0 : a < mid := by omega
  have hm1 : mid < b := by omega
  replace hmid := Lib.hid hmid
  have hgt : decide ((m : Int) > (mid : Int)) = false := by simp; omega
  have hgt2 : decide ((mid : Int) < (m : Int)) = false := by simp; omega
  have hgt3 : decide (mid < m) = false := by simp; omega
  go_enter Tryz.func198, Tryz.ntmps198
  go_wp2_with fail
  go_loopw [20, 21] (fun ii jj wr => ∃ i q : Nat, a ≤ i ∧ i ≤ m ∧ ii = .int .i64 (i : Int) ∧ jj = .int .i64 (m : Int) ∧ wr = w.drewN q) (fun ii _ _ => m - (intOf ii).toNat)
  case atStart => exact ⟨a, 0, Nat.le_refl _, by omega, by first | rfl | (congr 1; omega), rfl, rfl⟩
  case round =>
    obtain ⟨i, q, hi0, hi1, rfl, rfl, rfl⟩ := hrel
    by_cases hlt : i < m
    · have hd : decide ((i : Int) < (m : Int)) = true := by simp; omega
      obtain ⟨h, hh⟩ : ∃ h, h = (i + m) / 2 := ⟨_, rfl⟩
      have hhi : ((i : Int) + (m : Int)) / 2 = (h : Int) := by omega
      have hh0 : i ≤ h := by omega
      have hh1 : h < m := by omega
      obtain ⟨c, hc⟩ : ∃ c, c = mid + m - 1 - h := ⟨_, rfl⟩
      have hci : (mid : Int) + (m : Int) - 1 - (h : Int) = (c : Int) := by omega
      have hc3 : c < zs.length := by omega
      have hch : h ≤ c := by omega
      obtain ⟨W, hW⟩ : ∃ W, W = w.drewN q := ⟨_, rfl⟩
      have hSW : SrtOk W bx g cap zs l := by rw [hW]; exact hS'.out.drewN q
      rw [← hW]
      have hcm := Lib.hid fun n => hSW.cmp (i := c) (j := h) hc3 (by omega) n
      have z1 := hSW.cells c hc3
      have z2 := hSW.cells h (by omega)
      have hnot := hSW.not (i := c) (j := h) hch hc3
      have i1 : (h : Int) < (zs.length : Int) := by omega
      have i2 : (c : Int) < (zs.length : Int) := by omega
      generalize zs[c]! = x at *
      generalize zs[h]! = y at *
      generalize l[x]!.t = tx at *
      generalize l[y]!.t = ty at *
      replace hh := Lib.hid hh
      replace hc := Lib.hid hc
      replace hW := Lib.hid hW
      clear hSW hgt hgt2 hgt3 hno hno2
      go_wp2_with fail
      go_quiet (first | (with_reducible refine Calls.quiet_of (hcm.out _)))
      go_wp2_with fail
      exact ⟨⟨h + 1, _, by omega, by omega, rfl, rfl, by rw [hW.out, World.drewN_drewN]⟩, by simp [intOf]; omega⟩
    · obtain rfl : i = m := by omega
      have hd : decide ((i : Int) < (i : Int)) = false := by simp
      have hend : (mid : Int) + (i : Int) - (i : Int) = (mid : Int) := by omega
      have d0 : decide ((i : Int) < (mid : Int)) = decide (i < mid) := by simp
      have d2 : decide ((a : Int) < (i : Int)) = true := by simp; omega
      by_cases hmm : i < mid
      · have d1 : decide ((i : Int) < (mid : Int)) = true := by simp; omega
        clear d0
        go_wp2_with (go_at_call 198; refine (hIH'.out q hmm).mono ?_; rintro e w3 ⟨⟨r, rfl⟩, q2, rfl⟩)
        go_end0
        exact ⟨⟨_, rfl⟩, ⟨_, rfl⟩⟩
      · have d1 : decide ((i : Int) < (mid : Int)) = false := by simp; omega
        clear d0
        go_wp2_with fail
        go_end0
        exact ⟨⟨_, rfl⟩, ⟨_, rfl⟩⟩
/-- At what is in order symMerge writes nothing. -/
theorem sym_any (bx g cap : Nat) (zs : List Nat) (l : List Ev) : ∀ (d a m b : Nat) (w : World), b - a ≤ d → a < m → m < b → b ≤ zs.length → SrtOk w bx g cap zs l →
    Calls Tryz.prog 198 (symA bx g cap zs a m b) w fun e w' => (∃ r, e = .returned r) ∧ ∃ q, w' = w.drewN q
  | 0, a, m, b, w, hd, ham, hmb, _, _ => by omega
  | d + 1, a, m, b, w, hd, ham, hmb, hb, hS => by
    by_cases h1 : m = a + 1
    · subst h1
      exact sym1_any bx g cap a b zs l w hmb hb hS
    · by_cases h2 : b = m + 1
      · subst h2
        exact sym2_any bx g cap a m zs l w (by omega) hb hS
      · by_cases h3 : (a + b) / 2 < m
        · exact sym3a_any bx g cap a m b zs l w (by omega) (by omega) hb hS _ rfl h3 fun q => sym_any bx g cap zs l d _ _ _ _ (by omega) h3 hmb hb (hS.drewN q)
        · exact sym3b_any bx g cap a m b zs l w (by omega) (by omega) hb hS _ rfl (by omega) fun q h4 => sym_any bx g cap zs l d _ _ _ _ (by omega) ham h4 (by omega) (hS.drewN q)
end Go.Proofs.YtocpnlifmeffkaaGreatDoor
namespace Go.Proofs.YtocpnlifmeffkaaGreatDoor
open Go.RowKit Go.Shelf

attribute [local go_sem] Oper.semAt_some

set_option maxRecDepth 100000 in
set_option maxHeartbeats 8000000 in
theorem stable_any (bx g cap : Nat) (zs : List Nat) (l : List Ev) (w : World) (hS : SrtOk w bx g cap zs l) :
    Calls Tryz.prog 152 #[.slice (some ⟨g, 0, none⟩) zs.length cap, .int .i64 (zs.length : Int), .func (.func 80) #[] #[.pointer (some ⟨bx, 0, none⟩)]] w fun e w' => (∃ r, e = .returned r) ∧ ∃ q, w' = w.drewN q := by
  have hN := hS.len
  have hI := Lib.hid fun (a b : Nat) q (h1 : a ≤ b) (h2 : b ≤ zs.length) => ins_any bx g cap a b zs l (w.drewN q) h1 h2 hS.cap1 hS.len hS.cap2 hS.cells hS.inM hS.ord (hS.drewN q).evs
  have hM := Lib.hid fun (a m b : Nat) q (h1 : a < m) (h2 : m < b) (h3 : b ≤ zs.length) => sym_any bx g cap zs l _ a m b (w.drewN q) (Nat.le_refl _) h1 h2 h3 (hS.drewN q)
  clear hS
  unfold symA at hM
  go_enter Tryz.func152, Tryz.ntmps152
  go_wp2_with fail
  go_loopw [7, 8] (fun va vb wr => ∃ k q : Nat, k ≤ zs.length ∧ va = .int .i64 (k : Int) ∧ vb = .int .i64 ((k : Int) + 20) ∧ wr = w.drewN q) (fun va _ _ => zs.length - (intOf va).toNat)
  case atStart => exact ⟨0, 0, Nat.zero_le _, rfl, rfl, rfl⟩
  case round =>
    obtain ⟨k, q, hk, rfl, rfl, rfl⟩ := hrel
    by_cases hlt : k + 20 ≤ zs.length
    · have hd : decide ((k : Int) + 20 ≤ (zs.length : Int)) = true := by simp; omega
      have hc := Lib.hid (hI.out k (k + 20) q (by omega) hlt)
      rw [show ((k + 20 : Nat) : Int) = (k : Int) + 20 from rfl] at hc
      go_wp2_with (go_at_call 197; refine hc.out.mono ?_; rintro e w3 ⟨⟨r, rfl⟩, q2, rfl⟩)
      exact ⟨⟨k + 20, _, hlt, rfl, rfl, rfl⟩, by simp [intOf]; omega⟩
    · have hd : decide ((k : Int) + 20 ≤ (zs.length : Int)) = false := by simp; omega
      have hc := Lib.hid (hI.out k zs.length q hk (Nat.le_refl _))
      go_wp2_with (go_at_call 197; refine hc.out.mono ?_; rintro e w3 ⟨⟨r, rfl⟩, q2, rfl⟩)
      generalize q + q2 = q0 at *
      go_loopw [6, 7, 8, 9] (fun vs _ _ _ wr => ∃ s q : Nat, 20 ≤ s ∧ s ≤ 2000 ∧ vs = .int .i64 (s : Int) ∧ wr = w.drewN q) (fun vs _ _ _ _ => 2000 - (intOf vs).toNat)
      case atStart => exact ⟨20, q0, by omega, by omega, rfl, rfl⟩
      case round =>
        obtain ⟨s, q, hs0, hs1, rfl, rfl⟩ := hrel
        by_cases hlt : s < zs.length
        · have hd : decide ((s : Int) < (zs.length : Int)) = true := by simp; omega
          go_wp2_with fail
          go_loopw [7, 8] (fun va vb wr => ∃ k q : Nat, k ≤ zs.length ∧ va = .int .i64 (k : Int) ∧ vb = .int .i64 ((k : Int) + 2 * (s : Int)) ∧ wr = w.drewN q) (fun va _ _ => zs.length - (intOf va).toNat)
          case atStart => exact ⟨0, q, Nat.zero_le _, rfl, by first | rfl | (congr 1; omega), rfl⟩
          case round =>
            obtain ⟨k, q, hk, rfl, rfl, rfl⟩ := hrel
            by_cases hlt2 : k + 2 * s ≤ zs.length
            · have hd : decide ((k : Int) + 2 * (s : Int) ≤ (zs.length : Int)) = true := by simp; omega
              have hc := Lib.hid (hM.out k (k + s) (k + 2 * s) q (by omega) (by omega) hlt2)
              rw [show ((k + s : Nat) : Int) = (k : Int) + (s : Int) from rfl, show ((k + 2 * s : Nat) : Int) = (k : Int) + 2 * (s : Int) from by omega] at hc
              go_wp2_with (go_at_call 198; refine hc.out.mono ?_; rintro e w3 ⟨⟨r, rfl⟩, q2, rfl⟩)
              exact ⟨⟨k + 2 * s, _, hlt2, by first | rfl | (congr 1; omega), by first | rfl | (congr 1; omega), rfl⟩, by simp [intOf]; omega⟩
            · have hd : decide ((k : Int) + 2 * (s : Int) ≤ (zs.length : Int)) = false := by simp; omega
              by_cases hlt3 : k + s < zs.length
              · have hd3 : decide ((k : Int) + (s : Int) < (zs.length : Int)) = true := by simp; omega
                have hc := Lib.hid (hM.out k (k + s) zs.length q (by omega) hlt3 (Nat.le_refl _))
                rw [show ((k + s : Nat) : Int) = (k : Int) + (s : Int) from rfl] at hc
                go_wp2_with (go_at_call 198; refine hc.out.mono ?_; rintro e w3 ⟨⟨r, rfl⟩, q2, rfl⟩)
                exact ⟨⟨2 * s, _, by omega, by omega, by first | rfl | (congr 1; omega), rfl⟩, by simp [intOf]; omega⟩
              · have hd3 : decide ((k : Int) + (s : Int) < (zs.length : Int)) = false := by simp; omega
                go_wp2_with fail
                exact ⟨⟨2 * s, _, by omega, by omega, by first | rfl | (congr 1; omega), rfl⟩, by simp [intOf]; omega⟩
        · have hd : decide ((s : Int) < (zs.length : Int)) = false := by simp; omega
          go_wp2_with fail
          go_end0
          exact ⟨⟨_, rfl⟩, ⟨_, rfl⟩⟩
set_option maxRecDepth 100000 in
set_option maxHeartbeats 1000000 in
theorem sortStable_any (bx g cap : Nat) (zs : List Nat) (l : List Ev) (w : World) (hS : SrtOk w bx g cap zs l) :
    Calls Tryz.prog 79 #[.slice (some ⟨g, 0, none⟩) zs.length cap, .func (.func 80) #[] #[.pointer (some ⟨bx, 0, none⟩)]] w fun e w' => (∃ r, e = .returned r) ∧ ∃ q, w' = w.drewN q := by
  have h := Lib.hid (stable_any bx g cap zs l w hS)
  have hN := hS.len
  clear hS
  go_enter Tryz.func79, Tryz.ntmps79
  go_wp2_with (go_at_call 152; refine h.out.mono ?_; rintro e w3 ⟨⟨r, rfl⟩, q2, rfl⟩)
  go_end0
  exact ⟨⟨_, rfl⟩, ⟨_, rfl⟩⟩
end Go.Proofs.YtocpnlifmeffkaaGreatDoor
namespace Go.Proofs.YtocpnlifmeffkaaGreatDoor
open Go.RowKit Go.Shelf Go.Maps Go.ChangeShapes Go.ChangeMaps

theorem Tryz.keyedC : Keyed Tryz.prog 101 := Keyed.of_law (deep_law_laid (by kernel_rfl) (m := 2) (by omega) (of_decide_eq_true (by kernel_rfl)) (by kernel_rfl) (by rw [Tryz.underlying101]))
/-- A class as a key. -/
def keyL (e : Ev) : Lit := .string (keyBytes [.int .i64 e.k, .int .i64 e.a, .int .i64 e.b])
theorem wf_i64 {a : Int} (h : -9223372036854775808 ≤ a) (h2 : a ≤ 9223372036854775807) : (Lit.int .i64 a).wf = true := by
  simp [Lit.wf, IntKind.min, IntKind.max, IntKind.signed, IntKind.bits]
  omega
set_option maxRecDepth 100000 in
theorem keyLits_int (d : Nat) {a : Int} (h : (Lit.int .i64 a).wf = true) : Tryz.prog.keyLits (d + 1) 3 [.int .i64 a] = some [.int .i64 a] := by
  unfold Program.keyLits
  rw [Tryz.underlying3]
  dsimp only
  rw [if_pos ⟨rfl, h⟩]
set_option maxRecDepth 100000 in
theorem keyLits_class (d : Nat) {a b c : Int} (ha : (Lit.int .i64 a).wf = true) (hb : (Lit.int .i64 b).wf = true) (hc : (Lit.int .i64 c).wf = true) : Tryz.prog.keyLits (d + 2) 101 [.int .i64 a, .int .i64 b, .int .i64 c] = some [.int .i64 a, .int .i64 b, .int .i64 c] := by
  unfold Program.keyLits
  rw [Tryz.underlying101]
  dsimp only
  rw [if_pos ⟨by kernel_rfl, by kernel_rfl⟩]
  have e1 : Tryz.prog.cellsOf 3 = 1 := by kernel_rfl
  simp only [List.mapM_cons, List.mapM_nil, e1, List.drop_zero, List.drop_succ_cons, List.take_succ_cons, List.take_zero]
  rw [keyLits_int d ha, keyLits_int d hb, keyLits_int d hc]
  rfl
set_option maxRecDepth 100000 in
theorem keyC {e : Ev} (h : evOk e) : keyOf Tryz.prog 101 (clsV e) = some (keyL e) := by
  unfold evOk at h
  have w1 := wf_i64 (a := e.k) (by omega) (by omega)
  have w2 := wf_i64 (a := e.a) (by omega) (by omega)
  have w3 := wf_i64 (a := e.b) (by omega) (by omega)
  unfold keyOf
  rw [Tryz.underlying101]
  dsimp only
  rw [show Tryz.prog.keyType 101 = true from by kernel_rfl, show (clsV e).formed Tryz.prog 101 = true from by kernel_rfl]
  rw [Bool.and_self, if_pos rfl, show Tryz.prog.types.size + 1 = (Tryz.prog.types.size - 1) + 2 from by kernel_rfl]
  rw [show (clsV e).cells.toList = [.int .i64 e.k, .int .i64 e.a, .int .i64 e.b] from rfl, keyLits_class _ w1 w2 w3]
  rfl
def cls3 (e : Ev) : Int × Int × Int := (e.k, e.a, e.b)
theorem clsV_eq {e f : Ev} (h : cls3 e = cls3 f) : clsV e = clsV f := by
  unfold cls3 at h
  unfold clsV
  simp only [Prod.mk.injEq] at h
  rw [h.1, h.2.1, h.2.2]
theorem keyL_eq {e f : Ev} (h : cls3 e = cls3 f) : keyL e = keyL f := by
  unfold cls3 at h
  unfold keyL
  simp only [Prod.mk.injEq] at h
  rw [h.1, h.2.1, h.2.2]
theorem cls3_of_key {e f : Ev} (he : evOk e) (hf : evOk f) (h : keyL e = keyL f) : cls3 e = cls3 f := by
  have := Tryz.keyedC.inj (keyC he) (h ▸ keyC hf)
  unfold clsV at this
  simp at this
  unfold cls3
  rw [this.1, this.2.1, this.2.2]
/-- The places of a class among the first j. -/
def places (m : List Ev) (j : Nat) (c : Int × Int × Int) : List Nat := (List.range j).filter fun i => decide (cls3 m[i]! = c)
theorem places_succ (m : List Ev) (j : Nat) (c : Int × Int × Int) : places m (j + 1) c = if cls3 m[j]! = c then places m j c ++ [j] else places m j c := by
  unfold places
  rw [List.range_succ, List.filter_append]
  by_cases h : cls3 m[j]! = c
  · rw [if_pos h, List.filter_cons, if_pos (decide_eq_true h)]
    rfl
  · rw [if_neg h, List.filter_cons, if_neg (by simpa using h), List.filter_nil, List.append_nil]
theorem places_len (m : List Ev) (j : Nat) (c : Int × Int × Int) : (places m j c).length ≤ j := by
  unfold places
  refine Nat.le_trans (List.length_filter_le _ _) (by simp)
theorem places_mem {m : List Ev} {j i : Nat} {c : Int × Int × Int} : i ∈ places m j c ↔ i < j ∧ cls3 m[i]! = c := by
  unfold places
  simp
def intsN (l : List Nat) : List Int := l.map fun n : Nat => (n : Int)
def plD (l : List Nat) : DataW Unit := if l = [] then .nil else .slice (lits .i64 (intsN l)) []
/-- What the map says behind j events. -/
structure GrpD (m : List Ev) (j : Nat) (D : DataW Unit) : Prop where
  at_ : ∀ e, evOk e → D.atKey (keyL e) .nil = plD (places m j (cls3 e))
  has_ : ∀ e, evOk e → Maps.has D (keyL e) = decide (places m j (cls3 e) ≠ [])
  only : ∀ kl, Maps.has D kl = true → ∃ i, i < j ∧ kl = keyL m[i]!
theorem GrpD.start (m : List Ev) : GrpD m 0 (.map []) := ⟨fun _ _ => rfl, fun _ _ => rfl, fun _ h => by cases h⟩
theorem GrpD.step {m : List Ev} {j : Nat} {D : DataW Unit} (h : GrpD m j D) (hD : IsMap D) (hok : evOk m[j]!) : GrpD m (j + 1) (D.put (keyL m[j]!) (.slice (lits .i64 (intsN (places m j (cls3 m[j]!) ++ [j]))) [])) := by
  have hk : WideAt.IsKeyLit (keyL m[j]!) := Tryz.keyedC.key (keyC hok)
  refine ⟨fun e he => ?_, fun e he => ?_, fun kl hkl => ?_⟩
  · by_cases hc : cls3 m[j]! = cls3 e
    · rw [← keyL_eq hc, atKey_put_same hD hk, places_succ, if_pos hc, hc, plD, if_neg (by simp)]
    · have hne : keyL e ≠ keyL m[j]! := fun h => hc (cls3_of_key he hok h).symm
      rw [atKey_put_other hne, h.at_ e he, places_succ, if_neg hc]
  · by_cases hc : cls3 m[j]! = cls3 e
    · rw [← keyL_eq hc, has_put_same hD hk, places_succ, if_pos hc]
      simp
    · have hne : keyL e ≠ keyL m[j]! := fun h => hc (cls3_of_key he hok h).symm
      rw [has_put_other hne, h.has_ e he, places_succ, if_neg hc]
  · by_cases hc : kl = keyL m[j]!
    · exact ⟨j, by omega, hc⟩
    · rw [has_put_other hc] at hkl
      obtain ⟨i, hi, e⟩ := h.only kl hkl
      exact ⟨i, by omega, e⟩
theorem groups_map {W : World} {k : TypeId} {base : Nat} {e : TypeId} {q : IntKind} {b n : Nat} {D : DataW Unit} (h : W.ownsGroups Tryz.prog k base e q b n D) : W.ownsMap Tryz.prog k (rowElem W base e q) b n D := by
  obtain ⟨es, clock, h1, h2, h3, h4, _⟩ := h
  exact ⟨es, clock, h1, h2, h3, h4⟩
/-- The rows of groups as they lay in a world. -/
theorem plD_row {l : List Nat} {v : Value} {zs : List Int} {W : World} {base : Nat} {e : TypeId} (h : plD l = rowDatum .i64 v zs) (ho : W.ownsInts base e .i64 v zs) : zs = intsN l := by
  unfold plD at h
  rcases ho.datum (H := Unit) with ⟨h1, rfl⟩ | h1
  · rw [h1] at h
    split at h
    · next hl => rw [hl]; rfl
    · cases h
  · rw [h1] at h
    split at h
    · cases h
    · injection h with h _
      have hi : Function.Injective (fun z : Int => (DataW.lit (.int .i64 z) : DataW Unit)) := fun a b hab => by simpa using hab
      unfold lits at h
      exact ((List.map_inj_right hi).1 h).symm
end Go.Proofs.YtocpnlifmeffkaaGreatDoor
