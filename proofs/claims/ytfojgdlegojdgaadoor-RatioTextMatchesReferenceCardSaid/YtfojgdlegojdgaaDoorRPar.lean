/-
  The reference's Parse.
-/
import Derived.Test.YtfojgdlegojdgaaDoorRead
namespace Go.Proofs.YtfojgdlegojdgaaDoor
open Go.RowKit

theorem slash_step (l : List UInt8) (m : Nat) (h : m < l.length) : m + slash (l.drop m) = if l[m] = 47 then m else m + 1 + slash (l.drop (m + 1)) := by
  rw [List.drop_eq_getElem_cons h]
  unfold slash
  rw [List.findIdx_cons]
  by_cases hc : l[m] = 47
  · simp [hc]
  · have e : (l[m] == 47) = false := by simpa using hc
    rw [e, if_neg hc]
    simp only [cond_false]
    omega
theorem slash_le (l : List UInt8) : slash l ≤ l.length := List.findIdx_le_length
theorem refValid_b (n d : Int) (w : World) (hn : I64 n) (hd : I64 d) :
    Calls Tryd.prog 35 #[rv n d] w fun e w' => e = .returned (.bool (vld n d)) ∧ Below w.heap.size w w' :=
  (refValid_any n d w hn hd).mono fun _ _ ⟨he, k, hw⟩ => ⟨he, by rw [hw]; exact below_drewN ((Below.refl _ _).alloc (Nat.le_refl _) _) k⟩
theorem readv_bd (l : List UInt8) (h : l.length ≤ 12) : I64 (readv l) := by
  have h1 := rdgo_lt l
  have h2 : 10 ^ l.length ≤ 10 ^ 12 := Nat.pow_le_pow_right (by omega) h
  unfold readv
  constructor <;> (split <;> omega)
/-- Where the stroke is, of which the places from j on are known. -/
def atv (l : List UInt8) (j : Int) : Nat := (j + 1).toNat + slash (l.drop (j + 1).toNat)

set_option maxRecDepth 100000 in
set_option maxHeartbeats 4000000 in
theorem refParse_any (s : ByteArray) (w : World) (hs : s.size ≤ 1000) :
    Calls Tryd.prog 17 #[.string s] w fun e w' => e = .returned (.tuple #[rv (parsev s.data.toList).1 (parsev s.data.toList).2.1, .int .i64 (parsev s.data.toList).2.2]) ∧ Below w.heap.size w w' := by
  have hB : Below w.heap.size w w := Below.refl _ _
  have hsl : s.data.toList.length = s.size := by simp
  have hR := refParse_eq s.data.toList
  generalize parsev s.data.toList = R at *
  by_cases h22 : 22 < s.size
  · have hR1 : Hid (R = (0, 0, 30)) := by show _ = _; rw [hR, if_pos (by omega)]
    have hd : decide ((22 : Int) < (s.size : Int)) = true := by simp; omega
    have hd2 : decide (22 < s.size) = true := by simp; omega
    clear hR hsl h22
    go_enter Tryd.func17, Tryd.ntmps17
    go_wp2
    exact bodyPost_ret (v := .tuple #[rv 0 0, .int .i64 30]) (by simp [results, Tryd.results17, go_sem]) rfl ⟨by rw [hR1.out], (by repeat first | with_reducible exact Below.refl _ _ | with_reducible assumption | with_reducible refine below_drewN ?_ _ | with_reducible refine Below.drew ?_ | with_reducible refine Below.setCell ?_ (by first | exact Nat.le_refl _ | (simp; done) | (simp; omega) | omega) _ | with_reducible refine Below.alloc ?_ (by first | exact Nat.le_refl _ | (simp; done) | (simp; omega) | omega) _ | exact Below.refl _ _ | assumption)⟩
  · have hd : decide ((22 : Int) < (s.size : Int)) = false := by simp; omega
    have hd2 : decide (22 < s.size) = false := by simp; omega
    rw [if_neg (by omega)] at hR
    replace hR := Lib.hid hR
    have hs2 : s.size ≤ 22 := by omega
    have hA := slash_le s.data.toList
    rw [hsl] at hA
    have hat0 : atv s.data.toList ((s.size : Int) - 1) = s.size := by
      unfold atv
      rw [show ((s.size : Int) - 1 + 1).toNat = s.size from by omega, List.drop_of_length_le (by rw [hsl]; exact Nat.le_refl _)]
      rfl
    have hatE : atv s.data.toList (-1) = slash s.data.toList := by simp [atv]
    have hstep : ∀ (m : Nat) (h : m < s.size), atv s.data.toList ((m : Int) - 1) = if s[m] = 47 then m else atv s.data.toList (m : Int) := fun m h => by
      have := slash_step s.data.toList m (by rw [hsl]; exact h)
      unfold atv
      rw [show ((m : Int) - 1 + 1).toNat = m from by omega, show ((m : Int) + 1).toNat = m + 1 from by omega]
      exact this
    replace hsl := Lib.hid hsl
    replace hat0 := Lib.hid hat0
    replace hatE := Lib.hid hatE
    replace hstep := Lib.hid hstep
    clear hs h22
    go_enter Tryd.func17, Tryd.ntmps17
    go_wp2_with fail
    refine name_wp ?_
    intro w1 hww1
    replace m1 : Mine w1 w.heap.size 0 (.int .i64 0) := by rw [hww1]; (repeat first | with_reducible assumption | with_reducible refine Mine.drew ?_ | with_reducible refine Mine.drewN ?_ _ | ((with_reducible refine Mine.new ?_); rfl) | ((with_reducible refine Mine.newAt ?_ ?_) <;> first | rfl | (simp; done) | (simp only [World.size_alloc]; rfl)) | ((with_reducible refine Mine.set ?_ _); repeat first | exact Mine.slot (by with_reducible assumption) | with_reducible refine MineS.drew ?_ | with_reducible refine MineS.drewN ?_ _ | ((with_reducible refine MineS.new ?_); decide) | ((with_reducible refine MineS.newAt ?_ ?_) <;> first | decide | (simp; done)) | with_reducible refine MineS.set ?_ _ _ _ | with_reducible refine MineS.alloc ?_ _) | with_reducible refine Mine.other ?_ _ (by first | (left; omega) | (right; omega) | (simp; done) | (simp; omega)) | with_reducible refine Mine.alloc ?_ _)
    replace m2 : Mine w1 w.heap.size 1 (.int .i64 0) := by rw [hww1]; (repeat first | with_reducible assumption | with_reducible refine Mine.drew ?_ | with_reducible refine Mine.drewN ?_ _ | ((with_reducible refine Mine.new ?_); rfl) | ((with_reducible refine Mine.newAt ?_ ?_) <;> first | rfl | (simp; done) | (simp only [World.size_alloc]; rfl)) | ((with_reducible refine Mine.set ?_ _); repeat first | exact Mine.slot (by with_reducible assumption) | with_reducible refine MineS.drew ?_ | with_reducible refine MineS.drewN ?_ _ | ((with_reducible refine MineS.new ?_); decide) | ((with_reducible refine MineS.newAt ?_ ?_) <;> first | decide | (simp; done)) | with_reducible refine MineS.set ?_ _ _ _ | with_reducible refine MineS.alloc ?_ _) | with_reducible refine Mine.other ?_ _ (by first | (left; omega) | (right; omega) | (simp; done) | (simp; omega)) | with_reducible refine Mine.alloc ?_ _)
    replace m3 : Mine w1 (w.heap.size + 1) 0 (.int .i64 0) := by rw [hww1]; (repeat first | with_reducible assumption | with_reducible refine Mine.drew ?_ | with_reducible refine Mine.drewN ?_ _ | ((with_reducible refine Mine.new ?_); rfl) | ((with_reducible refine Mine.newAt ?_ ?_) <;> first | rfl | (simp; done) | (simp only [World.size_alloc]; rfl)) | ((with_reducible refine Mine.set ?_ _); repeat first | exact Mine.slot (by with_reducible assumption) | with_reducible refine MineS.drew ?_ | with_reducible refine MineS.drewN ?_ _ | ((with_reducible refine MineS.new ?_); decide) | ((with_reducible refine MineS.newAt ?_ ?_) <;> first | decide | (simp; done)) | with_reducible refine MineS.set ?_ _ _ _ | with_reducible refine MineS.alloc ?_ _) | with_reducible refine Mine.other ?_ _ (by first | (left; omega) | (right; omega) | (simp; done) | (simp; omega)) | with_reducible refine Mine.alloc ?_ _)
    replace m4 : Mine w1 (w.heap.size + 1) 1 (.int .i64 1) := by rw [hww1]; (repeat first | with_reducible assumption | with_reducible refine Mine.drew ?_ | with_reducible refine Mine.drewN ?_ _ | ((with_reducible refine Mine.new ?_); rfl) | ((with_reducible refine Mine.newAt ?_ ?_) <;> first | rfl | (simp; done) | (simp only [World.size_alloc]; rfl)) | ((with_reducible refine Mine.set ?_ _); repeat first | exact Mine.slot (by with_reducible assumption) | with_reducible refine MineS.drew ?_ | with_reducible refine MineS.drewN ?_ _ | ((with_reducible refine MineS.new ?_); decide) | ((with_reducible refine MineS.newAt ?_ ?_) <;> first | decide | (simp; done)) | with_reducible refine MineS.set ?_ _ _ _ | with_reducible refine MineS.alloc ?_ _) | with_reducible refine Mine.other ?_ _ (by first | (left; omega) | (right; omega) | (simp; done) | (simp; omega)) | with_reducible refine Mine.alloc ?_ _)
    have hBzw1 := hB.size
    replace hB : Below w.heap.size w w1 := by rw [hww1]; exact (by repeat first | with_reducible exact Below.refl _ _ | with_reducible assumption | with_reducible refine below_drewN ?_ _ | with_reducible refine Below.drew ?_ | with_reducible refine Below.setCell ?_ (by first | exact Nat.le_refl _ | (simp; done) | (simp; omega) | omega) _ | with_reducible refine Below.alloc ?_ (by first | exact Nat.le_refl _ | (simp; done) | (simp; omega) | omega) _ | exact Below.refl _ _ | assumption)
    clear hww1 hBzw1
    have o1 : w.heap.size < w.heap.size + 1 := by omega
    generalize w.heap.size + 1 = b4 at *
    go_loop [5, 6] (fun a i => ∃ j : Int, -1 ≤ j ∧ j < s.size ∧ i = .int .i64 j ∧ a = .int .i64 (atv s.data.toList j : Nat)) (fun _ i => (intOf i + 1).toNat)
    case atStart => exact ⟨(s.size : Int) - 1, by omega, by omega, rfl, by rw [hat0.out]⟩
    case round =>
      obtain ⟨j, hj1, hj2, rfl, rfl⟩ := hrel
      by_cases hj : 0 ≤ j
      · obtain ⟨m, rfl⟩ : ∃ m : Nat, j = m := ⟨j.toNat, by omega⟩
        have hm : m < s.size := by omega
        have hst := hstep.out m hm
        by_cases hc : s[m] = 47
        · have q : ((s[m].toNat : Int) == 47) = true := by rw [hc]; rfl
          rw [if_pos hc] at hst
          replace hst := Lib.hid hst
          clear hc
          go_wp2
          go_round
          case rel => exact ⟨(m : Int) - 1, by omega, by omega, rfl, by rw [hst.out]⟩
          case measure => simp [intOf] <;> omega
        · have q : ((s[m].toNat : Int) == 47) = false := by
            rw [beq_eq_false_iff_ne]
            intro h
            exact hc (UInt8.toNat_inj.1 (by rw [show (47 : UInt8).toNat = 47 from rfl]; omega))
          rw [if_neg hc] at hst
          replace hst := Lib.hid hst
          clear hc
          go_wp2
          go_round
          case rel => exact ⟨(m : Int) - 1, by omega, by omega, rfl, by rw [hst.out]⟩
          case measure => simp [intOf] <;> omega
      · obtain rfl : j = -1 := by omega
        rw [hatE.out]
        have hrn : rnum s.data.toList = readv (s.data.toList.take (min (slash s.data.toList) 11)) := rfl
        have hrd : rden s.data.toList = if slash s.data.toList < s.size then readv ((s.data.toList.take (min s.size (slash s.data.toList + 12))).drop (slash s.data.toList + 1)) else 1 := by
          unfold rden; rw [hsl.out]
        generalize slash s.data.toList = A at *
        replace hrn := Lib.hid hrn
        replace hrd := Lib.hid hrd
        clear hj hj1 hj2 hstep hat0 hatE
        go_wp2_with fail
        have ht1 : (s.extract 0 (min (A : Int) 11).toNat).data.toList = s.data.toList.take (min A 11) := by
          rw [Lib.extract_data, show (min (A : Int) 11).toNat = min A 11 from by omega]; rfl
        have hRd := fun w => read_any (s.extract 0 (min (A : Int) 11).toNat) w (by rw [ByteArray.size_extract]; omega)
        rw [ht1, ← hrn.out] at hRd
        have hn : I64 (rnum s.data.toList) := by
          rw [hrn.out]; exact readv_bd _ (by rw [List.length_take]; omega)
        generalize rnum s.data.toList = n at *
        replace hRd := Lib.hid hRd
        clear ht1 hrn
        refine (hRd.out _).mono ?_
        rintro e w2 ⟨rfl, rfl⟩
        clear hRd
        by_cases hAl : A < s.size
        · have e1 : decide (A < s.size) = true := by simpa using hAl
          have hlo : (A : Int) + 1 ≤ min (s.size : Int) ((A : Int) + 12) := by omega
          have hhi : min (s.size : Int) ((A : Int) + 12) ≤ (s.size : Int) := by omega
          have ht2 : (s.extract (A + 1) (min (s.size : Int) ((A : Int) + 12)).toNat).data.toList = (s.data.toList.take (min s.size (A + 12))).drop (A + 1) := by
            rw [Lib.extract_data, List.drop_take, show (min (s.size : Int) ((A : Int) + 12)).toNat = min s.size (A + 12) from by omega]
          have hRd := fun w => read_any (s.extract (A + 1) (min (s.size : Int) ((A : Int) + 12)).toNat) w (by rw [ByteArray.size_extract]; omega)
          have hrd2 : rden s.data.toList = readv ((s.data.toList.take (min s.size (A + 12))).drop (A + 1)) := by rw [hrd.out, if_pos hAl]
          rw [ht2, ← hrd2] at hRd
          have hdI : I64 (rden s.data.toList) := by
            rw [hrd2]; exact readv_bd _ (by rw [List.length_drop, List.length_take]; omega)
          clear hrd hrd2 ht2
          generalize rden s.data.toList = d at *
          replace hRd := Lib.hid hRd
          have c3 := m3.cell
          have f3 := m3.free
          have l3 := m3.lt
          have c4 := m4.cell
          have f4 := m4.free
          have l4 := m4.lt
          go_wp2_with fail
          clear c3 f3 l3
          clear c4 f4 l4
          refine name_calls ?_
          intro w3 hww3
          replace m1 : Mine w3 w.heap.size 0 (.int .i64 0) := by rw [hww3]; (repeat first | with_reducible assumption | with_reducible refine Mine.drew ?_ | with_reducible refine Mine.drewN ?_ _ | ((with_reducible refine Mine.new ?_); rfl) | ((with_reducible refine Mine.newAt ?_ ?_) <;> first | rfl | (simp; done) | (simp only [World.size_alloc]; rfl)) | ((with_reducible refine Mine.set ?_ _); repeat first | exact Mine.slot (by with_reducible assumption) | with_reducible refine MineS.drew ?_ | with_reducible refine MineS.drewN ?_ _ | ((with_reducible refine MineS.new ?_); decide) | ((with_reducible refine MineS.newAt ?_ ?_) <;> first | decide | (simp; done)) | with_reducible refine MineS.set ?_ _ _ _ | with_reducible refine MineS.alloc ?_ _) | with_reducible refine Mine.other ?_ _ (by first | (left; omega) | (right; omega) | (simp; done) | (simp; omega)) | with_reducible refine Mine.alloc ?_ _)
          replace m2 : Mine w3 w.heap.size 1 (.int .i64 0) := by rw [hww3]; (repeat first | with_reducible assumption | with_reducible refine Mine.drew ?_ | with_reducible refine Mine.drewN ?_ _ | ((with_reducible refine Mine.new ?_); rfl) | ((with_reducible refine Mine.newAt ?_ ?_) <;> first | rfl | (simp; done) | (simp only [World.size_alloc]; rfl)) | ((with_reducible refine Mine.set ?_ _); repeat first | exact Mine.slot (by with_reducible assumption) | with_reducible refine MineS.drew ?_ | with_reducible refine MineS.drewN ?_ _ | ((with_reducible refine MineS.new ?_); decide) | ((with_reducible refine MineS.newAt ?_ ?_) <;> first | decide | (simp; done)) | with_reducible refine MineS.set ?_ _ _ _ | with_reducible refine MineS.alloc ?_ _) | with_reducible refine Mine.other ?_ _ (by first | (left; omega) | (right; omega) | (simp; done) | (simp; omega)) | with_reducible refine Mine.alloc ?_ _)
          replace m3 : Mine w3 b4 0 (.int .i64 n) := by rw [hww3]; (repeat first | with_reducible assumption | with_reducible refine Mine.drew ?_ | with_reducible refine Mine.drewN ?_ _ | ((with_reducible refine Mine.new ?_); rfl) | ((with_reducible refine Mine.newAt ?_ ?_) <;> first | rfl | (simp; done) | (simp only [World.size_alloc]; rfl)) | ((with_reducible refine Mine.set ?_ _); repeat first | exact Mine.slot (by with_reducible assumption) | with_reducible refine MineS.drew ?_ | with_reducible refine MineS.drewN ?_ _ | ((with_reducible refine MineS.new ?_); decide) | ((with_reducible refine MineS.newAt ?_ ?_) <;> first | decide | (simp; done)) | with_reducible refine MineS.set ?_ _ _ _ | with_reducible refine MineS.alloc ?_ _) | with_reducible refine Mine.other ?_ _ (by first | (left; omega) | (right; omega) | (simp; done) | (simp; omega)) | with_reducible refine Mine.alloc ?_ _)
          replace m4 : Mine w3 b4 1 (.int .i64 1) := by rw [hww3]; (repeat first | with_reducible assumption | with_reducible refine Mine.drew ?_ | with_reducible refine Mine.drewN ?_ _ | ((with_reducible refine Mine.new ?_); rfl) | ((with_reducible refine Mine.newAt ?_ ?_) <;> first | rfl | (simp; done) | (simp only [World.size_alloc]; rfl)) | ((with_reducible refine Mine.set ?_ _); repeat first | exact Mine.slot (by with_reducible assumption) | with_reducible refine MineS.drew ?_ | with_reducible refine MineS.drewN ?_ _ | ((with_reducible refine MineS.new ?_); decide) | ((with_reducible refine MineS.newAt ?_ ?_) <;> first | decide | (simp; done)) | with_reducible refine MineS.set ?_ _ _ _ | with_reducible refine MineS.alloc ?_ _) | with_reducible refine Mine.other ?_ _ (by first | (left; omega) | (right; omega) | (simp; done) | (simp; omega)) | with_reducible refine Mine.alloc ?_ _)
          have hBzw3 := hB.size
          replace hB : Below w.heap.size w w3 := by rw [hww3]; exact (by repeat first | with_reducible exact Below.refl _ _ | with_reducible assumption | with_reducible refine below_drewN ?_ _ | with_reducible refine Below.drew ?_ | with_reducible refine Below.setCell ?_ (by first | exact Nat.le_refl _ | (simp; done) | (simp; omega) | omega) _ | with_reducible refine Below.alloc ?_ (by first | exact Nat.le_refl _ | (simp; done) | (simp; omega) | omega) _ | exact Below.refl _ _ | assumption)
          clear hww3 hBzw3
          refine (hRd.out _).mono ?_
          rintro e w4 ⟨rfl, rfl⟩
          clear hRd e1 hlo hhi hAl
          have hV := fun w => refValid_b n d w hn hdI
          have c3 := m3.cell
          have f3 := m3.free
          have l3 := m3.lt
          have c4 := m4.cell
          have f4 := m4.free
          have l4 := m4.lt
          go_wp2_with fail
          clear c3 f3 l3
          clear c4 f4 l4
          refine name_calls ?_
          intro x1 hwx1
          replace m1 : Mine x1 w.heap.size 0 (.int .i64 0) := by rw [hwx1]; (repeat first | with_reducible assumption | with_reducible refine Mine.drew ?_ | with_reducible refine Mine.drewN ?_ _ | ((with_reducible refine Mine.new ?_); rfl) | ((with_reducible refine Mine.newAt ?_ ?_) <;> first | rfl | (simp; done) | (simp only [World.size_alloc]; rfl)) | ((with_reducible refine Mine.set ?_ _); repeat first | exact Mine.slot (by with_reducible assumption) | with_reducible refine MineS.drew ?_ | with_reducible refine MineS.drewN ?_ _ | ((with_reducible refine MineS.new ?_); decide) | ((with_reducible refine MineS.newAt ?_ ?_) <;> first | decide | (simp; done)) | with_reducible refine MineS.set ?_ _ _ _ | with_reducible refine MineS.alloc ?_ _) | with_reducible refine Mine.other ?_ _ (by first | (left; omega) | (right; omega) | (simp; done) | (simp; omega)) | with_reducible refine Mine.alloc ?_ _)
          replace m2 : Mine x1 w.heap.size 1 (.int .i64 0) := by rw [hwx1]; (repeat first | with_reducible assumption | with_reducible refine Mine.drew ?_ | with_reducible refine Mine.drewN ?_ _ | ((with_reducible refine Mine.new ?_); rfl) | ((with_reducible refine Mine.newAt ?_ ?_) <;> first | rfl | (simp; done) | (simp only [World.size_alloc]; rfl)) | ((with_reducible refine Mine.set ?_ _); repeat first | exact Mine.slot (by with_reducible assumption) | with_reducible refine MineS.drew ?_ | with_reducible refine MineS.drewN ?_ _ | ((with_reducible refine MineS.new ?_); decide) | ((with_reducible refine MineS.newAt ?_ ?_) <;> first | decide | (simp; done)) | with_reducible refine MineS.set ?_ _ _ _ | with_reducible refine MineS.alloc ?_ _) | with_reducible refine Mine.other ?_ _ (by first | (left; omega) | (right; omega) | (simp; done) | (simp; omega)) | with_reducible refine Mine.alloc ?_ _)
          replace m3 : Mine x1 b4 0 (.int .i64 n) := by rw [hwx1]; (repeat first | with_reducible assumption | with_reducible refine Mine.drew ?_ | with_reducible refine Mine.drewN ?_ _ | ((with_reducible refine Mine.new ?_); rfl) | ((with_reducible refine Mine.newAt ?_ ?_) <;> first | rfl | (simp; done) | (simp only [World.size_alloc]; rfl)) | ((with_reducible refine Mine.set ?_ _); repeat first | exact Mine.slot (by with_reducible assumption) | with_reducible refine MineS.drew ?_ | with_reducible refine MineS.drewN ?_ _ | ((with_reducible refine MineS.new ?_); decide) | ((with_reducible refine MineS.newAt ?_ ?_) <;> first | decide | (simp; done)) | with_reducible refine MineS.set ?_ _ _ _ | with_reducible refine MineS.alloc ?_ _) | with_reducible refine Mine.other ?_ _ (by first | (left; omega) | (right; omega) | (simp; done) | (simp; omega)) | with_reducible refine Mine.alloc ?_ _)
          replace m4 : Mine x1 b4 1 (.int .i64 d) := by rw [hwx1]; (repeat first | with_reducible assumption | with_reducible refine Mine.drew ?_ | with_reducible refine Mine.drewN ?_ _ | ((with_reducible refine Mine.new ?_); rfl) | ((with_reducible refine Mine.newAt ?_ ?_) <;> first | rfl | (simp; done) | (simp only [World.size_alloc]; rfl)) | ((with_reducible refine Mine.set ?_ _); repeat first | exact Mine.slot (by with_reducible assumption) | with_reducible refine MineS.drew ?_ | with_reducible refine MineS.drewN ?_ _ | ((with_reducible refine MineS.new ?_); decide) | ((with_reducible refine MineS.newAt ?_ ?_) <;> first | decide | (simp; done)) | with_reducible refine MineS.set ?_ _ _ _ | with_reducible refine MineS.alloc ?_ _) | with_reducible refine Mine.other ?_ _ (by first | (left; omega) | (right; omega) | (simp; done) | (simp; omega)) | with_reducible refine Mine.alloc ?_ _)
          have hBzx1 := hB.size
          replace hB : Below w.heap.size w x1 := by rw [hwx1]; exact (by repeat first | with_reducible exact Below.refl _ _ | with_reducible assumption | with_reducible refine below_drewN ?_ _ | with_reducible refine Below.drew ?_ | with_reducible refine Below.setCell ?_ (by first | exact Nat.le_refl _ | (simp; done) | (simp; omega) | omega) _ | with_reducible refine Below.alloc ?_ (by first | exact Nat.le_refl _ | (simp; done) | (simp; omega) | omega) _ | exact Below.refl _ _ | assumption)
          clear hwx1 hBzx1
          replace hV := Lib.hid hV
          refine (hV.out _).mono ?_
          rintro e x2 ⟨rfl, hb1⟩
          replace m1 := m1.below hb1
          replace m2 := m2.below hb1
          replace m3 := m3.below hb1
          replace m4 := m4.below hb1
          replace hB := hB.trans (hb1.mono hB.size)
          have hb_x2 := hb1
          clear hb1
          clear hV
          by_cases hv : vld n d = true
          · have hT := fun w => text_any n d w hv
            rw [hv]
            by_cases ht : prt n d = s.data.toList
            · have hR2 : R = (n, d, 0) := by rw [hR.out]; simp [hv, ht]
              rw [ht, str_of] at hT
              replace hT := Lib.hid hT
              clear hR ht hv
              replace hR2 := Lib.hid hR2
              have c1 := m1.cell
              have f1 := m1.free
              have l1 := m1.lt
              have c2 := m2.cell
              have f2 := m2.free
              have l2 := m2.lt
              have c3 := m3.cell
              have f3 := m3.free
              have l3 := m3.lt
              have c4 := m4.cell
              have f4 := m4.free
              have l4 := m4.lt
              go_wp2_with fail
              clear c1 f1 l1
              clear c2 f2 l2
              clear c3 f3 l3
              clear c4 f4 l4
              refine (hT.out _).mono ?_
              rintro e x3 ⟨rfl, hb1⟩
              replace m1 := m1.below hb1
              replace m2 := m2.below hb1
              replace m3 := m3.below hb1
              replace m4 := m4.below hb1
              replace hB := hB.trans (hb1.mono hB.size)
              have hb_x3 := hb1
              clear hb1
              have c1 := m1.cell
              have f1 := m1.free
              have l1 := m1.lt
              have c2 := m2.cell
              have f2 := m2.free
              have l2 := m2.lt
              have c3 := m3.cell
              have f3 := m3.free
              have l3 := m3.lt
              have c4 := m4.cell
              have f4 := m4.free
              have l4 := m4.lt
              go_wp2
              clear c1 f1 l1
              clear c2 f2 l2
              clear c3 f3 l3
              clear c4 f4 l4
              refine name_post ?_
              intro x4 hwx4
              replace m1 : Mine x4 w.heap.size 0 (.int .i64 n) := by rw [hwx4]; (repeat first | with_reducible assumption | with_reducible refine Mine.drew ?_ | with_reducible refine Mine.drewN ?_ _ | ((with_reducible refine Mine.new ?_); rfl) | ((with_reducible refine Mine.newAt ?_ ?_) <;> first | rfl | (simp; done) | (simp only [World.size_alloc]; rfl)) | ((with_reducible refine Mine.set ?_ _); repeat first | exact Mine.slot (by with_reducible assumption) | with_reducible refine MineS.drew ?_ | with_reducible refine MineS.drewN ?_ _ | ((with_reducible refine MineS.new ?_); decide) | ((with_reducible refine MineS.newAt ?_ ?_) <;> first | decide | (simp; done)) | with_reducible refine MineS.set ?_ _ _ _ | with_reducible refine MineS.alloc ?_ _) | with_reducible refine Mine.other ?_ _ (by first | (left; omega) | (right; omega) | (simp; done) | (simp; omega)) | with_reducible refine Mine.alloc ?_ _)
              replace m2 : Mine x4 w.heap.size 1 (.int .i64 d) := by rw [hwx4]; (repeat first | with_reducible assumption | with_reducible refine Mine.drew ?_ | with_reducible refine Mine.drewN ?_ _ | ((with_reducible refine Mine.new ?_); rfl) | ((with_reducible refine Mine.newAt ?_ ?_) <;> first | rfl | (simp; done) | (simp only [World.size_alloc]; rfl)) | ((with_reducible refine Mine.set ?_ _); repeat first | exact Mine.slot (by with_reducible assumption) | with_reducible refine MineS.drew ?_ | with_reducible refine MineS.drewN ?_ _ | ((with_reducible refine MineS.new ?_); decide) | ((with_reducible refine MineS.newAt ?_ ?_) <;> first | decide | (simp; done)) | with_reducible refine MineS.set ?_ _ _ _ | with_reducible refine MineS.alloc ?_ _) | with_reducible refine Mine.other ?_ _ (by first | (left; omega) | (right; omega) | (simp; done) | (simp; omega)) | with_reducible refine Mine.alloc ?_ _)
              have hBzx4 := hB.size
              replace hB : Below w.heap.size w x4 := by rw [hwx4]; exact (by repeat first | with_reducible exact Below.refl _ _ | with_reducible assumption | with_reducible refine below_drewN ?_ _ | with_reducible refine Below.drew ?_ | with_reducible refine Below.setCell ?_ (by first | exact Nat.le_refl _ | (simp; done) | (simp; omega) | omega) _ | with_reducible refine Below.alloc ?_ (by first | exact Nat.le_refl _ | (simp; done) | (simp; omega) | omega) _ | exact Below.refl _ _ | assumption)
              clear hwx4 hBzx4
              have e1 := m1.cell
              have e2 := m2.cell
              exact bodyPost_ret (v := .tuple #[rv n d, .int .i64 0]) (by simp [results, Tryd.results17, go_sem, e1, e2]) rfl ⟨by rw [hR2.out], hB⟩
            · have hR2 : R = (0, 0, 30) := by rw [hR.out]; simp [ht]
              have hq : ((str (prt n d)).toList == s.toList) = false := by rw [Lib.toList_data s, Lib.toList_data, str_list]; simpa using ht
              replace hT := Lib.hid hT
              clear hR ht hv
              replace hR2 := Lib.hid hR2
              generalize prt n d = tx at *
              have c1 := m1.cell
              have f1 := m1.free
              have l1 := m1.lt
              have c2 := m2.cell
              have f2 := m2.free
              have l2 := m2.lt
              have c3 := m3.cell
              have f3 := m3.free
              have l3 := m3.lt
              have c4 := m4.cell
              have f4 := m4.free
              have l4 := m4.lt
              go_wp2_with fail
              clear c1 f1 l1
              clear c2 f2 l2
              clear c3 f3 l3
              clear c4 f4 l4
              refine (hT.out _).mono ?_
              rintro e x3 ⟨rfl, hb1⟩
              replace m1 := m1.below hb1
              replace m2 := m2.below hb1
              replace m3 := m3.below hb1
              replace m4 := m4.below hb1
              replace hB := hB.trans (hb1.mono hB.size)
              have hb_x3 := hb1
              clear hb1
              have c1 := m1.cell
              have f1 := m1.free
              have l1 := m1.lt
              have c2 := m2.cell
              have f2 := m2.free
              have l2 := m2.lt
              have c3 := m3.cell
              have f3 := m3.free
              have l3 := m3.lt
              have c4 := m4.cell
              have f4 := m4.free
              have l4 := m4.lt
              go_wp2
              clear c1 f1 l1
              clear c2 f2 l2
              clear c3 f3 l3
              clear c4 f4 l4
              refine name_post ?_
              intro x4 hwx4
              replace m1 : Mine x4 w.heap.size 0 (.int .i64 0) := by rw [hwx4]; (repeat first | with_reducible assumption | with_reducible refine Mine.drew ?_ | with_reducible refine Mine.drewN ?_ _ | ((with_reducible refine Mine.new ?_); rfl) | ((with_reducible refine Mine.newAt ?_ ?_) <;> first | rfl | (simp; done) | (simp only [World.size_alloc]; rfl)) | ((with_reducible refine Mine.set ?_ _); repeat first | exact Mine.slot (by with_reducible assumption) | with_reducible refine MineS.drew ?_ | with_reducible refine MineS.drewN ?_ _ | ((with_reducible refine MineS.new ?_); decide) | ((with_reducible refine MineS.newAt ?_ ?_) <;> first | decide | (simp; done)) | with_reducible refine MineS.set ?_ _ _ _ | with_reducible refine MineS.alloc ?_ _) | with_reducible refine Mine.other ?_ _ (by first | (left; omega) | (right; omega) | (simp; done) | (simp; omega)) | with_reducible refine Mine.alloc ?_ _)
              replace m2 : Mine x4 w.heap.size 1 (.int .i64 0) := by rw [hwx4]; (repeat first | with_reducible assumption | with_reducible refine Mine.drew ?_ | with_reducible refine Mine.drewN ?_ _ | ((with_reducible refine Mine.new ?_); rfl) | ((with_reducible refine Mine.newAt ?_ ?_) <;> first | rfl | (simp; done) | (simp only [World.size_alloc]; rfl)) | ((with_reducible refine Mine.set ?_ _); repeat first | exact Mine.slot (by with_reducible assumption) | with_reducible refine MineS.drew ?_ | with_reducible refine MineS.drewN ?_ _ | ((with_reducible refine MineS.new ?_); decide) | ((with_reducible refine MineS.newAt ?_ ?_) <;> first | decide | (simp; done)) | with_reducible refine MineS.set ?_ _ _ _ | with_reducible refine MineS.alloc ?_ _) | with_reducible refine Mine.other ?_ _ (by first | (left; omega) | (right; omega) | (simp; done) | (simp; omega)) | with_reducible refine Mine.alloc ?_ _)
              have hBzx4 := hB.size
              replace hB : Below w.heap.size w x4 := by rw [hwx4]; exact (by repeat first | with_reducible exact Below.refl _ _ | with_reducible assumption | with_reducible refine below_drewN ?_ _ | with_reducible refine Below.drew ?_ | with_reducible refine Below.setCell ?_ (by first | exact Nat.le_refl _ | (simp; done) | (simp; omega) | omega) _ | with_reducible refine Below.alloc ?_ (by first | exact Nat.le_refl _ | (simp; done) | (simp; omega) | omega) _ | exact Below.refl _ _ | assumption)
              clear hwx4 hBzx4
              have e1 := m1.cell
              have e2 := m2.cell
              exact bodyPost_ret (v := .tuple #[rv 0 0, .int .i64 30]) (by simp [results, Tryd.results17, go_sem, e1, e2]) rfl ⟨by rw [hR2.out], hB⟩
          · have hv' : vld n d = false := by simpa using hv
            have hR2 : R = (0, 0, 30) := by rw [hR.out]; simp [hv']
            rw [hv']
            clear hR hv hv'
            replace hR2 := Lib.hid hR2
            have c1 := m1.cell
            have f1 := m1.free
            have l1 := m1.lt
            have c2 := m2.cell
            have f2 := m2.free
            have l2 := m2.lt
            have c3 := m3.cell
            have f3 := m3.free
            have l3 := m3.lt
            have c4 := m4.cell
            have f4 := m4.free
            have l4 := m4.lt
            go_wp2
            clear c1 f1 l1
            clear c2 f2 l2
            clear c3 f3 l3
            clear c4 f4 l4
            refine name_post ?_
            intro x4 hwx4
            replace m1 : Mine x4 w.heap.size 0 (.int .i64 0) := by rw [hwx4]; (repeat first | with_reducible assumption | with_reducible refine Mine.drew ?_ | with_reducible refine Mine.drewN ?_ _ | ((with_reducible refine Mine.new ?_); rfl) | ((with_reducible refine Mine.newAt ?_ ?_) <;> first | rfl | (simp; done) | (simp only [World.size_alloc]; rfl)) | ((with_reducible refine Mine.set ?_ _); repeat first | exact Mine.slot (by with_reducible assumption) | with_reducible refine MineS.drew ?_ | with_reducible refine MineS.drewN ?_ _ | ((with_reducible refine MineS.new ?_); decide) | ((with_reducible refine MineS.newAt ?_ ?_) <;> first | decide | (simp; done)) | with_reducible refine MineS.set ?_ _ _ _ | with_reducible refine MineS.alloc ?_ _) | with_reducible refine Mine.other ?_ _ (by first | (left; omega) | (right; omega) | (simp; done) | (simp; omega)) | with_reducible refine Mine.alloc ?_ _)
            replace m2 : Mine x4 w.heap.size 1 (.int .i64 0) := by rw [hwx4]; (repeat first | with_reducible assumption | with_reducible refine Mine.drew ?_ | with_reducible refine Mine.drewN ?_ _ | ((with_reducible refine Mine.new ?_); rfl) | ((with_reducible refine Mine.newAt ?_ ?_) <;> first | rfl | (simp; done) | (simp only [World.size_alloc]; rfl)) | ((with_reducible refine Mine.set ?_ _); repeat first | exact Mine.slot (by with_reducible assumption) | with_reducible refine MineS.drew ?_ | with_reducible refine MineS.drewN ?_ _ | ((with_reducible refine MineS.new ?_); decide) | ((with_reducible refine MineS.newAt ?_ ?_) <;> first | decide | (simp; done)) | with_reducible refine MineS.set ?_ _ _ _ | with_reducible refine MineS.alloc ?_ _) | with_reducible refine Mine.other ?_ _ (by first | (left; omega) | (right; omega) | (simp; done) | (simp; omega)) | with_reducible refine Mine.alloc ?_ _)
            have hBzx4 := hB.size
            replace hB : Below w.heap.size w x4 := by rw [hwx4]; exact (by repeat first | with_reducible exact Below.refl _ _ | with_reducible assumption | with_reducible refine below_drewN ?_ _ | with_reducible refine Below.drew ?_ | with_reducible refine Below.setCell ?_ (by first | exact Nat.le_refl _ | (simp; done) | (simp; omega) | omega) _ | with_reducible refine Below.alloc ?_ (by first | exact Nat.le_refl _ | (simp; done) | (simp; omega) | omega) _ | exact Below.refl _ _ | assumption)
            clear hwx4 hBzx4
            have e1 := m1.cell
            have e2 := m2.cell
            exact bodyPost_ret (v := .tuple #[rv 0 0, .int .i64 30]) (by simp [results, Tryd.results17, go_sem, e1, e2]) rfl ⟨by rw [hR2.out], hB⟩
        · have e1 : decide (A < s.size) = false := by simpa using hAl
          have hrd2 : rden s.data.toList = 1 := by rw [hrd.out, if_neg hAl]
          rw [hrd2] at hR
          have hdI : I64 1 := ⟨by omega, by omega⟩
          clear hrd hrd2
          skip
          have hV := fun w => refValid_b n 1 w hn hdI
          have c3 := m3.cell
          have f3 := m3.free
          have l3 := m3.lt
          have c4 := m4.cell
          have f4 := m4.free
          have l4 := m4.lt
          go_wp2_with fail
          clear c3 f3 l3
          clear c4 f4 l4
          refine name_calls ?_
          intro x1 hwx1
          replace m1 : Mine x1 w.heap.size 0 (.int .i64 0) := by rw [hwx1]; (repeat first | with_reducible assumption | with_reducible refine Mine.drew ?_ | with_reducible refine Mine.drewN ?_ _ | ((with_reducible refine Mine.new ?_); rfl) | ((with_reducible refine Mine.newAt ?_ ?_) <;> first | rfl | (simp; done) | (simp only [World.size_alloc]; rfl)) | ((with_reducible refine Mine.set ?_ _); repeat first | exact Mine.slot (by with_reducible assumption) | with_reducible refine MineS.drew ?_ | with_reducible refine MineS.drewN ?_ _ | ((with_reducible refine MineS.new ?_); decide) | ((with_reducible refine MineS.newAt ?_ ?_) <;> first | decide | (simp; done)) | with_reducible refine MineS.set ?_ _ _ _ | with_reducible refine MineS.alloc ?_ _) | with_reducible refine Mine.other ?_ _ (by first | (left; omega) | (right; omega) | (simp; done) | (simp; omega)) | with_reducible refine Mine.alloc ?_ _)
          replace m2 : Mine x1 w.heap.size 1 (.int .i64 0) := by rw [hwx1]; (repeat first | with_reducible assumption | with_reducible refine Mine.drew ?_ | with_reducible refine Mine.drewN ?_ _ | ((with_reducible refine Mine.new ?_); rfl) | ((with_reducible refine Mine.newAt ?_ ?_) <;> first | rfl | (simp; done) | (simp only [World.size_alloc]; rfl)) | ((with_reducible refine Mine.set ?_ _); repeat first | exact Mine.slot (by with_reducible assumption) | with_reducible refine MineS.drew ?_ | with_reducible refine MineS.drewN ?_ _ | ((with_reducible refine MineS.new ?_); decide) | ((with_reducible refine MineS.newAt ?_ ?_) <;> first | decide | (simp; done)) | with_reducible refine MineS.set ?_ _ _ _ | with_reducible refine MineS.alloc ?_ _) | with_reducible refine Mine.other ?_ _ (by first | (left; omega) | (right; omega) | (simp; done) | (simp; omega)) | with_reducible refine Mine.alloc ?_ _)
          replace m3 : Mine x1 b4 0 (.int .i64 n) := by rw [hwx1]; (repeat first | with_reducible assumption | with_reducible refine Mine.drew ?_ | with_reducible refine Mine.drewN ?_ _ | ((with_reducible refine Mine.new ?_); rfl) | ((with_reducible refine Mine.newAt ?_ ?_) <;> first | rfl | (simp; done) | (simp only [World.size_alloc]; rfl)) | ((with_reducible refine Mine.set ?_ _); repeat first | exact Mine.slot (by with_reducible assumption) | with_reducible refine MineS.drew ?_ | with_reducible refine MineS.drewN ?_ _ | ((with_reducible refine MineS.new ?_); decide) | ((with_reducible refine MineS.newAt ?_ ?_) <;> first | decide | (simp; done)) | with_reducible refine MineS.set ?_ _ _ _ | with_reducible refine MineS.alloc ?_ _) | with_reducible refine Mine.other ?_ _ (by first | (left; omega) | (right; omega) | (simp; done) | (simp; omega)) | with_reducible refine Mine.alloc ?_ _)
          replace m4 : Mine x1 b4 1 (.int .i64 1) := by rw [hwx1]; (repeat first | with_reducible assumption | with_reducible refine Mine.drew ?_ | with_reducible refine Mine.drewN ?_ _ | ((with_reducible refine Mine.new ?_); rfl) | ((with_reducible refine Mine.newAt ?_ ?_) <;> first | rfl | (simp; done) | (simp only [World.size_alloc]; rfl)) | ((with_reducible refine Mine.set ?_ _); repeat first | exact Mine.slot (by with_reducible assumption) | with_reducible refine MineS.drew ?_ | with_reducible refine MineS.drewN ?_ _ | ((with_reducible refine MineS.new ?_); decide) | ((with_reducible refine MineS.newAt ?_ ?_) <;> first | decide | (simp; done)) | with_reducible refine MineS.set ?_ _ _ _ | with_reducible refine MineS.alloc ?_ _) | with_reducible refine Mine.other ?_ _ (by first | (left; omega) | (right; omega) | (simp; done) | (simp; omega)) | with_reducible refine Mine.alloc ?_ _)
          have hBzx1 := hB.size
          replace hB : Below w.heap.size w x1 := by rw [hwx1]; exact (by repeat first | with_reducible exact Below.refl _ _ | with_reducible assumption | with_reducible refine below_drewN ?_ _ | with_reducible refine Below.drew ?_ | with_reducible refine Below.setCell ?_ (by first | exact Nat.le_refl _ | (simp; done) | (simp; omega) | omega) _ | with_reducible refine Below.alloc ?_ (by first | exact Nat.le_refl _ | (simp; done) | (simp; omega) | omega) _ | exact Below.refl _ _ | assumption)
          clear hwx1 hBzx1
          replace hV := Lib.hid hV
          refine (hV.out _).mono ?_
          rintro e x2 ⟨rfl, hb1⟩
          replace m1 := m1.below hb1
          replace m2 := m2.below hb1
          replace m3 := m3.below hb1
          replace m4 := m4.below hb1
          replace hB := hB.trans (hb1.mono hB.size)
          have hb_x2 := hb1
          clear hb1
          clear hV
          by_cases hv : vld n 1 = true
          · have hT := fun w => text_any n 1 w hv
            rw [hv]
            by_cases ht : prt n 1 = s.data.toList
            · have hR2 : R = (n, 1, 0) := by rw [hR.out]; simp [hv, ht]
              rw [ht, str_of] at hT
              replace hT := Lib.hid hT
              clear hR ht hv
              replace hR2 := Lib.hid hR2
              have c1 := m1.cell
              have f1 := m1.free
              have l1 := m1.lt
              have c2 := m2.cell
              have f2 := m2.free
              have l2 := m2.lt
              have c3 := m3.cell
              have f3 := m3.free
              have l3 := m3.lt
              have c4 := m4.cell
              have f4 := m4.free
              have l4 := m4.lt
              go_wp2_with fail
              clear c1 f1 l1
              clear c2 f2 l2
              clear c3 f3 l3
              clear c4 f4 l4
              refine (hT.out _).mono ?_
              rintro e x3 ⟨rfl, hb1⟩
              replace m1 := m1.below hb1
              replace m2 := m2.below hb1
              replace m3 := m3.below hb1
              replace m4 := m4.below hb1
              replace hB := hB.trans (hb1.mono hB.size)
              have hb_x3 := hb1
              clear hb1
              have c1 := m1.cell
              have f1 := m1.free
              have l1 := m1.lt
              have c2 := m2.cell
              have f2 := m2.free
              have l2 := m2.lt
              have c3 := m3.cell
              have f3 := m3.free
              have l3 := m3.lt
              have c4 := m4.cell
              have f4 := m4.free
              have l4 := m4.lt
              go_wp2
              clear c1 f1 l1
              clear c2 f2 l2
              clear c3 f3 l3
              clear c4 f4 l4
              refine name_post ?_
              intro x4 hwx4
              replace m1 : Mine x4 w.heap.size 0 (.int .i64 n) := by rw [hwx4]; (repeat first | with_reducible assumption | with_reducible refine Mine.drew ?_ | with_reducible refine Mine.drewN ?_ _ | ((with_reducible refine Mine.new ?_); rfl) | ((with_reducible refine Mine.newAt ?_ ?_) <;> first | rfl | (simp; done) | (simp only [World.size_alloc]; rfl)) | ((with_reducible refine Mine.set ?_ _); repeat first | exact Mine.slot (by with_reducible assumption) | with_reducible refine MineS.drew ?_ | with_reducible refine MineS.drewN ?_ _ | ((with_reducible refine MineS.new ?_); decide) | ((with_reducible refine MineS.newAt ?_ ?_) <;> first | decide | (simp; done)) | with_reducible refine MineS.set ?_ _ _ _ | with_reducible refine MineS.alloc ?_ _) | with_reducible refine Mine.other ?_ _ (by first | (left; omega) | (right; omega) | (simp; done) | (simp; omega)) | with_reducible refine Mine.alloc ?_ _)
              replace m2 : Mine x4 w.heap.size 1 (.int .i64 1) := by rw [hwx4]; (repeat first | with_reducible assumption | with_reducible refine Mine.drew ?_ | with_reducible refine Mine.drewN ?_ _ | ((with_reducible refine Mine.new ?_); rfl) | ((with_reducible refine Mine.newAt ?_ ?_) <;> first | rfl | (simp; done) | (simp only [World.size_alloc]; rfl)) | ((with_reducible refine Mine.set ?_ _); repeat first | exact Mine.slot (by with_reducible assumption) | with_reducible refine MineS.drew ?_ | with_reducible refine MineS.drewN ?_ _ | ((with_reducible refine MineS.new ?_); decide) | ((with_reducible refine MineS.newAt ?_ ?_) <;> first | decide | (simp; done)) | with_reducible refine MineS.set ?_ _ _ _ | with_reducible refine MineS.alloc ?_ _) | with_reducible refine Mine.other ?_ _ (by first | (left; omega) | (right; omega) | (simp; done) | (simp; omega)) | with_reducible refine Mine.alloc ?_ _)
              have hBzx4 := hB.size
              replace hB : Below w.heap.size w x4 := by rw [hwx4]; exact (by repeat first | with_reducible exact Below.refl _ _ | with_reducible assumption | with_reducible refine below_drewN ?_ _ | with_reducible refine Below.drew ?_ | with_reducible refine Below.setCell ?_ (by first | exact Nat.le_refl _ | (simp; done) | (simp; omega) | omega) _ | with_reducible refine Below.alloc ?_ (by first | exact Nat.le_refl _ | (simp; done) | (simp; omega) | omega) _ | exact Below.refl _ _ | assumption)
              clear hwx4 hBzx4
              have e1 := m1.cell
              have e2 := m2.cell
              exact bodyPost_ret (v := .tuple #[rv n 1, .int .i64 0]) (by simp [results, Tryd.results17, go_sem, e1, e2]) rfl ⟨by rw [hR2.out], hB⟩
            · have hR2 : R = (0, 0, 30) := by rw [hR.out]; simp [ht]
              have hq : ((str (prt n 1)).toList == s.toList) = false := by rw [Lib.toList_data s, Lib.toList_data, str_list]; simpa using ht
              replace hT := Lib.hid hT
              clear hR ht hv
              replace hR2 := Lib.hid hR2
              generalize prt n 1 = tx at *
              have c1 := m1.cell
              have f1 := m1.free
              have l1 := m1.lt
              have c2 := m2.cell
              have f2 := m2.free
              have l2 := m2.lt
              have c3 := m3.cell
              have f3 := m3.free
              have l3 := m3.lt
              have c4 := m4.cell
              have f4 := m4.free
              have l4 := m4.lt
              go_wp2_with fail
              clear c1 f1 l1
              clear c2 f2 l2
              clear c3 f3 l3
              clear c4 f4 l4
              refine (hT.out _).mono ?_
              rintro e x3 ⟨rfl, hb1⟩
              replace m1 := m1.below hb1
              replace m2 := m2.below hb1
              replace m3 := m3.below hb1
              replace m4 := m4.below hb1
              replace hB := hB.trans (hb1.mono hB.size)
              have hb_x3 := hb1
              clear hb1
              have c1 := m1.cell
              have f1 := m1.free
              have l1 := m1.lt
              have c2 := m2.cell
              have f2 := m2.free
              have l2 := m2.lt
              have c3 := m3.cell
              have f3 := m3.free
              have l3 := m3.lt
              have c4 := m4.cell
              have f4 := m4.free
              have l4 := m4.lt
              go_wp2
              clear c1 f1 l1
              clear c2 f2 l2
              clear c3 f3 l3
              clear c4 f4 l4
              refine name_post ?_
              intro x4 hwx4
              replace m1 : Mine x4 w.heap.size 0 (.int .i64 0) := by rw [hwx4]; (repeat first | with_reducible assumption | with_reducible refine Mine.drew ?_ | with_reducible refine Mine.drewN ?_ _ | ((with_reducible refine Mine.new ?_); rfl) | ((with_reducible refine Mine.newAt ?_ ?_) <;> first | rfl | (simp; done) | (simp only [World.size_alloc]; rfl)) | ((with_reducible refine Mine.set ?_ _); repeat first | exact Mine.slot (by with_reducible assumption) | with_reducible refine MineS.drew ?_ | with_reducible refine MineS.drewN ?_ _ | ((with_reducible refine MineS.new ?_); decide) | ((with_reducible refine MineS.newAt ?_ ?_) <;> first | decide | (simp; done)) | with_reducible refine MineS.set ?_ _ _ _ | with_reducible refine MineS.alloc ?_ _) | with_reducible refine Mine.other ?_ _ (by first | (left; omega) | (right; omega) | (simp; done) | (simp; omega)) | with_reducible refine Mine.alloc ?_ _)
              replace m2 : Mine x4 w.heap.size 1 (.int .i64 0) := by rw [hwx4]; (repeat first | with_reducible assumption | with_reducible refine Mine.drew ?_ | with_reducible refine Mine.drewN ?_ _ | ((with_reducible refine Mine.new ?_); rfl) | ((with_reducible refine Mine.newAt ?_ ?_) <;> first | rfl | (simp; done) | (simp only [World.size_alloc]; rfl)) | ((with_reducible refine Mine.set ?_ _); repeat first | exact Mine.slot (by with_reducible assumption) | with_reducible refine MineS.drew ?_ | with_reducible refine MineS.drewN ?_ _ | ((with_reducible refine MineS.new ?_); decide) | ((with_reducible refine MineS.newAt ?_ ?_) <;> first | decide | (simp; done)) | with_reducible refine MineS.set ?_ _ _ _ | with_reducible refine MineS.alloc ?_ _) | with_reducible refine Mine.other ?_ _ (by first | (left; omega) | (right; omega) | (simp; done) | (simp; omega)) | with_reducible refine Mine.alloc ?_ _)
              have hBzx4 := hB.size
              replace hB : Below w.heap.size w x4 := by rw [hwx4]; exact (by repeat first | with_reducible exact Below.refl _ _ | with_reducible assumption | with_reducible refine below_drewN ?_ _ | with_reducible refine Below.drew ?_ | with_reducible refine Below.setCell ?_ (by first | exact Nat.le_refl _ | (simp; done) | (simp; omega) | omega) _ | with_reducible refine Below.alloc ?_ (by first | exact Nat.le_refl _ | (simp; done) | (simp; omega) | omega) _ | exact Below.refl _ _ | assumption)
              clear hwx4 hBzx4
              have e1 := m1.cell
              have e2 := m2.cell
              exact bodyPost_ret (v := .tuple #[rv 0 0, .int .i64 30]) (by simp [results, Tryd.results17, go_sem, e1, e2]) rfl ⟨by rw [hR2.out], hB⟩
          · have hv' : vld n 1 = false := by simpa using hv
            have hR2 : R = (0, 0, 30) := by rw [hR.out]; simp [hv']
            rw [hv']
            clear hR hv hv'
            replace hR2 := Lib.hid hR2
            have c1 := m1.cell
            have f1 := m1.free
            have l1 := m1.lt
            have c2 := m2.cell
            have f2 := m2.free
            have l2 := m2.lt
            have c3 := m3.cell
            have f3 := m3.free
            have l3 := m3.lt
            have c4 := m4.cell
            have f4 := m4.free
            have l4 := m4.lt
            go_wp2
            clear c1 f1 l1
            clear c2 f2 l2
            clear c3 f3 l3
            clear c4 f4 l4
            refine name_post ?_
            intro x4 hwx4
            replace m1 : Mine x4 w.heap.size 0 (.int .i64 0) := by rw [hwx4]; (repeat first | with_reducible assumption | with_reducible refine Mine.drew ?_ | with_reducible refine Mine.drewN ?_ _ | ((with_reducible refine Mine.new ?_); rfl) | ((with_reducible refine Mine.newAt ?_ ?_) <;> first | rfl | (simp; done) | (simp only [World.size_alloc]; rfl)) | ((with_reducible refine Mine.set ?_ _); repeat first | exact Mine.slot (by with_reducible assumption) | with_reducible refine MineS.drew ?_ | with_reducible refine MineS.drewN ?_ _ | ((with_reducible refine MineS.new ?_); decide) | ((with_reducible refine MineS.newAt ?_ ?_) <;> first | decide | (simp; done)) | with_reducible refine MineS.set ?_ _ _ _ | with_reducible refine MineS.alloc ?_ _) | with_reducible refine Mine.other ?_ _ (by first | (left; omega) | (right; omega) | (simp; done) | (simp; omega)) | with_reducible refine Mine.alloc ?_ _)
            replace m2 : Mine x4 w.heap.size 1 (.int .i64 0) := by rw [hwx4]; (repeat first | with_reducible assumption | with_reducible refine Mine.drew ?_ | with_reducible refine Mine.drewN ?_ _ | ((with_reducible refine Mine.new ?_); rfl) | ((with_reducible refine Mine.newAt ?_ ?_) <;> first | rfl | (simp; done) | (simp only [World.size_alloc]; rfl)) | ((with_reducible refine Mine.set ?_ _); repeat first | exact Mine.slot (by with_reducible assumption) | with_reducible refine MineS.drew ?_ | with_reducible refine MineS.drewN ?_ _ | ((with_reducible refine MineS.new ?_); decide) | ((with_reducible refine MineS.newAt ?_ ?_) <;> first | decide | (simp; done)) | with_reducible refine MineS.set ?_ _ _ _ | with_reducible refine MineS.alloc ?_ _) | with_reducible refine Mine.other ?_ _ (by first | (left; omega) | (right; omega) | (simp; done) | (simp; omega)) | with_reducible refine Mine.alloc ?_ _)
            have hBzx4 := hB.size
            replace hB : Below w.heap.size w x4 := by rw [hwx4]; exact (by repeat first | with_reducible exact Below.refl _ _ | with_reducible assumption | with_reducible refine below_drewN ?_ _ | with_reducible refine Below.drew ?_ | with_reducible refine Below.setCell ?_ (by first | exact Nat.le_refl _ | (simp; done) | (simp; omega) | omega) _ | with_reducible refine Below.alloc ?_ (by first | exact Nat.le_refl _ | (simp; done) | (simp; omega) | omega) _ | exact Below.refl _ _ | assumption)
            clear hwx4 hBzx4
            have e1 := m1.cell
            have e2 := m2.cell
            exact bodyPost_ret (v := .tuple #[rv 0 0, .int .i64 30]) (by simp [results, Tryd.results17, go_sem, e1, e2]) rfl ⟨by rw [hR2.out], hB⟩
end Go.Proofs.YtfojgdlegojdgaaDoor
