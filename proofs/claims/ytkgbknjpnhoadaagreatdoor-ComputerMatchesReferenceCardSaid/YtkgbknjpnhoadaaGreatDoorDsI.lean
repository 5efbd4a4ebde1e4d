/-
  The law ComputerMatchesReference returns true.
-/
import Derived.Test.YtkgbknjpnhoadaaGreatDoorDsH
namespace Go.Proofs.YtkgbknjpnhoadaaGreatDoor
open Go.RowKit Go.Shelf

theorem two_cells (w : World) (u v : Value) (T : TypeId) : ∀ i, i < 2 → ∀ W : World, W.heap[w.heap.size]? = (w.alloc (.cells #[u, v] T)).heap[w.heap.size]? → W.cell? ⟨w.heap.size, i, none⟩ = some (if i = 0 then u else v) := by
  intro i hi W hW
  rw [World.cell?_of_block (w' := W) (w := w.alloc (.cells #[u, v] T)) (a := ⟨w.heap.size, i, none⟩) hW]
  have hA : Arr (w.alloc (.cells #[u, v] T)) w.heap.size T [u, v] := Arr.new rfl rfl
  refine hA.cell ?_
  rcases (show i = 0 ∨ i = 1 by omega) with rfl | rfl <;> rfl

set_option maxRecDepth 100000 in
set_option maxHeartbeats 8000000 in
theorem Matches_walk (a0 a1 : ByteArray) (v2 : Value) (l2 : List Ev) (v3 : Value) (n3 : Nat) (z3 : List Int) (v4 : Value) (n4 : Nat) (z4 : List Int) (a5 : Int) (w : World)
    (h0 : a0.size ≤ 9223372036854775807) (h1 : a1.size ≤ 9223372036854775807) (s2 : SliceAt w w.heap.size v2 l2.length (evCells l2))
    (s3 : SliceAt w w.heap.size v3 n3 (z3.map (Value.int .i64))) (e3 : z3.length = n3 * 2) (g3 : ∀ z ∈ z3, I64 z)
    (s4 : SliceAt w w.heap.size v4 n4 (z4.map (Value.int .i64))) (e4 : z4.length = n4 * 2) (g4 : ∀ z ∈ z4, I64 z)
    (h5 : I64 a5) (hE : Env w) :
    Calls Tryz.prog 8 #[.string a0, .string a1, v2, v3, v4, .int .i64 a5] w fun e w' => e = .returned (.bool true) ∧ Below w.heap.size w w' := by
  have hS := Lib.hid (sane_any w hE)
  have hP5 : ∀ W : World, Calls Tryz.prog 16 #[.int .i64 a5, .int .i64 2000] W fun e w' => e = .returned (.int .i64 (pickv a5 2000 : Nat)) ∧ w' = W := fun W => pick_any a5 2000 W h5 (by omega) (by omega)
  have hC0 := fun (W : World) => cut_any a0 258 W (by omega) h0
  have hC1 := fun (W : World) => cut_any a1 258 W (by omega) h1
  generalize a0.data.toList.take 258 = r at *
  generalize a1.data.toList.take 258 = dk at *
  generalize pickv a5 2000 = mo at *
  obtain ⟨ka, kc, rfl, hr1, hr2, _⟩ := id s2
  unfold maxLen at hr2
  obtain ⟨x3, c3, hv3, _⟩ := id s3
  obtain ⟨x4, c4, hv4, _⟩ := id s4
  have hco := fun (W : World) (hb : Below w.heap.size w W) => Code_any v3 n3 z3 W (s3.later hb) e3 g3
  have hty := fun (W : World) (hb : Below w.heap.size w W) => Typed_any v4 n4 z4 W (s4.later hb) e4 g4
  rw [hv3] at hco
  rw [hv4] at hty
  rw [hv3, hv4]
  have hmin : min (l2.length : Int) 20 = ((min l2.length 20 : Nat) : Int) := by omega
  obtain ⟨q, hq⟩ : ∃ q, q = min l2.length 20 := ⟨_, rfl⟩
  rw [← hq] at hmin
  have hql : q ≤ l2.length := by omega
  have hqt : (l2.take q).length = q := by rw [List.length_take]; omega
  have hsk := sliceAt_take s2 q hql
  generalize l2.take q = kk at *
  rw [hqt] at hsk
  have i1 : (0 : Int) ≤ (q : Int) := by omega
  have i2 : (q : Int) ≤ (kc : Int) := by omega
  replace hq := Lib.hid hq
  replace hqt := Lib.hid hqt
  replace hP5 := Lib.hid hP5
  replace hC0 := Lib.hid hC0
  replace hC1 := Lib.hid hC1
  replace hco := Lib.hid hco
  replace hty := Lib.hid hty
  clear s2 s3 s4 hv3 hv4 e3 e4 g3 g4 h0 h1 h5
  go_enter Tryz.func8, Tryz.ntmps8
  go_wp2_with fail
  refine hS.out.mono ?_
  rintro e w1 ⟨rfl, hb1⟩
  go_wp2_with fail
  refine (hC0.out _).mono ?_
  rintro e w2 ⟨rfl, hw2⟩
  rw [hw2]
  clear hw2 w2
  go_wp2_with fail
  refine (hC1.out _).mono ?_
  rintro e w2 ⟨rfl, hw2⟩
  rw [hw2]
  clear hw2 w2
  go_wp2_with fail
  refine (hco.out w1 hb1).mono ?_
  rintro e w2 ⟨s, rfl, hs1, hs2, hb2⟩
  have hB2 := hb1.trans (hb2.mono hb1.size)
  have hsk2 : SliceAt w2 w2.heap.size (.slice ka q kc) kk.length (evCells kk) := by rw [hqt.out]; exact hsk.later hB2
  have hcp := two_cells w2 (.string (str r)) (.string (str s)) 9
  have hBP := hB2.alloc hB2.size (.cells #[.string (str r), .string (str s)] 9)
  have hbP := (Below.refl w2.heap.size w2).alloc (Nat.le_refl _) (.cells #[.string (str r), .string (str s)] 9)
  have hskP := hsk2.later hbP
  have hgP : w2.heap.size < (w2.alloc (.cells #[.string (str r), .string (str s)] 9)).heap.size := by simp
  clear hS hC0 hC1 hco hb1 hb2 hsk hsk2
  go_wp2_with fail
  generalize w2.alloc (.cells #[.string (str r), .string (str s)] 9) = wP at *
  generalize w2.heap.size = gP at *
  have hcp2 : ∀ i, i < 2 → ∃ p : List UInt8, ∀ W : World, W.heap[gP]? = wP.heap[gP]? → W.cell? ⟨gP, i, none⟩ = some (.string (str p)) := fun i hi => by
    by_cases e : i = 0
    · exact ⟨r, fun W hW => by have := hcp i hi W hW; rwa [if_pos e] at this⟩
    · exact ⟨s, fun W hW => by have := hcp i hi W hW; rwa [if_neg e] at this⟩
  replace hcp2 := Lib.hid hcp2
  clear hcp hbP
  go_loopw [39] (fun i wr => ∃ k : Nat, k ≤ 2 ∧ i = .int .i64 k ∧ Aside (Below wP.heap.size wP wr)) (fun i _ => 2 - (intOf i).toNat)
  case atStart => exact ⟨0, Nat.zero_le _, rfl, Below.refl _ _⟩
  case round =>
    obtain ⟨i, hi, rfl, BW⟩ := hrel
    have hBr := BW.out
    have hBwr := hBP.trans (hBr.mono hBP.size)
    by_cases hlt : i < 2
    · have hd : decide ((i : Int) < 2) = true := by simp; omega
      have j1 : (0 : Int) ≤ (i : Int) := by omega
      have j2 : (i : Int) < 2 := by omega
      obtain ⟨p, hp⟩ := hcp2.out i hlt
      have cP := hp wr (hBr.block gP hgP)
      clear hcp2 hp BW
      go_wp2_with fail
      refine (hty.out wr hBwr).mono ?_
      rintro e w3 ⟨kv, ks, rfl, hko, hkt, hb3⟩
      have hK2 := sliceAt_of_own hko
      obtain ⟨ka2, kc2, rfl⟩ := own_val hko
      have hK1 := hskP.later (hBr.trans (hb3.mono hBr.size))
      have hB3 := hBr.trans (hb3.mono hBr.size)
      have hck := two_cells w3 (.slice ka q kc) (.slice ka2 ks.length kc2) 33
      have hbK := (Below.refl w3.heap.size w3).alloc (Nat.le_refl _) (.cells #[.slice ka q kc, .slice ka2 ks.length kc2] 33)
      have hBK := hB3.alloc hB3.size (.cells #[.slice ka q kc, .slice ka2 ks.length kc2] 33)
      have hK1' := hK1.later hbK
      have hK2' := hK2.later hbK
      have hgK : w3.heap.size < (w3.alloc (.cells #[.slice ka q kc, .slice ka2 ks.length kc2] 33)).heap.size := by simp
      clear hb3 hko hkt hK1 hK2 hB3 cP
      go_wp2_with fail
      generalize w3.alloc (.cells #[.slice ka q kc, .slice ka2 ks.length kc2] 33) = wK at *
      generalize w3.heap.size = gK at *
      have hck2 : ∀ i, i < 2 → ∃ (a : Option Addr) (c : Nat) (l : List Ev), SliceAt wK wK.heap.size (.slice a l.length c) l.length (evCells l) ∧ ∀ W : World, W.heap[gK]? = wK.heap[gK]? → W.cell? ⟨gK, i, none⟩ = some (.slice a l.length c) := fun i hi => by
        by_cases e : i = 0
        · refine ⟨ka, kc, kk, by have h := hK1'; rw [← hqt.out] at h; exact h, fun W hW => ?_⟩
          have := hck i hi W hW
          rw [if_pos e] at this
          rw [hqt.out]
          exact this
        · refine ⟨ka2, kc2, ks, hK2', fun W hW => ?_⟩
          have := hck i hi W hW
          rwa [if_neg e] at this
      replace hck2 := Lib.hid hck2
      clear hck hbK hK1' hK2'
      go_loopw [48] (fun i wr => ∃ k : Nat, k ≤ 2 ∧ i = .int .i64 k ∧ Aside (Below wK.heap.size wK wr)) (fun i _ => 2 - (intOf i).toNat)
      case atStart => exact ⟨0, Nat.zero_le _, rfl, Below.refl _ _⟩
      case round =>
        obtain ⟨j, hj, rfl, BV⟩ := hrel
        have hBs := BV.out
        by_cases hltj : j < 2
        · have hdj : decide ((j : Int) < 2) = true := by simp; omega
          have k1 : (0 : Int) ≤ (j : Int) := by omega
          have k2 : (j : Int) < 2 := by omega
          obtain ⟨la, lc, kl, hKL, hkl⟩ := hck2.out j hltj
          rename_i wr0
          obtain ⟨wB, hwB⟩ : ∃ wB, wB = wr := ⟨_, rfl⟩
          subst hwB
          have cK := hkl wB (hBs.block gK hgK)
          have hKB := hKL.later hBs
          have hcn := two_cells wB (.int .i64 a5) (.int .i64 (mo : Int)) 3
          have hbN := (Below.refl wB.heap.size wB).alloc (Nat.le_refl _) (.cells #[.int .i64 a5, .int .i64 (mo : Int)] 3)
          have hBN := hBs.alloc hBs.size (.cells #[.int .i64 a5, .int .i64 (mo : Int)] 3)
          have hKN := hKB.later hbN
          have hgN : wB.heap.size < (wB.alloc (.cells #[.int .i64 a5, .int .i64 (mo : Int)] 3)).heap.size := by simp
          clear hck2 hkl BV hKL hKB
          go_wp2_with fail
          refine (hP5.out _).mono ?_
          rintro e w5 ⟨rfl, hw5⟩
          rw [hw5]
          clear hw5 w5
          go_wp2_with fail
          generalize wB.alloc (.cells #[.int .i64 a5, .int .i64 (mo : Int)] 3) = wN at *
          generalize wB.heap.size = gN at *
          have hcn2 : ∀ i, i < 2 → ∃ n : Int, ∀ W : World, W.heap[gN]? = wN.heap[gN]? → W.cell? ⟨gN, i, none⟩ = some (.int .i64 n) := fun i hi => by
            by_cases e : i = 0
            · exact ⟨a5, fun W hW => by have := hcn i hi W hW; rwa [if_pos e] at this⟩
            · exact ⟨(mo : Int), fun W hW => by have := hcn i hi W hW; rwa [if_neg e] at this⟩
          replace hcn2 := Lib.hid hcn2
          clear hcn hbN
          go_loopw [57] (fun i wr => ∃ k : Nat, k ≤ 2 ∧ i = .int .i64 k ∧ Aside (Below wN.heap.size wN wr)) (fun i _ => 2 - (intOf i).toNat)
          case atStart => exact ⟨0, Nat.zero_le _, rfl, Below.refl _ _⟩
          case round =>
            obtain ⟨t, ht, rfl, BU⟩ := hrel
            have hBu := BU.out
            by_cases hltt : t < 2
            · have hdt : decide ((t : Int) < 2) = true := by simp; omega
              have m1 : (0 : Int) ≤ (t : Int) := by omega
              have m2 : (t : Int) < 2 := by omega
              obtain ⟨n, hn⟩ := hcn2.out t hltt
              have cN := hn wr (hBu.block gN hgN)
              have hKr := hKN.later hBu
              have hPf := Lib.hid (fun (W : World) h => Perform_any (str p) (str dk) (.slice la kl.length lc) kl n W h)
              have hPr := Lib.hid (fun (W : World) h => refPerform_any p dk (.slice la kl.length lc) kl n W h)
              generalize perfL (str p) (str dk) kl n = E at *
              generalize perfE (str p) (str dk) kl n = ee at *
              clear hcn2 hn BU
              go_wp2_with fail
              refine (hPf.out wr hKr).mono ?_
              rintro e w6 ⟨u6, rfl, ho6, hb6⟩
              have h6 := sliceAt_of_own ho6
              obtain ⟨a6, c6, rfl⟩ := own_val ho6
              have hK6 := hKr.later hb6
              have hB6 := hBu.trans (hb6.mono hBu.size)
              clear ho6 hb6 hKr hPf cN
              go_wp2_with fail
              refine (hPr.out w6 hK6).mono ?_
              rintro e w7 ⟨u7, rfl, ho7, hb7⟩
              have h7 := sliceAt_of_own ho7
              obtain ⟨a7, c7, rfl⟩ := own_val ho7
              have h67 := h6.later hb7
              have hB7 := hB6.trans (hb7.mono hB6.size)
              have hq1 : (ee != ee) = false := by simp
              have hSE := SameEvents_any _ _ E E w7 h67 h7
              rw [(sameB_iff E E).2 rfl] at hSE
              replace hSE := Lib.hid hSE
              clear ho7 hb7 hK6 hPr hB6 h6
              go_wp2_with fail
              refine hSE.out.mono ?_
              rintro e w8 ⟨rfl, hb8⟩
              have h68 := h67.later hb8
              have h78 := h7.later hb8
              have hB8 := hB7.trans (hb8.mono hB7.size)
              have hSc := Lib.hid (Screen_any _ E w8 h68)
              have hSr := Lib.hid (fun (W : World) (hb : Below w8.heap.size w8 W) => refScreen_any _ E W (h78.later hb))
              have hBc := Lib.hid (fun (W : World) (hb : Below w8.heap.size w8 W) => Bitmap_any _ E W (h68.later hb))
              have hBr2 := Lib.hid (fun (W : World) (hb : Below w8.heap.size w8 W) => refBitmap_any _ E W (h78.later hb))
              generalize str (bytesOf (screenL E)) = sc at *
              generalize str (bytesOf (bitmapL E)) = bm at *
              have hq2 : (sc.toList == sc.toList) = true := beq_self_eq_true _
              have hq3 : (bm.toList == bm.toList) = true := beq_self_eq_true _
              clear hSE h67 h7 hb8 hB7 h68 h78
              go_wp2_with fail
              refine hSc.out.mono ?_
              rintro e w9 ⟨rfl, hb9⟩
              go_wp2_with fail
              refine (hSr.out _ hb9).mono ?_
              rintro e w10 ⟨rfl, hb10⟩
              have hb810 := hb9.trans (hb10.mono hb9.size)
              go_wp2_with fail
              refine (hBc.out _ hb810).mono ?_
              rintro e w11 ⟨rfl, hb11⟩
              have hb811 := hb810.trans (hb11.mono hb810.size)
              go_wp2_with fail
              refine (hBr2.out _ hb811).mono ?_
              rintro e w12 ⟨rfl, hb12⟩
              have hb812 := hb811.trans (hb12.mono hb811.size)
              have hB12 := hB8.trans (hb812.mono hB8.size)
              clear hSc hSr hBc hBr2 hb9 hb10 hb810 hb11 hb811 hb12 hb812 hB8
              go_wp2_with fail
              exact ⟨⟨t + 1, by omega, by go_num, hB12⟩, by simp [intOf]; omega⟩
            · have hte : t = 2 := by omega
              subst hte
              have hdt : decide (((2 : Nat) : Int) < 2) = false := by decide
              have hdt' : decide ((2 : Int) < 2) = false := by decide
              have hBx := hBN.trans (hBu.mono hBN.size)
              clear hcn2 BU hBu
              go_wp2_with fail
              exact ⟨⟨j + 1, by omega, by go_num, hBx⟩, by simp [intOf]; omega⟩
        · have hje : j = 2 := by omega
          subst hje
          have hdj : decide (((2 : Nat) : Int) < 2) = false := by decide
          have hdj' : decide ((2 : Int) < 2) = false := by decide
          have hBx := hBK.trans (hBs.mono hBK.size)
          have hV1 := Lib.hid (fun W => Valid_any (str p) (str dk) W)
          have hV2 := Lib.hid (fun W => refValid_any (str p) (str dk) W)
          generalize progOk (str p).data.toList (str dk).data.toList = ok at *
          have hq1 : (ok != ok) = false := by simp
          have hq2 : (ok == ok) = true := by simp
          clear hck2 BV hBs
          go_wp2_with fail
          refine (hV1.out _).mono ?_
          rintro e w5 ⟨rfl, z1, rfl⟩
          go_wp2_with fail
          refine (hV2.out _).mono ?_
          rintro e w6 ⟨rfl, z2, rfl⟩
          have hBy := fun n => below_drewN hBx n
          clear hV1 hV2 hBx
          go_wp2_with fail
          exact ⟨⟨i + 1, by omega, by go_num, hBy _⟩, by simp [intOf]; omega⟩
    · have hie : i = 2 := by omega
      subst hie
      have hd : decide (((2 : Nat) : Int) < 2) = false := by decide
      have hd' : decide ((2 : Int) < 2) = false := by decide
      have hKz := hskP.later hBr
      have hSc := Lib.hid (Screen_any _ kk wr hKz)
      have hSr := Lib.hid (fun (W : World) (hb : Below wr.heap.size wr W) => refScreen_any _ kk W (hKz.later hb))
      have hBc := Lib.hid (fun (W : World) (hb : Below wr.heap.size wr W) => Bitmap_any _ kk W (hKz.later hb))
      have hBr2 := Lib.hid (fun (W : World) (hb : Below wr.heap.size wr W) => refBitmap_any _ kk W (hKz.later hb))
      generalize str (bytesOf (screenL kk)) = sc at *
      generalize str (bytesOf (bitmapL kk)) = bm at *
      have hq2 : (sc.toList == sc.toList) = true := beq_self_eq_true _
      have hq3 : (bm.toList == bm.toList) = true := beq_self_eq_true _
      clear hcp2 BW hBr hty hP5
      go_wp2_with fail
      refine hSc.out.mono ?_
      rintro e w9 ⟨rfl, hb9⟩
      go_wp2_with fail
      refine (hSr.out _ hb9).mono ?_
      rintro e w10 ⟨rfl, hb10⟩
      have hb810 := hb9.trans (hb10.mono hb9.size)
      go_wp2_with fail
      refine (hBc.out _ hb810).mono ?_
      rintro e w11 ⟨rfl, hb11⟩
      have hb811 := hb810.trans (hb11.mono hb810.size)
      go_wp2_with fail
      refine (hBr2.out _ hb811).mono ?_
      rintro e w12 ⟨rfl, hb12⟩
      have hb812 := hb811.trans (hb12.mono hb811.size)
      have hB12 := hBwr.trans (hb812.mono hBwr.size)
      go_wp2_with fail
      go_ret
      exact ⟨rfl, hB12⟩
end Go.Proofs.YtkgbknjpnhoadaaGreatDoor
