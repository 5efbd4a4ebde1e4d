/-
  Package abstraction: Apply, of fold to texts.
-/
import Derived.Test.YtocpnlifmeffkaaGreatDoorUW
import Derived.Defers
import Derived.Recover
namespace Go.Proofs.YtocpnlifmeffkaaGreatDoor
open Go.RowKit Go.Shelf Go.Maps

attribute [local go_sem] Oper.semAt_some

theorem acaught_idle (p q : Addr) (w : World) :
    CallsD Tryz.prog 50 #[.pointer (some p), .pointer (some q)] .returning w fun e u' w' => e = .returned (.tuple #[]) ∧ u' = .returning ∧ w' = w := by
  refine callsD_of_wpS Tryz.func50 rfl fun c₀ cs hu => ?_
  apply wpS_seq
  apply wpS_region
  simp [wpOpsS, go_sem, recoverD, hu, Tryz.ntmps50, Exit.thenS]
  rw [show (#[Value.pointer (some p), .pointer (some q)] ++ (Array.replicate 16 undef).setIfInBounds 5 Value.nilIface : Array Value) = #[.pointer (some p), .pointer (some q), undef, undef, undef, undef, undef, .nilIface, undef, undef, undef, undef, undef, undef, undef, undef, undef, undef] by kernel_rfl]
  refine wpS_of_wp ?_
  go_wp2
  cases c₀
  simp_all [bodyPostS, results, Tryz.results50]
theorem lowB_len (t : List UInt8) : (lowB t).length = t.length := by unfold lowB Lib.toLowerA; simp
set_option maxRecDepth 100000 in
set_option maxHeartbeats 8000000 in
theorem Apply1_any (v : Value) (ts : List (List UInt8)) (w : World) (hn : ts.length ≤ 64) (h0 : 0 < ts.length) (hts : ∀ t ∈ ts, fineB t = true ∧ t.length ≤ 80) (hv : Rb.StepsAt w w.heap.size v [⟨1, 0⟩]) :
    Calls Tryz.prog 18 #[.int .i64 1, v, .string (str (putZ ts.length ++ ts.flatMap putSb))] w fun e w' => e = .returned (.tuple #[.string (str (putZ ts.length ++ (ts.map lowB).flatMap putSb)), .int .i64 0]) ∧ Below w.heap.size w w' := by
  have hmu := Lib.hid must_true
  have hVd := Lib.hid fun W (h : Below w.heap.size w W) => Rb.validA_any 1 v [⟨1, 0⟩] W (hv.later h)
  have hva : Rb.validA 1 [⟨1, 0⟩] = true := by decide
  rw [hva] at hVd
  have hls := txs_len ts fun t ht => (hts t ht).2
  have hl9 := putZ_len ts.length
  have hsz : (str (putZ ts.length ++ ts.flatMap putSb)).size ≤ 1000000 := by rw [str_size, List.length_append]; omega
  have hRd := Lib.hid fun W => read1_any (str (putZ ts.length ++ ts.flatMap putSb)) ts W hn hts (by simp [str]) hsz
  have hKi := Lib.hid Rb.kinds_all
  obtain ⟨b, o, cap, rfl, hb, hc0, hc1⟩ := hv.cells (i := 0) (by decide)
  rw [show ([⟨1, 0⟩] : List Rb.Stp).length = 1 from rfl] at hVd ⊢
  have hc0' : w.cell? ⟨b, o, none⟩ = some (.int .i64 1) := hc0
  have hc1' : w.cell? ⟨b, o + 1, none⟩ = some (.int .i64 0) := hc1
  clear hc0 hc1 hv
  obtain ⟨W0, hW0⟩ : ∃ W0, W0 = (w.alloc (.cells #[.string ⟨#[]⟩] 9)).alloc (.cells #[.int .i64 0] 30) := ⟨_, rfl⟩
  have hB0 : Below w.heap.size w W0 := by rw [hW0]; exact ((Below.refl _ _).alloc (Nat.le_refl _) _).alloc (by simp) _
  have hS0 : Arr W0 w.heap.size 9 [.string ⟨#[]⟩] := by rw [hW0]; exact (Arr.new rfl rfl).alloc _
  have hE0 : Arr W0 (w.heap.size + 1) 30 [.int .i64 0] := by rw [hW0]; exact Arr.new rfl (by simp)
  replace hB0 := Lib.hid hB0
  replace hW0 := Lib.hid hW0
  go_enter_defers Tryz.func18, Tryz.ntmps18
  go_wp2_with (first
    | (go_at_call 52; rw [← hW0.out]; refine (hVd.out _ hB0.out).mono ?_; rintro e w1 ⟨rfl, hb1⟩; have hS1 := hS0.below hb1; have hE1 := hE0.below hb1; have hB1 := hB0.out.trans (hb1.mono hB0.out.size))
    | (go_at_call 51; refine (hmu.out _).mono ?_; rintro e w9 ⟨rfl, rfl⟩)
    | (go_at_call 53; refine (hRd.out _).mono ?_; rintro e w2 ⟨lv, rfl, ho2, hb2⟩; obtain ⟨g, gc, rfl, hg, hLn⟩ := LnsIn.of_own ho2 h0))
  have hgw : w.heap.size + 1 < g := by have := hE1.lt; omega
  obtain ⟨W3, hW3⟩ : ∃ W3, W3 = w2.alloc (.cells #[.bool false, .slice (some ⟨g, 0, none⟩) ts.length gc, .int .i64 0, .int .i64 0, .string (str [])] 129) := ⟨_, rfl⟩
  have hb3 : Below w2.heap.size w2 W3 := by rw [hW3]; exact (Below.refl _ _).alloc (Nat.le_refl _) _
  have hs3 : W3.heap.size = w2.heap.size + 1 := by rw [hW3]; simp
  have hV3 : Arr W3 w2.heap.size 129 [.bool false, .slice (some ⟨g, 0, none⟩) ts.length gc, .int .i64 0, .int .i64 0, .string (str [])] := by rw [hW3]; exact Arr.new rfl rfl
  have hS3 := (hS1.below hb2).below hb3
  have hE3 := (hE1.below hb2).below hb3
  have hL3 := hLn.below hb3 hLn.lt
  have hB2 := hB1.trans (hb2.mono hB1.size)
  have hB3 := hB2.trans (hb3.mono hB2.size)
  have hgV : g ≠ w2.heap.size := by have := hLn.lt; omega
  have hgl := hLn.lt
  rw [← hW3]
  refine (hKi.out W3).mono ?_
  rintro e w4 ⟨rfl, hP4, hb4, hF4, _, _, _⟩
  obtain ⟨H, hH⟩ : ∃ H, H = W3.heap.size := ⟨_, rfl⟩
  rw [← hH] at hF4 hs3 ⊢
  replace hH := Lib.hid hH
  replace hW3 := Lib.hid hW3
  have hV4 := hV3.below hb4
  have hS4 := hS3.below hb4
  have hE4 := hE3.below hb4
  have hL4 := hL3.below hb4 hL3.lt
  have hB4 := hB3.trans (hb4.mono hB3.size)
  obtain ⟨A, hA⟩ : ∃ A, A = w4.heap.size := ⟨_, rfl⟩
  obtain ⟨W5, hW5⟩ : ∃ W5, W5 = w4.alloc (.cells #[.slice none 0 0, .nilFunc, .nilFunc, .slice none 0 0, .nilFunc, .nilFunc, .slice none 0 0, .nilFunc, .nilFunc, .slice none 0 0, .nilFunc, .nilFunc, .slice none 0 0, .nilFunc, .nilFunc, .slice none 0 0, .nilFunc, .nilFunc, .slice none 0 0, .nilFunc, .nilFunc] 135) := ⟨_, rfl⟩
  have hA5 : Arr W5 A 135 Rb.zero21 := by rw [hW5, hA]; exact Arr.new rfl rfl
  have hb5 : Below w4.heap.size w4 W5 := by rw [hW5]; exact (Below.refl _ _).alloc (Nat.le_refl _) _
  obtain ⟨W6, hW6⟩ : ∃ W6, W6 = W5.setCells A 0 (Rb.kindsL H) := ⟨_, rfl⟩
  have hVlt := hV4.lt
  have hSlt := hS4.lt
  have hElt := hE4.lt
  have hFlt := hF4.lt
  have hLlt := hL4.lt
  have hK6 : Arr W6 A 135 (Rb.kindsL H) := by rw [hW6]; exact hA5.setAll rfl
  have hV6 : Arr W6 w2.heap.size 129 [.bool false, .slice (some ⟨g, 0, none⟩) ts.length gc, .int .i64 0, .int .i64 0, .string (str [])] := by rw [hW6]; exact Arr.setCells_other _ _ _ _ (hV4.below hb5) (by omega)
  have hS6 : Arr W6 w.heap.size 9 [.string ⟨#[]⟩] := by rw [hW6]; exact Arr.setCells_other _ _ _ _ (hS4.below hb5) (by omega)
  have hE6 : Arr W6 (w.heap.size + 1) 30 [.int .i64 0] := by rw [hW6]; exact Arr.setCells_other _ _ _ _ (hE4.below hb5) (by omega)
  have hF6 : Arr W6 (H + 1 + 1) 184 [.func (.func 110) #[] #[]] := by rw [hW6]; exact Arr.setCells_other _ _ _ _ (hF4.below hb5) (by omega)
  have hB6a : Below w4.heap.size w4 W6 := by rw [hW6]; exact Below.setCells _ _ _ _ hb5 (by omega)
  have hL6 := hL4.below hB6a hL4.lt
  have hB6 := hB4.trans (hB6a.mono hB4.size)
  replace hW6 := Lib.hid hW6
  replace hs3 := Lib.hid hs3
  replace hA := Lib.hid hA
  replace hA5 := Lib.hid hA5
  clear hV3 hV4 hS1 hS3 hS4 hE1 hE3 hE4 hLn hL3 hL4 hB1 hB2 hB3 hB4 hb1 hb2 hb3 hb4 hb5 hB6a hF4 hP4 ho2 hB0 hS0 hE0 hKi hRd hVd
  go_wp2_with (rw [← hW5, ← hA.out]; refine arr_store rfl 135 _ _ rfl A rfl (vs := Rb.kindsL H) rfl hA5.out (n := 21) (by kernel_rfl) rfl rfl rfl ?_; rw [← hW6.out])
  have hgD : g ≠ H + 1 + 1 := by have := hs3.out; omega
  have hts8 : ∀ t ∈ ts.map lowB, t.length ≤ 80 := by
    intro t ht
    obtain ⟨x, hx, rfl⟩ := List.mem_map.1 ht
    rw [lowB_len]
    exact (hts x hx).2
  have hEa := Lib.hid fun W hVw hDw hLw => each1_any w2.heap.size (H + 1 + 1) g gc [.int .i64 0, .int .i64 0, .string (str [])] 0 ts W hn hts hVw hDw hLw hgV hgD
  have hWr := fun W hLw => write1_any g gc (ts.map lowB) W (by rw [List.length_map]; exact hn) hts8 hLw
  rw [List.length_map] at hWr
  replace hWr := Lib.hid hWr
  have x0 : W6.cell? ⟨b, o, none⟩ = some (.int .i64 1) := (hB6.cell (p := ⟨b, o, none⟩) hb).trans hc0'
  have x1 : W6.cell? ⟨b, o + 1, none⟩ = some (.int .i64 0) := (hB6.cell (p := ⟨b, o + 1, none⟩) hb).trans hc1'
  replace hts8 := Lib.hid hts8
  replace hts := Lib.hid hts
  clear hc0' hc1' hW0 hW5 hA5
  go_loopw [22] (fun iv wr => (iv = .int .i64 0 ∧ wr = W6) ∨ (iv = .int .i64 1 ∧ Hid (LnsIn wr g (ts.map lowB) ∧ Arr wr w2.heap.size 129 [.bool false, .slice (some ⟨g, 0, none⟩) ts.length gc, .int .i64 0, .int .i64 0, .string (str [])] ∧ Arr wr w.heap.size 9 [.string ⟨#[]⟩] ∧ Arr wr (w.heap.size + 1) 30 [.int .i64 0] ∧ Below w.heap.size w wr))) (fun iv _ => 1 - (intOf iv).toNat)
  case atStart => exact .inl ⟨rfl, rfl⟩
  case round =>
    rcases hrel with ⟨rfl, rfl⟩ | ⟨rfl, hh⟩
    · have v0 := hV6.cell (j := 0) rfl
      have k3 : wr.cell? ⟨A, 5, none⟩ = some (.func (.func 178) #[] #[.pointer (some ⟨H + 1 + 1, 0, none⟩)]) := hK6.cell (j := 5) rfl
      have hVl := hV6.lt
      have hKl := hK6.lt
      have hbl : b < wr.heap.size := Nat.lt_of_lt_of_le hb hB6.size
      have hb7 : Below wr.heap.size wr (wr.alloc (.cells #[.int .i64 1, .int .i64 0] 55)) := (Below.refl _ _).alloc (Nat.le_refl _) _
      have hcall := hEa.out _ ((hV6.below hb7).drew) ((hF6.below hb7).drew) (show LnsIn (wr.alloc (.cells #[.int .i64 1, .int .i64 0] 55)).drew g ts from (hL6.below hb7 hL6.lt).below (Below.refl _ _).drew (Nat.lt_of_lt_of_le hL6.lt hb7.size))
      have hV7 := (hV6.below hb7).drew
      have hS7 := (hS6.below hb7).drew
      have hE7 := (hE6.below hb7).drew
      have hB7 : Below w.heap.size w (wr.alloc (.cells #[.int .i64 1, .int .i64 0] 55)).drew := (hB6.trans (hb7.mono hB6.size)).drew
      replace hcall := Lib.hid hcall
      replace hV7 := Lib.hid hV7
      replace hS7 := Lib.hid hS7
      replace hE7 := Lib.hid hE7
      replace hB7 := Lib.hid hB7
      clear hV6 hS6 hE6 hF6 hK6 hL6 hB6 hb7 hEa
      go_wp2
      refine name_wp ?_
      intro Wn hWn
      have hbn : Below wr.heap.size wr Wn := by rw [hWn]; exact (Below.refl _ _).alloc (Nat.le_refl _) _
      have hXn : Arr Wn wr.heap.size 55 [.int .i64 1, .int .i64 0] := by rw [hWn]; exact Arr.new rfl rfl
      have y0 := hXn.cell (j := 0) rfl
      have y1 := hXn.cell (j := 1) rfl
      have k3n := (hbn.cell (p := ⟨A, 5, none⟩) hKl).trans k3
      rw [← hWn] at hcall hV7 hS7 hE7 hB7
      clear hWn hbn hXn v0 k3 x0 x1
      go_still_tail 7, (by kernel_rfl)
      change wpList _ _ _ _ _ Wn.drew
      go_wp2_with (fail)
      refine hcall.out.mono ?_
      rintro e w8 ⟨⟨r, rfl⟩, hL8, hb8⟩
      go_wp2_with (fail)
      refine ⟨.inr ⟨rfl, Lib.hid ⟨hL8, hb8.arr hV7.out (by omega), hb8.arr hS7.out (by omega), hb8.arr hE7.out (by omega), ?_⟩⟩, by simp [intOf]⟩
      exact hB7.out.trans (hb8.below (by omega) hB7.out.size)
    · obtain ⟨hLr, hVr, hSr, hEr, hBr⟩ := hh.out
      clear hh
      have v0 := hVr.cell (j := 0) rfl
      have v1 := hVr.cell (j := 1) rfl
      have v2 := hVr.cell (j := 2) rfl
      have v3 := hVr.cell (j := 3) rfl
      have v4 := hVr.cell (j := 4) rfl
      go_wp2_with (go_at_call 55; refine (hWr.out _ hLr).mono ?_; rintro e w9 ⟨rfl, hb9⟩; have hS9 := hSr.below hb9; have hE9 := hEr.below hb9; have s0 := hS9.cell (j := 0) rfl; have fs := hS9.free 0; have e0 := hE9.cell (j := 0) rfl; have fe := hE9.free 0)
      have hfs : ((w9.setCell ⟨w.heap.size, 0, none⟩ (.string (str (putZ ts.length ++ (ts.map lowB).flatMap putSb)))).setCell ⟨w.heap.size + 1, 0, none⟩ (.int .i64 0)).cell? ⟨w.heap.size, 0, none⟩ = some (.string (str (putZ ts.length ++ (ts.map lowB).flatMap putSb))) := ((hS9.set 0 _).other _ (by omega)).cell rfl
      have hfe : ((w9.setCell ⟨w.heap.size, 0, none⟩ (.string (str (putZ ts.length ++ (ts.map lowB).flatMap putSb)))).setCell ⟨w.heap.size + 1, 0, none⟩ (.int .i64 0)).cell? ⟨w.heap.size + 1, 0, none⟩ = some (.int .i64 0) := ((hE9.other _ (by omega)).set 0 _).cell rfl
      have hBf : Below w.heap.size w ((w9.setCell ⟨w.heap.size, 0, none⟩ (.string (str (putZ ts.length ++ (ts.map lowB).flatMap putSb)))).setCell ⟨w.heap.size + 1, 0, none⟩ (.int .i64 0)) := ((hBr.trans (hb9.mono hBr.size)).setCell (p := ⟨w.heap.size, 0, none⟩) (Nat.le_refl _) _).setCell (p := ⟨w.heap.size + 1, 0, none⟩) (by show w.heap.size ≤ w.heap.size + 1; omega) _
      refine leaves_cons (f := 50) (args := #[.pointer (some ⟨w.heap.size, 0, none⟩), .pointer (some ⟨w.heap.size + 1, 0, none⟩)]) (by simp) (by simp [go_sem]) ?_
      refine (acaught_idle ⟨w.heap.size, 0, none⟩ ⟨w.heap.size + 1, 0, none⟩ _).mono ?_
      rintro e u' w'' ⟨rfl, rfl, rfl⟩
      generalize (w9.setCell ⟨w.heap.size, 0, none⟩ (.string (str (putZ ts.length ++ (ts.map lowB).flatMap putSb)))).setCell ⟨w.heap.size + 1, 0, none⟩ (.int .i64 0) = WF at *
      simp [Leaves, settle, results, Tryz.results18, go_sem, hfs, hfe]
      exact hBf
end Go.Proofs.YtocpnlifmeffkaaGreatDoor
