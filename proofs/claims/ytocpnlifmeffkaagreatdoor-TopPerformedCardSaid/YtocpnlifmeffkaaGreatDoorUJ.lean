/-
  The contract of performance's reader.
  The contract of performance.Decode, at what Encode wrote.
  The contracts of performance.Valid, has, of, close; chosen and Counted.
  The contracts of slices.Index at bools, of byClass's comparison, of the insertion sort at what is in order.
-/
import Derived.Test.YtocpnlifmeffkaaGreatDoorUI
namespace Go.Proofs.YtocpnlifmeffkaaGreatDoor
open Go.RowKit Go.Shelf

attribute [local go_sem] Oper.semAt_some

/-- A reader at a place. -/
def RdAt (w : World) (R : Nat) (s : ByteArray) (at_ : Nat) : Prop := Arr w R 94 [.string s, .int .i64 (at_ : Int), .bool false]
set_option maxRecDepth 100000 in
set_option maxHeartbeats 4000000 in
theorem pnumber_any (R : Nat) (s : ByteArray) (pre post : List UInt8) (n : Int) (w : World) (h1 : -(2 ^ 62 - 1) ≤ n) (h2 : n ≤ 2 ^ 62 - 1) (hs : s.data.toList = pre ++ (putZ n ++ post)) (hsz : s.size ≤ 1000000) (hR : RdAt w R s pre.length) :
    Calls Tryz.prog 34 #[.pointer (some ⟨R, 0, none⟩)] w fun e w' => e = .returned (.int .i64 n) ∧ RdAt w' R s (pre ++ putZ n).length ∧ BelowBut w.heap.size R w w' := by
  have hI := Int_any s pre post n
  have hlen : (pre ++ putZ n).length = pre.length + (putZ n).length := by simp
  rw [hlen]
  obtain ⟨p, hp⟩ : ∃ p, p = pre.length := ⟨_, rfl⟩
  obtain ⟨q, hq⟩ : ∃ q, q = pre.length + (putZ n).length := ⟨_, rfl⟩
  have hI2 := Lib.hid fun W => hI W h1 h2 hs hsz
  rw [← hq, ← hp] at hI2
  rw [← hp] at hR
  rw [← hq]
  clear hI hs hlen hp
  replace hq := Lib.hid hq
  unfold RdAt at *
  have hA := hR
  have c0 := hR.cell (j := 0) rfl
  have c1 := hR.cell (j := 1) rfl
  have hB : BelowBut w.heap.size R w w := BelowBut.refl _ _ _
  go_enter Tryz.func34, Tryz.ntmps34
  go_wp2_with fail
  go_quiet (first | (with_reducible refine Calls.quiet_of_same (hI2.out _)))
  refine name_then ?_
  intro w2 hw2
  have hA2 : Arr w2 R 94 [.string s, .int .i64 (p : Int), .bool false] := by rw [hw2]; exact hA
  have hB2 : BelowBut w.heap.size R w w2 := by rw [hw2]; exact (BelowBut.refl _ _ _).drewN _
  clear hw2 c0 c1 hB
  have f1 := hA2.free 1
  have c1 := hA2.cell (j := 1) rfl
  go_wp2_with fail
  go_ret
  exact ⟨rfl, hA2.set 1 _, hB2.setCell 1 _⟩
end Go.Proofs.YtocpnlifmeffkaaGreatDoor
namespace Go.Proofs.YtocpnlifmeffkaaGreatDoor
open Go.RowKit Go.Shelf

attribute [local go_sem] Oper.semAt_some

theorem evCells_take_succ (l : List Ev) {k : Nat} (h : k < l.length) : evCells (l.take (k + 1)) = evCells (l.take k) ++ evCells [l[k]!] := by
  rw [getElem!_pos l k h, ← List.take_append_getElem h, evCells_app]
structure DecI (w wr : World) (s : ByteArray) (l : List Ev) (k : Nat) (last : Int) (v : Value) : Prop where
  below : Below w.heap.size w wr
  rd : ∃ pre, s.data.toList = pre ++ encE last (l.drop k) ∧ RdAt wr w.heap.size s pre.length
  own : wr.ownsRow (w.heap.size + 1) 60 4 v k (evCells (l.take k))
  low : 0 ≤ last ∧ last ≤ 20000
  asc : ∀ x r, l.drop k = x :: r → last ≤ x.t
set_option maxRecDepth 100000 in
set_option maxHeartbeats 4000000 in
theorem Decode_any (l : List Ev) (w : World) (hok : EvsOk l) :
    Calls Tryz.prog 12 #[.string (str (encP l))] w fun e w' => ∃ v, e = .returned (.tuple #[v, .int .i64 0]) ∧ w'.ownsRow w.heap.size 60 4 v l.length (evCells l) ∧ Below w.heap.size w w' := by
  obtain ⟨i0, hi, hz0, hz1, hz2⟩ := info_parts Tryz.info_ev
  have hpl := encP_len hok
  have hl1 := hok.len
  have hmf : ∀ (fn : Fn) (first cap : Array Value) (w : World), (Instr.makeFunc fn first cap).run Tryz.prog w = .ok (.func fn first cap) w := fun _ _ _ _ => rfl
  have hsl : (str (encP l)).data.toList = encP l := by simp [str]
  have hsz : (str (encP l)).size ≤ 1000000 := by rw [str_size]; omega
  have hsz2 : Hid ((str (encP l)).size = (encP l).length) := Lib.hid (str_size _)
  have hwi := Lib.hid pwithin_any
  have hn1 := Lib.hid fun (W : World) (hR : RdAt W w.heap.size (str (encP l)) ([] : List UInt8).length) => pnumber_any w.heap.size (str (encP l)) [] (encE 0 l) (l.length : Int) W (by omega) (by omega) (by rw [hsl]; rfl) hsz hR
  have hR0 : RdAt (w.alloc (.cells #[.string (str (encP l)), .int .i64 0, .bool false] 94)) w.heap.size (str (encP l)) ([] : List UInt8).length := Arr.new rfl rfl
  have hb0 : Below w.heap.size w (w.alloc (.cells #[.string (str (encP l)), .int .i64 0, .bool false] 94)) := (Below.refl _ _).alloc (Nat.le_refl _) _
  replace hR0 := Lib.hid hR0
  replace hb0 := Lib.hid hb0
  go_enter Tryz.func12, Tryz.ntmps12
  have hwl : (decide (0 ≤ (l.length : Int)) && decide ((l.length : Int) ≤ 1000)) = true := by simp; omega
  go_wp2_with (first
    | (go_at_call 34; refine (hn1.out _ hR0.out).mono ?_; rintro e w1 ⟨rfl, hR1, hb1⟩; have c2 := hR1.cell (j := 2) rfl)
    | (go_at_call 35; refine (hwi.out _ _ _ _).mono ?_; rintro e w2 ⟨rfl, rfl⟩; simp only [hwl]))
  have hB1 : Below w.heap.size w w2 := hb0.out.trans (hb1.below (Nat.le_refl _) hb0.out.size)
  have hst : DecI w w2 (str (encP l)) l 0 0 (.slice none 0 0) := ⟨hB1, ⟨_, by rw [hsl]; rfl, hR1⟩, World.ownsRow_nil _ _ _ _, by omega, fun x r hx => by
    have := hok.all x (by rw [List.drop_zero] at hx; rw [hx]; simp)
    exact this.1.1⟩
  replace hst := Lib.hid hst
  have hasc := Lib.hid hok.ord
  have hall := Lib.hid hok.all
  have hV := Lib.hid fun v W (hv : SliceAt W W.heap.size v l.length (evCells l)) => pvalid_any v l W hok hv
  clear c2 hb1 hR1 hB1 hn1 hb0 hR0 hwl
  go_loopw [7, 8, 9, 29] (fun vo la od i wr => ∃ (k : Nat) (last : Int) (v : Value), k ≤ l.length ∧ i = .int .i64 k ∧ la = .int .i64 last ∧ od = .bool false ∧ v = vo ∧ Hid (DecI w wr (str (encP l)) l k last v)) (fun _ _ _ i _ => l.length - (intOf i).toNat)
  case atStart => exact ⟨0, 0, _, Nat.zero_le _, rfl, rfl, rfl, rfl, hst⟩
  case round =>
    obtain ⟨k, last, v, hk, rfl, rfl, rfl, rfl, hh⟩ := hrel
    obtain ⟨hB, ⟨pre, hp, hR⟩, hrow, ⟨hl0, hlL⟩, hac⟩ := hh.out
    clear hh hst
    by_cases hlt : k < l.length
    · have hd : decide ((k : Int) < (l.length : Int)) = true := by simp; omega
      have hmem : l[k]! ∈ l := by rw [getElem!_pos l k hlt]; exact List.getElem_mem _
      have hev := hall.out _ hmem
      have hdrop : l.drop k = l[k]! :: l.drop (k + 1) := by rw [getElem!_pos l k hlt]; exact List.drop_eq_getElem_cons hlt
      have hle := hac _ _ hdrop
      have htk := evCells_take_succ l hlt
      have hasc2 : ∀ x r, l.drop (k + 1) = x :: r → (l[k]!).t ≤ x.t := fun x r hx => by
        have h1 : k + 1 < l.length := by
          have := congrArg List.length hx
          rw [List.length_drop, List.length_cons] at this
          omega
        have h2 := (inOrder_iff l).1 hasc.out k h1
        have h3 : l[k + 1]! = x := by
          have : (l.drop (k + 1))[0]? = some x := by rw [hx]; rfl
          rw [List.getElem?_drop] at this
          rw [getElem!_pos l (k + 1) h1]
          simpa [List.getElem?_eq_getElem h1] using this
        rwa [h3] at h2
      rw [hdrop, encE] at hp
      generalize hx : l[k]! = x at *
      replace hx := Lib.hid hx
      obtain ⟨⟨t0, t1⟩, ⟨k0, k1⟩, ⟨a0, a1⟩, b0, b1⟩ := hev
      generalize hrest : encE x.t (l.drop (k + 1)) = rest at *
      have hs1 : (str (encP l)).data.toList = pre ++ (putZ (x.t - last) ++ (putZ x.k ++ (putZ x.a ++ (putZ x.b ++ rest)))) := by rw [hp]; simp
      have hs2 : (str (encP l)).data.toList = (pre ++ putZ (x.t - last)) ++ (putZ x.k ++ (putZ x.a ++ (putZ x.b ++ rest))) := by rw [hp]; simp
      have hs3 : (str (encP l)).data.toList = (pre ++ putZ (x.t - last) ++ putZ x.k) ++ (putZ x.a ++ (putZ x.b ++ rest)) := by rw [hp]; simp
      have hs4 : (str (encP l)).data.toList = (pre ++ putZ (x.t - last) ++ putZ x.k ++ putZ x.a) ++ (putZ x.b ++ rest) := by rw [hp]; simp
      have hs5 : (str (encP l)).data.toList = (pre ++ putZ (x.t - last) ++ putZ x.k ++ putZ x.a ++ putZ x.b) ++ rest := by rw [hp]; simp
      have hN1 := Lib.hid (pnumber_any w.heap.size (str (encP l)) _ _ _ wr (by omega) (by omega) hs1 hsz hR)
      have hN2 := Lib.hid fun W h => pnumber_any w.heap.size (str (encP l)) _ _ _ W (by omega) (by omega) hs2 hsz h
      have hN3 := Lib.hid fun W h => pnumber_any w.heap.size (str (encP l)) _ _ _ W (by omega) (by omega) hs3 hsz h
      have hN4 := Lib.hid fun W h => pnumber_any w.heap.size (str (encP l)) _ _ _ W (by omega) (by omega) hs4 hsz h
      have hwt : (decide (0 ≤ x.t - last) && decide (x.t - last ≤ 20000)) = true := by simp; omega
      have hadd : last + (x.t - last) = x.t := by omega
      replace htk := Lib.hid htk
      replace hasc2 := Lib.hid hasc2
      replace hrest := Lib.hid hrest
      replace hs5 := Lib.hid hs5
      clear hs1 hs2 hs3 hs4 hp hdrop hac hmem
      go_wp2_with (first
        | (refine hN1.out.mono ?_; rintro e w1 ⟨rfl, hR1, hb1⟩; clear hN1)
        | (refine (hN2.out _ hR1).mono ?_; rintro e w2 ⟨rfl, hR2, hb2⟩; clear hN2)
        | (refine (hN3.out _ hR2).mono ?_; rintro e w3 ⟨rfl, hR3, hb3⟩; clear hN3)
        | (refine (hN4.out _ hR3).mono ?_; rintro e w4 ⟨rfl, hR4, hb4⟩; clear hN4
           have hrow4 := own_but (own_but (own_but (own_but hrow hb1 (by omega)) hb2 (by omega)) hb3 (by omega)) hb4 (by omega)
           have hB2 := hB.trans (hb1.below (Nat.le_refl _) hB.size)
           have hB3 := hB2.trans (hb2.below (Nat.le_refl _) hB2.size)
           have hB4' := hB3.trans (hb3.below (Nat.le_refl _) hB3.size)
           have hB4 := hB4'.trans (hb4.below (Nat.le_refl _) hB4'.size)
           have hz4 := hB4.size
           have hR4l := hR4.lt
           have hrow6 : ((w4.alloc (.cells #[.int .i64 x.t, .int .i64 x.k, .int .i64 x.a, .int .i64 x.b] 60)).alloc (.cells #[.int .i64 x.t, .int .i64 x.k, .int .i64 x.a, .int .i64 x.b] 60)).ownsRow (w.heap.size + 1) 60 4 v k (evCells (l.take k)) := (hrow4.alloc _).alloc _
           have hnew : ∀ j u, (evCells [x])[j]? = some u → ((w4.alloc (.cells #[.int .i64 x.t, .int .i64 x.k, .int .i64 x.a, .int .i64 x.b] 60)).alloc (.cells #[.int .i64 x.t, .int .i64 x.k, .int .i64 x.a, .int .i64 x.b] 60)).cell? ((⟨w4.heap.size + 1, 0, none⟩ : Addr).add j) = some u := fun j u hu => by
             have := cells_new (w4.alloc (.cells #[.int .i64 x.t, .int .i64 x.k, .int .i64 x.a, .int .i64 x.b] 60)) (evCells [x]) 60 j u hu
             rwa [World.size_alloc] at this
           have hone : ∀ u ∈ evCells [x], u.oneCell' = true := by simp [evCells, Value.oneCell']
           have hq2 : k + 1 ≤ maxLen := by unfold maxLen; omega
           have hq3 : (k + 1) * 32 ≤ 140737488355328 := by omega
           have hq4 : w.heap.size + 1 ≤ ((w4.alloc (.cells #[.int .i64 x.t, .int .i64 x.k, .int .i64 x.a, .int .i64 x.b] 60)).alloc (.cells #[.int .i64 x.t, .int .i64 x.k, .int .i64 x.a, .int .i64 x.b] 60)).heap.size := by simp only [World.size_alloc]; omega
           have hq4' : w.heap.size ≤ ((w4.alloc (.cells #[.int .i64 x.t, .int .i64 x.k, .int .i64 x.a, .int .i64 x.b] 60)).alloc (.cells #[.int .i64 x.t, .int .i64 x.k, .int .i64 x.a, .int .i64 x.b] 60)).heap.size := by omega
           clear hb1 hb2 hb3 hb4 hB2 hB3 hB4' hR1 hR2 hR3 hrow4)
        | (go_at_call 35; refine (hwi.out _ _ _ _).mono ?_; rintro e w5 ⟨rfl, rfl⟩; simp only [hwt])
        | (at_builtin; go_loud (refine wpList_append_own _ rfl _ _ 25 rfl (w.heap.size + 1) 60 i0 (.agg #[.int .i64 0, .int .i64 0, .int .i64 0, .int .i64 0]) 4 32 Tryz.underlying25 hi hz0 hz1 hz2 rfl (by decide) v k (evCells (l.take k)) rfl hrow6 ⟨w4.heap.size + 1, 0, none⟩ 1 1 (evCells [x]) rfl rfl hnew hone hq2 hq3 hq4 ?_; intro v' wn hown' hgrow hnil)))
      have hbn : Below w.heap.size w wn := by
        refine (((hB4.alloc (by omega) _).alloc (by simp only [World.size_alloc]; omega) _).grown hgrow hq4' fun j ej => ?_)
        rcases hrow6.2 with ⟨rfl, _⟩ | ⟨g, cap, cur, rfl, hb, _, _⟩
        · cases ej
        · have : g = j := by simpa [Value.ownBlock] using ej
          omega
      have hRn : RdAt wn w.heap.size (str (encP l)) (pre ++ putZ (x.t - last) ++ putZ x.k ++ putZ x.a ++ putZ x.b).length := ((hR4.alloc _).alloc _).grown hrow6 (by decide) hgrow
      exact ⟨⟨k + 1, x.t, v', by omega, rfl, rfl, rfl, rfl, Lib.hid ⟨hbn, ⟨_, by rw [hs5.out, hrest.out], hRn⟩, by rw [htk.out]; exact hown', ⟨t0, t1⟩, hasc2.out⟩⟩, by simp [intOf]; omega⟩
    · obtain rfl : k = l.length := by omega
      have hd : decide ((l.length : Int) < (l.length : Int)) = false := by simp
      rw [List.drop_length, encE, List.append_nil] at hp
      have hpl2 : ((pre.length : Nat) : Int) = ((str (encP l)).size : Int) := by
        rw [← ByteArray.size_data, ← Array.length_toList, hp]
      rw [List.take_length] at hrow
      have hR' := hR
      unfold RdAt at hR'
      rw [hpl2] at hR'
      have c1 := hR'.cell (j := 1) rfl
      have c2 := hR'.cell (j := 2) rfl
      have hVv := Lib.hid (hV.out v wr (sliceAt_of_own hrow))
      clear hpl2 hp hac
      replace hrow := Lib.hid hrow
      go_wp2_with (go_at_call 31; refine hVv.out.mono ?_; rintro e w2 ⟨rfl, hb2⟩)
      go_ret2
      exact ⟨v, rfl, own_below (ownsRow_base hrow.out (by omega)) hb2, hB.trans (hb2.mono hB.size)⟩
end Go.Proofs.YtocpnlifmeffkaaGreatDoor
namespace Go.Proofs.YtocpnlifmeffkaaGreatDoor
open Go.RowKit Go.Shelf

attribute [local go_sem] Oper.semAt_some

theorem and1_even (m : Nat) (h : m < 32) : bits .and .i64 (2 * (m : Int)) 1 = 0 := by
  have key : ∀ k : Fin 32, bits .and .i64 (2 * ((k.1 : Nat) : Int)) 1 = 0 := by decide +kernel
  exact key ⟨m, h⟩
/-- A relation. -/
def relV (K s : Int) (o : Bool) : Value := .agg #[.int .i64 K, .int .i64 s, .bool o]
def RelOk (K s : Int) : Prop := (∃ m : Nat, m < 32 ∧ K = 2 * (m : Int)) ∧ 0 ≤ s ∧ s ≤ 20000
set_option maxHeartbeats 1000000 in
theorem pValid_any (K s : Int) (o : Bool) (w : World) (h : RelOk K s) :
    Calls Tryz.prog 36 #[relV K s o] w fun e w' => e = .returned (.bool true) ∧ Below w.heap.size w w' := by
  obtain ⟨⟨m, hm, hK⟩, hs0, hs1⟩ := h
  have hand := and1_even m hm
  rw [← hK] at hand
  have hwi := Lib.hid pwithin_any
  have h1 : (decide (0 ≤ K) && decide (K ≤ 62)) = true := by simp; omega
  have h2 : (decide (0 ≤ s) && decide (s ≤ 20000)) = true := by simp; omega
  clear hK
  unfold relV
  go_enter Tryz.func36, Tryz.ntmps36
  go_wp2_with (go_at_call 35; refine (hwi.out _ _ _ _).mono ?_; rintro e w5 ⟨rfl, rfl⟩; simp only [h1, h2])
  go_ret
  exact ⟨rfl, (Below.refl _ _).alloc (Nat.le_refl _) _⟩
/-- Whether an event counts. -/
def hasB (K : Int) (e : Ev) : Bool := (decide (1 ≤ e.k) && decide (e.k ≤ 5)) && (bits .and .i64 (K / 2 ^ e.k.toNat) 1 == 1)
set_option maxHeartbeats 1000000 in
theorem has_any (K : Int) (e : Ev) (w : World) :
    Calls Tryz.prog 78 #[.int .i64 K, evAgg e] w fun r w' => r = .returned (.bool (hasB K e)) ∧ Below w.heap.size w w' := by
  have hwi := Lib.hid pwithin_any
  have hB : Below w.heap.size w (w.alloc (.cells #[.int .i64 e.t, .int .i64 e.k, .int .i64 e.a, .int .i64 e.b] 60)) := (Below.refl _ w).alloc (Nat.le_refl _) _
  obtain ⟨t, k, a, b⟩ := e
  unfold evAgg hasB
  dsimp only at *
  cases h1 : (decide (1 ≤ k) && decide (k ≤ 5)) with
  | false =>
    go_enter Tryz.func78, Tryz.ntmps78
    go_wp2_with (go_at_call 35; refine (hwi.out _ _ _ _).mono ?_; rintro e w5 ⟨rfl, rfl⟩; simp only [h1])
    go_ret
    exact ⟨rfl, hB⟩
  | true =>
    have hk : 1 ≤ k ∧ k ≤ 5 := by simpa using h1
    obtain ⟨n, hn⟩ : ∃ n : Nat, k = n := ⟨k.toNat, by omega⟩
    subst hn
    have hn6 : n ≤ 5 := by omega
    rw [Int.toNat_natCast]
    go_enter Tryz.func78, Tryz.ntmps78
    go_wp2_with (go_at_call 35; refine (hwi.out _ _ _ _).mono ?_; rintro e w5 ⟨rfl, rfl⟩; simp only [h1])
    go_ret
    exact ⟨rfl, hB⟩
def clsV (e : Ev) : Value := .agg #[.int .i64 e.k, .int .i64 e.a, .int .i64 e.b]
set_option maxHeartbeats 1000000 in
theorem of_any (e : Ev) (w : World) :
    Calls Tryz.prog 38 #[evAgg e] w fun r w' => r = .returned (clsV e) ∧ Below w.heap.size w w' := by
  obtain ⟨t, k, a, b⟩ := e
  unfold evAgg clsV
  dsimp only at *
  go_enter Tryz.func38, Tryz.ntmps38
  go_wp2_with fail
  refine bodyPost_ret (arr_result (T := 101) (L := [.int .i64 k, .int .i64 a, .int .i64 b]) (n := 3) rfl _ (B := w.heap.size + 1) (Arr.new rfl (by simp)) rfl Tryz.underlying101 rfl (by kernel_rfl) rfl) rfl ?_
  exact ⟨rfl, ((Below.refl _ w).alloc (Nat.le_refl _) _).alloc (by simp) _⟩
set_option maxHeartbeats 1000000 in
theorem close_any (K s : Int) (o : Bool) (t : Int) (w : World) (hs : 0 ≤ s) (hs2 : s ≤ 20000) (ht : 0 ≤ t) (ht2 : t ≤ 20000) :
    Calls Tryz.prog 39 #[relV K s o, .int .i64 t, .int .i64 t] w fun e w' => e = .returned (.bool true) ∧ Below w.heap.size w w' := by
  unfold relV
  go_enter Tryz.func39, Tryz.ntmps39
  go_wp2_with fail
  go_ret
  exact ⟨rfl, (Below.refl _ _).alloc (Nat.le_refl _) _⟩
/-- What is chosen so far. -/
def ChoI (w wr : World) (K : Int) (l : List Ev) (k : Nat) (v : Value) : Prop :=
  Below w.heap.size w wr ∧ wr.ownsRow w.heap.size 60 4 v ((l.take k).filter (hasB K)).length (evCells ((l.take k).filter (hasB K)))
set_option maxRecDepth 100000 in
set_option maxHeartbeats 4000000 in
theorem chosen_any (K : Int) (v : Value) (l : List Ev) (w : World) (hl : l.length ≤ 1000) (hv : SliceAt w w.heap.size v l.length (evCells l)) :
    Calls Tryz.prog 77 #[v, .func (.func 78) #[.int .i64 K] #[]] w fun e w' => ∃ v', e = .returned v' ∧ w'.ownsRow w.heap.size 60 4 v' (l.filter (hasB K)).length (evCells (l.filter (hasB K))) ∧ Below w.heap.size w w' := by
  obtain ⟨i0, hi, hz0, hz1, hz2⟩ := info_parts Tryz.info_ev
  obtain ⟨a, c, rfl, h1, h2, hc⟩ := sliceCells hv
  unfold maxLen at h2
  have hh := Lib.hid fun e W => has_any K e W
  replace hc := Lib.hid hc
  clear hv
  go_enter Tryz.func77, Tryz.ntmps77
  go_wp2_with fail
  go_loopw [5, 10] (fun vo i wr => ∃ (k : Nat) (v : Value), k ≤ l.length ∧ i = .int .i64 k ∧ v = vo ∧ Hid (ChoI w wr K l k v)) (fun _ i _ => l.length - (intOf i).toNat)
  case atStart => exact ⟨0, _, Nat.zero_le _, rfl, rfl, Lib.hid ⟨Below.refl _ _, World.ownsRow_nil _ _ _ _⟩⟩
  case round =>
    obtain ⟨k, v, hk, rfl, rfl, hR⟩ := hrel
    obtain ⟨hB, hrow⟩ := hR.out
    clear hR
    by_cases hlt : k < l.length
    · have hd : decide ((k : Int) < (l.length : Int)) = true := by simp; omega
      obtain ⟨b, ob, rfl, hbl, hcell⟩ := hc.out k hlt
      obtain ⟨c0, c1, c2, c3⟩ := hcell wr (hB.block b hbl)
      have htk : l.take (k + 1) = l.take k ++ [l[k]!] := by rw [getElem!_pos l k hlt, ← List.take_append_getElem hlt]
      have hlen : ((l.take k).filter (hasB K)).length ≤ k := Nat.le_trans (List.length_filter_le _ _) (by rw [List.length_take]; omega)
      generalize hx : l[k]! = x at *
      replace hx := Lib.hid hx
      have hhx := Lib.hid (hh.out x)
      have hBz := hB.size
      have hb1 : Below wr.heap.size wr (wr.alloc (.cells #[.int .i64 x.t, .int .i64 x.k, .int .i64 x.a, .int .i64 x.b] 60)) := (Below.refl _ _).alloc (Nat.le_refl _) _
      have hA1 : Arr (wr.alloc (.cells #[.int .i64 x.t, .int .i64 x.k, .int .i64 x.a, .int .i64 x.b] 60)) wr.heap.size 60 [.int .i64 x.t, .int .i64 x.k, .int .i64 x.a, .int .i64 x.b] := Arr.new rfl rfl
      cases hbx : hasB K x with
      | false =>
        have hfil : (l.take (k + 1)).filter (hasB K) = (l.take k).filter (hasB K) := by rw [htk, List.filter_append]; simp [hbx]
        replace hfil := Lib.hid hfil
        replace hbx := Lib.hid hbx
        go_wp2_with (refine (hhx.out _).mono ?_; rintro e w1 ⟨rfl, hbw⟩; simp only [hbx.out])
        exact ⟨⟨k + 1, v, by omega, rfl, rfl, Lib.hid ⟨hB.trans ((hb1.trans (hbw.mono hb1.size)).mono hBz), by rw [hfil.out]; exact own_below hrow (hb1.trans (hbw.mono hb1.size))⟩⟩, by simp [intOf]; omega⟩
      | true =>
        have hfil : (l.take (k + 1)).filter (hasB K) = (l.take k).filter (hasB K) ++ [x] := by rw [htk, List.filter_append]; simp [hbx]
        replace hfil := Lib.hid hfil
        replace hbx := Lib.hid hbx
        generalize hm : (l.take k).filter (hasB K) = m at *
        replace hm := Lib.hid hm
        go_wp2_with (first
          | (refine (hhx.out _).mono ?_; rintro e w1 ⟨rfl, hbw⟩; clear hhx; simp only [hbx.out]
             have hbw1 := hb1.trans (hbw.mono hb1.size)
             have hA2 := hA1.below hbw
             have d0 := hA2.cell (j := 0) rfl
             have d1 := hA2.cell (j := 1) rfl
             have d2 := hA2.cell (j := 2) rfl
             have d3 := hA2.cell (j := 3) rfl
             have hrow6 : (w1.alloc (.cells #[.int .i64 x.t, .int .i64 x.k, .int .i64 x.a, .int .i64 x.b] 60)).ownsRow w.heap.size 60 4 v m.length (evCells m) := (own_below hrow hbw1).alloc _
             have hnew : ∀ j u, (evCells [x])[j]? = some u → (w1.alloc (.cells #[.int .i64 x.t, .int .i64 x.k, .int .i64 x.a, .int .i64 x.b] 60)).cell? ((⟨w1.heap.size, 0, none⟩ : Addr).add j) = some u := fun j u hu => cells_new w1 (evCells [x]) 60 j u hu
             have hone : ∀ u ∈ evCells [x], u.oneCell' = true := by simp [evCells, Value.oneCell']
             have hq2 : m.length + 1 ≤ maxLen := by unfold maxLen; omega
             have hq3 : (m.length + 1) * 32 ≤ 140737488355328 := by omega
             have hq4 : w.heap.size ≤ (w1.alloc (.cells #[.int .i64 x.t, .int .i64 x.k, .int .i64 x.a, .int .i64 x.b] 60)).heap.size := by have := hbw1.size; simp only [World.size_alloc]; omega)
          | (at_builtin; go_loud (refine wpList_append_own _ rfl _ _ 25 rfl w.heap.size 60 i0 (.agg #[.int .i64 0, .int .i64 0, .int .i64 0, .int .i64 0]) 4 32 Tryz.underlying25 hi hz0 hz1 hz2 rfl (by decide) v m.length (evCells m) rfl hrow6 ⟨w1.heap.size, 0, none⟩ 1 1 (evCells [x]) rfl rfl hnew hone hq2 hq3 hq4 ?_; intro v' wn hown' hgrow hnil)))
        have hbn : Below w.heap.size w wn := by
          refine (((hB.trans (hbw1.mono hBz)).alloc (by have := hbw1.size; omega) _).grown hgrow hq4 fun j ej => ?_)
          rcases hrow6.2 with ⟨rfl, _⟩ | ⟨g, cap, cur, rfl, hb, _, _⟩
          · cases ej
          · have : g = j := by simpa [Value.ownBlock] using ej
            omega
        exact ⟨⟨k + 1, v', by omega, rfl, rfl, Lib.hid ⟨hbn, by rw [hfil.out, List.length_append, evCells_app]; exact hown'⟩⟩, by simp [intOf]; omega⟩
    · obtain rfl : k = l.length := by omega
      have hd : decide ((l.length : Int) < (l.length : Int)) = false := by simp
      rw [List.take_length] at hrow
      replace hrow := Lib.hid hrow
      go_wp2_with fail
      go_ret
      exact ⟨v, rfl, hrow.out, hB⟩
set_option maxRecDepth 100000 in
set_option maxHeartbeats 1000000 in
theorem Counted_any (K s : Int) (o : Bool) (v : Value) (l : List Ev) (w : World) (hr : RelOk K s) (hl : l.length ≤ 1000) (hv : SliceAt w w.heap.size v l.length (evCells l)) :
    Calls Tryz.prog 37 #[relV K s o, v] w fun e w' => ∃ v', e = .returned v' ∧ w'.ownsRow w.heap.size 60 4 v' (l.filter (hasB K)).length (evCells (l.filter (hasB K))) ∧ Below w.heap.size w w' := by
  have hV := Lib.hid fun W => pValid_any K s o W hr
  have hC := Lib.hid fun W (hb : Below w.heap.size w W) => chosen_any K v l W hl (hv.later hb)
  have hmf : ∀ (fn : Fn) (first cap : Array Value) (w : World), (Instr.makeFunc fn first cap).run Tryz.prog w = .ok (.func fn first cap) w := fun _ _ _ _ => rfl
  obtain ⟨a, c, rfl, _⟩ := hv
  have hA : Arr (w.alloc (.cells #[.int .i64 K, .int .i64 s, .bool o] 29)) w.heap.size 29 [.int .i64 K, .int .i64 s, .bool o] := Arr.new rfl rfl
  have hb0 : Below w.heap.size w (w.alloc (.cells #[.int .i64 K, .int .i64 s, .bool o] 29)) := (Below.refl _ _).alloc (Nat.le_refl _) _
  unfold relV at *
  replace hA := Lib.hid hA
  replace hb0 := Lib.hid hb0
  go_enter Tryz.func37, Tryz.ntmps37
  go_wp2_with (first
    | (go_at_call 36; refine (hV.out _).mono ?_; rintro e w1 ⟨rfl, hb1⟩; have d0 := (hA.out.below hb1).cell (j := 0) rfl; have hb01 := hb0.out.trans (hb1.mono hb0.out.size))
    | (go_at_call 77; refine (hC.out _ hb01).mono ?_; rintro e w2 ⟨v', rfl, hown, hb2⟩))
  go_ret
  exact ⟨v', rfl, ownsRow_base hown hb01.size, hb01.trans (hb2.mono hb01.size)⟩
end Go.Proofs.YtocpnlifmeffkaaGreatDoor
namespace Go.Proofs.YtocpnlifmeffkaaGreatDoor
open Go.RowKit Go.Shelf

attribute [local go_sem] Oper.semAt_some

set_option maxRecDepth 100000 in
set_option maxHeartbeats 1000000 in
theorem indexB_any (v : Value) (n : Nat) (w : World) (hn : n ≤ 1000000) (hv : SliceAt w w.heap.size v n (List.replicate n (.bool true))) :
    Calls Tryz.prog 41 #[v, .bool false] w fun e w' => e = .returned (.int .i64 (-1)) ∧ w' = w := by
  obtain ⟨a, c, rfl, h1, h2, hc⟩ := hv
  unfold maxLen at h2
  have hcell : Hid (∀ k, k < n → ∃ b o, a = some ⟨b, o, none⟩ ∧ w.cell? ⟨b, o + k, none⟩ = some (.bool true)) := Lib.hid fun k hk => by
    obtain ⟨b, o, rfl, _, hx⟩ := hc (by omega)
    exact ⟨b, o, rfl, hx k _ (by rw [List.getElem?_replicate, if_pos hk])⟩
  clear hc
  go_enter Tryz.func41, Tryz.ntmps41
  go_wp2_with fail
  go_loop [8] (fun i => ∃ k : Nat, k ≤ n ∧ i = .int .i64 k) (fun i => n - (intOf i).toNat)
  case atStart => exact ⟨0, Nat.zero_le _, rfl⟩
  case round =>
    obtain ⟨k, hk, rfl⟩ := hrel
    by_cases hlt : k < n
    · have hd : decide ((k : Int) < (n : Int)) = true := by simp; omega
      obtain ⟨b, o, rfl, h0⟩ := hcell.out k hlt
      go_wp2_with fail
      exact ⟨⟨k + 1, by omega, rfl⟩, by simp [intOf]; omega⟩
    · obtain rfl : k = n := by omega
      have hd : decide ((k : Int) < (k : Int)) = false := by simp
      go_wp2_with fail
      go_ret
      exact ⟨rfl, rfl⟩

/-- Events that can be read in whatever world follows by draws. -/
def EvsAt (w : World) (bx : Nat) (m : List Ev) : Prop := ∃ a c, w.cell? ⟨bx, 0, none⟩ = some (.slice a m.length c) ∧ m.length ≤ c ∧ c ≤ 9223372036854775807 ∧ ∀ k, k < m.length → ∃ b o, a = some ⟨b, o, none⟩ ∧ w.cell? ⟨b, o + k * 4, none⟩ = some (.int .i64 m[k]!.t)
set_option maxRecDepth 100000 in
set_option maxHeartbeats 4000000 in
theorem byClass1_any (bx : Nat) (m : List Ev) (i k : Nat) (w : World) (hi : i < m.length) (hk : k < m.length) (hE : EvsAt w bx m) :
    Calls Tryz.prog 80 #[.int .i64 (i : Int), .int .i64 (k : Int), .pointer (some ⟨bx, 0, none⟩)] w fun e w' => e = .returned (.int .i64 (cmpI m[i]!.t m[k]!.t)) ∧ ∃ q, w' = w.drewN q := by
  have hC := Lib.hid fun W => cmpI_any m[i]!.t m[k]!.t W
  obtain ⟨a, c, c0, h1, h2, hx⟩ := hE
  obtain ⟨b, o, rfl, d1⟩ := hx i hi
  obtain ⟨b', o', he, d2⟩ := hx k hk
  obtain ⟨rfl, rfl⟩ : b = b' ∧ o = o' := by cases he; exact ⟨rfl, rfl⟩
  generalize m[i]!.t = x at *
  generalize m[k]!.t = y at *
  clear hx he
  go_enter Tryz.func80, Tryz.ntmps80
  go_wp2_with fail
  go_quiet (first | (with_reducible refine Calls.quiet_of_same (hC.out _)))
  go_wp2_with fail
  go_ret
  exact ⟨rfl, ⟨_, rfl⟩⟩
def InOrd (zs : List Int) (key : Int → Int) : Prop := ∀ i j, i ≤ j → j < zs.length → key zs[i]! ≤ key zs[j]!
set_option maxRecDepth 100000 in
set_option maxHeartbeats 4000000 in
theorem ins_any (bx g cap a b : Nat) (zs : List Nat) (m : List Ev) (w : World) (hab : a ≤ b) (hb : b ≤ zs.length) (hcap : zs.length ≤ cap) (hN : zs.length ≤ 1000) (hc2 : cap ≤ 9223372036854775807)
    (hz : ∀ j, j < zs.length → w.cell? ⟨g, j, none⟩ = some (.int .i64 ((zs[j]! : Nat) : Int))) (hzm : ∀ j, j < zs.length → zs[j]! < m.length) (hord : ∀ i j, i ≤ j → j < zs.length → m[zs[i]!]!.t ≤ m[zs[j]!]!.t) (hE : ∀ n, EvsAt (w.drewN n) bx m) :
    Calls Tryz.prog 197 #[.slice (some ⟨g, 0, none⟩) zs.length cap, .int .i64 (a : Int), .int .i64 (b : Int), .func (.func 80) #[] #[.pointer (some ⟨bx, 0, none⟩)]] w fun e w' => (∃ r, e = .returned r) ∧ ∃ q, w' = w.drewN q := by
  have hz' := Lib.hid hz
  have hzm' := Lib.hid hzm
  have hord' := Lib.hid hord
  have hE' := Lib.hid hE
  clear hz hzm hord hE
  go_enter Tryz.func197, Tryz.ntmps197
  go_wp2_with fail
  go_loopw [8] (fun i wr => ∃ k q : Nat, a + 1 ≤ k ∧ k ≤ max (a + 1) b ∧ i = .int .i64 k ∧ wr = w.drewN q) (fun i _ => b - (intOf i).toNat)
  case atStart => exact ⟨a + 1, 0, Nat.le_refl _, by omega, by first | rfl | (congr 1; omega), rfl⟩
  case round =>
    obtain ⟨k, q, hk0, hk1, rfl, rfl⟩ := hrel
    by_cases hlt : k < b
    · have hd : decide ((k : Int) < (b : Int)) = true := by simp; omega
      go_wp2_with fail
      have hka : decide ((k : Int) > (a : Int)) = true := by simp; omega
      have z1 : (w.drewN q).cell? ⟨g, k, none⟩ = some (.int .i64 ((zs[k]! : Nat) : Int)) := hz'.out k (by omega)
      have z2 : (w.drewN q).cell? ⟨g, k - 1, none⟩ = some (.int .i64 ((zs[k - 1]! : Nat) : Int)) := hz'.out (k - 1) (by omega)
      have hcm := Lib.hid fun n => byClass1_any bx m zs[k]! zs[k - 1]! (w.drewN n) (hzm'.out k (by omega)) (hzm'.out (k - 1) (by omega)) (hE'.out n)
      have hle := hord'.out (k - 1) k (by omega) (by omega)
      obtain ⟨j, hj⟩ : ∃ j, k = j + 1 := ⟨k - 1, by omega⟩
      subst hj
      rw [Nat.add_sub_cancel] at z2 hcm hle
      rw [show ((j + 1 : Nat) : Int) = (j : Int) + 1 from rfl] at *
      have hlt0 : decide (cmpI m[zs[j + 1]!]!.t m[zs[j]!]!.t < 0) = false := by
        unfold cmpI
        simp only [decide_eq_false_iff_not]
        split
        · omega
        · split <;> omega
      generalize zs[j + 1]! = x at *
      generalize zs[j]! = y at *
      generalize m[x]!.t = tx at *
      generalize m[y]!.t = ty at *
      replace hle := Lib.hid hle
      go_loopw [9] (fun jj wr => ∃ q2 : Nat, jj = .int .i64 ((j : Int) + 1) ∧ wr = w.drewN q2) (fun _ _ => 0)
      case atStart => exact ⟨q, by first | rfl | (congr 1; omega), rfl⟩
      case round =>
        obtain ⟨q2, rfl, rfl⟩ := hrel
        obtain ⟨W, hW⟩ : ∃ W, W = w.drewN q2 := ⟨_, rfl⟩
        rw [← hW]
        have hcm2 : Hid (∀ n, _) := Lib.hid fun n => (show Calls Tryz.prog 80 #[.int .i64 (x : Int), .int .i64 (y : Int), .pointer (some ⟨bx, 0, none⟩)] (W.drewN n) (fun e w' => e = .returned (.int .i64 (cmpI tx ty)) ∧ ∃ q, w' = (W.drewN n).drewN q) from by rw [hW, World.drewN_drewN]; exact hcm.out (q2 + n))
        have z1w : W.cell? ⟨g, j + 1, none⟩ = some (.int .i64 ((x : Nat) : Int)) := by rw [hW]; exact z1
        have z2w : W.cell? ⟨g, j, none⟩ = some (.int .i64 ((y : Nat) : Int)) := by rw [hW]; exact z2
        replace hW := Lib.hid hW
        have i1 : (0 : Int) ≤ (j : Int) + 1 := by omega
        have i2 : (j : Int) + 1 < (zs.length : Int) := by omega
        have i3 : (j : Int) + 1 - 1 = (j : Int) := by omega
        have i4 : (0 : Int) ≤ (j : Int) := by omega
        have i5 : (j : Int) < (zs.length : Int) := by omega
        have i6 : ((j : Int) + 1).toNat = j + 1 := by omega
        have i7 : IntKind.i64.wrap (j : Int) = (j : Int) := IntWalk.i64_in _ (by omega)
        have i8 : decide ((a : Int) < (j : Int) + 1) = true := by simp; omega
        go_wp2_with fail
        go_quiet (first | (with_reducible refine Calls.quiet_of (hcm2.out _)))
        go_wp2_with fail
        exact ⟨⟨j + 1 + 1, _, by omega, by omega, rfl, by rw [hW.out, World.drewN_drewN]⟩, by simp [intOf]; omega⟩
    · have hd : decide ((k : Int) < (b : Int)) = false := by simp; omega
      go_wp2_with fail
      go_end0
      exact ⟨⟨_, rfl⟩, ⟨_, rfl⟩⟩
end Go.Proofs.YtocpnlifmeffkaaGreatDoor
